/- Contracts of package net's small functions. -/
import Derived.Test.YtmikjninonpejaaProg
import Derived.Test.YtmikjninonpejaaMem
import Derived.WalkKit
import Derived.Outline
import Derived.BigQuiet
import Derived.Deep.QuietTactic
import Derived.KernelRfl
import Derived.Lib.Hide
import Derived.Deep.RegionWith
namespace Go.Proofs.Ytmikjninonpejaa
open Go.RowKit Go.Proofs.YtmikjninonpejaaMem

def isEnd (a : Int) : Bool := decide (0 ≤ a) && decide (a < 16)

theorem end_any (a : Int) (w : World) : Calls Try.prog 53 #[.int .i64 a] w fun e w' => e = .returned (.bool (isEnd a)) ∧ w = w' := by
  by_cases h : 0 ≤ a
  · have hb : decide (0 ≤ a) = true := decide_eq_true h
    go_enter Try.func53, Try.ntmps53
    go_wp2
    go_ret
    exact ⟨by simp [isEnd, h], rfl⟩
  · have hb : decide (0 ≤ a) = false := decide_eq_false h
    go_enter Try.func53, Try.ntmps53
    go_wp2
    go_ret
    exact ⟨by simp [isEnd]; omega, rfl⟩

def side (s a : Int) : Int := bits .and .i64 (s / 2 ^ min a.toNat 64) 1
def hears (s a b : Int) : Bool := isEnd a && isEnd b && (side s a == side s b)

theorem end_yes (a : Int) (w : World) (h : isEnd a = true) : Calls Try.prog 53 #[.int .i64 a] w fun e w' => e = .returned (.bool true) ∧ w = w' := h ▸ end_any a w
theorem end_no (a : Int) (w : World) (h : isEnd a = false) : Calls Try.prog 53 #[.int .i64 a] w fun e w' => e = .returned (.bool false) ∧ w = w' := h ▸ end_any a w

set_option maxHeartbeats 400000 in
theorem hear_any (b : Nat) (FP : List Nat) (l : List Pkt) (s x y : Int) (w : World) (hn : NetObj 81 w b FP l s) :
    Calls Try.prog 20 #[.pointer (some ⟨b, 0, none⟩), .int .i64 x, .int .i64 y] w fun e w' => e = .returned (.bool (hears s x y)) ∧ ∃ n, w' = w.drewN n := by
  obtain ⟨v, hb, -, -⟩ := hn
  have c1 : w.cell? ⟨b, 1, none⟩ = some (.int .i64 s) := cell_at hb 1
  clear hb
  cases hx : isEnd x
  · have HX := Lib.hid hx; clear hx
    go_enter Try.func20, Try.ntmps20
    go_wp2_with fail
    go_quiet (first | (go_at_call 53; exact quiet_id (end_no _ _ HX.out)))
    go_wp2_with fail
    go_ret
    exact ⟨by simp [hears, HX.out], _, rfl⟩
  · cases hy : isEnd y
    · have HX := Lib.hid hx; clear hx
      have HY := Lib.hid hy; clear hy
      go_enter Try.func20, Try.ntmps20
      go_wp2_with fail
      go_quiet (first | (go_at_call_of 53 x; exact quiet_id (end_yes _ _ HX.out)) | (go_at_call_of 53 y; exact quiet_id (end_no _ _ HY.out)))
      go_wp2_with fail
      go_ret
      exact ⟨by simp [hears, HX.out, HY.out], _, rfl⟩
    · have HX := Lib.hid hx; clear hx
      have HY := Lib.hid hy; clear hy
      have hx0 : 0 ≤ x := by have := HX.out; simp [isEnd] at this; omega
      have hy0 : 0 ≤ y := by have := HY.out; simp [isEnd] at this; omega
      go_enter Try.func20, Try.ntmps20
      go_wp2_with fail
      go_quiet (first | (go_at_call_of 53 x; exact quiet_id (end_yes _ _ HX.out)) | (go_at_call_of 53 y; exact quiet_id (end_yes _ _ HY.out)))
      go_wp2_with fail
      go_outline
      go_ret
      exact ⟨by simp [hears, HX.out, HY.out, side], _, rfl⟩

theorem hear_is (b : Nat) (FP : List Nat) (l : List Pkt) (s x y : Int) (w : World) (hn : NetObj 81 w b FP l s) (r : Bool) (hr : hears s x y = r) :
    Calls Try.prog 20 #[.pointer (some ⟨b, 0, none⟩), .int .i64 x, .int .i64 y] w fun e w' => e = .returned (.bool r) ∧ ∃ n, w' = w.drewN n := hr ▸ hear_any b FP l s x y w hn

theorem Try.info34 : (Try.prog.info? 34).map (fun i => (i.zero, i.size, i.bytes)) = some (some (.agg #[.int .i64 0, .int .i64 0, .string ⟨#[]⟩]), 3, 32) := by kernel_rfl

/-- New: a fresh net. -/
theorem new_any (w : World) : Calls Try.prog 13 #[] w fun e w' => e = .returned (.pointer (some ⟨w.heap.size, 0, none⟩)) ∧ w.alloc (.cells #[.slice none 0 0, .int .i64 0] 81) = w' := by
  go_enter Try.func13, Try.ntmps13
  go_wp2
  go_ret
  exact ⟨rfl, rfl⟩

theorem heal_any (b : Nat) (FP : List Nat) (l : List Pkt) (s : Int) (w : World) (hn : NetObj 81 w b FP l s) :
    Calls Try.prog 21 #[.pointer (some ⟨b, 0, none⟩)] w fun e w' => e = .returned (.tuple #[]) ∧ w.setCell ⟨b, 1, none⟩ (.int .i64 0) = w' := by
  obtain ⟨v, hb, -, -⟩ := hn
  have c1 : w.cell? ⟨b, 1, none⟩ = some (.int .i64 s) := cell_at hb 1
  have f1 : w.frozen? ⟨b, 1, none⟩ = false := free_at hb 1
  clear hb
  go_enter Try.func21, Try.ntmps21
  go_wp2
  go_end0
  exact ⟨rfl, rfl⟩

theorem split_any (b : Nat) (FP : List Nat) (l : List Pkt) (s m : Int) (w : World) (hn : NetObj 81 w b FP l s) :
    Calls Try.prog 19 #[.pointer (some ⟨b, 0, none⟩), .int .i64 m] w fun e w' => e = .returned (.tuple #[]) ∧ w.setCell ⟨b, 1, none⟩ (.int .i64 (bits .and .i64 m 65535)) = w' := by
  obtain ⟨v, hb, -, -⟩ := hn
  have c1 : w.cell? ⟨b, 1, none⟩ = some (.int .i64 s) := cell_at hb 1
  have f1 : w.frozen? ⟨b, 1, none⟩ = false := free_at hb 1
  clear hb
  go_enter Try.func19, Try.ntmps19
  go_wp2
  go_end0
  exact ⟨rfl, rfl⟩

theorem count_any (b : Nat) (FP : List Nat) (l : List Pkt) (s : Int) (w : World) (hn : NetObj 81 w b FP l s) :
    Calls Try.prog 22 #[.pointer (some ⟨b, 0, none⟩)] w fun e w' => e = .returned (.int .i64 l.length) ∧ w = w' := by
  obtain ⟨v, hb, ho, -⟩ := hn
  obtain ⟨a, c, rfl, hc, hm⟩ := own_shape ho
  have c0 : w.cell? ⟨b, 0, none⟩ = some (.slice a l.length c) := cell_at hb 0
  clear hb ho
  go_enter Try.func22, Try.ntmps22
  go_wp2
  go_ret
  exact ⟨rfl, rfl⟩

/-- What Send returns, and the list behind it. -/
def sendCode (l : List Pkt) (s x y : Int) : Int :=
  if !isEnd x || !isEnd y || x == y then 1 else if !hears s x y then 10 else if 500 ≤ l.length then 6 else 0
def sendList (l : List Pkt) (s x y : Int) (body : ByteArray) : List Pkt := if sendCode l s x y = 0 then l ++ [⟨x, y, body⟩] else l

set_option maxHeartbeats 400000 in
theorem send_arg (b : Nat) (x y : Int) (body : ByteArray) (w : World) (h : (!isEnd x || !isEnd y || x == y) = true) :
    Calls Try.prog 15 #[.pointer (some ⟨b, 0, none⟩), .int .i64 x, .int .i64 y, .string body] w fun e w' => e = .returned (.int .i64 1) ∧ w = w' := by
  cases hx : isEnd x
  · have HX := Lib.hid hx; clear hx h
    go_enter Try.func15, Try.ntmps15
    go_wp2_with (go_at_call 53; refine (end_no _ _ HX.out).mono ?_; rintro e w' ⟨rfl, rfl⟩)
    go_ret
    exact ⟨rfl, rfl⟩
  · cases hy : isEnd y
    · have HX := Lib.hid hx; clear hx h
      have HY := Lib.hid hy; clear hy
      go_enter Try.func15, Try.ntmps15
      go_wp2_with (first | (go_at_call_of 53 x; refine (end_yes _ _ HX.out).mono ?_; rintro e w' ⟨rfl, rfl⟩) | (go_at_call_of 53 y; refine (end_no _ _ HY.out).mono ?_; rintro e w' ⟨rfl, rfl⟩))
      go_ret
      exact ⟨rfl, rfl⟩
    · have hxy : (x == y) = true := by simpa [hx, hy] using h
      have HX := Lib.hid hx; clear hx h
      have HY := Lib.hid hy; clear hy
      go_enter Try.func15, Try.ntmps15
      go_wp2_with (first | (go_at_call_of 53 x; refine (end_yes _ _ HX.out).mono ?_; rintro e w' ⟨rfl, rfl⟩) | (go_at_call_of 53 y; refine (end_yes _ _ HY.out).mono ?_; rintro e w' ⟨rfl, rfl⟩))
      go_ret
      exact ⟨rfl, rfl⟩

end Go.Proofs.Ytmikjninonpejaa
