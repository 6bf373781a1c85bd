/- Contracts of the reference for net: side, Hear, Split, Send. -/
import Derived.Test.YtmikjninonpejaaNetS
namespace Go.Proofs.Ytmikjninonpejaa
open Go.RowKit Go.Proofs.YtmikjninonpejaaMem

set_option maxHeartbeats 400000 in
theorem rside_any (b : Nat) (s a : Int) (w : World) (h1 : w.cell? ⟨b, 1, none⟩ = some (.int .i64 s)) (ha0 : 0 ≤ a) (ha : a < 16) :
    Calls Try.prog 62 #[.pointer (some ⟨b, 0, none⟩), .int .i64 a] w fun e w' => e = .returned (.int .i64 (side s a)) ∧ w = w' := by
  have hw : IntKind.u64.wrap a = a := by rw [IntKind.wrap_u64]; omega
  go_enter Try.func62, Try.ntmps62
  go_wp2_with fail
  go_ret
  exact ⟨by simp [side, Nat.min_eq_left (show a.toNat ≤ 64 by omega)], rfl⟩
theorem isEnd_yes {a : Int} (h0 : 0 ≤ a) (h : a < 16) : isEnd a = true := by simp [isEnd]; omega
theorem isEnd_neg {a : Int} (h0 : a < 0) : isEnd a = false := by simp [isEnd]; omega
theorem isEnd_big {a : Int} (h0 : 15 < a) : isEnd a = false := by simp [isEnd]; omega

set_option maxHeartbeats 400000 in
theorem rhear_neg (b : Nat) (s x y : Int) (w : World) (hx : x < 0) :
    Calls Try.prog 29 #[.pointer (some ⟨b, 0, none⟩), .int .i64 x, .int .i64 y] w fun e w' => e = .returned (.bool (hears s x y)) ∧ ∃ n, w' = w.drewN n := by
  rw [show hears s x y = false by simp [hears, isEnd_neg hx]]
  have dx : decide (x < 0) = true := decide_eq_true hx
  go_enter Try.func29, Try.ntmps29
  go_wp2_with fail
  go_ret
  exact ⟨rfl, 0, rfl⟩

set_option maxHeartbeats 400000 in
theorem rsend_neg (b : Nat) (l : List Pkt) (s x y : Int) (body : ByteArray) (w : World) (hx : x < 0) :
    Calls Try.prog 61 #[.pointer (some ⟨b, 0, none⟩), .int .i64 x, .int .i64 y, .string body] w fun e w' => e = .returned (.int .i64 (sendCode l s x y)) ∧ w = w' := by
  rw [show sendCode l s x y = 1 by simp [sendCode, isEnd_neg hx]]
  have dx : decide (x < 0) = true := decide_eq_true hx
  go_enter Try.func61, Try.ntmps61
  go_wp2_with fail
  go_ret
  exact ⟨rfl, rfl⟩

set_option maxHeartbeats 400000 in
theorem rhear_big (b : Nat) (s x y : Int) (w : World) (hx : 0 ≤ x ∧ 15 < x) :
    Calls Try.prog 29 #[.pointer (some ⟨b, 0, none⟩), .int .i64 x, .int .i64 y] w fun e w' => e = .returned (.bool (hears s x y)) ∧ ∃ n, w' = w.drewN n := by
  rw [show hears s x y = false by simp [hears, isEnd_big hx.2]]
  have dx : decide (x < 0) = false := decide_eq_false (by omega)
  have ex : decide (15 < x) = true := decide_eq_true hx.2
  go_enter Try.func29, Try.ntmps29
  go_wp2_with fail
  go_ret
  exact ⟨rfl, 0, rfl⟩

set_option maxHeartbeats 400000 in
theorem rsend_big (b : Nat) (l : List Pkt) (s x y : Int) (body : ByteArray) (w : World) (hx : 0 ≤ x ∧ 15 < x) :
    Calls Try.prog 61 #[.pointer (some ⟨b, 0, none⟩), .int .i64 x, .int .i64 y, .string body] w fun e w' => e = .returned (.int .i64 (sendCode l s x y)) ∧ w = w' := by
  rw [show sendCode l s x y = 1 by simp [sendCode, isEnd_big hx.2]]
  have dx : decide (x < 0) = false := decide_eq_false (by omega)
  have ex : decide (15 < x) = true := decide_eq_true hx.2
  go_enter Try.func61, Try.ntmps61
  go_wp2_with fail
  go_ret
  exact ⟨rfl, rfl⟩

set_option maxHeartbeats 400000 in
theorem rhear_ok_neg (b : Nat) (s x y : Int) (w : World) (hx : 0 ≤ x ∧ x < 16) (hy : y < 0) :
    Calls Try.prog 29 #[.pointer (some ⟨b, 0, none⟩), .int .i64 x, .int .i64 y] w fun e w' => e = .returned (.bool (hears s x y)) ∧ ∃ n, w' = w.drewN n := by
  rw [show hears s x y = false by simp [hears, isEnd_yes hx.1 hx.2, isEnd_neg hy]]
  have dx : decide (x < 0) = false := decide_eq_false (by omega)
  have ex : decide (15 < x) = false := decide_eq_false (by omega)
  have dy : decide (y < 0) = true := decide_eq_true hy
  go_enter Try.func29, Try.ntmps29
  go_wp2_with fail
  go_ret
  exact ⟨rfl, 0, rfl⟩

set_option maxHeartbeats 400000 in
theorem rsend_ok_neg (b : Nat) (l : List Pkt) (s x y : Int) (body : ByteArray) (w : World) (hx : 0 ≤ x ∧ x < 16) (hy : y < 0) :
    Calls Try.prog 61 #[.pointer (some ⟨b, 0, none⟩), .int .i64 x, .int .i64 y, .string body] w fun e w' => e = .returned (.int .i64 (sendCode l s x y)) ∧ w = w' := by
  rw [show sendCode l s x y = 1 by simp [sendCode, isEnd_yes hx.1 hx.2, isEnd_neg hy]]
  have dx : decide (x < 0) = false := decide_eq_false (by omega)
  have ex : decide (15 < x) = false := decide_eq_false (by omega)
  have dy : decide (y < 0) = true := decide_eq_true hy
  go_enter Try.func61, Try.ntmps61
  go_wp2_with fail
  go_ret
  exact ⟨rfl, rfl⟩

set_option maxHeartbeats 400000 in
theorem rhear_ok_big (b : Nat) (s x y : Int) (w : World) (hx : 0 ≤ x ∧ x < 16) (hy : 0 ≤ y ∧ 15 < y) :
    Calls Try.prog 29 #[.pointer (some ⟨b, 0, none⟩), .int .i64 x, .int .i64 y] w fun e w' => e = .returned (.bool (hears s x y)) ∧ ∃ n, w' = w.drewN n := by
  rw [show hears s x y = false by simp [hears, isEnd_yes hx.1 hx.2, isEnd_big hy.2]]
  have dx : decide (x < 0) = false := decide_eq_false (by omega)
  have ex : decide (15 < x) = false := decide_eq_false (by omega)
  have dy : decide (y < 0) = false := decide_eq_false (by omega)
  have ey : decide (15 < y) = true := decide_eq_true hy.2
  go_enter Try.func29, Try.ntmps29
  go_wp2_with fail
  go_ret
  exact ⟨rfl, 0, rfl⟩

set_option maxHeartbeats 400000 in
theorem rsend_ok_big (b : Nat) (l : List Pkt) (s x y : Int) (body : ByteArray) (w : World) (hx : 0 ≤ x ∧ x < 16) (hy : 0 ≤ y ∧ 15 < y) :
    Calls Try.prog 61 #[.pointer (some ⟨b, 0, none⟩), .int .i64 x, .int .i64 y, .string body] w fun e w' => e = .returned (.int .i64 (sendCode l s x y)) ∧ w = w' := by
  rw [show sendCode l s x y = 1 by simp [sendCode, isEnd_yes hx.1 hx.2, isEnd_big hy.2]]
  have dx : decide (x < 0) = false := decide_eq_false (by omega)
  have ex : decide (15 < x) = false := decide_eq_false (by omega)
  have dy : decide (y < 0) = false := decide_eq_false (by omega)
  have ey : decide (15 < y) = true := decide_eq_true hy.2
  go_enter Try.func61, Try.ntmps61
  go_wp2_with fail
  go_ret
  exact ⟨rfl, rfl⟩

set_option maxHeartbeats 400000 in
theorem rhear_ok (b : Nat) (s x y : Int) (w : World) (h1 : w.cell? ⟨b, 1, none⟩ = some (.int .i64 s)) (hx : 0 ≤ x ∧ x < 16) (hy : 0 ≤ y ∧ y < 16) :
    Calls Try.prog 29 #[.pointer (some ⟨b, 0, none⟩), .int .i64 x, .int .i64 y] w fun e w' => e = .returned (.bool (hears s x y)) ∧ ∃ n, w' = w.drewN n := by
  rw [show hears s x y = (side s x == side s y) by simp [hears, isEnd_yes hx.1 hx.2, isEnd_yes hy.1 hy.2]]
  have dx : decide (x < 0) = false := decide_eq_false (by omega)
  have ex : decide (15 < x) = false := decide_eq_false (by omega)
  have dy : decide (y < 0) = false := decide_eq_false (by omega)
  have ey : decide (15 < y) = false := decide_eq_false (by omega)
  go_enter Try.func29, Try.ntmps29
  go_wp2_with (first
    | (go_at_call_of 62 x; refine (rside_any b s x _ h1 hx.1 hx.2).mono ?_; rintro e w' ⟨rfl, rfl⟩)
    | (go_at_call_of 62 y; refine (rside_any b s y _ h1 hy.1 hy.2).mono ?_; rintro e w' ⟨rfl, rfl⟩))
  go_ret
  exact ⟨rfl, 0, rfl⟩
theorem rhear_any (b : Nat) (FP : List Nat) (l : List Pkt) (s x y : Int) (w : World) (hn : NetObj 51 w b FP l s) :
    Calls Try.prog 29 #[.pointer (some ⟨b, 0, none⟩), .int .i64 x, .int .i64 y] w fun e w' => e = .returned (.bool (hears s x y)) ∧ ∃ n, w' = w.drewN n := by
  obtain ⟨v, hb, -, -⟩ := hn
  have c1 : w.cell? ⟨b, 1, none⟩ = some (.int .i64 s) := cell_at hb 1
  by_cases h1 : x < 0
  · exact rhear_neg b s x y w h1
  by_cases h2 : 15 < x
  · exact rhear_big b s x y w ⟨by omega, h2⟩
  by_cases h3 : y < 0
  · exact rhear_ok_neg b s x y w ⟨by omega, by omega⟩ h3
  by_cases h4 : 15 < y
  · exact rhear_ok_big b s x y w ⟨by omega, by omega⟩ ⟨by omega, h4⟩
  exact rhear_ok b s x y w c1 ⟨by omega, by omega⟩ ⟨by omega, by omega⟩
theorem rhear_is (b : Nat) (FP : List Nat) (l : List Pkt) (s x y : Int) (w : World) (hn : NetObj 51 w b FP l s) (r : Bool) (hr : hears s x y = r) :
    Calls Try.prog 29 #[.pointer (some ⟨b, 0, none⟩), .int .i64 x, .int .i64 y] w fun e w' => e = .returned (.bool r) ∧ ∃ n, w' = w.drewN n := hr ▸ rhear_any b FP l s x y w hn

theorem rsplit_any (b : Nat) (FP : List Nat) (l : List Pkt) (s m : Int) (w : World) (hn : NetObj 51 w b FP l s) :
    Calls Try.prog 60 #[.pointer (some ⟨b, 0, none⟩), .int .i64 m] w fun e w' => e = .returned (.tuple #[]) ∧ w.setCell ⟨b, 1, none⟩ (.int .i64 (bits .and .i64 m 65535)) = w' := by
  obtain ⟨v, hb, -, -⟩ := hn
  have c1 : w.cell? ⟨b, 1, none⟩ = some (.int .i64 s) := cell_at hb 1
  have f1 : w.frozen? ⟨b, 1, none⟩ = false := free_at hb 1
  clear hb
  go_enter Try.func60, Try.ntmps60
  go_wp2
  go_end0
  exact ⟨rfl, rfl⟩

set_option maxHeartbeats 800000 in
set_option maxRecDepth 100000 in
theorem rsend_same (b : Nat) (l : List Pkt) (s x y : Int) (body : ByteArray) (w : World) (hx : 0 ≤ x ∧ x < 16) (hy : 0 ≤ y ∧ y < 16) (hxy : (x == y) = true) :
    Calls Try.prog 61 #[.pointer (some ⟨b, 0, none⟩), .int .i64 x, .int .i64 y, .string body] w fun e w' => e = .returned (.int .i64 (sendCode l s x y)) ∧ w = w' := by
  have dx : decide (x < 0) = false := decide_eq_false (by omega)
  have ex : decide (15 < x) = false := decide_eq_false (by omega)
  have dy : decide (y < 0) = false := decide_eq_false (by omega)
  have ey : decide (15 < y) = false := decide_eq_false (by omega)
  rw [show sendCode l s x y = 1 by simp [sendCode, hxy]]
  go_enter Try.func61, Try.ntmps61
  go_wp2_with fail
  go_ret
  exact ⟨rfl, rfl⟩

set_option maxHeartbeats 800000 in
set_option maxRecDepth 100000 in
theorem rsend_lost (b : Nat) (FP : List Nat) (l : List Pkt) (s x y : Int) (body : ByteArray) (w : World) (hn : NetObj 51 w b FP l s) (hx : 0 ≤ x ∧ x < 16) (hy : 0 ≤ y ∧ y < 16) (hxy : (x == y) = false) (hh : hears s x y = false) :
    Calls Try.prog 61 #[.pointer (some ⟨b, 0, none⟩), .int .i64 x, .int .i64 y, .string body] w fun e w' => e = .returned (.int .i64 (sendCode l s x y)) ∧ ∃ n, w' = w.drewN n := by
  have dx : decide (x < 0) = false := decide_eq_false (by omega)
  have ex : decide (15 < x) = false := decide_eq_false (by omega)
  have dy : decide (y < 0) = false := decide_eq_false (by omega)
  have ey : decide (15 < y) = false := decide_eq_false (by omega)
  rw [show sendCode l s x y = 10 by simp [sendCode, hxy, hh, isEnd_yes hx.1 hx.2, isEnd_yes hy.1 hy.2]]
  have HN := Lib.hid hn
  have HH := Lib.hid hh; clear hh

  clear hn hx hy
  go_enter Try.func61, Try.ntmps61
  go_wp2_with (go_at_call 29; refine (rhear_is b FP l s x y _ HN.out false HH.out).mono ?_; rintro e w' ⟨rfl, nq, rfl⟩)
  go_ret
  exact ⟨rfl, _, rfl⟩

set_option maxHeartbeats 800000 in
set_option maxRecDepth 100000 in
theorem rsend_full (b : Nat) (FP : List Nat) (l : List Pkt) (s x y : Int) (body : ByteArray) (w : World) (hn : NetObj 51 w b FP l s) (hx : 0 ≤ x ∧ x < 16) (hy : 0 ≤ y ∧ y < 16) (hxy : (x == y) = false) (hh : hears s x y = true) (hl : 500 ≤ l.length) (hl2 : l.length ≤ 1000) :
    Calls Try.prog 61 #[.pointer (some ⟨b, 0, none⟩), .int .i64 x, .int .i64 y, .string body] w fun e w' => e = .returned (.int .i64 (sendCode l s x y)) ∧ ∃ n, w' = w.drewN n := by
  have dx : decide (x < 0) = false := decide_eq_false (by omega)
  have ex : decide (15 < x) = false := decide_eq_false (by omega)
  have dy : decide (y < 0) = false := decide_eq_false (by omega)
  have ey : decide (15 < y) = false := decide_eq_false (by omega)
  rw [show sendCode l s x y = 6 by simp [sendCode, hxy, hh, hl, isEnd_yes hx.1 hx.2, isEnd_yes hy.1 hy.2]]
  have HN := Lib.hid hn
  have HH := Lib.hid hh; clear hh

  obtain ⟨v, hb, ho, e⟩ := id hn
  have HE := Lib.hid e; clear e
  have HB := Lib.hid hb
  have HO := Lib.hid ho
  obtain ⟨a, c, rfl, hc, hm⟩ := own_shape ho
  have c0 : w.cell? ⟨b, 0, none⟩ = some (.slice a l.length c) := cell_at hb 0
  clear hb ho hn hx hy
  go_enter Try.func61, Try.ntmps61
  go_wp2_with (go_at_call 29; refine (rhear_is b FP l s x y _ HN.out true HH.out).mono ?_; rintro e w' ⟨rfl, nq, rfl⟩)
  go_ret
  exact ⟨rfl, _, rfl⟩

set_option maxHeartbeats 800000 in
set_option maxRecDepth 100000 in
theorem rsend_fine (b : Nat) (FP : List Nat) (l : List Pkt) (s x y : Int) (body : ByteArray) (w : World) (hn : NetObj 51 w b FP l s) (hx : 0 ≤ x ∧ x < 16) (hy : 0 ≤ y ∧ y < 16) (hxy : (x == y) = false) (hh : hears s x y = true) (hl : l.length < 500) :
    Calls Try.prog 61 #[.pointer (some ⟨b, 0, none⟩), .int .i64 x, .int .i64 y, .string body] w fun e w' => e = .returned (.int .i64 (sendCode l s x y)) ∧ ∃ FP', NetObj 51 w' b FP' (l ++ [⟨x, y, body⟩]) s ∧ Evolves FP FP' w w' := by
  have dx : decide (x < 0) = false := decide_eq_false (by omega)
  have ex : decide (15 < x) = false := decide_eq_false (by omega)
  have dy : decide (y < 0) = false := decide_eq_false (by omega)
  have ey : decide (15 < y) = false := decide_eq_false (by omega)
  rw [show sendCode l s x y = 0 by simp [sendCode, hxy, hh, show ¬ 500 ≤ l.length by omega, isEnd_yes hx.1 hx.2, isEnd_yes hy.1 hy.2]]
  have HN := Lib.hid hn
  have HH := Lib.hid hh; clear hh

  obtain ⟨v, hb, ho, e⟩ := id hn
  have HE := Lib.hid e; clear e
  have HB := Lib.hid hb
  have HO := Lib.hid ho
  obtain ⟨a, c, rfl, hc, hm⟩ := own_shape ho
  have c0 : w.cell? ⟨b, 0, none⟩ = some (.slice a l.length c) := cell_at hb 0
  clear hb ho hn hx hy
  obtain ⟨i0, hi, hz0, hz1, hz2⟩ := info_parts Try.info34
  go_enter Try.func61, Try.ntmps61
  go_wp2_with (first | (go_at_call 29; refine (rhear_is b FP l s x y _ HN.out true HH.out).mono ?_; rintro e w' ⟨rfl, nq, rfl⟩) | (at_builtin; refine wpList_append_own_at _ rfl (.tmp 43) (.tmp 48) 28 rfl 0 34 i0 (.agg #[.int .i64 0, .int .i64 0, .string ⟨#[]⟩]) 3 32 Try.underlying28 hi hz0 hz1 hz2 rfl (by decide) _ l.length (pktCells l) rfl (HO.out.alloc _) ⟨w.heap.size, 0, none⟩ 1 1 [.int .i64 x, .int .i64 y, .string body] rfl rfl ?c1 ?c2 ?c3 ?c4 ?c5 ?_))
  case c1 => exact new_cells_drewN _ _ _ _ _ rfl
  case c2 => exact pkt_oneCell ⟨x, y, body⟩
  case c3 => unfold maxLen; omega
  case c4 => omega
  case c5 => simp
  · intro v' w1 hown hg _ hat
    obtain ⟨k0, k1, FP', hobj, hev⟩ := obj_appended (T := 51) ⟨x, y, body⟩ (by decide) HB.out HO.out (((Turns.refl [] w).drewN nq).trans (Turns.alloc [] _ _)) hown hg (hat.imp id fun h => ⟨_, h, by omega⟩)
    obtain ⟨a', c', rfl, -, -⟩ := own_shape hown
    have HF : Hid (NetObj 51 (w1.setCell ⟨b, 0, none⟩ (.slice a' (l.length + 1) c')) b FP' (l ++ [⟨x, y, body⟩]) s ∧ Evolves (b :: (Value.slice a l.length c).ownBlock.toList) FP' w (w1.setCell ⟨b, 0, none⟩ (.slice a' (l.length + 1) c'))) := ⟨hobj, hev⟩
    clear hobj hev hown hg hat
    go_wp2
    go_ret
    exact ⟨rfl, FP', HF.out.1, HE.out ▸ HF.out.2⟩

end Go.Proofs.Ytmikjninonpejaa
