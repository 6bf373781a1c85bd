/- Contracts and lemmas (texts Mem, NetA, NetB, RowLaws, NetC, joined by a program). -/
import Derived.WalkKit
import Derived.Maps.AppendAt
import Derived.Deep.Draws
import Derived.Lib.Hide
import Derived.Test.YtmikjninonpejaaProg
import Derived.Outline
import Derived.BigQuiet
import Derived.Deep.QuietTactic
import Derived.KernelRfl
import Derived.Deep.RegionWith
import Derived.Deep.RegionLaw
import Derived.Laws.AppendOwnNone
import Derived.Lib.SliceRun
/- Plain lemmas about memory: a world turned at a few blocks alone, rows that a call owns, structs behind a pointer. No program in sight. -/
namespace Go.Proofs.YtmikjninonpejaaMem
open Go Go.RowKit

/-- Blocks outside the list S are kept; the heap only grows; streams as they were. -/
structure Turns (S : List Nat) (w w' : World) : Prop where
  os : w'.os = w.os
  tape : w'.tape = w.tape
  output : w'.output = w.output
  size : w.heap.size ≤ w'.heap.size
  block : ∀ k, k < w.heap.size → k ∉ S → w'.heap[k]? = w.heap[k]?

theorem Turns.refl (S : List Nat) (w : World) : Turns S w w := ⟨rfl, rfl, rfl, Nat.le_refl _, fun _ _ _ => rfl⟩
theorem Turns.drewN {S : List Nat} {w w' : World} (h : Turns S w w') (n : Nat) : Turns S w (w'.drewN n) := ⟨h.os, h.tape, h.output, h.size, h.block⟩
theorem Turns.drew {S : List Nat} {w w' : World} (h : Turns S w w') : Turns S w w'.drew := ⟨h.os, h.tape, h.output, h.size, h.block⟩
theorem Turns.of_drew {S : List Nat} {w w' : World} (h : Turns S w.drew w') : Turns S w w' := ⟨h.os, h.tape, h.output, h.size, h.block⟩
theorem Turns.of_drewN {S : List Nat} {w w' : World} {n : Nat} (h : Turns S (w.drewN n) w') : Turns S w w' := ⟨h.os, h.tape, h.output, h.size, h.block⟩
theorem Turns.trans {S : List Nat} {a b c : World} (h : Turns S a b) (k : Turns S b c) : Turns S a c :=
  ⟨k.os.trans h.os, k.tape.trans h.tape, k.output.trans h.output, Nat.le_trans h.size k.size,
    fun i hi hS => (k.block i (Nat.lt_of_lt_of_le hi h.size) hS).trans (h.block i hi hS)⟩
/-- The second step may also turn blocks that are new since the first world. -/
theorem Turns.trans_new {S T : List Nat} {a b c : World} (h : Turns S a b) (k : Turns T b c) (hT : ∀ x ∈ T, x ∈ S ∨ a.heap.size ≤ x) : Turns S a c :=
  ⟨k.os.trans h.os, k.tape.trans h.tape, k.output.trans h.output, Nat.le_trans h.size k.size,
    fun i hi hS => (k.block i (Nat.lt_of_lt_of_le hi h.size) (fun hi' => by
      rcases hT i hi' with h1 | h1
      · exact hS h1
      · omega)).trans (h.block i hi hS)⟩
theorem Turns.mono {S T : List Nat} {w w' : World} (h : Turns S w w') (hST : ∀ x ∈ S, x ∈ T) : Turns T w w' :=
  ⟨h.os, h.tape, h.output, h.size, fun k hk hT => h.block k hk (fun hS => hT (hST k hS))⟩
theorem Turns.alloc (S : List Nat) (w : World) (o : Obj) : Turns S w (w.alloc o) :=
  ⟨rfl, rfl, rfl, by simp, fun k hk _ => Below.heap_alloc _ _ _ hk⟩
theorem Turns.setCell {S : List Nat} (w : World) (p : Addr) (u : Value) (h : p.block ∈ S) : Turns S w (w.setCell p u) :=
  ⟨rfl, rfl, rfl, by simp [World.setCell], fun k _ hS => Below.heap_setCell _ _ _ _ (fun e => hS (e ▸ h))⟩
theorem Turns.of_grown {S : List Nat} {w w' : World} {row : Option Nat} (h : w.grownBy w' row) (hr : ∀ k, row = some k → k ∈ S ∨ w.heap.size ≤ k) : Turns S w w' :=
  ⟨h.os, h.tape, h.output, h.size, fun k hk hS => h.block k hk (fun e => by
    rcases hr k e.symm with h1 | h1
    · exact hS h1
    · omega)⟩
theorem Turns.below {S : List Nat} {w w' : World} {B : Nat} (h : Turns S w w') (hB : B ≤ w.heap.size) (hS : ∀ x ∈ S, B ≤ x) : Below B w w' :=
  ⟨h.os, h.tape, h.output, h.size, fun k hk => h.block k (by omega) (fun hi => by have := hS k hi; omega)⟩
theorem Turns.of_below {w w' : World} (h : Below w.heap.size w w') (S : List Nat) : Turns S w w' :=
  ⟨h.os, h.tape, h.output, h.size, fun k hk _ => h.block k hk⟩
theorem Turns.cell {S : List Nat} {w w' : World} (h : Turns S w w') {a : Addr} (ha : a.block < w.heap.size) (hS : a.block ∉ S) : w'.cell? a = w.cell? a :=
  World.cell?_of_block (w := w) (h.block a.block ha hS)

/-- A block that lies in a world lies below its size. -/
theorem lt_of_at {w : World} {b : Nat} {o : Obj} (h : w.heap[b]? = some o) : b < w.heap.size := (Array.getElem?_eq_some_iff.1 h).1

/-- The cells of a block known whole. -/
theorem cell_at {w : World} {b : Nat} {cs : Array Value} {t : TypeId} {f : Nat × Nat} (h : w.heap[b]? = some (.cells cs t f)) (i : Nat) : w.cell? ⟨b, i, none⟩ = cs[i]? := by
  simp [World.cell?, h]
theorem free_at {w : World} {b : Nat} {cs : Array Value} {t : TypeId} (h : w.heap[b]? = some (.cells cs t (0, 0))) (i : Nat) : w.frozen? ⟨b, i, none⟩ = false := by
  simp [World.frozen?, h]
theorem heap_setCell_at {w : World} {b : Nat} {cs : Array Value} {t : TypeId} {f : Nat × Nat} (h : w.heap[b]? = some (.cells cs t f)) (i : Nat) (u : Value) :
    (w.setCell ⟨b, i, none⟩ u).heap[b]? = some (.cells (cs.setIfInBounds i u) t f) := by
  simp [World.setCell, Array.getElem?_modify, h]
theorem heap_alloc_here (w : World) (o : Obj) : (w.alloc o).heap[w.heap.size]? = some o := heap_alloc_new w o

theorem heap_alloc_here1 (w : World) (o1 o2 : Obj) : ((w.alloc o1).alloc o2).heap[w.heap.size + 1]? = some o2 := by
  have := heap_alloc_here (w.alloc o1) o2
  rwa [World.size_alloc] at this
/-- Three stores into one block. -/
theorem Turns.set3 (w : World) (b : Nat) (x y z : Value) : Turns [b] w (((w.setCell ⟨b, 0, none⟩ x).setCell ⟨b, 1, none⟩ y).setCell ⟨b, 2, none⟩ z) :=
  ((Turns.setCell w _ _ (by simp)).trans (Turns.setCell _ _ _ (by simp))).trans (Turns.setCell _ _ _ (by simp))

/-- What an owned row's value is. -/
theorem own_lt {w : World} {base : Nat} {e : TypeId} {size : Nat} {v : Value} {n : Nat} {xs : List Value} (h : w.ownsRow base e size v n xs) : ∀ k ∈ v.ownBlock.toList, k < w.heap.size := by
  intro k hk
  exact (h.lt k (by simpa using hk)).2
theorem own_kept {S : List Nat} {w w' : World} {base : Nat} {e : TypeId} {size : Nat} {v : Value} {n : Nat} {xs : List Value} (h : w.ownsRow base e size v n xs) (ht : Turns S w w')
    (hd : ∀ k ∈ v.ownBlock.toList, k ∉ S) : w'.ownsRow base e size v n xs := by
  refine ⟨h.1, ?_⟩
  rcases h.2 with hn | ⟨g, cap, cur, rfl, hb, hg, r⟩
  · exact .inl hn
  · exact .inr ⟨g, cap, cur, rfl, hb, by rw [ht.block g (lt_of_at hg) (hd g (by simp [Value.ownBlock]))]; exact hg, r⟩
/-- An owned row is a block of its element type: it is no block of another type. -/
theorem own_ne {w : World} {base : Nat} {e : TypeId} {size : Nat} {v : Value} {n : Nat} {xs : List Value} (h : w.ownsRow base e size v n xs) {b : Nat} {cs : Array Value} {t : TypeId} {f : Nat × Nat}
    (hb : w.heap[b]? = some (.cells cs t f)) (hne : e ≠ t) : b ∉ v.ownBlock.toList := by
  intro hk
  rcases h.2 with ⟨rfl, _⟩ | ⟨g, cap, cur, rfl, _, hg, _⟩
  · simp [Value.ownBlock] at hk
  · simp [Value.ownBlock] at hk
    subst hk
    rw [hb] at hg
    simp at hg
    exact hne hg.2.1.symm

theorem own_shape {w : World} {base : Nat} {e : TypeId} {size : Nat} {v : Value} {n : Nat} {xs : List Value} (h : w.ownsRow base e size v n xs) : ∃ a c, v = .slice a n c ∧ n ≤ c ∧ c ≤ maxLen := by
  rcases h.2 with ⟨rfl, rfl⟩ | ⟨g, cap, cur, rfl, hb, hg, h1, h2, r⟩
  · exact ⟨none, 0, rfl, Nat.le_refl _, Nat.zero_le _⟩
  · exact ⟨_, cap, rfl, h1, h2⟩

/-! A packet: three cells. -/
structure Pkt where
  src : Int
  dst : Int
  body : ByteArray
def Pkt.cells (p : Pkt) : List Value := [.int .i64 p.src, .int .i64 p.dst, .string p.body]
def pktCells (l : List Pkt) : List Value := l.flatMap Pkt.cells
theorem pktCells_length (l : List Pkt) : (pktCells l).length = l.length * 3 := by
  induction l with
  | nil => rfl
  | cons a l ih => simp only [pktCells, List.flatMap_cons, List.length_append] at *; rw [ih]; simp [Pkt.cells]; omega
theorem pktCells_append (a b : List Pkt) : pktCells (a ++ b) = pktCells a ++ pktCells b := by simp [pktCells]

/-- A struct of a slice of packets and a number, behind a pointer to block b (of type T): it holds the list l and the number s; FP: the blocks that are its own. -/
def NetObj (T : TypeId) (w : World) (b : Nat) (FP : List Nat) (l : List Pkt) (s : Int) : Prop :=
  ∃ v, w.heap[b]? = some (.cells #[v, .int .i64 s] T (0, 0)) ∧ w.ownsRow 0 34 3 v l.length (pktCells l) ∧ FP = b :: v.ownBlock.toList

/-- An object has been changed: its own blocks alone were written, and its new blocks are its old ones or new ones. -/
def Evolves (FP FP' : List Nat) (w w' : World) : Prop := Turns FP w w' ∧ ∀ x ∈ FP', x ∈ FP ∨ w.heap.size ≤ x

theorem NetObj.lt {T : TypeId} {w : World} {b : Nat} {FP : List Nat} {l : List Pkt} {s : Int} (h : NetObj T w b FP l s) : ∀ x ∈ FP, x < w.heap.size := by
  obtain ⟨v, hb, ho, rfl⟩ := h
  intro x hx
  rcases List.mem_cons.1 hx with rfl | hx
  · exact lt_of_at hb
  · exact own_lt ho x hx
theorem NetObj.kept {T : TypeId} {w w' : World} {b : Nat} {FP S : List Nat} {l : List Pkt} {s : Int} (h : NetObj T w b FP l s) (ht : Turns S w w') (hd : ∀ x ∈ FP, x ∉ S) : NetObj T w' b FP l s := by
  obtain ⟨v, hb, ho, rfl⟩ := h
  exact ⟨v, by rw [ht.block b (lt_of_at hb) (hd b (by simp))]; exact hb, own_kept ho ht (fun k hk => hd k (by simp [hk])), rfl⟩

theorem new_cells (w : World) (cs : Array Value) (t : TypeId) (l : List Value) (hl : cs.toList = l) : ∀ j u, l[j]? = some u → (w.alloc (.cells cs t)).cell? ((⟨w.heap.size, 0, none⟩ : Addr).add j) = some u := by
  intro j u hu
  have e : ((⟨w.heap.size, 0, none⟩ : Addr).add j) = ⟨w.heap.size, j, none⟩ := by unfold Addr.add; split <;> simp_all
  rw [e, cell_at (heap_alloc_here w _)]
  subst hl
  simpa using hu
/-- The same behind draws. -/
theorem new_cells_drewN (w : World) (n : Nat) (cs : Array Value) (t : TypeId) (l : List Value) (hl : cs.toList = l) : ∀ j u, l[j]? = some u → ((w.drewN n).alloc (.cells cs t)).cell? ((⟨w.heap.size, 0, none⟩ : Addr).add j) = some u :=
  new_cells (w.drewN n) cs t l hl
theorem pkt_oneCell (p : Pkt) : ∀ u ∈ p.cells, u.oneCell' = true := by
  intro u hu
  simp [Pkt.cells] at hu
  rcases hu with rfl | rfl | rfl <;> rfl
theorem pkts_oneCell (l : List Pkt) : ∀ u ∈ pktCells l, u.oneCell' = true := by
  intro u hu
  obtain ⟨p, _, hp⟩ := List.mem_flatMap.1 hu
  exact pkt_oneCell p u hp

/-- A callee that leaves the world alone, met inside a quiet region. -/
theorem quiet_id {P : Program} {f : FuncId} {args : Array Value} {w : World} {n : Nat} {v : Value}
    (h : Calls P f args (w.drewN n) fun e w' => e = .returned v ∧ w.drewN n = w') : Calls P f args (w.drewN n) fun e w'' => e = .returned v ∧ ∃ m, w'' = w.drewN m :=
  h.mono fun _ _ ⟨he, hm⟩ => ⟨he, n, hm.symm⟩

end Go.Proofs.YtmikjninonpejaaMem

/- Contracts of package net's small functions. -/
namespace Go.Proofs.Ytmikjninonpejaa
open Go.RowKit Go.Proofs.YtmikjninonpejaaMem

def isEnd (a : Int) : Bool := decide (0 ≤ a) && decide (a < 16)

theorem end_any (a : Int) (w : World) : Calls Try.prog 53 #[.int .i64 a] w fun e w' => e = .returned (.bool (isEnd a)) ∧ w = w' := by
  by_cases h : 0 ≤ a
  · have hb : decide (0 ≤ a) = true := decide_eq_true h
    go_enter Try.func53, Try.ntmps53
    go_wp2
    go_ret
    exact ⟨by simp [isEnd, h], rfl⟩
  · have hb : decide (0 ≤ a) = false := decide_eq_false h
    go_enter Try.func53, Try.ntmps53
    go_wp2
    go_ret
    exact ⟨by simp [isEnd]; omega, rfl⟩

def side (s a : Int) : Int := bits .and .i64 (s / 2 ^ min a.toNat 64) 1
def hears (s a b : Int) : Bool := isEnd a && isEnd b && (side s a == side s b)

theorem end_yes (a : Int) (w : World) (h : isEnd a = true) : Calls Try.prog 53 #[.int .i64 a] w fun e w' => e = .returned (.bool true) ∧ w = w' := h ▸ end_any a w
theorem end_no (a : Int) (w : World) (h : isEnd a = false) : Calls Try.prog 53 #[.int .i64 a] w fun e w' => e = .returned (.bool false) ∧ w = w' := h ▸ end_any a w

set_option maxHeartbeats 400000 in
theorem hear_any (b : Nat) (FP : List Nat) (l : List Pkt) (s x y : Int) (w : World) (hn : NetObj 81 w b FP l s) :
    Calls Try.prog 20 #[.pointer (some ⟨b, 0, none⟩), .int .i64 x, .int .i64 y] w fun e w' => e = .returned (.bool (hears s x y)) ∧ ∃ n, w' = w.drewN n := by
  obtain ⟨v, hb, -, -⟩ := hn
  have c1 : w.cell? ⟨b, 1, none⟩ = some (.int .i64 s) := cell_at hb 1
  clear hb
  cases hx : isEnd x
  · have HX := Lib.hid hx; clear hx
    go_enter Try.func20, Try.ntmps20
    go_wp2_with fail
    go_quiet (first | (go_at_call 53; exact quiet_id (end_no _ _ HX.out)))
    go_wp2_with fail
    go_ret
    exact ⟨by simp [hears, HX.out], _, rfl⟩
  · cases hy : isEnd y
    · have HX := Lib.hid hx; clear hx
      have HY := Lib.hid hy; clear hy
      go_enter Try.func20, Try.ntmps20
      go_wp2_with fail
      go_quiet (first | (go_at_call_of 53 x; exact quiet_id (end_yes _ _ HX.out)) | (go_at_call_of 53 y; exact quiet_id (end_no _ _ HY.out)))
      go_wp2_with fail
      go_ret
      exact ⟨by simp [hears, HX.out, HY.out], _, rfl⟩
    · have HX := Lib.hid hx; clear hx
      have HY := Lib.hid hy; clear hy
      have hx0 : 0 ≤ x := by have := HX.out; simp [isEnd] at this; omega
      have hy0 : 0 ≤ y := by have := HY.out; simp [isEnd] at this; omega
      go_enter Try.func20, Try.ntmps20
      go_wp2_with fail
      go_quiet (first | (go_at_call_of 53 x; exact quiet_id (end_yes _ _ HX.out)) | (go_at_call_of 53 y; exact quiet_id (end_yes _ _ HY.out)))
      go_wp2_with fail
      go_outline
      go_ret
      exact ⟨by simp [hears, HX.out, HY.out, side], _, rfl⟩

theorem hear_is (b : Nat) (FP : List Nat) (l : List Pkt) (s x y : Int) (w : World) (hn : NetObj 81 w b FP l s) (r : Bool) (hr : hears s x y = r) :
    Calls Try.prog 20 #[.pointer (some ⟨b, 0, none⟩), .int .i64 x, .int .i64 y] w fun e w' => e = .returned (.bool r) ∧ ∃ n, w' = w.drewN n := hr ▸ hear_any b FP l s x y w hn

theorem Try.info34 : (Try.prog.info? 34).map (fun i => (i.zero, i.size, i.bytes)) = some (some (.agg #[.int .i64 0, .int .i64 0, .string ⟨#[]⟩]), 3, 32) := by kernel_rfl

/-- New: a fresh net. -/
theorem new_any (w : World) : Calls Try.prog 13 #[] w fun e w' => e = .returned (.pointer (some ⟨w.heap.size, 0, none⟩)) ∧ w.alloc (.cells #[.slice none 0 0, .int .i64 0] 81) = w' := by
  go_enter Try.func13, Try.ntmps13
  go_wp2
  go_ret
  exact ⟨rfl, rfl⟩

theorem heal_any (b : Nat) (FP : List Nat) (l : List Pkt) (s : Int) (w : World) (hn : NetObj 81 w b FP l s) :
    Calls Try.prog 21 #[.pointer (some ⟨b, 0, none⟩)] w fun e w' => e = .returned (.tuple #[]) ∧ w.setCell ⟨b, 1, none⟩ (.int .i64 0) = w' := by
  obtain ⟨v, hb, -, -⟩ := hn
  have c1 : w.cell? ⟨b, 1, none⟩ = some (.int .i64 s) := cell_at hb 1
  have f1 : w.frozen? ⟨b, 1, none⟩ = false := free_at hb 1
  clear hb
  go_enter Try.func21, Try.ntmps21
  go_wp2
  go_end0
  exact ⟨rfl, rfl⟩

theorem split_any (b : Nat) (FP : List Nat) (l : List Pkt) (s m : Int) (w : World) (hn : NetObj 81 w b FP l s) :
    Calls Try.prog 19 #[.pointer (some ⟨b, 0, none⟩), .int .i64 m] w fun e w' => e = .returned (.tuple #[]) ∧ w.setCell ⟨b, 1, none⟩ (.int .i64 (bits .and .i64 m 65535)) = w' := by
  obtain ⟨v, hb, -, -⟩ := hn
  have c1 : w.cell? ⟨b, 1, none⟩ = some (.int .i64 s) := cell_at hb 1
  have f1 : w.frozen? ⟨b, 1, none⟩ = false := free_at hb 1
  clear hb
  go_enter Try.func19, Try.ntmps19
  go_wp2
  go_end0
  exact ⟨rfl, rfl⟩

theorem count_any (b : Nat) (FP : List Nat) (l : List Pkt) (s : Int) (w : World) (hn : NetObj 81 w b FP l s) :
    Calls Try.prog 22 #[.pointer (some ⟨b, 0, none⟩)] w fun e w' => e = .returned (.int .i64 l.length) ∧ w = w' := by
  obtain ⟨v, hb, ho, -⟩ := hn
  obtain ⟨a, c, rfl, hc, hm⟩ := own_shape ho
  have c0 : w.cell? ⟨b, 0, none⟩ = some (.slice a l.length c) := cell_at hb 0
  clear hb ho
  go_enter Try.func22, Try.ntmps22
  go_wp2
  go_ret
  exact ⟨rfl, rfl⟩

/-- What Send returns, and the list behind it. -/
def sendCode (l : List Pkt) (s x y : Int) : Int :=
  if !isEnd x || !isEnd y || x == y then 1 else if !hears s x y then 10 else if 500 ≤ l.length then 6 else 0
def sendList (l : List Pkt) (s x y : Int) (body : ByteArray) : List Pkt := if sendCode l s x y = 0 then l ++ [⟨x, y, body⟩] else l

set_option maxHeartbeats 400000 in
theorem send_arg (b : Nat) (x y : Int) (body : ByteArray) (w : World) (h : (!isEnd x || !isEnd y || x == y) = true) :
    Calls Try.prog 15 #[.pointer (some ⟨b, 0, none⟩), .int .i64 x, .int .i64 y, .string body] w fun e w' => e = .returned (.int .i64 1) ∧ w = w' := by
  cases hx : isEnd x
  · have HX := Lib.hid hx; clear hx h
    go_enter Try.func15, Try.ntmps15
    go_wp2_with (go_at_call 53; refine (end_no _ _ HX.out).mono ?_; rintro e w' ⟨rfl, rfl⟩)
    go_ret
    exact ⟨rfl, rfl⟩
  · cases hy : isEnd y
    · have HX := Lib.hid hx; clear hx h
      have HY := Lib.hid hy; clear hy
      go_enter Try.func15, Try.ntmps15
      go_wp2_with (first | (go_at_call_of 53 x; refine (end_yes _ _ HX.out).mono ?_; rintro e w' ⟨rfl, rfl⟩) | (go_at_call_of 53 y; refine (end_no _ _ HY.out).mono ?_; rintro e w' ⟨rfl, rfl⟩))
      go_ret
      exact ⟨rfl, rfl⟩
    · have hxy : (x == y) = true := by simpa [hx, hy] using h
      have HX := Lib.hid hx; clear hx h
      have HY := Lib.hid hy; clear hy
      go_enter Try.func15, Try.ntmps15
      go_wp2_with (first | (go_at_call_of 53 x; refine (end_yes _ _ HX.out).mono ?_; rintro e w' ⟨rfl, rfl⟩) | (go_at_call_of 53 y; refine (end_yes _ _ HY.out).mono ?_; rintro e w' ⟨rfl, rfl⟩))
      go_ret
      exact ⟨rfl, rfl⟩

end Go.Proofs.Ytmikjninonpejaa

/- Contracts of package net: Send. -/
namespace Go.Proofs.Ytmikjninonpejaa
open Go.RowKit Go.Proofs.YtmikjninonpejaaMem

set_option maxHeartbeats 400000 in
set_option maxRecDepth 100000 in
theorem send_lost (b : Nat) (FP : List Nat) (l : List Pkt) (s x y : Int) (body : ByteArray) (w : World) (hn : NetObj 81 w b FP l s) (h : (!isEnd x || !isEnd y || x == y) = false) (hh : hears s x y = false) :
    Calls Try.prog 15 #[.pointer (some ⟨b, 0, none⟩), .int .i64 x, .int .i64 y, .string body] w fun e w' => e = .returned (.int .i64 10) ∧ ∃ n, w' = w.drewN n := by
  have hx : isEnd x = true := by revert h; cases isEnd x <;> simp
  have hy : isEnd y = true := by revert h; cases isEnd y <;> simp
  have hxy : (x == y) = false := by simpa [hx, hy] using h
  have HX := Lib.hid hx; clear hx h
  have HY := Lib.hid hy; clear hy
  have HH := Lib.hid hh; clear hh
  go_enter Try.func15, Try.ntmps15
  go_wp2_with (first | (go_at_call_of 53 x; refine (end_yes _ _ HX.out).mono ?_; rintro e w' ⟨rfl, rfl⟩) | (go_at_call_of 53 y; refine (end_yes _ _ HY.out).mono ?_; rintro e w' ⟨rfl, rfl⟩) | (go_at_call 20; refine (hear_is b FP l s x y _ hn false HH.out).mono ?_; rintro e w' ⟨rfl, nq, rfl⟩))
  go_ret
  exact ⟨rfl, _, rfl⟩

set_option maxHeartbeats 400000 in
set_option maxRecDepth 100000 in
theorem send_full (b : Nat) (FP : List Nat) (l : List Pkt) (s x y : Int) (body : ByteArray) (w : World) (hn : NetObj 81 w b FP l s) (h : (!isEnd x || !isEnd y || x == y) = false) (hh : hears s x y = true)
    (hl : 500 ≤ l.length) (hl2 : l.length ≤ 1000) :
    Calls Try.prog 15 #[.pointer (some ⟨b, 0, none⟩), .int .i64 x, .int .i64 y, .string body] w fun e w' => e = .returned (.int .i64 6) ∧ ∃ n, w' = w.drewN n := by
  have hx : isEnd x = true := by revert h; cases isEnd x <;> simp
  have hy : isEnd y = true := by revert h; cases isEnd y <;> simp
  have hxy : (x == y) = false := by simpa [hx, hy] using h
  have HX := Lib.hid hx; clear hx h
  have HY := Lib.hid hy; clear hy
  have HH := Lib.hid hh; clear hh
  obtain ⟨v, hb, ho, e⟩ := id hn
  obtain ⟨a, c, rfl, hc, hm⟩ := own_shape ho
  have c0 : w.cell? ⟨b, 0, none⟩ = some (.slice a l.length c) := cell_at hb 0
  clear hb ho e
  go_enter Try.func15, Try.ntmps15
  go_wp2_with (first | (go_at_call_of 53 x; refine (end_yes _ _ HX.out).mono ?_; rintro e w' ⟨rfl, rfl⟩) | (go_at_call_of 53 y; refine (end_yes _ _ HY.out).mono ?_; rintro e w' ⟨rfl, rfl⟩) | (go_at_call 20; refine (hear_is b FP l s x y _ hn true HH.out).mono ?_; rintro e w' ⟨rfl, nq, rfl⟩))
  go_ret
  exact ⟨rfl, _, rfl⟩

/-- An append to a net's list, and the store of the new list: the object behind it. -/
theorem obj_appended {T : TypeId} {w w0 w1 : World} {b : Nat} {l : List Pkt} {s : Int} {v v' : Value} (p : Pkt) (hT : (34 : TypeId) ≠ T)
    (hb : w.heap[b]? = some (.cells #[v, .int .i64 s] T (0, 0))) (ho : w.ownsRow 0 34 3 v l.length (pktCells l)) (h0 : Turns [] w w0)
    (hown : w1.ownsRow 0 34 3 v' (l.length + 1) (pktCells l ++ p.cells)) (hg : w0.grownBy w1 v.ownBlock) (hat : v'.ownBlock = v.ownBlock ∨ ∃ k, v'.ownBlock = some k ∧ w.heap.size ≤ k) :
    w1.cell? ⟨b, 0, none⟩ = some v ∧ w1.frozen? ⟨b, 0, none⟩ = false ∧
    ∃ FP', NetObj T (w1.setCell ⟨b, 0, none⟩ v') b FP' (l ++ [p]) s ∧ Evolves (b :: v.ownBlock.toList) FP' w (w1.setCell ⟨b, 0, none⟩ v') := by
  have hbv := own_ne ho hb hT
  have hb0 : w0.heap[b]? = some (.cells #[v, .int .i64 s] T (0, 0)) := by rw [h0.block b (lt_of_at hb) (by simp)]; exact hb
  have hb1 : w1.heap[b]? = some (.cells #[v, .int .i64 s] T (0, 0)) := by rw [hg.block b (lt_of_at hb0) (fun e => hbv (by simp [← e]))]; exact hb0
  have hbv' := own_ne hown hb1 hT
  have ht1 : Turns (b :: v.ownBlock.toList) w w1 :=
    (h0.mono (by simp)).trans (Turns.of_grown hg (fun k hk => Or.inl (by simp [hk])))
  refine ⟨cell_at hb1 0, free_at hb1 0, b :: v'.ownBlock.toList, ⟨v', ?_, ?_, rfl⟩, ?_, ?_⟩
  · rw [heap_setCell_at hb1]; rfl
  · have e : pktCells (l ++ [p]) = pktCells l ++ p.cells := by rw [pktCells_append]; simp [pktCells]
    rw [e, List.length_append]
    exact own_kept hown (Turns.setCell (S := [b]) _ _ _ (by simp)) (fun k hk hkb => by simp at hkb; subst hkb; exact hbv' hk)
  · exact ht1.trans (Turns.setCell _ _ _ (by simp))
  · intro x hx
    rcases List.mem_cons.1 hx with rfl | hx
    · exact Or.inl (by simp)
    · rcases hat with h | h
      · exact Or.inl (by rw [← h]; exact List.mem_cons_of_mem _ hx)
      · obtain ⟨k, h, hk⟩ := h
        rw [h] at hx
        simp at hx
        subst hx
        exact Or.inr hk

set_option maxHeartbeats 800000 in
set_option maxRecDepth 100000 in
theorem send_ok (b : Nat) (FP : List Nat) (l : List Pkt) (s x y : Int) (body : ByteArray) (w : World) (hn : NetObj 81 w b FP l s) (h : (!isEnd x || !isEnd y || x == y) = false) (hh : hears s x y = true)
    (hl : l.length < 500) :
    Calls Try.prog 15 #[.pointer (some ⟨b, 0, none⟩), .int .i64 x, .int .i64 y, .string body] w fun e w' => e = .returned (.int .i64 0) ∧
      ∃ FP', NetObj 81 w' b FP' (l ++ [⟨x, y, body⟩]) s ∧ Evolves FP FP' w w' := by
  have hx : isEnd x = true := by revert h; cases isEnd x <;> simp
  have hy : isEnd y = true := by revert h; cases isEnd y <;> simp
  have hxy : (x == y) = false := by simpa [hx, hy] using h
  have HX := Lib.hid hx; clear hx h
  have HY := Lib.hid hy; clear hy
  have HH := Lib.hid hh; clear hh
  obtain ⟨v, hb, ho, e⟩ := id hn
  have HE := Lib.hid e; clear e
  have HB := Lib.hid hb
  have HO := Lib.hid ho
  obtain ⟨a, c, hv, hc, hm⟩ := own_shape ho
  subst hv
  have c0 : w.cell? ⟨b, 0, none⟩ = some (.slice a l.length c) := cell_at hb 0
  clear hb ho
  obtain ⟨i0, hi, hz0, hz1, hz2⟩ := info_parts Try.info34
  go_enter Try.func15, Try.ntmps15
  go_wp2_with (first | (go_at_call_of 53 x; refine (end_yes _ _ HX.out).mono ?_; rintro e w' ⟨rfl, rfl⟩) | (go_at_call_of 53 y; refine (end_yes _ _ HY.out).mono ?_; rintro e w' ⟨rfl, rfl⟩) | (go_at_call 20; refine (hear_is b FP l s x y _ hn true HH.out).mono ?_; rintro e w' ⟨rfl, nq, rfl⟩) | (at_builtin; refine wpList_append_own_at _ rfl (.tmp 40) (.tmp 45) 28 rfl 0 34 i0 (.agg #[.int .i64 0, .int .i64 0, .string ⟨#[]⟩]) 3 32 Try.underlying28 hi hz0 hz1 hz2 rfl (by decide) _ l.length (pktCells l) rfl (HO.out.alloc _) ⟨w.heap.size, 0, none⟩ 1 1 [.int .i64 x, .int .i64 y, .string body] rfl rfl ?c1 ?c2 ?c3 ?c4 ?c5 ?_))
  case c1 => exact new_cells_drewN _ _ _ _ _ rfl
  case c2 => exact pkt_oneCell ⟨x, y, body⟩
  case c3 => unfold maxLen; omega
  case c4 => omega
  case c5 => simp
  · intro v' w1 hown hg _ hat
    obtain ⟨k0, k1, FP', hobj, hev⟩ := obj_appended (T := 81) ⟨x, y, body⟩ (by decide) HB.out HO.out (((Turns.refl [] w).drewN nq).trans (Turns.alloc [] _ _)) hown hg (hat.imp id fun h => ⟨_, h, by omega⟩)
    obtain ⟨a', c', rfl, -, -⟩ := own_shape hown
    have HF : Hid (NetObj 81 (w1.setCell ⟨b, 0, none⟩ (.slice a' (l.length + 1) c')) b FP' (l ++ [⟨x, y, body⟩]) s ∧ Evolves (b :: (Value.slice a l.length c).ownBlock.toList) FP' w (w1.setCell ⟨b, 0, none⟩ (.slice a' (l.length + 1) c'))) := ⟨hobj, hev⟩
    clear hobj hev hown hg hat
    go_wp2
    go_ret
    exact ⟨rfl, FP', HF.out.1, HE.out ▸ HF.out.2⟩

end Go.Proofs.Ytmikjninonpejaa

/- Plain laws on a row known whole (a block of cells that is not frozen): append within the capacity and clear, as writes of the whole row. Over any program. -/
namespace Go.Proofs.YtmikjninonpejaaMem
open Go Go.RowKit

/-- append where there is room, onto a slice that begins at the head of its row: one step of a region that draws. -/
theorem step_append_row {P : Program} {ops : Array Oper} {o : Oper} {a : Act} {w : World} {K : Act → World → Prop} {Q : Exit → Act → World → Prop} {E : Prop}
    (hg : o.guard = none) (s x : Operand) (t : TypeId) (hop : o.op = Op.call { callee := Callee.builtin Builtin.append, args := #[s, x], argTypes := #[t, t] })
    (e : TypeId) (i : TypeInfo) (size : Nat) (h1 : P.underlying t = some (.slice e)) (h2 : P.info? e = some i) (h4 : i.size = size)
    (g n cap : Nat) (cur : Array Value) (hcur : w.heap[g]? = some (.cells cur e (0, 0))) (hs : a.eval s = .slice (some ⟨g, 0, none⟩) n cap)
    (ad : Addr) (m c : Nat) (news : List Value) (hx : a.eval x = .slice (some ad) m c) (hn : news.length = m * size) (hc : ∀ j u, news[j]? = some u → w.cell? (ad.add j) = some u) (h1c : ∀ u ∈ news, u.oneCell' = true)
    (hroom : n + m ≤ cap) (hfit : n * size + news.length ≤ cur.size)
    (hK : K (a.put o.dst (.slice (some ⟨g, 0, none⟩) (n + m) cap)) (w.setRow g (cur.toList.take (n * size) ++ news ++ cur.toList.drop (n * size + news.length)).toArray)) :
    if Region.wanted o (yielded ops a.tmps) = true then Oper.wp P o a w K Q else E := by
  have hw : Region.wanted o (yielded ops a.tmps) = true := by simp [Region.wanted, hg]
  rw [if_pos hw]
  subst h4
  have hrun := run_append_room (P := P) w t o.type e i h1 h2 g n cap cur hcur ad m c news hn hc h1c hroom hfit
  unfold Oper.wp
  rw [List.append_assoc] at hK hrun
  simp [execOp, hop, resolve, invoke, builtin, hs, hx, hrun, Result.andThen]
  exact hK

/-- append onto a slice that the call owns: one step of a region that draws. -/
theorem step_append_own {P : Program} {ops : Array Oper} {o : Oper} {a : Act} {w : World} {K : Act → World → Prop} {Q : Exit → Act → World → Prop} {E : Prop}
    (hg : o.guard = none) (s x : Operand) (t : TypeId) (hop : o.op = Op.call { callee := Callee.builtin Builtin.append, args := #[s, x], argTypes := #[t, t] })
    (e : TypeId) (i : TypeInfo) (z : Value) (size bytes : Nat) (ht : P.underlying t = some (.slice e)) (hi : P.info? e = some i) (hz : i.zero = some z)
    (hsize : i.size = size) (hby : i.bytes = bytes) (hzs : z.cells.size = size) (hsz : 0 < size)
    (v : Value) (n : Nat) (xs : List Value) (hs : a.eval s = v) (hown : w.ownsRow 0 e size v n xs)
    (ad : Addr) (m c : Nat) (news : List Value) (hx : a.eval x = .slice (some ad) m c) (hl : news.length = m * size) (hnews : ∀ j u, news[j]? = some u → w.cell? (ad.add j) = some u) (h1 : ∀ u ∈ news, u.oneCell' = true)
    (h63 : n + m ≤ maxLen) (hbytes : (n + m) * bytes ≤ 140737488355328)
    (hK : ∀ v' w', w'.ownsRow 0 e size v' (n + m) (xs ++ news) → w.grownBy w' v.ownBlock → (v'.ownBlock = v.ownBlock ∨ v'.ownBlock = some w.heap.size) → K (a.put o.dst v') w') :
    if Region.wanted o (yielded ops a.tmps) = true then Oper.wp P o a w K Q else E := by
  have hw : Region.wanted o (yielded ops a.tmps) = true := by simp [Region.wanted, hg]
  rw [if_pos hw]
  obtain ⟨v', w', hr, h2, h3, _, h5⟩ := run_append_own_at (P := P) w 0 t o.type e i z size bytes ht hi hz hsize hby hzs hsz v n xs hown ad m c news hl hnews h1 h63 hbytes (Nat.zero_le _)
  unfold Oper.wp
  simp [execOp, hop, resolve, invoke, builtin, hs, hx, hr, Result.andThen]
  exact hK _ _ h2 h3 h5

/-- What an append takes from: a nil slice, or a slice whose cells are known. -/
def SrcAt (w : World) (u : Value) (m : Nat) (news : List Value) : Prop :=
  (u = .slice none 0 0 ∧ m = 0 ∧ news = []) ∨ ∃ ad c, u = .slice (some ad) m c ∧ ∀ j x, news[j]? = some x → w.cell? (ad.add j) = some x
theorem SrcAt.of_own {w w' : World} {base : Nat} {e : TypeId} {size : Nat} {v : Value} {n : Nat} {xs : List Value} (h : w.ownsRow base e size v n xs) (hw : ∀ k ∈ v.ownBlock.toList, w'.heap[k]? = w.heap[k]?) : SrcAt w' v n xs := by
  rcases id h.2 with ⟨rfl, rfl⟩ | ⟨g, cap, cur, rfl, _⟩
  · exact .inl ⟨rfl, rfl, List.eq_nil_of_length_eq_zero (by simpa using h.1)⟩
  · refine .inr ⟨⟨g, 0, none⟩, cap, rfl, fun j x hx => ?_⟩
    have hb : ((⟨g, 0, none⟩ : Addr).add j).block = g := by unfold Addr.add; split <;> rfl
    rw [World.cell?_of_block (w := w) (w' := w') (by rw [hb]; exact hw g (by simp [Value.ownBlock]))]
    exact h.cells (g := g) rfl j x hx

theorem run_append_src {P : Program} (w : World) (t ty e : TypeId) (i : TypeInfo) (z : Value) (size bytes : Nat) (ht : P.underlying t = some (.slice e)) (hi : P.info? e = some i) (hz : i.zero = some z)
    (hsize : i.size = size) (hby : i.bytes = bytes) (hzs : z.cells.size = size) (hsz : 0 < size)
    (v : Value) (n : Nat) (xs : List Value) (hown : w.ownsRow 0 e size v n xs)
    (u : Value) (m : Nat) (news : List Value) (hsrc : SrcAt w u m news) (hl : news.length = m * size) (h1 : ∀ u ∈ news, u.oneCell' = true)
    (h63 : n + m ≤ maxLen) (hbytes : (n + m) * bytes ≤ 140737488355328) :
    ∃ v' w', (Builtin.append_ #[t, t] ty #[v, u]).run P w = .ok v' w' ∧ w'.ownsRow 0 e size v' (n + m) (xs ++ news) ∧ w.grownBy w' v.ownBlock ∧ (v'.ownBlock = v.ownBlock ∨ v'.ownBlock = some w.heap.size) := by
  rcases hsrc with ⟨rfl, rfl, rfl⟩ | ⟨ad, c, rfl, hc⟩
  · exact ⟨v, w, run_append_owned_none (P := P) (w := w) 0 t ty e i size ht hi v n xs hown, by simpa using hown, World.grownBy.refl _ _, Or.inl rfl⟩
  · obtain ⟨v', w', hr, h2, h3, _, h5⟩ := run_append_own_at (P := P) w 0 t ty e i z size bytes ht hi hz hsize hby hzs hsz v n xs hown ad m c news hl hc h1 h63 hbytes (Nat.zero_le _)
    exact ⟨v', w', hr, h2, h3, h5⟩

theorem wpList_append_src {P : Program} (w : World) {ops : Array Oper} {rest : List Oper} {o : Oper} {a : Act} {Q : Exit → Act → World → Prop} (hgd : o.guard = none) (s x : Operand) (t : TypeId)
    (ho : o.op = .call { callee := .builtin .append, args := #[s, x], argTypes := #[t, t] })
    (e : TypeId) (i : TypeInfo) (z : Value) (size bytes : Nat) (ht : P.underlying t = some (.slice e)) (hi : P.info? e = some i) (hz : i.zero = some z)
    (hsize : i.size = size) (hby : i.bytes = bytes) (hzs : z.cells.size = size) (hsz : 0 < size)
    (v : Value) (n : Nat) (xs : List Value) (hs : a.eval s = v) (hown : w.ownsRow 0 e size v n xs)
    (u : Value) (m : Nat) (news : List Value) (hx : a.eval x = u) (hsrc : SrcAt w u m news) (hl : news.length = m * size) (h1 : ∀ u ∈ news, u.oneCell' = true)
    (h63 : n + m ≤ maxLen) (hbytes : (n + m) * bytes ≤ 140737488355328)
    (h : ∀ v' w', w'.ownsRow 0 e size v' (n + m) (xs ++ news) → w.grownBy w' v.ownBlock → (v'.ownBlock = v.ownBlock ∨ v'.ownBlock = some w.heap.size) → wpList P ops Q rest (a.put o.dst v') w') :
    wpList P ops Q (o :: rest) a w := by
  refine wpList_plain hgd fun K hK => ?_
  obtain ⟨v', w', hr, h2, h3, h5⟩ := run_append_src (P := P) w t o.type e i z size bytes ht hi hz hsize hby hzs hsz v n xs hown u m news hsrc hl h1 h63 hbytes
  unfold Oper.wp execOp
  simp only [ho, resolve, invoke, builtin, Sem.run_bind, Sem.run_pure, Result.andThen_ok, List.map_toArray, List.map_cons, List.map_nil, hs, hx, hr]
  exact hK _ _ (h v' w' h2 h3 h5)

/-- clear(s[o:..]) on a row known whole. -/
theorem run_clear_row {P : Program} (w : World) (t e ty : TypeId) (z : Value) (ht : P.underlying t = some (.slice e)) (hv : ∀ w, (zeroValue e).run P w = .ok z w)
    (g o n c : Nat) (cur : Array Value) (e' : TypeId) (hcur : w.heap[g]? = some (.cells cur e' (0, 0))) (hn : 0 < n)
    (h1 : ∀ u ∈ (Builtin.zeroCells z.cells n).toList, u.oneCell' = true) (hfit : o + (Builtin.zeroCells z.cells n).toList.length ≤ cur.size) :
    (Builtin.clear_ #[t] ty #[.slice (some ⟨g, o, none⟩) n c]).run P w =
      .ok (.tuple #[]) (w.setRow g (cur.toList.take o ++ (Builtin.zeroCells z.cells n).toList ++ cur.toList.drop (o + (Builtin.zeroCells z.cells n).toList.length)).toArray) := by
  have hst := run_storeCells_at P g o e' (Builtin.zeroCells z.cells n).toList 0 cur w hcur (by simpa using hfit) h1
  simp only [Nat.add_zero] at hst
  obtain ⟨m, rfl⟩ : ∃ m, n = m + 1 := ⟨n - 1, by omega⟩
  simp only [Builtin.clear_]
  simp [run_underlying ht, hv, hst]

theorem Turns.setRow {S : List Nat} (w : World) (g : Nat) (cs : Array Value) (h : g ∈ S) : Turns S w (w.setRow g cs) :=
  ⟨rfl, rfl, rfl, by simp, fun k _ hS => setRow_other w g k _ (fun e => hS (e ▸ h))⟩

end Go.Proofs.YtmikjninonpejaaMem

/- Contracts of package net: slices.Delete of one packet. -/
namespace Go.Proofs.Ytmikjninonpejaa
open Go.RowKit Go.Proofs.YtmikjninonpejaaMem

theorem pktCells_take (l : List Pkt) (i : Nat) : (pktCells l).take (i * 3) = pktCells (l.take i) := by
  induction l generalizing i with
  | nil => simp [pktCells]
  | cons a l ih =>
    cases i with
    | zero => simp [pktCells]
    | succ i =>
      have := ih i
      simp only [pktCells, List.flatMap_cons, List.take_succ_cons] at *
      rw [show (i + 1) * 3 = a.cells.length + i * 3 by simp [Pkt.cells]; omega, List.take_length_add_append, this]
theorem pktCells_drop (l : List Pkt) (i : Nat) : (pktCells l).drop (i * 3) = pktCells (l.drop i) := by
  induction l generalizing i with
  | nil => simp [pktCells]
  | cons a l ih =>
    cases i with
    | zero => simp [pktCells]
    | succ i =>
      have := ih i
      simp only [pktCells, List.flatMap_cons, List.drop_succ_cons] at *
      rw [show (i + 1) * 3 = a.cells.length + i * 3 by simp [Pkt.cells]; omega, List.drop_length_add_append, this]

def zeroPkt : Value := .agg #[.int .i64 0, .int .i64 0, .string ⟨#[]⟩]
theorem Try.zero34 (w : World) : (zeroValue 34).run Try.prog w = .ok (.agg #[.int .i64 0, .int .i64 0, .string ⟨#[]⟩]) w := by kernel_rfl

set_option maxHeartbeats 800000 in
set_option maxRecDepth 100000 in
theorem delete_any (g cap i : Nat) (l : List Pkt) (cur : Array Value) (w : World) (hcur : w.heap[g]? = some (.cells cur 34 (0, 0))) (hlc : l.length ≤ cap) (hm : cap ≤ maxLen) (hs : cur.size = cap * 3)
    (htake : cur.toList.take (l.length * 3) = pktCells l) (hi : i < l.length) :
    Calls Try.prog 82 #[.slice (some ⟨g, 0, none⟩) l.length cap, .int .i64 i, .int .i64 (i + 1)] w fun e w' => e = .returned (.slice (some ⟨g, 0, none⟩) (i + (l.length - (i + 1))) cap) ∧
      w'.ownsRow 0 34 3 (.slice (some ⟨g, 0, none⟩) (i + (l.length - (i + 1))) cap) (i + (l.length - (i + 1))) (pktCells (l.eraseIdx i)) ∧ Turns [g] w w' := by
  unfold maxLen at hm
  obtain ⟨i0, hi0, hz0, hz1, hz2⟩ := info_parts Try.info34
  obtain ⟨news, hnews⟩ : ∃ news, news = pktCells (l.drop (i + 1)) := ⟨_, rfl⟩
  have hlen : news.length = (l.length - (i + 1)) * 3 := by rw [hnews, pktCells_length]; simp
  obtain ⟨A, hA, hsrc⟩ : ∃ A : Addr, (if cap = i + 1 then some (⟨g, 0, none⟩ : Addr) else some ⟨g, (i + 1) * 3, none⟩) = some A ∧ Hid (∀ t u, news[t]? = some u → w.drew.cell? (A.add t) = some u) := by
    by_cases h : cap = i + 1
    · refine ⟨⟨g, 0, none⟩, by simp [h], fun t u hu => ?_⟩
      have h0 : news.length = 0 := by rw [hlen]; omega
      rw [List.length_eq_zero_iff.1 h0] at hu
      simp at hu
    · refine ⟨⟨g, (i + 1) * 3, none⟩, by simp [h], fun t u hu => ?_⟩
      have ht := (List.getElem?_eq_some_iff.1 hu).1
      rw [hnews, ← pktCells_drop, List.getElem?_drop, ← htake, List.getElem?_take, if_pos (by omega)] at hu
      rw [Addr.add_lit]
      show w.cell? _ = _
      rw [cell_at hcur, ← hu]
      simp
  have s1 : Hid (news.length = (l.length - (i + 1)) * 3) := hlen
  have s2 : Hid (∀ u ∈ news, u.oneCell' = true) := by intro u hu; rw [hnews] at hu; exact pkts_oneCell _ u hu
  obtain ⟨cur1, hc1⟩ : ∃ cur1, cur1 = (cur.toList.take (i * 3) ++ news ++ cur.toList.drop (i * 3 + news.length)).toArray := ⟨_, rfl⟩
  have hs1 : cur1.size = cap * 3 := by
    rw [hc1]; simp [hlen, hs]; omega
  obtain ⟨W1, hW1⟩ : ∃ W1, W1 = w.drew.setRow g cur1 := ⟨_, rfl⟩
  have hW1c : W1.heap[g]? = some (.cells cur1 34 (0, 0)) := by rw [hW1]; exact setRow_heap w.drew g cur cur1 34 (0, 0) hcur
  have hz3 : (Builtin.zeroCells (Value.cells (.agg #[.int .i64 0, .int .i64 0, .string ⟨#[]⟩])) (l.length - (i + (l.length - (i + 1))))).toList = [.int .i64 0, .int .i64 0, .string ⟨#[]⟩] := by
    rw [show l.length - (i + (l.length - (i + 1))) = 1 by omega]; kernel_rfl
  have hz4 : Hid (Builtin.zeroCells #[.int .i64 0, .int .i64 0, .string ⟨#[]⟩] (l.length - (i + (l.length - (i + 1)))) = #[.int .i64 0, .int .i64 0, .string ⟨#[]⟩]) := by
    show _ = _
    rw [show l.length - (i + (l.length - (i + 1))) = 1 by omega]; kernel_rfl
  have hcl := fun ty => run_clear_row (P := Try.prog) W1 28 34 ty _ Try.underlying28 Try.zero34 g ((i + (l.length - (i + 1))) * 3) (l.length - (i + (l.length - (i + 1)))) (cap - (i + (l.length - (i + 1)))) cur1 34 hW1c (by omega)
    (by rw [hz3]; exact pkt_oneCell ⟨0, 0, ⟨#[]⟩⟩) (by rw [hz3, hs1]; simp; omega)
  have hW : Hid (W1 = w.drew.setRow g (cur.toList.take (i * 3) ++ news ++ cur.toList.drop (i * 3 + news.length)).toArray) := by rw [hW1, hc1]; rfl
  have HT := Lib.hid hcur
  have hic : i ≤ cap := by omega
  have hp0 : (0 : Int) ≤ (i : Int) + 1 := by omega
  have hp1 : (i : Int) + 1 ≤ (l.length : Int) := by omega
  have hp2 : ((i : Int) + 1).toNat = i + 1 := by omega
  have hfit : Hid (i * 3 + news.length ≤ cur.size) := by show _ ≤ _; rw [hlen, hs]; omega
  have HFIN : Hid (∀ cur2 : Array Value, cur2.toList = cur1.toList.take ((i + (l.length - (i + 1))) * 3) ++ [.int .i64 0, .int .i64 0, .string ⟨#[]⟩] ++ cur1.toList.drop ((i + (l.length - (i + 1))) * 3 + 3) →
      (W1.setRow g cur2).ownsRow 0 34 3 (.slice (some ⟨g, 0, none⟩) (i + (l.length - (i + 1))) cap) (i + (l.length - (i + 1))) (pktCells (l.eraseIdx i)) ∧ Turns [g] w (W1.setRow g cur2)) := by
    intro cur2 h2
    have hN : i + (l.length - (i + 1)) = l.length - 1 := by omega
    refine ⟨⟨by rw [pktCells_length, List.length_eraseIdx, if_pos hi, hN], .inr ⟨g, cap, cur2, rfl, Nat.zero_le _, setRow_heap W1 g cur1 cur2 34 (0, 0) hW1c, by omega, by unfold maxLen; omega, ?_, ?_⟩⟩, ?_⟩
    · have := congrArg List.length h2
      simp at this
      rw [this]; omega
    · rw [h2, List.append_assoc, List.take_append_of_le_length (by simp; omega), List.take_of_length_le (by simp; omega)]
      rw [hc1]
      show List.take _ (_ ++ _ ++ _) = _
      rw [List.take_append_of_le_length (by simp [hlen]; omega), List.take_of_length_le (by simp [hlen]; omega), hnews, List.eraseIdx_eq_take_drop_succ, pktCells_append, ← pktCells_take, ← htake, List.take_take, Nat.min_eq_left (by omega)]
    · rw [hW1]
      exact ((Turns.refl _ w).drew.trans (Turns.setRow _ g _ (by simp))).trans (Turns.setRow _ g _ (by simp))
  clear hc1 hW1 hnews hlen hs1 hcur hW1c htake
  go_enter Try.func82, Try.ntmps82
  go_wp2_with fail
  go_region_law (refine step_append_row rfl (.tmp 22) (.tmp 25) 28 rfl 34 i0 3 Try.underlying28 hi0 hz1 g i cap cur HT.out (by simp [Act.eval, Act.put]) A (l.length - (i + 1)) (cap - (i + 1)) news (by simp [Act.eval, Act.put]) s1.out hsrc.out s2.out (by omega) hfit.out ?_; rw [← hW.out])
  go_wp2
  go_ret
  refine ⟨rfl, ?_⟩
  refine HFIN.out _ ?_
  rw [hz4.out]
  simp

end Go.Proofs.Ytmikjninonpejaa
