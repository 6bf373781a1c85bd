/- Plain lemmas about memory: a world turned at a few blocks alone, rows that a call owns, structs behind a pointer. No program in sight. -/
import Derived.WalkKit
import Derived.Maps.AppendAt
import Derived.Deep.Draws
import Derived.Lib.Hide
namespace Go.Proofs.YtmikjninonpejaaMem
open Go Go.RowKit

/-- Blocks outside the list S are kept; the heap only grows; streams as they were. -/
structure Turns (S : List Nat) (w w' : World) : Prop where
  os : w'.os = w.os
  tape : w'.tape = w.tape
  output : w'.output = w.output
  size : w.heap.size ≤ w'.heap.size
  block : ∀ k, k < w.heap.size → k ∉ S → w'.heap[k]? = w.heap[k]?

theorem Turns.refl (S : List Nat) (w : World) : Turns S w w := ⟨rfl, rfl, rfl, Nat.le_refl _, fun _ _ _ => rfl⟩
theorem Turns.drewN {S : List Nat} {w w' : World} (h : Turns S w w') (n : Nat) : Turns S w (w'.drewN n) := ⟨h.os, h.tape, h.output, h.size, h.block⟩
theorem Turns.drew {S : List Nat} {w w' : World} (h : Turns S w w') : Turns S w w'.drew := ⟨h.os, h.tape, h.output, h.size, h.block⟩
theorem Turns.of_drew {S : List Nat} {w w' : World} (h : Turns S w.drew w') : Turns S w w' := ⟨h.os, h.tape, h.output, h.size, h.block⟩
theorem Turns.of_drewN {S : List Nat} {w w' : World} {n : Nat} (h : Turns S (w.drewN n) w') : Turns S w w' := ⟨h.os, h.tape, h.output, h.size, h.block⟩
theorem Turns.trans {S : List Nat} {a b c : World} (h : Turns S a b) (k : Turns S b c) : Turns S a c :=
  ⟨k.os.trans h.os, k.tape.trans h.tape, k.output.trans h.output, Nat.le_trans h.size k.size,
    fun i hi hS => (k.block i (Nat.lt_of_lt_of_le hi h.size) hS).trans (h.block i hi hS)⟩
/-- The second step may also turn blocks that are new since the first world. -/
theorem Turns.trans_new {S T : List Nat} {a b c : World} (h : Turns S a b) (k : Turns T b c) (hT : ∀ x ∈ T, x ∈ S ∨ a.heap.size ≤ x) : Turns S a c :=
  ⟨k.os.trans h.os, k.tape.trans h.tape, k.output.trans h.output, Nat.le_trans h.size k.size,
    fun i hi hS => (k.block i (Nat.lt_of_lt_of_le hi h.size) (fun hi' => by
      rcases hT i hi' with h1 | h1
      · exact hS h1
      · omega)).trans (h.block i hi hS)⟩
theorem Turns.mono {S T : List Nat} {w w' : World} (h : Turns S w w') (hST : ∀ x ∈ S, x ∈ T) : Turns T w w' :=
  ⟨h.os, h.tape, h.output, h.size, fun k hk hT => h.block k hk (fun hS => hT (hST k hS))⟩
theorem Turns.alloc (S : List Nat) (w : World) (o : Obj) : Turns S w (w.alloc o) :=
  ⟨rfl, rfl, rfl, by simp, fun k hk _ => Below.heap_alloc _ _ _ hk⟩
theorem Turns.setCell {S : List Nat} (w : World) (p : Addr) (u : Value) (h : p.block ∈ S) : Turns S w (w.setCell p u) :=
  ⟨rfl, rfl, rfl, by simp [World.setCell], fun k _ hS => Below.heap_setCell _ _ _ _ (fun e => hS (e ▸ h))⟩
theorem Turns.of_grown {S : List Nat} {w w' : World} {row : Option Nat} (h : w.grownBy w' row) (hr : ∀ k, row = some k → k ∈ S ∨ w.heap.size ≤ k) : Turns S w w' :=
  ⟨h.os, h.tape, h.output, h.size, fun k hk hS => h.block k hk (fun e => by
    rcases hr k e.symm with h1 | h1
    · exact hS h1
    · omega)⟩
theorem Turns.below {S : List Nat} {w w' : World} {B : Nat} (h : Turns S w w') (hB : B ≤ w.heap.size) (hS : ∀ x ∈ S, B ≤ x) : Below B w w' :=
  ⟨h.os, h.tape, h.output, h.size, fun k hk => h.block k (by omega) (fun hi => by have := hS k hi; omega)⟩
theorem Turns.of_below {w w' : World} (h : Below w.heap.size w w') (S : List Nat) : Turns S w w' :=
  ⟨h.os, h.tape, h.output, h.size, fun k hk _ => h.block k hk⟩
theorem Turns.cell {S : List Nat} {w w' : World} (h : Turns S w w') {a : Addr} (ha : a.block < w.heap.size) (hS : a.block ∉ S) : w'.cell? a = w.cell? a :=
  World.cell?_of_block (w := w) (h.block a.block ha hS)

/-- A block that lies in a world lies below its size. -/
theorem lt_of_at {w : World} {b : Nat} {o : Obj} (h : w.heap[b]? = some o) : b < w.heap.size := (Array.getElem?_eq_some_iff.1 h).1

/-- The cells of a block known whole. -/
theorem cell_at {w : World} {b : Nat} {cs : Array Value} {t : TypeId} {f : Nat × Nat} (h : w.heap[b]? = some (.cells cs t f)) (i : Nat) : w.cell? ⟨b, i, none⟩ = cs[i]? := by
  simp [World.cell?, h]
theorem free_at {w : World} {b : Nat} {cs : Array Value} {t : TypeId} (h : w.heap[b]? = some (.cells cs t (0, 0))) (i : Nat) : w.frozen? ⟨b, i, none⟩ = false := by
  simp [World.frozen?, h]
theorem heap_setCell_at {w : World} {b : Nat} {cs : Array Value} {t : TypeId} {f : Nat × Nat} (h : w.heap[b]? = some (.cells cs t f)) (i : Nat) (u : Value) :
    (w.setCell ⟨b, i, none⟩ u).heap[b]? = some (.cells (cs.setIfInBounds i u) t f) := by
  simp [World.setCell, Array.getElem?_modify, h]
theorem heap_alloc_here (w : World) (o : Obj) : (w.alloc o).heap[w.heap.size]? = some o := heap_alloc_new w o

theorem heap_alloc_here1 (w : World) (o1 o2 : Obj) : ((w.alloc o1).alloc o2).heap[w.heap.size + 1]? = some o2 := by
  have := heap_alloc_here (w.alloc o1) o2
  rwa [World.size_alloc] at this
/-- Three stores into one block. -/
theorem Turns.set3 (w : World) (b : Nat) (x y z : Value) : Turns [b] w (((w.setCell ⟨b, 0, none⟩ x).setCell ⟨b, 1, none⟩ y).setCell ⟨b, 2, none⟩ z) :=
  ((Turns.setCell w _ _ (by simp)).trans (Turns.setCell _ _ _ (by simp))).trans (Turns.setCell _ _ _ (by simp))

/-- What an owned row's value is. -/
theorem own_lt {w : World} {base : Nat} {e : TypeId} {size : Nat} {v : Value} {n : Nat} {xs : List Value} (h : w.ownsRow base e size v n xs) : ∀ k ∈ v.ownBlock.toList, k < w.heap.size := by
  intro k hk
  exact (h.lt k (by simpa using hk)).2
theorem own_kept {S : List Nat} {w w' : World} {base : Nat} {e : TypeId} {size : Nat} {v : Value} {n : Nat} {xs : List Value} (h : w.ownsRow base e size v n xs) (ht : Turns S w w')
    (hd : ∀ k ∈ v.ownBlock.toList, k ∉ S) : w'.ownsRow base e size v n xs := by
  refine ⟨h.1, ?_⟩
  rcases h.2 with hn | ⟨g, cap, cur, rfl, hb, hg, r⟩
  · exact .inl hn
  · exact .inr ⟨g, cap, cur, rfl, hb, by rw [ht.block g (lt_of_at hg) (hd g (by simp [Value.ownBlock]))]; exact hg, r⟩
/-- An owned row is a block of its element type: it is no block of another type. -/
theorem own_ne {w : World} {base : Nat} {e : TypeId} {size : Nat} {v : Value} {n : Nat} {xs : List Value} (h : w.ownsRow base e size v n xs) {b : Nat} {cs : Array Value} {t : TypeId} {f : Nat × Nat}
    (hb : w.heap[b]? = some (.cells cs t f)) (hne : e ≠ t) : b ∉ v.ownBlock.toList := by
  intro hk
  rcases h.2 with ⟨rfl, _⟩ | ⟨g, cap, cur, rfl, _, hg, _⟩
  · simp [Value.ownBlock] at hk
  · simp [Value.ownBlock] at hk
    subst hk
    rw [hb] at hg
    simp at hg
    exact hne hg.2.1.symm

theorem own_shape {w : World} {base : Nat} {e : TypeId} {size : Nat} {v : Value} {n : Nat} {xs : List Value} (h : w.ownsRow base e size v n xs) : ∃ a c, v = .slice a n c ∧ n ≤ c ∧ c ≤ maxLen := by
  rcases h.2 with ⟨rfl, rfl⟩ | ⟨g, cap, cur, rfl, hb, hg, h1, h2, r⟩
  · exact ⟨none, 0, rfl, Nat.le_refl _, Nat.zero_le _⟩
  · exact ⟨_, cap, rfl, h1, h2⟩

/-! A packet: three cells. -/
structure Pkt where
  src : Int
  dst : Int
  body : ByteArray
def Pkt.cells (p : Pkt) : List Value := [.int .i64 p.src, .int .i64 p.dst, .string p.body]
def pktCells (l : List Pkt) : List Value := l.flatMap Pkt.cells
theorem pktCells_length (l : List Pkt) : (pktCells l).length = l.length * 3 := by
  induction l with
  | nil => rfl
  | cons a l ih => simp only [pktCells, List.flatMap_cons, List.length_append] at *; rw [ih]; simp [Pkt.cells]; omega
theorem pktCells_append (a b : List Pkt) : pktCells (a ++ b) = pktCells a ++ pktCells b := by simp [pktCells]

/-- A struct of a slice of packets and a number, behind a pointer to block b (of type T): it holds the list l and the number s; FP: the blocks that are its own. -/
def NetObj (T : TypeId) (w : World) (b : Nat) (FP : List Nat) (l : List Pkt) (s : Int) : Prop :=
  ∃ v, w.heap[b]? = some (.cells #[v, .int .i64 s] T (0, 0)) ∧ w.ownsRow 0 34 3 v l.length (pktCells l) ∧ FP = b :: v.ownBlock.toList

/-- An object has been changed: its own blocks alone were written, and its new blocks are its old ones or new ones. -/
def Evolves (FP FP' : List Nat) (w w' : World) : Prop := Turns FP w w' ∧ ∀ x ∈ FP', x ∈ FP ∨ w.heap.size ≤ x

theorem NetObj.lt {T : TypeId} {w : World} {b : Nat} {FP : List Nat} {l : List Pkt} {s : Int} (h : NetObj T w b FP l s) : ∀ x ∈ FP, x < w.heap.size := by
  obtain ⟨v, hb, ho, rfl⟩ := h
  intro x hx
  rcases List.mem_cons.1 hx with rfl | hx
  · exact lt_of_at hb
  · exact own_lt ho x hx
theorem NetObj.kept {T : TypeId} {w w' : World} {b : Nat} {FP S : List Nat} {l : List Pkt} {s : Int} (h : NetObj T w b FP l s) (ht : Turns S w w') (hd : ∀ x ∈ FP, x ∉ S) : NetObj T w' b FP l s := by
  obtain ⟨v, hb, ho, rfl⟩ := h
  exact ⟨v, by rw [ht.block b (lt_of_at hb) (hd b (by simp))]; exact hb, own_kept ho ht (fun k hk => hd k (by simp [hk])), rfl⟩

theorem new_cells (w : World) (cs : Array Value) (t : TypeId) (l : List Value) (hl : cs.toList = l) : ∀ j u, l[j]? = some u → (w.alloc (.cells cs t)).cell? ((⟨w.heap.size, 0, none⟩ : Addr).add j) = some u := by
  intro j u hu
  have e : ((⟨w.heap.size, 0, none⟩ : Addr).add j) = ⟨w.heap.size, j, none⟩ := by unfold Addr.add; split <;> simp_all
  rw [e, cell_at (heap_alloc_here w _)]
  subst hl
  simpa using hu
/-- The same behind draws. -/
theorem new_cells_drewN (w : World) (n : Nat) (cs : Array Value) (t : TypeId) (l : List Value) (hl : cs.toList = l) : ∀ j u, l[j]? = some u → ((w.drewN n).alloc (.cells cs t)).cell? ((⟨w.heap.size, 0, none⟩ : Addr).add j) = some u :=
  new_cells (w.drewN n) cs t l hl
theorem pkt_oneCell (p : Pkt) : ∀ u ∈ p.cells, u.oneCell' = true := by
  intro u hu
  simp [Pkt.cells] at hu
  rcases hu with rfl | rfl | rfl <;> rfl
theorem pkts_oneCell (l : List Pkt) : ∀ u ∈ pktCells l, u.oneCell' = true := by
  intro u hu
  obtain ⟨p, _, hp⟩ := List.mem_flatMap.1 hu
  exact pkt_oneCell p u hp

/-- A callee that leaves the world alone, met inside a quiet region. -/
theorem quiet_id {P : Program} {f : FuncId} {args : Array Value} {w : World} {n : Nat} {v : Value}
    (h : Calls P f args (w.drewN n) fun e w' => e = .returned v ∧ w.drewN n = w') : Calls P f args (w.drewN n) fun e w'' => e = .returned v ∧ ∃ m, w'' = w.drewN m :=
  h.mono fun _ _ ⟨he, hm⟩ => ⟨he, n, hm.symm⟩

end Go.Proofs.YtmikjninonpejaaMem
