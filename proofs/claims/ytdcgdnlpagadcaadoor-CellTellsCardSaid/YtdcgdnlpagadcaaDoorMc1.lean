/- Contracts and lemmas (texts Mem, Sep, RowLaws, Bits, Base0, PureA, joined by a program). -/
import Derived.WalkKit
import Derived.Maps.AppendAt
import Derived.Deep.Draws
import Derived.Lib.Hide
import Derived.Deep.RegionLaw
import Derived.Laws.AppendOwnNone
import Derived.Test.YtdcgdnlpagadcaaDoorProg
import Derived.Outline
import Derived.BigQuiet
import Derived.Deep.QuietTactic
import Derived.KernelRfl
import Derived.Lib.SliceRun
import Derived.Deep.RegionWith
import Derived.StillTailTactics
import Derived.Deep.Slices
import Derived.ProofKit
/- Plain lemmas about memory: a world turned at a few blocks alone, rows that a call owns, structs behind a pointer. No program in sight. -/
namespace Go.Proofs.YtdcgdnlpagadcaaDoorMem
open Go Go.RowKit

/-- Blocks outside the list S are kept; the heap only grows; streams as they were. -/
structure Turns (S : List Nat) (w w' : World) : Prop where
  os : w'.os = w.os
  tape : w'.tape = w.tape
  output : w'.output = w.output
  size : w.heap.size ≤ w'.heap.size
  block : ∀ k, k < w.heap.size → k ∉ S → w'.heap[k]? = w.heap[k]?

theorem Turns.refl (S : List Nat) (w : World) : Turns S w w := ⟨rfl, rfl, rfl, Nat.le_refl _, fun _ _ _ => rfl⟩
theorem Turns.drewN {S : List Nat} {w w' : World} (h : Turns S w w') (n : Nat) : Turns S w (w'.drewN n) := ⟨h.os, h.tape, h.output, h.size, h.block⟩
theorem Turns.drew {S : List Nat} {w w' : World} (h : Turns S w w') : Turns S w w'.drew := ⟨h.os, h.tape, h.output, h.size, h.block⟩
theorem Turns.of_drew {S : List Nat} {w w' : World} (h : Turns S w.drew w') : Turns S w w' := ⟨h.os, h.tape, h.output, h.size, h.block⟩
theorem Turns.of_drewN {S : List Nat} {w w' : World} {n : Nat} (h : Turns S (w.drewN n) w') : Turns S w w' := ⟨h.os, h.tape, h.output, h.size, h.block⟩
theorem Turns.trans {S : List Nat} {a b c : World} (h : Turns S a b) (k : Turns S b c) : Turns S a c :=
  ⟨k.os.trans h.os, k.tape.trans h.tape, k.output.trans h.output, Nat.le_trans h.size k.size,
    fun i hi hS => (k.block i (Nat.lt_of_lt_of_le hi h.size) hS).trans (h.block i hi hS)⟩
/-- The second step may also turn blocks that are new since the first world. -/
theorem Turns.trans_new {S T : List Nat} {a b c : World} (h : Turns S a b) (k : Turns T b c) (hT : ∀ x ∈ T, x ∈ S ∨ a.heap.size ≤ x) : Turns S a c :=
  ⟨k.os.trans h.os, k.tape.trans h.tape, k.output.trans h.output, Nat.le_trans h.size k.size,
    fun i hi hS => (k.block i (Nat.lt_of_lt_of_le hi h.size) (fun hi' => by
      rcases hT i hi' with h1 | h1
      · exact hS h1
      · omega)).trans (h.block i hi hS)⟩
theorem Turns.mono {S T : List Nat} {w w' : World} (h : Turns S w w') (hST : ∀ x ∈ S, x ∈ T) : Turns T w w' :=
  ⟨h.os, h.tape, h.output, h.size, fun k hk hT => h.block k hk (fun hS => hT (hST k hS))⟩
theorem Turns.alloc (S : List Nat) (w : World) (o : Obj) : Turns S w (w.alloc o) :=
  ⟨rfl, rfl, rfl, by simp, fun k hk _ => Below.heap_alloc _ _ _ hk⟩
theorem Turns.setCell {S : List Nat} (w : World) (p : Addr) (u : Value) (h : p.block ∈ S) : Turns S w (w.setCell p u) :=
  ⟨rfl, rfl, rfl, by simp [World.setCell], fun k _ hS => Below.heap_setCell _ _ _ _ (fun e => hS (e ▸ h))⟩
theorem Turns.of_grown {S : List Nat} {w w' : World} {row : Option Nat} (h : w.grownBy w' row) (hr : ∀ k, row = some k → k ∈ S ∨ w.heap.size ≤ k) : Turns S w w' :=
  ⟨h.os, h.tape, h.output, h.size, fun k hk hS => h.block k hk (fun e => by
    rcases hr k e.symm with h1 | h1
    · exact hS h1
    · omega)⟩
theorem Turns.below {S : List Nat} {w w' : World} {B : Nat} (h : Turns S w w') (hB : B ≤ w.heap.size) (hS : ∀ x ∈ S, B ≤ x) : Below B w w' :=
  ⟨h.os, h.tape, h.output, h.size, fun k hk => h.block k (by omega) (fun hi => by have := hS k hi; omega)⟩
theorem Turns.of_below {w w' : World} (h : Below w.heap.size w w') (S : List Nat) : Turns S w w' :=
  ⟨h.os, h.tape, h.output, h.size, fun k hk _ => h.block k hk⟩
theorem Turns.cell {S : List Nat} {w w' : World} (h : Turns S w w') {a : Addr} (ha : a.block < w.heap.size) (hS : a.block ∉ S) : w'.cell? a = w.cell? a :=
  World.cell?_of_block (w := w) (h.block a.block ha hS)

/-- A block that lies in a world lies below its size. -/
theorem lt_of_at {w : World} {b : Nat} {o : Obj} (h : w.heap[b]? = some o) : b < w.heap.size := (Array.getElem?_eq_some_iff.1 h).1

/-- The cells of a block known whole. -/
theorem cell_at {w : World} {b : Nat} {cs : Array Value} {t : TypeId} {f : Nat × Nat} (h : w.heap[b]? = some (.cells cs t f)) (i : Nat) : w.cell? ⟨b, i, none⟩ = cs[i]? := by
  simp [World.cell?, h]
theorem free_at {w : World} {b : Nat} {cs : Array Value} {t : TypeId} (h : w.heap[b]? = some (.cells cs t (0, 0))) (i : Nat) : w.frozen? ⟨b, i, none⟩ = false := by
  simp [World.frozen?, h]
theorem heap_setCell_at {w : World} {b : Nat} {cs : Array Value} {t : TypeId} {f : Nat × Nat} (h : w.heap[b]? = some (.cells cs t f)) (i : Nat) (u : Value) :
    (w.setCell ⟨b, i, none⟩ u).heap[b]? = some (.cells (cs.setIfInBounds i u) t f) := by
  simp [World.setCell, Array.getElem?_modify, h]
theorem heap_alloc_here (w : World) (o : Obj) : (w.alloc o).heap[w.heap.size]? = some o := heap_alloc_new w o

theorem heap_alloc_here1 (w : World) (o1 o2 : Obj) : ((w.alloc o1).alloc o2).heap[w.heap.size + 1]? = some o2 := by
  have := heap_alloc_here (w.alloc o1) o2
  rwa [World.size_alloc] at this
/-- Three stores into one block. -/
theorem Turns.set3 (w : World) (b : Nat) (x y z : Value) : Turns [b] w (((w.setCell ⟨b, 0, none⟩ x).setCell ⟨b, 1, none⟩ y).setCell ⟨b, 2, none⟩ z) :=
  ((Turns.setCell w _ _ (by simp)).trans (Turns.setCell _ _ _ (by simp))).trans (Turns.setCell _ _ _ (by simp))

/-- What an owned row's value is. -/
theorem own_lt {w : World} {base : Nat} {e : TypeId} {size : Nat} {v : Value} {n : Nat} {xs : List Value} (h : w.ownsRow base e size v n xs) : ∀ k ∈ v.ownBlock.toList, k < w.heap.size := by
  intro k hk
  exact (h.lt k (by simpa using hk)).2
theorem own_kept {S : List Nat} {w w' : World} {base : Nat} {e : TypeId} {size : Nat} {v : Value} {n : Nat} {xs : List Value} (h : w.ownsRow base e size v n xs) (ht : Turns S w w')
    (hd : ∀ k ∈ v.ownBlock.toList, k ∉ S) : w'.ownsRow base e size v n xs := by
  refine ⟨h.1, ?_⟩
  rcases h.2 with hn | ⟨g, cap, cur, rfl, hb, hg, r⟩
  · exact .inl hn
  · exact .inr ⟨g, cap, cur, rfl, hb, by rw [ht.block g (lt_of_at hg) (hd g (by simp [Value.ownBlock]))]; exact hg, r⟩
/-- An owned row is a block of its element type: it is no block of another type. -/
theorem own_ne {w : World} {base : Nat} {e : TypeId} {size : Nat} {v : Value} {n : Nat} {xs : List Value} (h : w.ownsRow base e size v n xs) {b : Nat} {cs : Array Value} {t : TypeId} {f : Nat × Nat}
    (hb : w.heap[b]? = some (.cells cs t f)) (hne : e ≠ t) : b ∉ v.ownBlock.toList := by
  intro hk
  rcases h.2 with ⟨rfl, _⟩ | ⟨g, cap, cur, rfl, _, hg, _⟩
  · simp [Value.ownBlock] at hk
  · simp [Value.ownBlock] at hk
    subst hk
    rw [hb] at hg
    simp at hg
    exact hne hg.2.1.symm

theorem own_shape {w : World} {base : Nat} {e : TypeId} {size : Nat} {v : Value} {n : Nat} {xs : List Value} (h : w.ownsRow base e size v n xs) : ∃ a c, v = .slice a n c ∧ n ≤ c ∧ c ≤ maxLen := by
  rcases h.2 with ⟨rfl, rfl⟩ | ⟨g, cap, cur, rfl, hb, hg, h1, h2, r⟩
  · exact ⟨none, 0, rfl, Nat.le_refl _, Nat.zero_le _⟩
  · exact ⟨_, cap, rfl, h1, h2⟩

/-! A packet: three cells. -/
structure Pkt where
  src : Int
  dst : Int
  body : ByteArray
def Pkt.cells (p : Pkt) : List Value := [.int .i64 p.src, .int .i64 p.dst, .string p.body]
def pktCells (l : List Pkt) : List Value := l.flatMap Pkt.cells
theorem pktCells_length (l : List Pkt) : (pktCells l).length = l.length * 3 := by
  induction l with
  | nil => rfl
  | cons a l ih => simp only [pktCells, List.flatMap_cons, List.length_append] at *; rw [ih]; simp [Pkt.cells]; omega
theorem pktCells_append (a b : List Pkt) : pktCells (a ++ b) = pktCells a ++ pktCells b := by simp [pktCells]

/-- A struct of a slice of packets and a number, behind a pointer to block b (of type T): it holds the list l and the number s; FP: the blocks that are its own. -/
def NetObj (T : TypeId) (w : World) (b : Nat) (FP : List Nat) (l : List Pkt) (s : Int) : Prop :=
  ∃ v, w.heap[b]? = some (.cells #[v, .int .i64 s] T (0, 0)) ∧ w.ownsRow 0 34 3 v l.length (pktCells l) ∧ FP = b :: v.ownBlock.toList

/-- An object has been changed: its own blocks alone were written, and its new blocks are its old ones or new ones. -/
def Evolves (FP FP' : List Nat) (w w' : World) : Prop := Turns FP w w' ∧ ∀ x ∈ FP', x ∈ FP ∨ w.heap.size ≤ x

theorem NetObj.lt {T : TypeId} {w : World} {b : Nat} {FP : List Nat} {l : List Pkt} {s : Int} (h : NetObj T w b FP l s) : ∀ x ∈ FP, x < w.heap.size := by
  obtain ⟨v, hb, ho, rfl⟩ := h
  intro x hx
  rcases List.mem_cons.1 hx with rfl | hx
  · exact lt_of_at hb
  · exact own_lt ho x hx
theorem NetObj.kept {T : TypeId} {w w' : World} {b : Nat} {FP S : List Nat} {l : List Pkt} {s : Int} (h : NetObj T w b FP l s) (ht : Turns S w w') (hd : ∀ x ∈ FP, x ∉ S) : NetObj T w' b FP l s := by
  obtain ⟨v, hb, ho, rfl⟩ := h
  exact ⟨v, by rw [ht.block b (lt_of_at hb) (hd b (by simp))]; exact hb, own_kept ho ht (fun k hk => hd k (by simp [hk])), rfl⟩

theorem new_cells (w : World) (cs : Array Value) (t : TypeId) (l : List Value) (hl : cs.toList = l) : ∀ j u, l[j]? = some u → (w.alloc (.cells cs t)).cell? ((⟨w.heap.size, 0, none⟩ : Addr).add j) = some u := by
  intro j u hu
  have e : ((⟨w.heap.size, 0, none⟩ : Addr).add j) = ⟨w.heap.size, j, none⟩ := by unfold Addr.add; split <;> simp_all
  rw [e, cell_at (heap_alloc_here w _)]
  subst hl
  simpa using hu
/-- The same behind draws. -/
theorem new_cells_drewN (w : World) (n : Nat) (cs : Array Value) (t : TypeId) (l : List Value) (hl : cs.toList = l) : ∀ j u, l[j]? = some u → ((w.drewN n).alloc (.cells cs t)).cell? ((⟨w.heap.size, 0, none⟩ : Addr).add j) = some u :=
  new_cells (w.drewN n) cs t l hl
theorem pkt_oneCell (p : Pkt) : ∀ u ∈ p.cells, u.oneCell' = true := by
  intro u hu
  simp [Pkt.cells] at hu
  rcases hu with rfl | rfl | rfl <;> rfl
theorem pkts_oneCell (l : List Pkt) : ∀ u ∈ pktCells l, u.oneCell' = true := by
  intro u hu
  obtain ⟨p, _, hp⟩ := List.mem_flatMap.1 hu
  exact pkt_oneCell p u hp

/-- A callee that leaves the world alone, met inside a quiet region. -/
theorem quiet_id {P : Program} {f : FuncId} {args : Array Value} {w : World} {n : Nat} {v : Value}
    (h : Calls P f args (w.drewN n) fun e w' => e = .returned v ∧ w.drewN n = w') : Calls P f args (w.drewN n) fun e w'' => e = .returned v ∧ ∃ m, w'' = w.drewN m :=
  h.mono fun _ _ ⟨he, hm⟩ => ⟨he, n, hm.symm⟩

end Go.Proofs.YtdcgdnlpagadcaaDoorMem

/- Plain: several things that lie apart in memory, each with its own blocks, all made since a first world. No program in sight. -/
namespace Go.Proofs.YtdcgdnlpagadcaaDoorMem
open Go Go.RowKit

/-- A thing: what it says of a world and of the blocks that are its own; it is kept where those blocks are kept. -/
structure Thing where
  holds : World → List Nat → Prop
  lt : ∀ w FP, holds w FP → ∀ x ∈ FP, x < w.heap.size
  kept : ∀ w w' FP S, holds w FP → Turns S w w' → (∀ x ∈ FP, x ∉ S) → holds w' FP

def SepF (w0 w : World) : List Thing → List Nat → Prop
  | [], G => G = [] ∧ Turns [] w0 w
  | t :: ts, G => ∃ FP G', G = FP ++ G' ∧ t.holds w FP ∧ (∀ x ∈ FP, w0.heap.size ≤ x ∧ x ∉ G') ∧ SepF w0 w ts G'

/-- The things lie apart, in blocks made since w0; the old blocks are as they were. -/
def Sep (w0 w : World) (ts : List Thing) : Prop := ∃ G, SepF w0 w ts G

theorem SepF.turns {w0 w : World} : ∀ {ts : List Thing} {G : List Nat}, SepF w0 w ts G → Turns [] w0 w
  | [], _, h => h.2
  | _ :: _, _, ⟨_, _, _, _, _, h⟩ => h.turns
theorem SepF.lt {w0 w : World} : ∀ {ts : List Thing} {G : List Nat}, SepF w0 w ts G → ∀ x ∈ G, w0.heap.size ≤ x ∧ x < w.heap.size
  | [], _, h => by rw [h.1]; simp
  | t :: ts, G, ⟨FP, G', e, ht, hx, h⟩ => by
    subst e
    intro x hm
    rcases List.mem_append.1 hm with hm | hm
    · exact ⟨(hx x hm).1, t.lt _ _ ht x hm⟩
    · exact h.lt x hm
/-- Blocks S of none of the things may be turned, if they are new since w0. -/
theorem SepF.kept {w0 w w' : World} {S : List Nat} (ht : Turns S w w') (hS : ∀ x ∈ S, w0.heap.size ≤ x) : ∀ {ts : List Thing} {G : List Nat}, SepF w0 w ts G → (∀ x ∈ G, x ∉ S) → SepF w0 w' ts G
  | [], _, h, _ => ⟨h.1, h.2.trans_new ht (fun x hx => Or.inr (hS x hx))⟩
  | t :: ts, G, ⟨FP, G', e, hh, hx, h⟩, hd => by
    subst e
    exact ⟨FP, G', rfl, t.kept _ _ _ _ hh ht (fun x hm => hd x (by simp [hm])), hx, h.kept ht hS (fun x hm => hd x (by simp [hm]))⟩

theorem Sep.turns {w0 w : World} {ts : List Thing} (h : Sep w0 w ts) : Turns [] w0 w := h.elim fun _ h => h.turns
theorem Sep.below {w0 w : World} {ts : List Thing} (h : Sep w0 w ts) : Below w0.heap.size w0 w := h.turns.below (Nat.le_refl _) (by simp)
theorem Sep.start (w : World) : Sep w w [] := ⟨[], rfl, Turns.refl _ _⟩
theorem Sep.quiet {w0 w w' : World} {ts : List Thing} (h : Sep w0 w ts) (ht : Turns [] w w') : Sep w0 w' ts := h.elim fun G h => ⟨G, h.kept ht (by simp) (by simp)⟩
theorem Sep.add {w0 w w' : World} {ts : List Thing} {t : Thing} {FP : List Nat} (h : Sep w0 w ts) (ht : Turns [] w w') (hh : t.holds w' FP) (hFP : ∀ x ∈ FP, w.heap.size ≤ x) : Sep w0 w' (t :: ts) := by
  obtain ⟨G, h⟩ := h
  refine ⟨FP ++ G, FP, G, rfl, hh, fun x hx => ⟨Nat.le_trans h.turns.size (hFP x hx), fun hG => ?_⟩, h.kept ht (by simp) (by simp)⟩
  have := (h.lt x hG).2
  have := hFP x hx
  omega
theorem Sep.drop {w0 w : World} {ts : List Thing} {t : Thing} (h : Sep w0 w (t :: ts)) : Sep w0 w ts := by
  obtain ⟨_, _, G', _, _, _, h⟩ := h
  exact ⟨G', h⟩

theorem SepF.pick {w0 w : World} (t : Thing) (post : List Thing) : ∀ (pre : List Thing) (G : List Nat), SepF w0 w (pre ++ t :: post) G →
    ∃ FP, t.holds w FP ∧ (∀ x ∈ FP, x ∈ G) ∧ ∀ w' FP', Evolves FP FP' w w' → ∀ t' : Thing, t'.holds w' FP' → ∃ G', SepF w0 w' (pre ++ t' :: post) G' ∧ ∀ x ∈ G', x ∈ G ∨ w.heap.size ≤ x := by
  intro pre
  induction pre with
  | nil =>
    intro G h
    have h' := h
    obtain ⟨FP, G', rfl, hh, hx, h⟩ := h
    refine ⟨FP, hh, fun x hx => by simp [hx], fun w' FP' hev t' ht' => ⟨FP' ++ G', ⟨FP', G', rfl, ht', fun x hx' => ?_, h.kept hev.1 (fun x hm => (hx x hm).1) (fun x hm hF => (hx x hF).2 hm)⟩, fun x hm => ?_⟩⟩
    · rcases hev.2 x hx' with h1 | h1
      · exact hx x h1
      · exact ⟨Nat.le_trans h'.turns.size h1, fun hG => by have := (h.lt x hG).2; omega⟩
    · rcases List.mem_append.1 hm with hm | hm
      · rcases hev.2 x hm with h1 | h1
        · exact Or.inl (by simp [h1])
        · exact Or.inr h1
      · exact Or.inl (by simp [hm])
  | cons a pre ih =>
    intro G h
    obtain ⟨FPa, Ga, rfl, hh, hx, h⟩ := h
    obtain ⟨FP, hF, hin, step⟩ := ih Ga h
    refine ⟨FP, hF, fun x hx => by simp [hin x hx], fun w' FP' hev t' ht' => ?_⟩
    obtain ⟨G', hs, hG'⟩ := step w' FP' hev t' ht'
    refine ⟨FPa ++ G', ⟨FPa, G', rfl, a.kept _ _ _ _ hh hev.1 (fun x hm hF => (hx x hm).2 (hin x hF)), fun x hm => ⟨(hx x hm).1, fun hG => ?_⟩, hs⟩, fun x hm => ?_⟩
    · rcases hG' x hG with h1 | h1
      · exact (hx x hm).2 h1
      · have := a.lt _ _ hh x hm; omega
    · rcases List.mem_append.1 hm with hm | hm
      · exact Or.inl (by simp [hm])
      · rcases hG' x hm with h1 | h1
        · exact Or.inl (by simp [h1])
        · exact Or.inr h1

/-- One of the things is taken out, changed, and put back. -/
theorem Sep.pick {w0 w : World} (pre : List Thing) (t : Thing) (post : List Thing) (h : Sep w0 w (pre ++ t :: post)) :
    ∃ FP, t.holds w FP ∧ (∀ x ∈ FP, w0.heap.size ≤ x) ∧ ∀ w' FP' t', Evolves FP FP' w w' → t'.holds w' FP' → Sep w0 w' (pre ++ t' :: post) := by
  obtain ⟨G, h⟩ := h
  obtain ⟨FP, h1, h2, h3⟩ := h.pick t post pre G
  exact ⟨FP, h1, fun x hx => (h.lt x (h2 x hx)).1, fun w' FP' t' hev ht' => by obtain ⟨G', hs, _⟩ := h3 w' FP' hev t' ht'; exact ⟨G', hs⟩⟩

theorem Evolves.of_same {FP : List Nat} {w w' : World} (h : Turns FP w w') : Evolves FP FP w w' := ⟨h, fun _ hx => Or.inl hx⟩

/-- A net's struct as a thing. -/
def netThing (T : TypeId) (b : Nat) (l : List Pkt) (s : Int) : Thing :=
  ⟨fun w FP => NetObj T w b FP l s, fun _ _ h => h.lt, fun _ _ _ _ h ht hd => h.kept ht hd⟩
/-- An owned slice of packets as a thing. -/
def pktThing (v : Value) (l : List Pkt) : Thing :=
  ⟨fun w FP => w.ownsRow 0 34 3 v l.length (pktCells l) ∧ FP = v.ownBlock.toList,
    fun _ _ h x hx => by obtain ⟨h, rfl⟩ := h; exact own_lt h x hx, fun _ _ _ _ h ht hd => by obtain ⟨h, rfl⟩ := h; exact ⟨own_kept h ht hd, rfl⟩⟩

/-- A block known whole. -/
def blockThing (b : Nat) (o : Obj) : Thing :=
  ⟨fun w FP => w.heap[b]? = some o ∧ FP = [b], fun _ _ h x hx => by obtain ⟨h, rfl⟩ := h; simp at hx; subst hx; exact lt_of_at h,
    fun _ _ _ _ h ht hd => by obtain ⟨h, rfl⟩ := h; exact ⟨by rw [ht.block _ (lt_of_at h) (hd _ (by simp))]; exact h, rfl⟩⟩
theorem Sep.alloc {w0 w : World} {ts : List Thing} (h : Sep w0 w ts) (o : Obj) : Sep w0 (w.alloc o) (blockThing w.heap.size o :: ts) :=
  h.add (t := blockThing w.heap.size o) (FP := [w.heap.size]) (Turns.alloc _ _ _) ⟨heap_alloc_here _ _, rfl⟩ (by simp)
theorem Sep.block {w0 w : World} {b : Nat} {o : Obj} (pre post : List Thing) (h : Sep w0 w (pre ++ blockThing b o :: post)) : w.heap[b]? = some o := by
  obtain ⟨FP, hF, _⟩ := h.pick pre _ post
  exact hF.1

/-- A block whose content no longer matters. -/
def junkThing (b : Nat) : Thing :=
  ⟨fun w FP => b < w.heap.size ∧ FP = [b], fun _ _ h x hx => by obtain ⟨h, rfl⟩ := h; simp at hx; subst hx; exact h,
    fun _ _ _ _ h ht _ => ⟨Nat.lt_of_lt_of_le h.1 ht.size, h.2⟩⟩
theorem Sep.set3_drop {w0 w : World} {ts : List Thing} {b : Nat} {o : Obj} (h : Sep w0 w (blockThing b o :: ts)) (x y z : Value) :
    Sep w0 (((w.setCell ⟨b, 0, none⟩ x).setCell ⟨b, 1, none⟩ y).setCell ⟨b, 2, none⟩ z) ts := by
  obtain ⟨FP, hF, _, step⟩ := h.pick [] _ ts
  obtain ⟨hb, rfl⟩ := hF
  exact (step _ _ (junkThing b) (Evolves.of_same (Turns.set3 _ _ _ _ _)) ⟨Nat.lt_of_lt_of_le (lt_of_at hb) (Turns.set3 _ _ _ _ _).size, rfl⟩).drop

end Go.Proofs.YtdcgdnlpagadcaaDoorMem

/- Plain laws on a row known whole (a block of cells that is not frozen): append within the capacity and clear, as writes of the whole row. Over any program. -/
namespace Go.Proofs.YtdcgdnlpagadcaaDoorMem
open Go Go.RowKit

/-- append where there is room, onto a slice that begins at the head of its row: one step of a region that draws. -/
theorem step_append_row {P : Program} {ops : Array Oper} {o : Oper} {a : Act} {w : World} {K : Act → World → Prop} {Q : Exit → Act → World → Prop} {E : Prop}
    (hg : o.guard = none) (s x : Operand) (t : TypeId) (hop : o.op = Op.call { callee := Callee.builtin Builtin.append, args := #[s, x], argTypes := #[t, t] })
    (e : TypeId) (i : TypeInfo) (size : Nat) (h1 : P.underlying t = some (.slice e)) (h2 : P.info? e = some i) (h4 : i.size = size)
    (g n cap : Nat) (cur : Array Value) (hcur : w.heap[g]? = some (.cells cur e (0, 0))) (hs : a.eval s = .slice (some ⟨g, 0, none⟩) n cap)
    (ad : Addr) (m c : Nat) (news : List Value) (hx : a.eval x = .slice (some ad) m c) (hn : news.length = m * size) (hc : ∀ j u, news[j]? = some u → w.cell? (ad.add j) = some u) (h1c : ∀ u ∈ news, u.oneCell' = true)
    (hroom : n + m ≤ cap) (hfit : n * size + news.length ≤ cur.size)
    (hK : K (a.put o.dst (.slice (some ⟨g, 0, none⟩) (n + m) cap)) (w.setRow g (cur.toList.take (n * size) ++ news ++ cur.toList.drop (n * size + news.length)).toArray)) :
    if Region.wanted o (yielded ops a.tmps) = true then Oper.wp P o a w K Q else E := by
  have hw : Region.wanted o (yielded ops a.tmps) = true := by simp [Region.wanted, hg]
  rw [if_pos hw]
  subst h4
  have hrun := run_append_room (P := P) w t o.type e i h1 h2 g n cap cur hcur ad m c news hn hc h1c hroom hfit
  unfold Oper.wp
  rw [List.append_assoc] at hK hrun
  simp [execOp, hop, resolve, invoke, builtin, hs, hx, hrun, Result.andThen]
  exact hK

/-- append onto a slice that the call owns: one step of a region that draws. -/
theorem step_append_own {P : Program} {ops : Array Oper} {o : Oper} {a : Act} {w : World} {K : Act → World → Prop} {Q : Exit → Act → World → Prop} {E : Prop}
    (hg : o.guard = none) (s x : Operand) (t : TypeId) (hop : o.op = Op.call { callee := Callee.builtin Builtin.append, args := #[s, x], argTypes := #[t, t] })
    (e : TypeId) (i : TypeInfo) (z : Value) (size bytes : Nat) (ht : P.underlying t = some (.slice e)) (hi : P.info? e = some i) (hz : i.zero = some z)
    (hsize : i.size = size) (hby : i.bytes = bytes) (hzs : z.cells.size = size) (hsz : 0 < size)
    (v : Value) (n : Nat) (xs : List Value) (hs : a.eval s = v) (hown : w.ownsRow 0 e size v n xs)
    (ad : Addr) (m c : Nat) (news : List Value) (hx : a.eval x = .slice (some ad) m c) (hl : news.length = m * size) (hnews : ∀ j u, news[j]? = some u → w.cell? (ad.add j) = some u) (h1 : ∀ u ∈ news, u.oneCell' = true)
    (h63 : n + m ≤ maxLen) (hbytes : (n + m) * bytes ≤ 140737488355328)
    (hK : ∀ v' w', w'.ownsRow 0 e size v' (n + m) (xs ++ news) → w.grownBy w' v.ownBlock → (v'.ownBlock = v.ownBlock ∨ v'.ownBlock = some w.heap.size) → K (a.put o.dst v') w') :
    if Region.wanted o (yielded ops a.tmps) = true then Oper.wp P o a w K Q else E := by
  have hw : Region.wanted o (yielded ops a.tmps) = true := by simp [Region.wanted, hg]
  rw [if_pos hw]
  obtain ⟨v', w', hr, h2, h3, _, h5⟩ := run_append_own_at (P := P) w 0 t o.type e i z size bytes ht hi hz hsize hby hzs hsz v n xs hown ad m c news hl hnews h1 h63 hbytes (Nat.zero_le _)
  unfold Oper.wp
  simp [execOp, hop, resolve, invoke, builtin, hs, hx, hr, Result.andThen]
  exact hK _ _ h2 h3 h5

/-- What an append takes from: a nil slice, or a slice whose cells are known. -/
def SrcAt (w : World) (u : Value) (m : Nat) (news : List Value) : Prop :=
  (u = .slice none 0 0 ∧ m = 0 ∧ news = []) ∨ ∃ ad c, u = .slice (some ad) m c ∧ ∀ j x, news[j]? = some x → w.cell? (ad.add j) = some x
theorem SrcAt.of_own {w w' : World} {base : Nat} {e : TypeId} {size : Nat} {v : Value} {n : Nat} {xs : List Value} (h : w.ownsRow base e size v n xs) (hw : ∀ k ∈ v.ownBlock.toList, w'.heap[k]? = w.heap[k]?) : SrcAt w' v n xs := by
  rcases id h.2 with ⟨rfl, rfl⟩ | ⟨g, cap, cur, rfl, _⟩
  · exact .inl ⟨rfl, rfl, List.eq_nil_of_length_eq_zero (by simpa using h.1)⟩
  · refine .inr ⟨⟨g, 0, none⟩, cap, rfl, fun j x hx => ?_⟩
    have hb : ((⟨g, 0, none⟩ : Addr).add j).block = g := by unfold Addr.add; split <;> rfl
    rw [World.cell?_of_block (w := w) (w' := w') (by rw [hb]; exact hw g (by simp [Value.ownBlock]))]
    exact h.cells (g := g) rfl j x hx

theorem run_append_src {P : Program} (w : World) (t ty e : TypeId) (i : TypeInfo) (z : Value) (size bytes : Nat) (ht : P.underlying t = some (.slice e)) (hi : P.info? e = some i) (hz : i.zero = some z)
    (hsize : i.size = size) (hby : i.bytes = bytes) (hzs : z.cells.size = size) (hsz : 0 < size)
    (v : Value) (n : Nat) (xs : List Value) (hown : w.ownsRow 0 e size v n xs)
    (u : Value) (m : Nat) (news : List Value) (hsrc : SrcAt w u m news) (hl : news.length = m * size) (h1 : ∀ u ∈ news, u.oneCell' = true)
    (h63 : n + m ≤ maxLen) (hbytes : (n + m) * bytes ≤ 140737488355328) :
    ∃ v' w', (Builtin.append_ #[t, t] ty #[v, u]).run P w = .ok v' w' ∧ w'.ownsRow 0 e size v' (n + m) (xs ++ news) ∧ w.grownBy w' v.ownBlock ∧ (v'.ownBlock = v.ownBlock ∨ v'.ownBlock = some w.heap.size) := by
  rcases hsrc with ⟨rfl, rfl, rfl⟩ | ⟨ad, c, rfl, hc⟩
  · exact ⟨v, w, run_append_owned_none (P := P) (w := w) 0 t ty e i size ht hi v n xs hown, by simpa using hown, World.grownBy.refl _ _, Or.inl rfl⟩
  · obtain ⟨v', w', hr, h2, h3, _, h5⟩ := run_append_own_at (P := P) w 0 t ty e i z size bytes ht hi hz hsize hby hzs hsz v n xs hown ad m c news hl hc h1 h63 hbytes (Nat.zero_le _)
    exact ⟨v', w', hr, h2, h3, h5⟩

theorem wpList_append_src {P : Program} (w : World) {ops : Array Oper} {rest : List Oper} {o : Oper} {a : Act} {Q : Exit → Act → World → Prop} (hgd : o.guard = none) (s x : Operand) (t : TypeId)
    (ho : o.op = .call { callee := .builtin .append, args := #[s, x], argTypes := #[t, t] })
    (e : TypeId) (i : TypeInfo) (z : Value) (size bytes : Nat) (ht : P.underlying t = some (.slice e)) (hi : P.info? e = some i) (hz : i.zero = some z)
    (hsize : i.size = size) (hby : i.bytes = bytes) (hzs : z.cells.size = size) (hsz : 0 < size)
    (v : Value) (n : Nat) (xs : List Value) (hs : a.eval s = v) (hown : w.ownsRow 0 e size v n xs)
    (u : Value) (m : Nat) (news : List Value) (hx : a.eval x = u) (hsrc : SrcAt w u m news) (hl : news.length = m * size) (h1 : ∀ u ∈ news, u.oneCell' = true)
    (h63 : n + m ≤ maxLen) (hbytes : (n + m) * bytes ≤ 140737488355328)
    (h : ∀ v' w', w'.ownsRow 0 e size v' (n + m) (xs ++ news) → w.grownBy w' v.ownBlock → (v'.ownBlock = v.ownBlock ∨ v'.ownBlock = some w.heap.size) → wpList P ops Q rest (a.put o.dst v') w') :
    wpList P ops Q (o :: rest) a w := by
  refine wpList_plain hgd fun K hK => ?_
  obtain ⟨v', w', hr, h2, h3, h5⟩ := run_append_src (P := P) w t o.type e i z size bytes ht hi hz hsize hby hzs hsz v n xs hown u m news hsrc hl h1 h63 hbytes
  unfold Oper.wp execOp
  simp only [ho, resolve, invoke, builtin, Sem.run_bind, Sem.run_pure, Result.andThen_ok, List.map_toArray, List.map_cons, List.map_nil, hs, hx, hr]
  exact hK _ _ (h v' w' h2 h3 h5)

/-- clear(s[o:..]) on a row known whole. -/
theorem run_clear_row {P : Program} (w : World) (t e ty : TypeId) (z : Value) (ht : P.underlying t = some (.slice e)) (hv : ∀ w, (zeroValue e).run P w = .ok z w)
    (g o n c : Nat) (cur : Array Value) (e' : TypeId) (hcur : w.heap[g]? = some (.cells cur e' (0, 0))) (hn : 0 < n)
    (h1 : ∀ u ∈ (Builtin.zeroCells z.cells n).toList, u.oneCell' = true) (hfit : o + (Builtin.zeroCells z.cells n).toList.length ≤ cur.size) :
    (Builtin.clear_ #[t] ty #[.slice (some ⟨g, o, none⟩) n c]).run P w =
      .ok (.tuple #[]) (w.setRow g (cur.toList.take o ++ (Builtin.zeroCells z.cells n).toList ++ cur.toList.drop (o + (Builtin.zeroCells z.cells n).toList.length)).toArray) := by
  have hst := run_storeCells_at P g o e' (Builtin.zeroCells z.cells n).toList 0 cur w hcur (by simpa using hfit) h1
  simp only [Nat.add_zero] at hst
  obtain ⟨m, rfl⟩ : ∃ m, n = m + 1 := ⟨n - 1, by omega⟩
  simp only [Builtin.clear_]
  simp [run_underlying ht, hv, hst]

theorem Turns.setRow {S : List Nat} (w : World) (g : Nat) (cs : Array Value) (h : g ∈ S) : Turns S w (w.setRow g cs) :=
  ⟨rfl, rfl, rfl, by simp, fun k _ hS => setRow_other w g k _ (fun e => hS (e ▸ h))⟩

end Go.Proofs.YtdcgdnlpagadcaaDoorMem

/- Plain lemmas on the low bits of a number. -/
namespace Go.Proofs.YtdcgdnlpagadcaaDoorMem
open Go
theorem and1 (n : Int) : bits .and .i64 n 1 = n % 2 := by
  have h127 : (BitVec.ofInt 64 1).toNat = 2 ^ 1 - 1 := by decide
  have key : (BitVec.ofInt 64 n &&& BitVec.ofInt 64 1).toNat = (n % ((2 ^ 64 : Nat) : Int)).toNat % 2 ^ 1 := by
    rw [BitVec.toNat_and, BitVec.toNat_ofInt, h127, Nat.and_two_pow_sub_one_eq_mod]
  show IntKind.i64.wrap ((BitVec.ofInt 64 n &&& BitVec.ofInt 64 1).toNat : Nat) = n % 2
  rw [key, IntKind.wrap_i64]
  omega
theorem and3 (n : Int) : bits .and .i64 n 3 = n % 4 := by
  have h127 : (BitVec.ofInt 64 3).toNat = 2 ^ 2 - 1 := by decide
  have key : (BitVec.ofInt 64 n &&& BitVec.ofInt 64 3).toNat = (n % ((2 ^ 64 : Nat) : Int)).toNat % 2 ^ 2 := by
    rw [BitVec.toNat_and, BitVec.toNat_ofInt, h127, Nat.and_two_pow_sub_one_eq_mod]
  show IntKind.i64.wrap ((BitVec.ofInt 64 n &&& BitVec.ofInt 64 3).toNat : Nat) = n % 4
  rw [key, IntKind.wrap_i64]
  omega
theorem and7 (n : Int) : bits .and .i64 n 7 = n % 8 := by
  have h127 : (BitVec.ofInt 64 7).toNat = 2 ^ 3 - 1 := by decide
  have key : (BitVec.ofInt 64 n &&& BitVec.ofInt 64 7).toNat = (n % ((2 ^ 64 : Nat) : Int)).toNat % 2 ^ 3 := by
    rw [BitVec.toNat_and, BitVec.toNat_ofInt, h127, Nat.and_two_pow_sub_one_eq_mod]
  show IntKind.i64.wrap ((BitVec.ofInt 64 n &&& BitVec.ofInt 64 7).toNat : Nat) = n % 8
  rw [key, IntKind.wrap_i64]
  omega
theorem and15 (n : Int) : bits .and .i64 n 15 = n % 16 := by
  have h127 : (BitVec.ofInt 64 15).toNat = 2 ^ 4 - 1 := by decide
  have key : (BitVec.ofInt 64 n &&& BitVec.ofInt 64 15).toNat = (n % ((2 ^ 64 : Nat) : Int)).toNat % 2 ^ 4 := by
    rw [BitVec.toNat_and, BitVec.toNat_ofInt, h127, Nat.and_two_pow_sub_one_eq_mod]
  show IntKind.i64.wrap ((BitVec.ofInt 64 n &&& BitVec.ofInt 64 15).toNat : Nat) = n % 16
  rw [key, IntKind.wrap_i64]
  omega
theorem and65535 (n : Int) : bits .and .i64 n 65535 = n % 65536 := by
  have h127 : (BitVec.ofInt 64 65535).toNat = 2 ^ 16 - 1 := by decide
  have key : (BitVec.ofInt 64 n &&& BitVec.ofInt 64 65535).toNat = (n % ((2 ^ 64 : Nat) : Int)).toNat % 2 ^ 16 := by
    rw [BitVec.toNat_and, BitVec.toNat_ofInt, h127, Nat.and_two_pow_sub_one_eq_mod]
  show IntKind.i64.wrap ((BitVec.ofInt 64 n &&& BitVec.ofInt 64 65535).toNat : Nat) = n % 65536
  rw [key, IntKind.wrap_i64]
  omega
end Go.Proofs.YtdcgdnlpagadcaaDoorMem

/- What the disk's texts need of the texts about net. -/
namespace Go.Proofs.YtdcgdnlpagadcaaDoor
open Go.RowKit Go.Proofs.YtdcgdnlpagadcaaDoorMem Go.Deep

theorem own_base {w : World} {base base' : Nat} {e : TypeId} {size : Nat} {v : Value} {n : Nat} {xs : List Value} (h : w.ownsRow base e size v n xs) (hb : base' ≤ base) : w.ownsRow base' e size v n xs := by
  refine ⟨h.1, ?_⟩
  rcases h.2 with hn | ⟨g, cap, cur, rfl, hg, r⟩
  · exact .inl hn
  · exact .inr ⟨g, cap, cur, rfl, Nat.le_trans hb hg, r⟩

theorem notIn_of_lt {FP : List Nat} {n : Nat} (h : ∀ x ∈ FP, x < n) : n ∉ FP := fun hx => Nat.lt_irrefl _ (h n hx)
/-- append onto a slice that the call owns, from nil or a known slice: one step of a region that draws. -/
theorem step_append_src {P : Program} {ops : Array Oper} {o : Oper} {a : Act} {w : World} {K : Act → World → Prop} {Q : Exit → Act → World → Prop} {E : Prop}
    (hg : o.guard = none) (s x : Operand) (t : TypeId) (hop : o.op = Op.call { callee := Callee.builtin Builtin.append, args := #[s, x], argTypes := #[t, t] })
    (e : TypeId) (i : TypeInfo) (z : Value) (size bytes : Nat) (ht : P.underlying t = some (.slice e)) (hi : P.info? e = some i) (hz : i.zero = some z)
    (hsize : i.size = size) (hby : i.bytes = bytes) (hzs : z.cells.size = size) (hsz : 0 < size)
    (v : Value) (n : Nat) (xs : List Value) (hs : a.eval s = v) (hown : w.ownsRow 0 e size v n xs)
    (u : Value) (m : Nat) (news : List Value) (hx : a.eval x = u) (hsrc : SrcAt w u m news) (hl : news.length = m * size) (h1 : ∀ u ∈ news, u.oneCell' = true)
    (h63 : n + m ≤ maxLen) (hbytes : (n + m) * bytes ≤ 140737488355328)
    (hK : ∀ v' w', w'.ownsRow 0 e size v' (n + m) (xs ++ news) → w.grownBy w' v.ownBlock → (v'.ownBlock = v.ownBlock ∨ v'.ownBlock = some w.heap.size) → K (a.put o.dst v') w') :
    if Region.wanted o (yielded ops a.tmps) = true then Oper.wp P o a w K Q else E := by
  have hw : Region.wanted o (yielded ops a.tmps) = true := by simp [Region.wanted, hg]
  rw [if_pos hw]
  obtain ⟨v', w', hr, h2, h3, h5⟩ := run_append_src (P := P) w t o.type e i z size bytes ht hi hz hsize hby hzs hsz v n xs hown u m news hsrc hl h1 h63 hbytes
  unfold Oper.wp
  simp [execOp, hop, resolve, invoke, builtin, hs, hx, hr, Result.andThen]
  exact hK _ _ h2 h3 h5

theorem own_above {w : World} {B : Nat} {e : TypeId} {size : Nat} {v : Value} {n : Nat} {xs : List Value} (h : w.ownsRow 0 e size v n xs) (hb : ∀ x ∈ v.ownBlock.toList, B ≤ x) : w.ownsRow B e size v n xs := by
  refine ⟨h.1, ?_⟩
  rcases h.2 with hn | ⟨g, cap, cur, rfl, hg, r⟩
  · exact .inl hn
  · exact .inr ⟨g, cap, cur, rfl, hb g (by simp [Value.ownBlock]), r⟩
/-- Numbers lie in memory as a slice's elements. -/
def IntsAt (w : World) (a : Option Addr) (zs : List Int) : Prop :=
  ∀ i (h : i < zs.length), ∃ b off, a = some ⟨b, off, none⟩ ∧ w.cell? ⟨b, off + i, none⟩ = some (.int .i64 zs[i])
theorem IntsAt.below {w w' : World} {a : Option Addr} {zs : List Int} (h : IntsAt w a zs) (hb : Below w.heap.size w w') : IntsAt w' a zs := by
  intro i hi
  obtain ⟨b, off, rfl, h0⟩ := h i hi
  exact ⟨b, off, rfl, (hb.cell (p := ⟨b, off + i, none⟩) (World.block_lt_of_cell? w _ h0)).trans h0⟩

theorem addr_plain {w : World} {x : Addr} {v : Value} (h : w.cell? x = some v) : x = ⟨x.block, x.off, none⟩ := by
  obtain ⟨b, o, s⟩ := x
  cases s with
  | none => rfl
  | some s =>
    simp only [World.cell?] at h
    split at h <;> simp at h

theorem add_plain (b o i : Nat) : (⟨b, o, none⟩ : Addr).add i = ⟨b, o + i, none⟩ := by unfold Addr.add; split <;> simp_all

end Go.Proofs.YtdcgdnlpagadcaaDoor

/- Plain: what the disk computes, on strings of bytes and functions. No program in sight. -/
namespace Go.Proofs.YtdcgdnlpagadcaaDoor

/-- A byte of a string, 0 behind its end. -/
def byteA (s : ByteArray) (i : Nat) : UInt8 := (s.data[i]?).getD 0
theorem byteA_past {s : ByteArray} {i : Nat} (h : s.size ≤ i) : byteA s i = 0 := by
  unfold byteA
  rw [Array.getElem?_eq_none (by exact h)]
  rfl
theorem bytes_ext {s t : ByteArray} (h : s.size = t.size) (h2 : ∀ i, i < s.size → byteA s i = byteA t i) : s = t := by
  apply ByteArray.ext
  apply Array.ext
  · exact h
  · intro i h3 h4
    have := h2 i h3
    unfold byteA at this
    rw [Array.getElem?_eq_getElem h3, Array.getElem?_eq_getElem h4] at this
    simpa using this

/-- put: bytes put into a string, with 0 between. -/
def padded (n : Nat) (s : ByteArray) : List UInt8 := s.data.toList ++ List.replicate (n - s.size) 0
def putRow (n : Nat) (s : ByteArray) (a : Nat) (t : ByteArray) : List UInt8 := (padded n s).take a ++ t.data.toList ++ (padded n s).drop (a + t.size)
def putB (s : ByteArray) (a : Nat) (t : ByteArray) : ByteArray :=
  if t.size = 0 then s else ⟨(putRow (max s.size (a + t.size)) s a t).toArray⟩
theorem padded_length {n : Nat} {s : ByteArray} (h : s.size ≤ n) : (padded n s).length = n := by
  have : s.data.toList.length = s.size := by simp
  simp only [padded, List.length_append, List.length_replicate, this]; omega
theorem putRow_length {n a : Nat} {s t : ByteArray} (h : s.size ≤ n) (ha : a + t.size ≤ n) : (putRow n s a t).length = n := by
  have : t.data.toList.length = t.size := by simp
  simp only [putRow, List.length_append, List.length_take, List.length_drop, padded_length h, this]; omega
theorem padded_at (n : Nat) (s : ByteArray) (i : Nat) : (padded n s)[i]?.getD 0 = byteA s i := by
  have : s.data.toList.length = s.size := by simp
  unfold padded byteA
  by_cases h : i < s.size
  · rw [List.getElem?_append_left (by omega)]; simp
  · rw [List.getElem?_append_right (by omega), Array.getElem?_eq_none (by exact Nat.le_of_not_lt h)]
    rw [List.getElem?_replicate]
    split <;> rfl

theorem putB_size (s : ByteArray) (a : Nat) (t : ByteArray) : (putB s a t).size = if t.size = 0 then s.size else max s.size (a + t.size) := by
  unfold putB
  split
  · rfl
  · show (putRow _ s a t).toArray.size = _
    rw [List.size_toArray, putRow_length (Nat.le_max_left _ _) (Nat.le_max_right _ _)]
theorem putB_at (s : ByteArray) (a : Nat) (t : ByteArray) (i : Nat) : byteA (putB s a t) i = if a ≤ i ∧ i < a + t.size then byteA t (i - a) else byteA s i := by
  unfold putB
  split
  · rw [if_neg (by omega)]
  · rename_i ht
    have hl : t.data.toList.length = t.size := by simp
    have hp : (padded (max s.size (a + t.size)) s).length = max s.size (a + t.size) := padded_length (Nat.le_max_left _ _)
    have e : byteA ⟨(putRow (max s.size (a + t.size)) s a t).toArray⟩ i = (putRow (max s.size (a + t.size)) s a t)[i]?.getD 0 := by simp [byteA]
    rw [e]
    unfold putRow
    by_cases h1 : i < a
    · rw [if_neg (by omega), List.append_assoc, List.getElem?_append_left (by simp only [List.length_take, hp]; omega), List.getElem?_take_of_lt h1, padded_at]
    · by_cases h2 : i < a + t.size
      · rw [if_pos (by omega), List.append_assoc, List.getElem?_append_right (by simp only [List.length_take, hp]; omega), List.getElem?_append_left (by simp only [List.length_take, hp, hl]; omega)]
        simp only [List.length_take, hp]
        rw [show i - min a (max s.size (a + t.size)) = i - a by omega]
        simp [byteA]
      · rw [if_neg (by omega), List.getElem?_append_right (by simp only [List.length_append, List.length_take, hp, hl]; omega)]
        simp only [List.length_append, List.length_take, hp, hl]
        rw [List.getElem?_drop, show a + t.size + (i - (min a (max s.size (a + t.size)) + t.size)) = i by omega, padded_at]

theorem extract_size (s : ByteArray) (a z : Nat) : (s.extract a z).size = min z s.size - a := by
  simp [ByteArray.size_extract]
theorem extract_at (s : ByteArray) (a z i : Nat) : byteA (s.extract a z) i = if a + i < z then byteA s (a + i) else 0 := by
  unfold byteA
  rw [ByteArray.data_extract, Array.getElem?_extract]
  have hs : s.data.size = s.size := rfl
  by_cases h : i < min z s.data.size - a
  · rw [if_pos h, if_pos (by omega)]
  · rw [if_neg h]
    split
    · rw [Array.getElem?_eq_none (by omega)]
    · rfl

structure File where
  now : ByteArray
  last : ByteArray
def noFile : File := ⟨⟨#[]⟩, ⟨#[]⟩⟩
def updF (F : Int → File) (f : Int) (x : File) : Int → File := fun g => if g = f then x else F g
theorem updF_same (F : Int → File) (f : Int) (x : File) : updF F f x f = x := by simp [updF]
theorem updF_other {F : Int → File} {f g : Int} (x : File) (h : g ≠ f) : updF F f x g = F g := by simp [updF, h]

/-- The state of a disk (without the list Keep). -/
structure DS where
  F : Int → File
  Q : List (Int × Int)
  lost : Int
  down : Bool
  armed : Int
def DS.new : DS := ⟨fun _ => noFile, [], 0, false, 0⟩

def mayCode (st : DS) (f : Int) : Int := if st.down then 9 else if f < 0 ∨ 16 ≤ f then 1 else 0
def endsB (st : DS) : Bool := !st.down && st.armed == 1
def endsS (st : DS) : DS := if st.down = true ∨ st.armed = 0 then st else { st with armed := st.armed - 1 }
def readCode (st : DS) (f a z : Int) : Int := if mayCode st f = 0 then (if a < 0 ∨ z < 0 then 1 else 0) else mayCode st f
def readStr (st : DS) (f a z : Int) : ByteArray := if readCode st f a z = 0 then (st.F f).now.extract a.toNat (a.toNat + z.toNat) else ⟨#[]⟩

/-- The sectors that a write makes pending. -/
def addSec (Q : List (Int × Int)) (f n : Int) : List (Int × Int) := if (f, n) ∈ Q then Q else Q ++ [(f, n)]
def addSecs (Q : List (Int × Int)) (f lo : Int) : Nat → List (Int × Int)
  | 0 => Q
  | k + 1 => addSec (addSecs Q f lo k) f (lo + k)
/-- The body of write. -/
def wrCode (st : DS) (f a : Int) (s : ByteArray) : Int :=
  if mayCode st f ≠ 0 then mayCode st f else if a < 0 then 1 else if 16777216 < a ∨ 16777216 - a < (s.size : Int) then 6 else 0
def wrS (st : DS) (f a : Int) (s : ByteArray) : DS :=
  if wrCode st f a s = 0 ∧ 0 < s.size then
    { st with F := updF st.F f { st.F f with now := putB (st.F f).now a.toNat s }, Q := addSecs st.Q f ((a.toNat / 64 : Nat) : Int) ((a.toNat + s.size - 1) / 64 - a.toNat / 64 + 1) }
  else st

/-- Whether the pending sector number i survives. -/
def surv (K : List Int) (i : Nat) : Bool := !K.isEmpty && K[i % K.length]?.getD 0 % 2 == 1
def crashStep (K : List Int) (i : Nat) (F : Int → File) (p : Int × Int) : Int → File :=
  if surv K i = true ∧ p.2 * 64 < ((F p.1).now.size : Int) then
    updF F p.1 ⟨(F p.1).now, putB (F p.1).last (p.2 * 64).toNat ((F p.1).now.extract (p.2 * 64).toNat (min ((p.2 * 64).toNat + 64) (F p.1).now.size))⟩
  else F
def crashTo (K : List Int) (Q : List (Int × Int)) (F : Int → File) : Nat → Int → File
  | 0 => F
  | k + 1 => crashStep K k (crashTo K Q F k) (Q[k]?.getD (0, 0))
def lastF (F : Int → File) : Int → File := fun f => ⟨(F f).last, (F f).last⟩
def crashS (st : DS) (K : List Int) : DS := if st.down then st else ⟨lastF (crashTo K st.Q st.F st.Q.length), [], st.lost, true, 0⟩

def settleS (st : DS) (f : Int) (s : ByteArray) : DS := { st with F := updF st.F f ⟨s, s⟩, Q := st.Q.filter (fun p => p.1 != f) }
/-- A call that may end the machine. -/
def endS (st : DS) (K : List Int) : DS := if endsB st then crashS (endsS st) K else endsS st
def writeCode (st : DS) (f a : Int) (s : ByteArray) : Int := if endsB st then 9 else wrCode (endsS st) f a s
def writeS (st : DS) (K : List Int) (f a : Int) (s : ByteArray) : DS := if endsB st then crashS (wrS (endsS st) f a s) K else wrS (endsS st) f a s
def syncCode (st : DS) (K : List Int) (f : Int) : Int := if mayCode (endS st K) f ≠ 0 then mayCode (endS st K) f else if 0 < st.lost then 10 else 0
def syncS (st : DS) (K : List Int) (f : Int) : DS :=
  let x := endS st K
  if mayCode x f ≠ 0 then x else if 0 < x.lost then { x with lost := x.lost - 1 } else settleS x f (x.F f).now
def truncCode (st : DS) (K : List Int) (f z : Int) : Int := if mayCode (endS st K) f ≠ 0 then mayCode (endS st K) f else if z < 0 ∨ (((endS st K).F f).now.size : Int) < z then 1 else 0
def truncS (st : DS) (K : List Int) (f z : Int) : DS :=
  let x := endS st K
  if mayCode x f ≠ 0 then x else if z < 0 ∨ ((x.F f).now.size : Int) < z then x else settleS x f ((x.F f).now.extract 0 z.toNat)

end Go.Proofs.YtdcgdnlpagadcaaDoor
