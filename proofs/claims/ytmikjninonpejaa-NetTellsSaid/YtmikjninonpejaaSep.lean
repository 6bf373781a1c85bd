/- Plain: several things that lie apart in memory, each with its own blocks, all made since a first world. No program in sight. -/
import Derived.Test.YtmikjninonpejaaMem
namespace Go.Proofs.YtmikjninonpejaaMem
open Go Go.RowKit

/-- A thing: what it says of a world and of the blocks that are its own; it is kept where those blocks are kept. -/
structure Thing where
  holds : World → List Nat → Prop
  lt : ∀ w FP, holds w FP → ∀ x ∈ FP, x < w.heap.size
  kept : ∀ w w' FP S, holds w FP → Turns S w w' → (∀ x ∈ FP, x ∉ S) → holds w' FP

def SepF (w0 w : World) : List Thing → List Nat → Prop
  | [], G => G = [] ∧ Turns [] w0 w
  | t :: ts, G => ∃ FP G', G = FP ++ G' ∧ t.holds w FP ∧ (∀ x ∈ FP, w0.heap.size ≤ x ∧ x ∉ G') ∧ SepF w0 w ts G'

/-- The things lie apart, in blocks made since w0; the old blocks are as they were. -/
def Sep (w0 w : World) (ts : List Thing) : Prop := ∃ G, SepF w0 w ts G

theorem SepF.turns {w0 w : World} : ∀ {ts : List Thing} {G : List Nat}, SepF w0 w ts G → Turns [] w0 w
  | [], _, h => h.2
  | _ :: _, _, ⟨_, _, _, _, _, h⟩ => h.turns
theorem SepF.lt {w0 w : World} : ∀ {ts : List Thing} {G : List Nat}, SepF w0 w ts G → ∀ x ∈ G, w0.heap.size ≤ x ∧ x < w.heap.size
  | [], _, h => by rw [h.1]; simp
  | t :: ts, G, ⟨FP, G', e, ht, hx, h⟩ => by
    subst e
    intro x hm
    rcases List.mem_append.1 hm with hm | hm
    · exact ⟨(hx x hm).1, t.lt _ _ ht x hm⟩
    · exact h.lt x hm
/-- Blocks S of none of the things may be turned, if they are new since w0. -/
theorem SepF.kept {w0 w w' : World} {S : List Nat} (ht : Turns S w w') (hS : ∀ x ∈ S, w0.heap.size ≤ x) : ∀ {ts : List Thing} {G : List Nat}, SepF w0 w ts G → (∀ x ∈ G, x ∉ S) → SepF w0 w' ts G
  | [], _, h, _ => ⟨h.1, h.2.trans_new ht (fun x hx => Or.inr (hS x hx))⟩
  | t :: ts, G, ⟨FP, G', e, hh, hx, h⟩, hd => by
    subst e
    exact ⟨FP, G', rfl, t.kept _ _ _ _ hh ht (fun x hm => hd x (by simp [hm])), hx, h.kept ht hS (fun x hm => hd x (by simp [hm]))⟩

theorem Sep.turns {w0 w : World} {ts : List Thing} (h : Sep w0 w ts) : Turns [] w0 w := h.elim fun _ h => h.turns
theorem Sep.below {w0 w : World} {ts : List Thing} (h : Sep w0 w ts) : Below w0.heap.size w0 w := h.turns.below (Nat.le_refl _) (by simp)
theorem Sep.start (w : World) : Sep w w [] := ⟨[], rfl, Turns.refl _ _⟩
theorem Sep.quiet {w0 w w' : World} {ts : List Thing} (h : Sep w0 w ts) (ht : Turns [] w w') : Sep w0 w' ts := h.elim fun G h => ⟨G, h.kept ht (by simp) (by simp)⟩
theorem Sep.add {w0 w w' : World} {ts : List Thing} {t : Thing} {FP : List Nat} (h : Sep w0 w ts) (ht : Turns [] w w') (hh : t.holds w' FP) (hFP : ∀ x ∈ FP, w.heap.size ≤ x) : Sep w0 w' (t :: ts) := by
  obtain ⟨G, h⟩ := h
  refine ⟨FP ++ G, FP, G, rfl, hh, fun x hx => ⟨Nat.le_trans h.turns.size (hFP x hx), fun hG => ?_⟩, h.kept ht (by simp) (by simp)⟩
  have := (h.lt x hG).2
  have := hFP x hx
  omega
theorem Sep.drop {w0 w : World} {ts : List Thing} {t : Thing} (h : Sep w0 w (t :: ts)) : Sep w0 w ts := by
  obtain ⟨_, _, G', _, _, _, h⟩ := h
  exact ⟨G', h⟩

theorem SepF.pick {w0 w : World} (t : Thing) (post : List Thing) : ∀ (pre : List Thing) (G : List Nat), SepF w0 w (pre ++ t :: post) G →
    ∃ FP, t.holds w FP ∧ (∀ x ∈ FP, x ∈ G) ∧ ∀ w' FP', Evolves FP FP' w w' → ∀ t' : Thing, t'.holds w' FP' → ∃ G', SepF w0 w' (pre ++ t' :: post) G' ∧ ∀ x ∈ G', x ∈ G ∨ w.heap.size ≤ x := by
  intro pre
  induction pre with
  | nil =>
    intro G h
    have h' := h
    obtain ⟨FP, G', rfl, hh, hx, h⟩ := h
    refine ⟨FP, hh, fun x hx => by simp [hx], fun w' FP' hev t' ht' => ⟨FP' ++ G', ⟨FP', G', rfl, ht', fun x hx' => ?_, h.kept hev.1 (fun x hm => (hx x hm).1) (fun x hm hF => (hx x hF).2 hm)⟩, fun x hm => ?_⟩⟩
    · rcases hev.2 x hx' with h1 | h1
      · exact hx x h1
      · exact ⟨Nat.le_trans h'.turns.size h1, fun hG => by have := (h.lt x hG).2; omega⟩
    · rcases List.mem_append.1 hm with hm | hm
      · rcases hev.2 x hm with h1 | h1
        · exact Or.inl (by simp [h1])
        · exact Or.inr h1
      · exact Or.inl (by simp [hm])
  | cons a pre ih =>
    intro G h
    obtain ⟨FPa, Ga, rfl, hh, hx, h⟩ := h
    obtain ⟨FP, hF, hin, step⟩ := ih Ga h
    refine ⟨FP, hF, fun x hx => by simp [hin x hx], fun w' FP' hev t' ht' => ?_⟩
    obtain ⟨G', hs, hG'⟩ := step w' FP' hev t' ht'
    refine ⟨FPa ++ G', ⟨FPa, G', rfl, a.kept _ _ _ _ hh hev.1 (fun x hm hF => (hx x hm).2 (hin x hF)), fun x hm => ⟨(hx x hm).1, fun hG => ?_⟩, hs⟩, fun x hm => ?_⟩
    · rcases hG' x hG with h1 | h1
      · exact (hx x hm).2 h1
      · have := a.lt _ _ hh x hm; omega
    · rcases List.mem_append.1 hm with hm | hm
      · exact Or.inl (by simp [hm])
      · rcases hG' x hm with h1 | h1
        · exact Or.inl (by simp [h1])
        · exact Or.inr h1

/-- One of the things is taken out, changed, and put back. -/
theorem Sep.pick {w0 w : World} (pre : List Thing) (t : Thing) (post : List Thing) (h : Sep w0 w (pre ++ t :: post)) :
    ∃ FP, t.holds w FP ∧ (∀ x ∈ FP, w0.heap.size ≤ x) ∧ ∀ w' FP' t', Evolves FP FP' w w' → t'.holds w' FP' → Sep w0 w' (pre ++ t' :: post) := by
  obtain ⟨G, h⟩ := h
  obtain ⟨FP, h1, h2, h3⟩ := h.pick t post pre G
  exact ⟨FP, h1, fun x hx => (h.lt x (h2 x hx)).1, fun w' FP' t' hev ht' => by obtain ⟨G', hs, _⟩ := h3 w' FP' hev t' ht'; exact ⟨G', hs⟩⟩

theorem Evolves.of_same {FP : List Nat} {w w' : World} (h : Turns FP w w') : Evolves FP FP w w' := ⟨h, fun _ hx => Or.inl hx⟩

/-- A net's struct as a thing. -/
def netThing (T : TypeId) (b : Nat) (l : List Pkt) (s : Int) : Thing :=
  ⟨fun w FP => NetObj T w b FP l s, fun _ _ h => h.lt, fun _ _ _ _ h ht hd => h.kept ht hd⟩
/-- An owned slice of packets as a thing. -/
def pktThing (v : Value) (l : List Pkt) : Thing :=
  ⟨fun w FP => w.ownsRow 0 34 3 v l.length (pktCells l) ∧ FP = v.ownBlock.toList,
    fun _ _ h x hx => by obtain ⟨h, rfl⟩ := h; exact own_lt h x hx, fun _ _ _ _ h ht hd => by obtain ⟨h, rfl⟩ := h; exact ⟨own_kept h ht hd, rfl⟩⟩

/-- A block known whole. -/
def blockThing (b : Nat) (o : Obj) : Thing :=
  ⟨fun w FP => w.heap[b]? = some o ∧ FP = [b], fun _ _ h x hx => by obtain ⟨h, rfl⟩ := h; simp at hx; subst hx; exact lt_of_at h,
    fun _ _ _ _ h ht hd => by obtain ⟨h, rfl⟩ := h; exact ⟨by rw [ht.block _ (lt_of_at h) (hd _ (by simp))]; exact h, rfl⟩⟩
theorem Sep.alloc {w0 w : World} {ts : List Thing} (h : Sep w0 w ts) (o : Obj) : Sep w0 (w.alloc o) (blockThing w.heap.size o :: ts) :=
  h.add (t := blockThing w.heap.size o) (FP := [w.heap.size]) (Turns.alloc _ _ _) ⟨heap_alloc_here _ _, rfl⟩ (by simp)
theorem Sep.block {w0 w : World} {b : Nat} {o : Obj} (pre post : List Thing) (h : Sep w0 w (pre ++ blockThing b o :: post)) : w.heap[b]? = some o := by
  obtain ⟨FP, hF, _⟩ := h.pick pre _ post
  exact hF.1

/-- A block whose content no longer matters. -/
def junkThing (b : Nat) : Thing :=
  ⟨fun w FP => b < w.heap.size ∧ FP = [b], fun _ _ h x hx => by obtain ⟨h, rfl⟩ := h; simp at hx; subst hx; exact h,
    fun _ _ _ _ h ht _ => ⟨Nat.lt_of_lt_of_le h.1 ht.size, h.2⟩⟩
theorem Sep.set3_drop {w0 w : World} {ts : List Thing} {b : Nat} {o : Obj} (h : Sep w0 w (blockThing b o :: ts)) (x y z : Value) :
    Sep w0 (((w.setCell ⟨b, 0, none⟩ x).setCell ⟨b, 1, none⟩ y).setCell ⟨b, 2, none⟩ z) ts := by
  obtain ⟨FP, hF, _, step⟩ := h.pick [] _ ts
  obtain ⟨hb, rfl⟩ := hF
  exact (step _ _ (junkThing b) (Evolves.of_same (Turns.set3 _ _ _ _ _)) ⟨Nat.lt_of_lt_of_le (lt_of_at hb) (Turns.set3 _ _ _ _ _).size, rfl⟩).drop

end Go.Proofs.YtmikjninonpejaaMem
