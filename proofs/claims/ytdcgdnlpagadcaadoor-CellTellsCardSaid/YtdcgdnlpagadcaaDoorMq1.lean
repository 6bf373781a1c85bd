/- Contracts and lemmas (texts SepP, RefP, RefQ, RefT, RefU, RefV, RefW, RefX, joined by a program). -/
import Derived.Test.YtdcgdnlpagadcaaDoorMc12
import Derived.Laws.Rows
import Derived.Lib.FrozenHead2
/- Plain: things in another order; rows as things. No program in sight. -/
namespace Go.Proofs.YtdcgdnlpagadcaaDoorMem
open Go Go.RowKit

theorem SepF.perm' {w0 w : World} {ts ts' : List Thing} (hp : ts.Perm ts') : ∀ {G : List Nat}, SepF w0 w ts G → ∃ G', SepF w0 w ts' G' ∧ ∀ x, x ∈ G' ↔ x ∈ G := by
  induction hp with
  | nil => exact fun h => ⟨_, h, fun _ => Iff.rfl⟩
  | cons t _ ih =>
    rintro G ⟨FP, G1, rfl, h1, h2, h3⟩
    obtain ⟨G2, h4, h5⟩ := ih h3
    exact ⟨FP ++ G2, ⟨FP, G2, rfl, h1, fun x hx => ⟨(h2 x hx).1, fun hh => (h2 x hx).2 ((h5 x).1 hh)⟩, h4⟩, fun x => by simp [h5 x]⟩
  | swap t u ts =>
    rintro G ⟨FP, G1, rfl, h1, h2, FQ, G2, rfl, h3, h4, h5⟩
    refine ⟨FQ ++ (FP ++ G2), ⟨FQ, FP ++ G2, rfl, h3, fun x hx => ⟨(h4 x hx).1, fun hh => ?_⟩, FP, G2, rfl, h1, fun x hx => ⟨(h2 x hx).1, fun hh => (h2 x hx).2 (by simp [hh])⟩, h5⟩, fun x => ?_⟩
    · rcases List.mem_append.1 hh with hh | hh
      · exact (h2 x hh).2 (by simp [hx])
      · exact (h4 x hx).2 hh
    · simp only [List.mem_append]
      constructor
      · rintro (h | h | h)
        · exact Or.inr (Or.inl h)
        · exact Or.inl h
        · exact Or.inr (Or.inr h)
      · rintro (h | h | h)
        · exact Or.inr (Or.inl h)
        · exact Or.inl h
        · exact Or.inr (Or.inr h)
  | trans _ _ ih1 ih2 =>
    intro G h
    obtain ⟨G1, h1, e1⟩ := ih1 h
    obtain ⟨G2, h2, e2⟩ := ih2 h1
    exact ⟨G2, h2, fun x => (e2 x).trans (e1 x)⟩
theorem Sep.perm' {w0 w : World} {ts ts' : List Thing} (h : Sep w0 w ts) (hp : ts.Perm ts') : Sep w0 w ts' := by
  obtain ⟨G, h⟩ := h
  obtain ⟨G', h', _⟩ := SepF.perm' hp h
  exact ⟨G', h'⟩
theorem Sep.toFront {w0 w : World} {t : Thing} (pre post : List Thing) (h : Sep w0 w (pre ++ t :: post)) : Sep w0 w (t :: (pre ++ post)) := h.perm' List.perm_middle
theorem Sep.fromFront {w0 w : World} {t : Thing} (pre post : List Thing) (h : Sep w0 w (t :: (pre ++ post))) : Sep w0 w (pre ++ t :: post) := h.perm' List.perm_middle.symm

/-- A row made by the call (or nil), known whole. -/
def rowThing (e : TypeId) (size : Nat) (v : Value) (n : Nat) (xs : List Value) : Thing :=
  ⟨fun w FP => w.ownsRow 0 e size v n xs ∧ FP = v.ownBlock.toList,
    fun _ _ h x hx => by obtain ⟨h, rfl⟩ := h; exact own_lt h x hx, fun _ _ _ _ h ht hd => by obtain ⟨h, rfl⟩ := h; exact ⟨own_kept h ht hd, rfl⟩⟩
section
variable {w0 w : World} {e : TypeId} {size n : Nat} {v : Value} {xs : List Value}
theorem Sep.row {pre post : List Thing} (h : Sep w0 w (pre ++ rowThing e size v n xs :: post)) : w.ownsRow 0 e size v n xs := by
  obtain ⟨FP, hF, _⟩ := h.pick pre _ post
  exact hF.1
theorem Sep.row_start {ts : List Thing} (h : Sep w0 w ts) (e : TypeId) (size : Nat) : Sep w0 w (rowThing e size (.slice none 0 0) 0 [] :: ts) :=
  h.add (t := rowThing e size (.slice none 0 0) 0 []) (FP := []) (Turns.refl _ _) ⟨World.ownsRow_nil _ _ _ _, rfl⟩ (by simp)
/-- The row grown by what a new block holds. -/
theorem Sep.row_grown {w1 : World} {v' : Value} {m : Nat} {news : List Value} {o : Obj} (pre post : List Thing) (h : Sep w0 w (pre ++ rowThing e size v n xs :: post))
    (hown : w1.ownsRow 0 e size v' (n + m) (xs ++ news)) (hgr : (w.alloc o).grownBy w1 v.ownBlock) (hat : v'.ownBlock = v.ownBlock ∨ v'.ownBlock = some (w.heap.size + 1)) :
    Sep w0 w1 (pre ++ rowThing e size v' (n + m) (xs ++ news) :: post) := by
  obtain ⟨FP, ⟨h1, rfl⟩, hge, step⟩ := h.pick pre _ post
  refine step _ v'.ownBlock.toList (rowThing e size v' (n + m) (xs ++ news)) ⟨(Turns.alloc _ w _).trans (Turns.of_grown hgr (fun x hx => Or.inl (by simp [hx]))), fun x hx => ?_⟩ ⟨hown, rfl⟩
  rcases hat with h | h
  · rw [h] at hx; exact Or.inl hx
  · rw [h] at hx; simp at hx; exact Or.inr (by omega)
/-- A block turned. -/
theorem Sep.block_turned {w1 : World} {b : Nat} {o o' : Obj} (pre post : List Thing) (h : Sep w0 w (pre ++ blockThing b o :: post)) (ht : Turns [b] w w1) (hb : w1.heap[b]? = some o') : Sep w0 w1 (pre ++ blockThing b o' :: post) := by
  obtain ⟨FP, hF, hge, step⟩ := h.pick pre _ post
  obtain ⟨_, rfl⟩ := hF
  exact step w1 [b] (blockThing b o') (Evolves.of_same ht) ⟨hb, rfl⟩
end
end Go.Proofs.YtdcgdnlpagadcaaDoorMem

/- Plain: the reference's list of files. No program in sight. -/
namespace Go.Proofs.YtdcgdnlpagadcaaDoor

structure RF where
  num : Int
  now : ByteArray
  last : ByteArray
def rget (L : List RF) (f : Int) : RF := (L.find? (fun x => x.num == f)).getD ⟨f, ⟨#[]⟩, ⟨#[]⟩⟩
def rset (L : List RF) (x : RF) : List RF := L.filter (fun y => y.num != x.num) ++ [x]
/-- The list stands for the files. -/
structure Rep (L : List RF) (F : Int → File) : Prop where
  file : ∀ f, (⟨(rget L f).now, (rget L f).last⟩ : File) = F f
  nodup : (L.map RF.num).Nodup
  range : ∀ x ∈ L, 0 ≤ x.num ∧ x.num < 16

theorem rget_num (L : List RF) (f : Int) : (rget L f).num = f := by
  unfold rget
  cases h : L.find? (fun x => x.num == f) with
  | none => rfl
  | some x =>
    have := List.find?_some h
    simpa using this
theorem rget_set (L : List RF) (x : RF) (f : Int) : rget (rset L x) f = if f = x.num then x else rget L f := by
  unfold rget rset
  by_cases h : f = x.num
  · rw [if_pos h, List.find?_append]
    have e : (L.filter (fun y => y.num != x.num)).find? (fun y => y.num == f) = none := by
      rw [List.find?_eq_none]
      intro y hy
      have := (List.mem_filter.1 hy).2
      simp at this ⊢
      rw [h]; exact this
    rw [e]
    simp [h]
  · rw [if_neg h, List.find?_append]
    have e : (L.filter (fun y => y.num != x.num)).find? (fun y => y.num == f) = L.find? (fun y => y.num == f) := by
      rw [List.find?_filter]
      congr 1
      funext y
      by_cases hy : y.num = f
      · have : y.num ≠ x.num := by rw [hy]; exact h
        simp [hy, h]
      · simp [hy]
    rw [e]
    have e2 : [x].find? (fun y => y.num == f) = none := by
      rw [List.find?_eq_none]; intro y hy; simp at hy; subst hy; simp; exact fun e => h e.symm
    rw [e2, Option.or_none]
theorem filter_ne_length {l : List Int} (h : l.Nodup) (n : Int) : l.length ≤ (l.filter (fun y => y != n)).length + 1 := by
  induction l with
  | nil => simp
  | cons a l ih =>
    obtain ⟨h1, h2⟩ := List.nodup_cons.1 h
    by_cases ha : a = n
    · have e : l.filter (fun y => y != n) = l := by
        rw [List.filter_eq_self]
        intro y hy
        simp
        intro e
        exact h1 (by rw [ha, ← e]; exact hy)
      rw [List.filter_cons, e]
      simp [ha]
    · rw [List.filter_cons]
      simp [ha]
      have := ih h2
      omega
theorem nodup_bound : ∀ (n : Nat) (l : List Int), l.Nodup → (∀ x ∈ l, 0 ≤ x ∧ x < (n : Int)) → l.length ≤ n
  | 0, l, _, h => by
    cases l with
    | nil => simp
    | cons a l => have := h a (by simp); omega
  | n + 1, l, hn, h => by
    have h1 := filter_ne_length hn (n : Int)
    have h2 := nodup_bound n (l.filter (fun y => y != (n : Int))) (hn.sublist List.filter_sublist) (fun x hx => by
      obtain ⟨hx1, hx2⟩ := List.mem_filter.1 hx
      have := h x hx1
      have h3 : x ≠ (n : Int) := by simpa using hx2
      omega)
    omega
theorem Rep.len {L : List RF} {F : Int → File} (h : Rep L F) : L.length ≤ 16 := by
  have := nodup_bound 16 (L.map RF.num) h.nodup (fun x hx => by
    obtain ⟨y, hy, rfl⟩ := List.mem_map.1 hx
    exact h.range y hy)
  simpa using this
theorem Rep.set {L : List RF} {F : Int → File} (h : Rep L F) (x : RF) (hx : 0 ≤ x.num ∧ x.num < 16) : Rep (rset L x) (updF F x.num ⟨x.now, x.last⟩) := by
  refine ⟨fun f => ?_, ?_, fun y hy => ?_⟩
  · rw [rget_set]
    by_cases hf : f = x.num
    · rw [if_pos hf, hf, updF_same]
    · rw [if_neg hf, updF_other _ hf]; exact h.file f
  · unfold rset
    rw [List.map_append, List.nodup_append]
    refine ⟨?_, by simp, fun a ha b hb => ?_⟩
    · exact h.nodup.sublist (List.filter_sublist.map _)
    · obtain ⟨y, hy, rfl⟩ := List.mem_map.1 ha
      have := (List.mem_filter.1 hy).2
      simp at hb this
      rw [hb]; exact this
  · unfold rset at hy
    rcases List.mem_append.1 hy with hy | hy
    · exact h.range y (List.mem_filter.1 hy).1
    · simp at hy; subst hy; exact hx
theorem Rep.new : Rep [] DS.new.F := ⟨fun f => rfl, by simp, fun x hx => by simp at hx⟩
/-- After a crash: each file is what it was last. -/
theorem Rep.lasts {L : List RF} {F : Int → File} (h : Rep L F) : Rep (L.map fun x => ⟨x.num, x.last, x.last⟩) (lastF F) := by
  refine ⟨fun f => ?_, ?_, fun y hy => ?_⟩
  · have e : rget (L.map fun x => ⟨x.num, x.last, x.last⟩) f = ⟨f, (rget L f).last, (rget L f).last⟩ := by
      have hn := rget_num L f
      unfold rget at hn ⊢
      rw [List.find?_map]
      cases hh : L.find? (fun x => x.num == f) with
      | none => simp [Function.comp_def, hh]
      | some x => rw [hh] at hn; simp [Function.comp_def, hh]; simpa using hn
    rw [e]
    show (⟨(rget L f).last, (rget L f).last⟩ : File) = ⟨(F f).last, (F f).last⟩
    rw [← h.file f]
  · rw [List.map_map]; exact h.nodup
  · obtain ⟨x, hx, rfl⟩ := List.mem_map.1 hy
    exact h.range x hx

end Go.Proofs.YtdcgdnlpagadcaaDoor

/- Contracts of the reference for disk: the object, get. -/
namespace Go.Proofs.YtdcgdnlpagadcaaDoor
open Go.RowKit Go.Proofs.YtdcgdnlpagadcaaDoorMem Go.Maps

def RF.val (x : RF) : Value := .agg #[.int .i64 x.num, .string x.now, .string x.last]
def RF.cells (x : RF) : List Value := [.int .i64 x.num, .string x.now, .string x.last]
def rfCells (L : List RF) : List Value := L.flatMap RF.cells
theorem rfCells_length (L : List RF) : (rfCells L).length = L.length * 3 := by
  induction L with
  | nil => rfl
  | cons x L ih => show (RF.cells x ++ rfCells L).length = _; rw [List.length_append, ih]; simp [RF.cells]; omega
theorem rfCells_append (A B : List RF) : rfCells (A ++ B) = rfCells A ++ rfCells B := by simp [rfCells]
theorem rfCells_one (L : List RF) : ∀ u ∈ rfCells L, u.oneCell' = true := by
  intro u hu
  obtain ⟨p, _, hp⟩ := List.mem_flatMap.1 hu
  simp [RF.cells] at hp
  rcases hp with rfl | rfl | rfl <;> rfl
theorem rfCells_get : ∀ (L : List RF) (i : Nat) (h : i < L.length), (rfCells L)[i * 3]? = some (.int .i64 L[i].num) ∧ (rfCells L)[i * 3 + 1]? = some (.string L[i].now) ∧ (rfCells L)[i * 3 + 2]? = some (.string L[i].last)
  | x :: L, 0, _ => ⟨rfl, rfl, rfl⟩
  | x :: L, i + 1, h => by
    obtain ⟨h1, h2, h3⟩ := rfCells_get L i (by simpa using h)
    have e : rfCells (x :: L) = [.int .i64 x.num, .string x.now, .string x.last] ++ rfCells L := rfl
    rw [e, show (i + 1) * 3 = i * 3 + 3 by omega]
    refine ⟨?_, ?_, ?_⟩
    · rw [List.getElem?_append_right (by simp)]; exact h1
    · rw [List.getElem?_append_right (by simp)]; exact h2
    · rw [List.getElem?_append_right (by simp)]; exact h3
/-- Files lie in memory as a slice's elements. -/
def RFAt (w : World) (a : Option Addr) (L : List RF) : Prop :=
  ∀ i (h : i < L.length), ∃ g, a = some ⟨g, 0, none⟩ ∧ w.cell? ⟨g, i * 3, none⟩ = some (.int .i64 L[i].num) ∧ w.cell? ⟨g, i * 3 + 1, none⟩ = some (.string L[i].now) ∧ w.cell? ⟨g, i * 3 + 2, none⟩ = some (.string L[i].last)
theorem rf_at {w : World} {v : Value} {L : List RF} (h : w.ownsRow 0 79 3 v L.length (rfCells L)) : ∃ a c, v = .slice a L.length c ∧ RFAt w a L := by
  rcases id h.2 with ⟨rfl, h0⟩ | ⟨g, cap, cur, rfl, _, hg, hcap, hmax, hsz, htake⟩
  · exact ⟨none, 0, by rw [h0], fun i hi => by omega⟩
  · refine ⟨_, cap, rfl, fun i hi => ⟨g, rfl, ?_⟩⟩
    obtain ⟨h1, h2, h3⟩ := rfCells_get L i hi
    have k1 := h.cells (g := g) rfl _ _ h1
    have k2 := h.cells (g := g) rfl _ _ h2
    have k3 := h.cells (g := g) rfl _ _ h3
    have e : ∀ j, ((⟨g, 0, none⟩ : Addr).add j) = ⟨g, j, none⟩ := fun j => by unfold Addr.add; split <;> simp_all
    rw [e] at k1 k2 k3
    exact ⟨k1, k2, k3⟩
theorem RFAt.kept {w w' : World} {a : Option Addr} {L : List RF} (h : RFAt w a L) (ht : Turns [] w w') : RFAt w' a L := by
  intro i hi
  obtain ⟨g, rfl, h0, h1, h2⟩ := h i hi
  have hlt := World.block_lt_of_cell? w _ h0
  exact ⟨g, rfl, (ht.cell (a := ⟨g, i * 3, none⟩) hlt (by simp)).trans h0, (ht.cell (a := ⟨g, i * 3 + 1, none⟩) hlt (by simp)).trans h1, (ht.cell (a := ⟨g, i * 3 + 2, none⟩) hlt (by simp)).trans h2⟩

def refObj (fv qv kv : Value) (st : DS) : Obj := .cells #[fv, qv, .int .i64 st.lost, .bool st.down, .int .i64 st.armed, kv] 72 (0, 0)
theorem rget_at {L : List RF} {f : Int} {k : Nat} (h : k < L.length) (hno : ∀ j (_ : j < k) (h2 : j < L.length), L[j].num ≠ f) (hk : L[k].num = f) : rget L f = L[k] := by
  unfold rget
  have : L.find? (fun x => x.num == f) = some L[k] := by
    rw [List.find?_eq_some_iff_getElem]
    refine ⟨by simpa using hk, k, h, rfl, fun j hj => ?_⟩
    simpa using hno j hj (by omega)
  rw [this]; rfl
theorem rget_none {L : List RF} {f : Int} (hno : ∀ j (h2 : j < L.length), L[j].num ≠ f) : rget L f = ⟨f, ⟨#[]⟩, ⟨#[]⟩⟩ := by
  unfold rget
  have : L.find? (fun x => x.num == f) = none := by
    rw [List.find?_eq_none]
    intro x hx
    obtain ⟨i, hi, rfl⟩ := List.getElem_of_mem hx
    simpa using hno i hi
  rw [this]; rfl

set_option maxHeartbeats 1600000 in
set_option maxRecDepth 100000 in
theorem rget_any (b : Nat) (fv qv kv : Value) (st : DS) (L : List RF) (f : Int) (w : World) (hb : w.heap[b]? = some (refObj fv qv kv st)) (ho : w.ownsRow 0 79 3 fv L.length (rfCells L)) (hl : L.length ≤ 1000) :
    Calls Tryd.prog 43 #[.pointer (some ⟨b, 0, none⟩), .int .i64 f] w fun e w' => e = .returned (rget L f).val ∧ Turns [] w w' := by
  obtain ⟨a, c, rfl, hat⟩ := rf_at ho
  have c0 : ∀ o, (w.alloc o).cell? ⟨b, 0, none⟩ = some (.slice a L.length c) := fun o => ((Turns.alloc [] w o).cell (a := ⟨b, 0, none⟩) (lt_of_at hb) (by simp)).trans (cell_at hb 0)
  have HA : Hid (∀ o, RFAt (w.alloc o) a L) := fun o => hat.kept (Turns.alloc [] w o)
  clear hb ho hat
  go_enter Tryd.func43, Tryd.ntmps43
  go_wp2_with fail
  go_loop [5] (fun i => ∃ k : Nat, k ≤ L.length ∧ i = .int .i64 k ∧ Hid (∀ j (h : j < k) (h2 : j < L.length), L[j].num ≠ f)) (fun i => L.length - (intOf i).toNat)
  case atStart => exact ⟨0, Nat.zero_le _, rfl, fun j h => by omega⟩
  case round =>
    obtain ⟨k, hk, rfl, hall⟩ := hrel
    by_cases hlt : k < L.length
    · have hltI : (k : Int) < (L.length : Int) := by omega
      obtain ⟨g, rfl, x0, x1, x2⟩ := HA.out (.cells #[.int .i64 0, .string ⟨#[]⟩, .string ⟨#[]⟩] 79) k hlt
      obtain ⟨x, hx⟩ : ∃ x, x = L[k] := ⟨_, rfl⟩
      rw [← hx] at x0 x1 x2
      have HX := Lib.hid hx; clear hx
      by_cases hn : x.num = f
      · have hnb : (x.num == f) = true := by rw [hn]; exact beq_self_eq_true _
        have HN := Lib.hid hn; clear hn
        have HG : Hid (rget L f = x) := by
          rw [HX.out]
          exact rget_at hlt hall.out (by rw [← HX.out]; exact HN.out)
        go_wp2_with fail
        refine bodyPost_ret (results_cell_row rfl _ _ w.heap.size 79 _ (0, 0) _ rfl (heap_alloc_new _ _) Tryd.underlying79 rfl (by show _ = some 3; kernel_rfl)) rfl ?_
        exact ⟨by rw [HG.out]; rfl, Turns.alloc _ _ _⟩
      · have hnb : (x.num == f) = false := by rw [beq_eq_false_iff_ne]; exact hn
        have HN := Lib.hid hn; clear hn
        go_wp2_with fail
        go_round
        case rel => exact ⟨k + 1, by omega, by go_num, fun j hj h2 => by
          by_cases e : j = k
          · subst e; rw [← HX.out]; exact HN.out
          · exact hall.out j (by omega) h2⟩
        case measure => simp [intOf]; omega
    · have hltI : ¬ (k : Int) < (L.length : Int) := by omega
      have HG : Hid (rget L f = ⟨f, ⟨#[]⟩, ⟨#[]⟩⟩) := rget_none (fun j h2 => hall.out j (by omega) h2)
      go_wp2_with fail
      refine bodyPost_ret (results_cell_row rfl _ _ w.heap.size 79 _ (0, 0) _ rfl (heap_alloc_new _ _) Tryd.underlying79 rfl (by show _ = some 3; kernel_rfl)) rfl ?_
      exact ⟨by rw [HG.out]; rfl, Turns.alloc _ _ _⟩

end Go.Proofs.YtdcgdnlpagadcaaDoor

/- Contracts of the reference for disk: set. -/
namespace Go.Proofs.YtdcgdnlpagadcaaDoor
open Go.RowKit Go.Proofs.YtdcgdnlpagadcaaDoorMem Go.Maps

theorem Tryd.info79 : (Tryd.prog.info? 79).map (fun i => (i.zero, i.size, i.bytes)) = some (some (.agg #[.int .i64 0, .string ⟨#[]⟩, .string ⟨#[]⟩]), 3, 40) := by kernel_rfl
def xObj (x : RF) : Obj := .cells #[.int .i64 x.num, .string x.now, .string x.last] 79 (0, 0)
def keepN (x : RF) (L : List RF) : List RF := L.filter (fun y => y.num != x.num)
theorem keepN_yes {x : RF} {L : List RF} {k : Nat} (hk : k < L.length) (h : (L[k].num != x.num) = true) : keepN x (L.take (k + 1)) = keepN x (L.take k) ++ [L[k]] := by
  unfold keepN
  rw [List.take_succ_eq_append_getElem hk, List.filter_append]
  simp [h]
theorem keepN_no {x : RF} {L : List RF} {k : Nat} (hk : k < L.length) (h : (L[k].num != x.num) = false) : keepN x (L.take (k + 1)) = keepN x (L.take k) := by
  unfold keepN
  rw [List.take_succ_eq_append_getElem hk, List.filter_append]
  simp [h]
theorem keepN_len (x : RF) (L : List RF) (k : Nat) : (keepN x (L.take k)).length ≤ L.length := by
  unfold keepN
  exact Nat.le_trans (List.length_filter_le _ _) (by rw [List.length_take]; omega)

section
variable {w0 w : World} {b : Nat} {fv qv kv : Value} {st : DS} {L : List RF}
set_option maxHeartbeats 3200000 in
set_option maxRecDepth 100000 in
theorem rset_sep (post : List Thing) (x : RF) (h : Sep w0 w (blockThing b (refObj fv qv kv st) :: rowThing 79 3 fv L.length (rfCells L) :: post)) (hl : L.length ≤ 1000) :
    Calls Tryd.prog 52 #[.pointer (some ⟨b, 0, none⟩), x.val] w fun e w' => e = .returned (.tuple #[]) ∧
      ∃ fv', Sep w0 w' (blockThing b (refObj fv' qv kv st) :: rowThing 79 3 fv' (rset L x).length (rfCells (rset L x)) :: post) := by
  obtain ⟨i0, hi, hz0, hz1, hz2⟩ := info_parts Tryd.info79
  obtain ⟨a, c, rfl, -⟩ := rf_at (Sep.row (pre := [_]) h)
  have H0 : Hid (Sep w0 (w.alloc (.cells #[.int .i64 x.num, .string x.now, .string x.last] 79)) (rowThing 79 3 (.slice none 0 0) 0 [] :: blockThing w.heap.size (xObj x) :: blockThing b (refObj (.slice a L.length c) qv kv st) :: rowThing 79 3 (.slice a L.length c) L.length (rfCells L) :: post)) :=
    Sep.row_start (Sep.alloc h (xObj x)) 79 3
  clear h
  unfold RF.val
  go_enter Tryd.func52, Tryd.ntmps52
  go_wp2_with fail
  generalize w.alloc (.cells #[.int .i64 x.num, .string x.now, .string x.last] 79) = W0 at *
  generalize w.heap.size = pb at *
  go_loopw [4, 5] (fun ov iv wr => ∃ k : Nat, k ≤ L.length ∧ iv = .int .i64 k ∧ Hid (Sep w0 wr (rowThing 79 3 ov (keepN x (L.take k)).length (rfCells (keepN x (L.take k))) :: blockThing pb (xObj x) :: blockThing b (refObj (.slice a L.length c) qv kv st) :: rowThing 79 3 (.slice a L.length c) L.length (rfCells L) :: post))) (fun _ iv _ => L.length - (intOf iv).toNat)
  case atStart => exact ⟨0, Nat.zero_le _, rfl, H0.out⟩
  case round =>
    clear H0
    obtain ⟨k, hk, rfl, hS⟩ := hrel
    have HS := Lib.hid hS.out; clear hS
    obtain ⟨oa, oc, rfl, -⟩ := rf_at (Sep.row (pre := []) HS.out)
    have hb := Sep.block [_, _] _ HS.out
    have hp := Sep.block [_] _ HS.out
    have hat := rf_at (Sep.row (pre := [_, _, _]) HS.out)
    obtain ⟨a', c', he, hat⟩ := hat
    obtain ⟨rfl, -, rfl⟩ := Value.slice.inj he
    have c0 : wr.cell? ⟨b, 0, none⟩ = some (.slice a L.length c) := cell_at hb 0
    have p0 : wr.cell? ⟨pb, 0, none⟩ = some (.int .i64 x.num) := cell_at hp 0
    have p1 : wr.cell? ⟨pb, 1, none⟩ = some (.string x.now) := cell_at hp 1
    have p2 : wr.cell? ⟨pb, 2, none⟩ = some (.string x.last) := cell_at hp 2
    have f0 : wr.frozen? ⟨b, 0, none⟩ = false := free_at hb 0
    have HP := Lib.hid (And.intro hb hp); clear hb hp he
    by_cases hlt : k < L.length
    · have hltI : (k : Int) < (L.length : Int) := by omega
      obtain ⟨g, rfl, x0, x1, x2⟩ := hat k hlt
      obtain ⟨y, hy⟩ : ∃ y, y = L[k] := ⟨_, rfl⟩
      rw [← hy] at x0 x1 x2
      have HY := Lib.hid hy; clear hy hat
      have HSd := Lib.hid (HS.out.quiet (Turns.refl [] wr).drew)
      cases hn : (y.num != x.num)
      · have HN := Lib.hid hn
        go_wp2_with fail
        go_region
        go_wp2_with fail
        go_roundw
        case rel =>
          refine ⟨k + 1, by omega, by go_num, ?_⟩
          show Sep w0 wr.drew _
          rw [keepN_no hlt (by rw [← HY.out]; exact HN.out)]
          exact HSd.out
        case measure => simp [intOf]; omega
      · have HN := Lib.hid hn
        go_wp2_with fail
        go_region
        generalize wr.drew = wd at *
        have HR : Hid ((wd.alloc (.cells #[.int .i64 y.num, .string y.now, .string y.last] 79)).ownsRow 0 79 3 (.slice oa (keepN x (L.take k)).length oc) (keepN x (L.take k)).length (rfCells (keepN x (L.take k)))) := own_kept (Sep.row (pre := []) HSd.out) (Turns.alloc [] wd _) (by simp)
        clear c0 p0 p1 p2 f0 x0 x1 x2
        have hb := Sep.block [_, _] _ HSd.out
        obtain ⟨a', c', he, hat⟩ := rf_at (Sep.row (pre := [_, _, _]) HSd.out)
        obtain ⟨rfl, -, rfl⟩ := Value.slice.inj he
        have c0 : wd.cell? ⟨b, 0, none⟩ = some (.slice (some ⟨g, 0, none⟩) L.length c) := cell_at hb 0
        obtain ⟨g', hg', x0, x1, x2⟩ := hat k hlt
        simp only [Option.some.injEq, Addr.mk.injEq] at hg'
        obtain ⟨rfl, -, -⟩ := hg'
        rw [← HY.out] at x0 x1 x2
        clear he hat hb
        have hkl := keepN_len x L k
        go_wp2_with (at_builtin; refine wpList_append_src _ rfl (.tmp 26) (.tmp 34) 69 rfl 79 i0 (.agg #[.int .i64 0, .string ⟨#[]⟩, .string ⟨#[]⟩]) 3 40 Tryd.underlying69 hi hz0 hz1 hz2 rfl (by decide) (.slice oa (keepN x (L.take k)).length oc) (keepN x (L.take k)).length (rfCells (keepN x (L.take k))) rfl HR.out (.slice (some ⟨wd.heap.size, 0, none⟩) 1 1) 1 y.cells rfl (.inr ⟨_, _, rfl, new_cells wd _ 79 _ rfl⟩) ?c1 ?c3 ?c4 ?c5 ?_)
        case c1 => rfl
        case c3 => intro u hu; simp [RF.cells] at hu; rcases hu with rfl | rfl | rfl <;> rfl
        case c4 => unfold maxLen; omega
        case c5 => omega
        intro v' w1 hown hgr hat
        have HW : Hid (Sep w0 w1 (rowThing 79 3 v' (keepN x (L.take (k + 1))).length (rfCells (keepN x (L.take (k + 1)))) :: blockThing pb (xObj x) :: blockThing b (refObj (.slice (some ⟨g, 0, none⟩) L.length c) qv kv st) :: rowThing 79 3 (.slice (some ⟨g, 0, none⟩) L.length c) L.length (rfCells L) :: post)) := by
          have := Sep.row_grown [] _ HSd.out hown hgr hat
          rw [keepN_yes hlt (by rw [← HY.out]; exact HN.out), ← HY.out, rfCells_append, List.length_append]
          exact this
        clear hown hgr hat HR HSd c0 x0 x1 x2
        go_wp2_with fail
        go_roundw
        case rel => exact ⟨k + 1, by omega, by go_num, HW.out⟩
        case measure => simp [intOf]; omega
    · have hltI : ¬ (k : Int) < (L.length : Int) := by omega
      have hkl := keepN_len x L k
      have HR : Hid ((wr.alloc (.cells #[.int .i64 x.num, .string x.now, .string x.last] 79)).ownsRow 0 79 3 (.slice oa (keepN x (L.take k)).length oc) (keepN x (L.take k)).length (rfCells (keepN x (L.take k)))) := own_kept (Sep.row (pre := []) HS.out) (Turns.alloc [] wr _) (by simp)
      go_wp2_with (at_builtin; refine wpList_append_src _ rfl (.tmp 37) (.tmp 39) 69 rfl 79 i0 (.agg #[.int .i64 0, .string ⟨#[]⟩, .string ⟨#[]⟩]) 3 40 Tryd.underlying69 hi hz0 hz1 hz2 rfl (by decide) (.slice oa (keepN x (L.take k)).length oc) (keepN x (L.take k)).length (rfCells (keepN x (L.take k))) rfl HR.out (.slice (some ⟨wr.heap.size, 0, none⟩) 1 1) 1 x.cells rfl (.inr ⟨_, _, rfl, new_cells wr _ 79 _ rfl⟩) ?c1 ?c3 ?c4 ?c5 ?_)
      case c1 => rfl
      case c3 => intro u hu; simp [RF.cells] at hu; rcases hu with rfl | rfl | rfl <;> rfl
      case c4 => unfold maxLen; omega
      case c5 => omega
      intro v' w1 hown hgr hat
      have HW : Hid (Sep w0 w1 (rowThing 79 3 v' (rset L x).length (rfCells (rset L x)) :: blockThing pb (xObj x) :: blockThing b (refObj (.slice a L.length c) qv kv st) :: rowThing 79 3 (.slice a L.length c) L.length (rfCells L) :: post)) := by
        have := Sep.row_grown [] _ HS.out hown hgr hat
        have e : rset L x = keepN x (L.take k) ++ [x] := by rw [List.take_of_length_le (by omega)]; rfl
        rw [e, rfCells_append, List.length_append]
        exact this
      clear hown hgr hat HR c0 f0
      have hb := Sep.block [_, _] _ HW.out
      have c0 : w1.cell? ⟨b, 0, none⟩ = some (.slice a L.length c) := cell_at hb 0
      have f0 : w1.frozen? ⟨b, 0, none⟩ = false := free_at hb 0
      have HB := Lib.hid hb; clear hb
      obtain ⟨va, vc, rfl, -⟩ := rf_at (Sep.row (pre := []) HW.out)
      go_wp2_with fail
      go_end0
      refine ⟨rfl, .slice va (rset L x).length vc, ?_⟩
      have h1 := Sep.block_turned (o' := refObj (.slice va (rset L x).length vc) qv kv st) [_, _] _ HW.out (Turns.setCell w1 ⟨b, 0, none⟩ _ (by simp)) (heap_setCell_at HB.out 0 _)
      have h2 := (Sep.toFront [_] _ h1).drop
      have h3 := (Sep.toFront [_, _] _ h2).drop
      exact Sep.toFront [_] _ h3
end
end Go.Proofs.YtdcgdnlpagadcaaDoor

/- Contracts of the reference for disk: rows of bytes that came from a string. -/
namespace Go.Proofs.YtdcgdnlpagadcaaDoor
open Go.RowKit Go.Proofs.YtdcgdnlpagadcaaDoorMem Go.Maps
open Go.Lib (byteCells byteCells_length byteCells_append)

/-- A row of bytes; what may be frozen of it lies behind its last cell. -/
def TRow (w : World) (v : Value) (l : List UInt8) : Prop :=
  ∃ g cap cur fz, v = .slice (some ⟨g, 0, none⟩) l.length cap ∧ w.heap[g]? = some (.cells cur 5 fz) ∧ (cur.size ≤ fz.1 ∨ fz.2 = 0) ∧ l.length ≤ cap ∧ cur.size = cap ∧ cap ≤ maxLen ∧ cur.toList.take l.length = byteCells l
theorem tfree {w : World} {g : Nat} {cur : Array Value} {t : TypeId} {fz : Nat × Nat} (hg : w.heap[g]? = some (.cells cur t fz)) (hf : cur.size ≤ fz.1 ∨ fz.2 = 0) {i : Nat} (hi : i < cur.size) : w.frozen? ⟨g, i, none⟩ = false := by
  obtain ⟨lo, hi'⟩ := fz
  simp only [World.frozen?, hg, Bool.and_eq_false_iff, decide_eq_false_iff_not]
  simp only at hf
  omega
theorem run_store_one (w : World) (g o : Nat) (cur : Array Value) (t : TypeId) (fz : Nat × Nat) (v : Value) (hg : w.heap[g]? = some (.cells cur t fz)) (hf : cur.size ≤ fz.1 ∨ fz.2 = 0) (ho : o < cur.size) (h1 : v.oneCell' = true) :
    (storeCells ⟨g, o, none⟩ [v] 0).run Tryd.prog w = .ok () (w.setRow g (cur.setIfInBounds o v)) := by
  have hadd : (⟨g, o, none⟩ : Addr).add 0 = ⟨g, o, none⟩ := by unfold Addr.add; split <;> simp_all
  have hcell : w.cell? ⟨g, o, none⟩ = some cur[o] := by simp [World.cell?, hg, ho]
  have hst : (store ((⟨g, o, none⟩ : Addr).add 0) v).run Tryd.prog w = .ok () (w.setRow g (cur.setIfInBounds o v)) := by
    rw [hadd, run_store Tryd.prog w _ v _ h1, hcell]
    simp [tfree hg hf ho, setCell_eq_setRow w g o cur t fz v hg]
  simp only [storeCells, Sem.run_bind, hst, Result.andThen_ok]
  rfl
theorem add_plain' (b o i : Nat) : (⟨b, o, none⟩ : Addr).add i = ⟨b, o + i, none⟩ := by unfold Addr.add; split <;> simp_all
theorem take_set (l : List Value) (n : Nat) (v : Value) (h : n < l.length) : (l.set n v).take (n + 1) = l.take n ++ [v] := by
  rw [List.take_succ_eq_append_getElem (by simpa using h), List.take_set_of_le (Nat.le_refl _)]
  simp
theorem trow_append {w : World} {v : Value} {l : List UInt8} (h : TRow w v l) (x : UInt8) (ad : Addr) (c : Nat) (ty : TypeId) (hx : w.cell? (ad.add 0) = some (.int .u8 (x.toNat : Int))) (h63 : l.length + 1 ≤ 100000000) :
    ∃ v' w', (Builtin.append_ #[54, 54] ty #[v, .slice (some ad) 1 c]).run Tryd.prog w = .ok v' w' ∧ TRow w' v' (l ++ [x]) ∧ w.grownBy w' v.ownBlock ∧ (v'.ownBlock = v.ownBlock ∨ v'.ownBlock = some w.heap.size) := by
  obtain ⟨i0, hi, hz0, hz1, hz2⟩ := info_parts Tryd.info5
  obtain ⟨g, cap, cur, fz, rfl, hg, hf, hlc, hcs, hcm, htake⟩ := h
  have hnews : ∀ j u, ([Value.int .u8 (x.toNat : Int)] : List Value)[j]? = some u → w.cell? (ad.add j) = some u := by
    intro j u hj
    cases j with
    | zero => simp at hj; subst hj; exact hx
    | succ j => simp at hj
  by_cases hroom : l.length + 1 ≤ cap
  · have hfc := run_firstCells_some (P := Tryd.prog) w i0.size 1 ad 1 c [.int .u8 (x.toNat : Int)] (by rw [hz1]; rfl) hnews
    have hst := run_store_one w g l.length cur 5 fz (.int .u8 (x.toNat : Int)) hg hf (by omega) rfl
    refine ⟨.slice (some ⟨g, 0, none⟩) (l.length + 1) cap, w.setRow g (cur.setIfInBounds l.length (.int .u8 (x.toNat : Int))), ?_, ?_, ?_, ?_⟩
    · rw [hz1] at hfc
      simp [Builtin.append_, run_underlying Tryd.underlying54, sizeOf, typeInfo, hi, hz1, Builtin.lenOf, hroom, Addr.add_lit, hfc, hst]
    · refine ⟨g, cap, _, fz, by rw [List.length_append]; rfl, setRow_heap w g cur _ 5 _ hg, by simpa using hf, by simpa using hroom, by simpa using hcs, hcm, ?_⟩
      rw [Array.toList_setIfInBounds, List.length_append, List.length_singleton, take_set _ _ _ (by simp; omega), htake, byteCells_append]
      rfl
    · exact ⟨rfl, rfl, rfl, by simp, fun k _ hk => setRow_other w g k _ (fun e => hk (by simp [Value.ownBlock, e]))⟩
    · exact Or.inl rfl
  · have holds : ∀ j u, (byteCells l)[j]? = some u → w.cell? ((⟨g, 0, none⟩ : Addr).add j) = some u := by
      intro j u hj
      rw [add_plain', cell_at hg, ← Array.getElem?_toList]
      rw [← htake, List.getElem?_take] at hj
      split at hj
      · simpa using hj
      · cases hj
    have hr := run_append_grow (P := Tryd.prog) w 54 ty 5 i0 (.int .u8 0) Tryd.underlying54 hi hz0 ⟨g, 0, none⟩ l.length cap (byteCells l) (by rw [hz1, byteCells_length]; omega) holds ad 1 c [.int .u8 (x.toNat : Int)] (by rw [hz1]; rfl) hnews (by omega) (by unfold maxLen at hcm; omega) (growslice_fits (by unfold maxLen at hcm; omega) (by rw [hz2]; omega))
    have hge := grownCap_ge w (l.length + 1) cap 5
    have hcm2 : grownCap w (l.length + 1) cap 5 ≤ maxLen := grownCap_le_maxLen w (l.length + 1) cap 5 (by unfold maxLen; omega)
    refine ⟨_, _, hr, ⟨w.heap.size, _, _, (0, 0), by rw [List.length_append]; rfl, heap_alloc_new w.drew _, Or.inr rfl, by simpa using hge, ?_, hcm2, ?_⟩, ⟨rfl, rfl, rfl, by simp, fun k hk _ => Go.heap_alloc_old w.drew _ hk⟩, Or.inr rfl⟩
    · simp [size_zeroCells, byteCells_length, Value.cells]
      omega
    · have e1 : ((byteCells l).toArray ++ #[Value.int IntKind.u8 ↑x.toNat] ++ Builtin.zeroCells (Value.int IntKind.u8 0).cells (grownCap w (l.length + 1) cap 5 - (l.length + 1))).toList = byteCells (l ++ [x]) ++ (Builtin.zeroCells (Value.int IntKind.u8 0).cells (grownCap w (l.length + 1) cap 5 - (l.length + 1))).toList := by
        rw [byteCells_append]; simp [byteCells]
      rw [e1, List.take_left' (byteCells_length _)]

theorem wpList_append_T {w : World} {ops : Array Oper} {rest : List Oper} {o : Oper} {a : Act} {Q : Exit → Act → World → Prop} (hgd : o.guard = none) (s x : Operand)
    (ho : o.op = .call { callee := .builtin .append, args := #[s, x], argTypes := #[54, 54] })
    (v : Value) (l : List UInt8) (hs : a.eval s = v) (hv : TRow w v l) (b : UInt8) (ad : Addr) (c : Nat) (hx : a.eval x = .slice (some ad) 1 c) (hc : w.cell? (ad.add 0) = some (.int .u8 (b.toNat : Int))) (h63 : l.length + 1 ≤ 100000000)
    (h : ∀ v' w', TRow w' v' (l ++ [b]) → w.grownBy w' v.ownBlock → (v'.ownBlock = v.ownBlock ∨ v'.ownBlock = some w.heap.size) → wpList Tryd.prog ops Q rest (a.put o.dst v') w') :
    wpList Tryd.prog ops Q (o :: rest) a w := by
  refine wpList_plain hgd fun K hK => ?_
  obtain ⟨v', w', hr, h2, h3, h5⟩ := trow_append hv b ad c o.type hc h63
  unfold Oper.wp execOp
  simp only [ho, resolve, invoke, builtin, Sem.run_bind, Sem.run_pure, Result.andThen_ok, List.map_toArray, List.map_cons, List.map_nil, hs, hx, hr]
  exact hK _ _ (h v' w' h2 h3 h5)
end Go.Proofs.YtdcgdnlpagadcaaDoor

/- Contracts of the reference for disk: Put. -/
namespace Go.Proofs.YtdcgdnlpagadcaaDoor
open Go.RowKit Go.Proofs.YtdcgdnlpagadcaaDoorMem Go.Maps
open Go.Lib (byteCells byteCells_length byteCells_append)

def lenS (v : Value) : Nat := match v with | .slice _ n _ => n | _ => 0
/-- t laid over l from a on, its first i bytes. -/
def putTo (l : List UInt8) (a : Nat) (t : ByteArray) : Nat → List UInt8
  | 0 => l
  | i + 1 => (putTo l a t i).set (a + i) (byteA t i)
theorem putTo_length (l : List UInt8) (a : Nat) (t : ByteArray) : ∀ i, (putTo l a t i).length = l.length
  | 0 => rfl
  | i + 1 => by rw [putTo, List.length_set, putTo_length l a t i]
theorem putTo_get (l : List UInt8) (a : Nat) (t : ByteArray) : ∀ i, a + i ≤ l.length → ∀ j, (putTo l a t i)[j]? = if a ≤ j ∧ j < a + i then some (byteA t (j - a)) else l[j]?
  | 0, _, j => by rw [if_neg (by omega)]; rfl
  | i + 1, h, j => by
    rw [putTo, List.getElem?_set, putTo_length]
    by_cases hj : a + i = j
    · subst hj
      rw [if_pos rfl, if_pos (by omega), if_pos (by omega), Nat.add_sub_cancel_left]
    · rw [if_neg hj, putTo_get l a t i (by omega) j]
      by_cases h1 : a ≤ j ∧ j < a + i
      · rw [if_pos h1, if_pos (by omega)]
      · rw [if_neg h1, if_neg (by omega)]
theorem putTo_is (s t : ByteArray) (a n : Nat) (ht : t.size ≠ 0) (h1 : s.size + n = max s.size (a + t.size)) :
    (⟨(putTo (s.data.toList ++ List.replicate n 0) a t t.size).toArray⟩ : ByteArray) = putB s a t := by
  have hl : (s.data.toList ++ List.replicate n (0 : UInt8)).length = s.size + n := by simp
  have hs : (⟨(putTo (s.data.toList ++ List.replicate n 0) a t t.size).toArray⟩ : ByteArray).size = s.size + n := by
    show (putTo _ a t t.size).toArray.size = _
    rw [List.size_toArray, putTo_length, hl]
  refine bytes_ext (by rw [hs, putB_size, if_neg ht, h1]) (fun i hi => ?_)
  rw [hs] at hi
  rw [putB_at]
  have e : byteA (⟨(putTo (s.data.toList ++ List.replicate n 0) a t t.size).toArray⟩ : ByteArray) i = ((putTo (s.data.toList ++ List.replicate n 0) a t t.size)[i]?).getD 0 := by
    unfold byteA; rw [List.getElem?_toArray]
  rw [e, putTo_get _ _ _ _ (by rw [hl]; omega)]
  by_cases c : a ≤ i ∧ i < a + t.size
  · rw [if_pos c, if_pos c]; rfl
  · rw [if_neg c, if_neg c]
    unfold byteA
    by_cases h : i < s.size
    · rw [List.getElem?_append_left (by simpa using h)]; simp
    · rw [List.getElem?_append_right (by simpa using h), Array.getElem?_eq_none (by simpa using h)]
      cases hh : (List.replicate n (0 : UInt8))[i - s.data.toList.length]? with
      | none => rfl
      | some v =>
        have := List.mem_of_getElem? hh
        rw [List.mem_replicate] at this
        simp [this.2]
theorem TRow.shape {w : World} {v : Value} {l : List UInt8} (h : TRow w v l) : ∃ g cap, v = .slice (some ⟨g, 0, none⟩) l.length cap ∧ g < w.heap.size := by
  obtain ⟨g, cap, cur, fz, rfl, hg, -⟩ := h
  exact ⟨g, cap, rfl, lt_of_at hg⟩
theorem TRow.kept {w w' : World} {v : Value} {l : List UInt8} (h : TRow w v l) (ht : Turns [] w w') : TRow w' v l := by
  obtain ⟨g, cap, cur, fz, rfl, hg, h⟩ := h
  exact ⟨g, cap, cur, fz, rfl, (ht.block _ (lt_of_at hg) (by simp)).trans hg, h⟩
theorem trow_of_string (s : ByteArray) (w : World) (hs : s.size ≤ 20000000) : ∃ v w', (convert 9 54 (.string s)).run Tryd.prog w = .ok v w' ∧ TRow w' v s.data.toList ∧ Turns [] w w' ∧ v.ownBlock = some w.heap.size := by
  refine ⟨_, _, run_bytes_of_string (P := Tryd.prog) w 9 54 5 s Tryd.underlying9 Tryd.underlying54 Tryd.underlying5, ?_, (Turns.refl [] w).drew.trans (Turns.alloc _ _ _), rfl⟩
  have hge := grownCap_ge w s.size 0 5
  have hcb : (bytesRow s (grownCap w s.size 0 5)).size = grownCap w s.size 0 5 := by
    unfold bytesRow; simp; omega
  refine ⟨w.heap.size, grownCap w s.size 0 5, _, _, by simp, heap_alloc_here _ _, Or.inl (Nat.le_refl _), by simpa using hge, hcb, ?_, ?_⟩
  · exact grownCap_le_maxLen w s.size 0 5 (by unfold maxLen; omega)
  · unfold bytesRow
    simp [byteCells]

set_option maxHeartbeats 3200000 in
set_option maxRecDepth 100000 in
theorem rput_some (s t : ByteArray) (a : Nat) (w : World) (ht : 0 < t.size) (hs : s.size ≤ 20000000) (ha : a + t.size ≤ 20000000) :
    Calls Tryd.prog 51 #[.string s, .int .i64 a, .string t] w fun e w' => e = .returned (.string (putB s a t)) ∧ Turns [] w w' := by
  obtain ⟨v0, w1, hcv, hT0, ht0, hob⟩ := trow_of_string s w hs
  have hemp : t.toList.isEmpty = false := by
    rw [ByteArray.toList_eq]
    cases h : t.data.toList
    · have : t.data.toList.length = t.size := by simp
      rw [h] at this; simp at this; omega
    · rfl
  have H0 := Lib.hid (And.intro hT0 (And.intro ht0 hob)); clear hT0 ht0 hob
  go_enter Tryd.func51, Tryd.ntmps51
  go_wp2_with fail
  go_loopw [7] (fun v wr => ∃ n : Nat, (n = 0 ∨ s.size + n ≤ a + t.size) ∧ Hid (TRow wr v (s.data.toList ++ List.replicate n 0)) ∧ Hid (Turns [] w wr) ∧ Hid (∀ x ∈ v.ownBlock.toList, w.heap.size ≤ x)) (fun v _ => a + t.size - lenS v)
  case atStart =>
    refine ⟨0, Or.inl rfl, ?_, H0.out.2.1, ?_⟩
    · show TRow w1 v0 _
      simpa using H0.out.1
    · intro x hx; rw [H0.out.2.2] at hx; simp at hx; omega
  case round =>
    obtain ⟨n, hn, hT, htu, hge⟩ := hrel
    obtain ⟨g, cp, rfl, hgl⟩ := hT.out.shape
    have hlen : (s.data.toList ++ List.replicate n (0 : UInt8)).length = s.size + n := by simp
    rw [hlen]
    have HL := Lib.hid hlen; clear hlen
    have HG := Lib.hid hn
    have HR : Hid (∀ o, TRow (wr.alloc o) (.slice (some ⟨g, 0, none⟩) (s.size + n) cp) (s.data.toList ++ List.replicate n 0)) := fun o => by
      have := hT.out.kept (Turns.alloc [] wr o)
      rw [HL.out] at this
      exact this
    have hgw : w.heap.size ≤ g := hge.out g (by simp [Value.ownBlock])
    by_cases hlt : s.size + n < a + t.size
    · have hltI : (s.size : Int) + (n : Int) < (a : Int) + (t.size : Int) := by omega
      clear hn
      go_wp2_with (at_builtin; refine wpList_append_T rfl (.tmp 21) (.tmp 22) rfl (.slice (some ⟨g, 0, none⟩) (s.size + n) cp) (s.data.toList ++ List.replicate n 0) rfl (HR.out _) 0 ⟨wr.heap.size, 0, none⟩ 1 rfl ?c1 ?c2 ?_)
      case c1 => exact new_cells wr #[.int .u8 0] 5 [.int .u8 0] rfl 0 _ rfl
      case c2 => rw [HL.out]; omega
      intro v' w2 hT2 hgr hat
      have HW : Hid (TRow w2 v' (s.data.toList ++ List.replicate (n + 1) 0) ∧ Turns [] w w2 ∧ ∀ x ∈ v'.ownBlock.toList, w.heap.size ≤ x) := by
        refine ⟨by rw [List.replicate_succ']; exact hT2, ?_, fun x hx => ?_⟩
        · exact htu.out.trans_new ((Turns.alloc [] wr _).mono (by simp) |>.trans (Turns.of_grown (S := [g]) hgr (fun x hx => Or.inl (by simp [Value.ownBlock] at hx; simp [hx])))) (fun x hx => Or.inr (by simp at hx; omega))
        · rcases hat with h | h
          · rw [h] at hx; simp [Value.ownBlock] at hx; omega
          · rw [h] at hx
            have := htu.out.size
            have e : (wr.alloc (.cells #[.int .u8 0] 5)).heap.size = wr.heap.size + 1 := by show (wr.heap.push _).size = _; exact Array.size_push _
            simp at hx; omega
      clear hT2 hgr hat
      go_wp2_with fail
      go_roundw
      case rel => exact ⟨n + 1, Or.inr (by omega), HW.out.1, HW.out.2.1, HW.out.2.2⟩
      case measure =>
        obtain ⟨g2, cp2, rfl, -⟩ := HW.out.1.shape
        simp [lenS]; omega
    · have hltI : ¬ (s.size : Int) + (n : Int) < (a : Int) + (t.size : Int) := by omega
      clear hn
      go_wp2_with fail
      have HB0 : Hid (TRow wr (.slice (some ⟨g, 0, none⟩) (s.size + n) cp) (s.data.toList ++ List.replicate n 0)) := by
        have := hT.out
        rw [HL.out] at this
        exact this
      clear HR hT
      go_loopw [8] (fun iv wx => ∃ i : Nat, i ≤ t.size ∧ iv = .int .i64 i ∧ Hid (TRow wx (.slice (some ⟨g, 0, none⟩) (s.size + n) cp) (putTo (s.data.toList ++ List.replicate n 0) a t i)) ∧ Hid (Turns [] w wx)) (fun iv _ => t.size - (intOf iv).toNat)
      case atStart => exact ⟨0, Nat.zero_le _, rfl, HB0.out, htu.out⟩
      case round =>
        clear HB0
        obtain ⟨i, hi, rfl, hTx, htx⟩ := hrel
        have hpl := putTo_length (s.data.toList ++ List.replicate n 0) a t i
        have hTx' := hTx.out
        obtain ⟨g3, cap, cur, fz, he, hg, hf, hlc, hcs, hcm, htake⟩ := hTx'
        rw [hpl, HL.out] at he hlc htake
        simp only [Value.slice.injEq, Option.some.injEq, Addr.mk.injEq] at he
        obtain ⟨⟨rfl, -, -⟩, -, rfl⟩ := he
        by_cases hil : i < t.size
        · have hiI : (i : Int) < (t.size : Int) := by omega
          have hb0 : (a : Int) + (i : Int) < (s.size : Int) + (n : Int) := by omega
          obtain ⟨u0, hcell⟩ : ∃ u0, wr.cell? ⟨g, a + i, none⟩ = some u0 := ⟨_, by rw [cell_at hg, Array.getElem?_eq_getElem (by omega)]⟩
          have hfro : wr.frozen? ⟨g, a + i, none⟩ = false := tfree hg hf (by omega)
          have hix : ∀ w', (Instr.index 9 (.string t) (.int .i64 (i : Int))).run Tryd.prog w' = .ok (.int .u8 ((byteA t i).toNat : Int)) w' := fun w' => by
            rw [run_index_string (P := Tryd.prog) w' 9 t .i64 i Tryd.underlying9, dif_pos ⟨by omega, by omega⟩, byteA_get hil]
            rfl
          have HW : Hid (TRow (wr.setCell ⟨g, a + i, none⟩ (.int .u8 ((byteA t i).toNat : Int))) (.slice (some ⟨g, 0, none⟩) (s.size + n) cp) (putTo (s.data.toList ++ List.replicate n 0) a t (i + 1)) ∧ Turns [] w (wr.setCell ⟨g, a + i, none⟩ (.int .u8 ((byteA t i).toNat : Int)))) := by
            refine ⟨⟨g, cp, _, fz, by rw [putTo_length, HL.out], heap_setCell_at hg (a + i) _, by simpa using hf, by rw [putTo_length, HL.out]; exact hlc, by simpa using hcs, hcm, ?_⟩, htx.out.trans_new (Turns.setCell (S := [g]) _ _ _ (by simp)) (fun x hx => Or.inr (by simp at hx; omega))⟩
            rw [putTo_length, HL.out, Array.toList_setIfInBounds, List.take_set, htake, putTo]
            unfold byteCells
            rw [List.map_set]
          have HL2 := Lib.hid (And.intro hpl (And.intro hlc hcs)); clear hpl hlc htake hg hf hcm
          go_wp2_with fail
          go_roundw
          case rel => exact ⟨i + 1, by omega, by go_num, HW.out.1, HW.out.2⟩
          case measure => simp [intOf]; omega
        · have hiI : ¬ (i : Int) < (t.size : Int) := by omega
          obtain rfl : i = t.size := by omega
          have hcv2 : (convert 54 9 (.slice (some ⟨g, 0, none⟩) (s.size + n) cp)).run Tryd.prog wr = .ok (.string (putB s a t)) wr := by
            have := run_convert_bytes_back (P := Tryd.prog) wr 54 9 5 ⟨g, 0, none⟩ cp (putTo (s.data.toList ++ List.replicate n 0) a t t.size) Tryd.underlying54 Tryd.underlying5 Tryd.underlying9 (fun j hj => by
              rw [hpl, HL.out] at hj
              rw [add_plain', cell_at hg, Nat.zero_add]
              have := congrArg (fun l => l[j]?) htake
              simp only [List.getElem?_take, if_pos hj] at this
              rw [← Array.getElem?_toList, this]
              simp only [byteCells, List.getElem?_map]
              rw [List.getElem?_eq_getElem (by rw [hpl, HL.out]; exact hj)]
              rfl)
            rw [hpl, HL.out, putTo_is s t a n (by omega) (by rcases HG.out with h | h <;> omega)] at this
            exact this
          clear hpl hlc htake hg hf hcm
          go_wp2_with fail
          go_ret
          exact ⟨rfl, htx.out⟩
theorem rput_any (s t : ByteArray) (a : Nat) (w : World) (hs : s.size ≤ 20000000) (ha : a + t.size ≤ 20000000) :
    Calls Tryd.prog 51 #[.string s, .int .i64 a, .string t] w fun e w' => e = .returned (.string (putB s a t)) ∧ Turns [] w w' := by
  by_cases ht : t.size = 0
  · have e : t = ⟨#[]⟩ := by
      obtain ⟨d⟩ := t
      have : d.size = 0 := ht
      rw [Array.size_eq_zero_iff.1 this]
    subst e
    rw [putB, if_pos ht]
    go_enter Tryd.func51, Tryd.ntmps51
    go_wp2_with fail
    go_ret
    exact ⟨rfl, Turns.refl _ _⟩
  · exact rput_some s t a w (by omega) hs ha
end Go.Proofs.YtdcgdnlpagadcaaDoor

/- Contracts of the reference for disk: pending. -/
namespace Go.Proofs.YtdcgdnlpagadcaaDoor
open Go.RowKit Go.Proofs.YtdcgdnlpagadcaaDoorMem Go.Maps

theorem secCells_at : ∀ (Q : List (Int × Int)) (i : Nat) (h : i < Q.length), (secCells Q)[i * 2]? = some (.int .i64 Q[i].1) ∧ (secCells Q)[i * 2 + 1]? = some (.int .i64 Q[i].2)
  | x :: Q, 0, _ => ⟨rfl, rfl⟩
  | x :: Q, i + 1, h => by
    obtain ⟨h1, h2⟩ := secCells_at Q i (by simpa using h)
    have e : secCells (x :: Q) = [.int .i64 x.1, .int .i64 x.2] ++ secCells Q := rfl
    rw [e, show (i + 1) * 2 = i * 2 + 2 by omega]
    refine ⟨?_, ?_⟩
    · rw [List.getElem?_append_right (by simp)]; exact h1
    · rw [List.getElem?_append_right (by simp)]; exact h2
theorem secs_at {w : World} {e : TypeId} {v : Value} {Q : List (Int × Int)} (h : w.ownsRow 0 e 2 v Q.length (secCells Q)) : ∃ a c, v = .slice a Q.length c ∧ SecsAt w a Q := by
  rcases id h.2 with ⟨rfl, h0⟩ | ⟨g, cap, cur, rfl, _, hg, hcap, hmax, hsz, htake⟩
  · exact ⟨none, 0, by rw [h0], fun i hi => by omega⟩
  · refine ⟨_, cap, rfl, fun i hi => ⟨g, rfl, ?_⟩⟩
    obtain ⟨h1, h2⟩ := secCells_at Q i hi
    have k1 := h.cells (g := g) rfl _ _ h1
    have k2 := h.cells (g := g) rfl _ _ h2
    rw [add_plain', Nat.zero_add] at k1 k2
    exact ⟨k1, k2⟩

set_option maxHeartbeats 1600000 in
set_option maxRecDepth 100000 in
theorem rpending_any (b : Nat) (fv qv kv : Value) (st : DS) (Q : List (Int × Int)) (f n : Int) (w : World) (hb : w.heap[b]? = some (refObj fv qv kv st)) (ho : w.ownsRow 0 77 2 qv Q.length (secCells Q)) (hl : Q.length ≤ 1000000) :
    Calls Tryd.prog 53 #[.pointer (some ⟨b, 0, none⟩), .int .i64 f, .int .i64 n] w fun e w' => e = .returned (.bool (decide ((f, n) ∈ Q))) ∧ w = w' := by
  obtain ⟨a, c, rfl, hat⟩ := secs_at ho
  have c1 : w.cell? ⟨b, 1, none⟩ = some (.slice a Q.length c) := cell_at hb 1
  have HA := Lib.hid hat
  clear hb ho hat
  go_enter Tryd.func53, Tryd.ntmps53
  go_wp2_with fail
  go_loop [7] (fun i => ∃ k : Nat, k ≤ Q.length ∧ i = .int .i64 k ∧ Hid (∀ j (h : j < k) (h2 : j < Q.length), Q[j] ≠ (f, n))) (fun i => Q.length - (intOf i).toNat)
  case atStart => exact ⟨0, Nat.zero_le _, rfl, fun j h => by omega⟩
  case round =>
    obtain ⟨k, hk, rfl, hall⟩ := hrel
    by_cases hlt : k < Q.length
    · have hltI : (k : Int) < (Q.length : Int) := by omega
      obtain ⟨g, rfl, x0, x1⟩ := HA.out k hlt
      obtain ⟨y, hy⟩ : ∃ y, y = Q[k] := ⟨_, rfl⟩
      rw [← hy] at x0 x1
      have HY := Lib.hid hy; clear hy
      by_cases h1 : y.1 = f
      · have h1b : (y.1 == f) = true := by rw [h1]; exact beq_self_eq_true _
        by_cases h2 : y.2 = n
        · have h2b : (y.2 == n) = true := by rw [h2]; exact beq_self_eq_true _
          have HM : Hid (decide ((f, n) ∈ Q) = true) := decide_eq_true (by rw [← h1, ← h2, show (y.1, y.2) = y from rfl, HY.out]; exact List.getElem_mem hlt)
          clear h1 h2
          go_wp2_with fail
          go_ret
          exact ⟨by rw [HM.out]; rfl, rfl⟩
        · have h2b : (y.2 == n) = false := by rw [beq_eq_false_iff_ne]; exact h2
          have HN : Hid (y ≠ (f, n)) := fun e => h2 (by rw [e])
          clear h1 h2
          go_wp2_with fail
          go_round
          case rel => exact ⟨k + 1, by omega, by go_num, fun j hj h2 => by
            by_cases e : j = k
            · subst e; rw [← HY.out]; exact HN.out
            · exact hall.out j (by omega) h2⟩
          case measure => simp [intOf]; omega
      · have h1b : (y.1 == f) = false := by rw [beq_eq_false_iff_ne]; exact h1
        have HN : Hid (y ≠ (f, n)) := fun e => h1 (by rw [e])
        clear h1
        go_wp2_with fail
        go_round
        case rel => exact ⟨k + 1, by omega, by go_num, fun j hj h2 => by
          by_cases e : j = k
          · subst e; rw [← HY.out]; exact HN.out
          · exact hall.out j (by omega) h2⟩
        case measure => simp [intOf]; omega
    · have hltI : ¬ (k : Int) < (Q.length : Int) := by omega
      have HM : Hid (decide ((f, n) ∈ Q) = false) := decide_eq_false (by
        intro hm
        obtain ⟨i, hi, e⟩ := List.getElem_of_mem hm
        exact hall.out i (by omega) hi e)
      go_wp2_with fail
      go_ret
      exact ⟨by rw [HM.out]; rfl, rfl⟩
end Go.Proofs.YtdcgdnlpagadcaaDoor

/- Contracts of the reference for disk: add. -/
namespace Go.Proofs.YtdcgdnlpagadcaaDoor
open Go.RowKit Go.Proofs.YtdcgdnlpagadcaaDoorMem Go.Maps

theorem Tryd.info77 : (Tryd.prog.info? 77).map (fun i => (i.zero, i.size, i.bytes)) = some (some (.agg #[.int .i64 0, .int .i64 0]), 2, 16) := by kernel_rfl
/-- The reference's disk: its struct, its files, its queue. -/
def refL (b : Nat) (fv qv kv : Value) (st : DS) (L : List RF) (post : List Thing) : List Thing :=
  blockThing b (refObj fv qv kv st) :: rowThing 79 3 fv L.length (rfCells L) :: rowThing 77 2 qv st.Q.length (secCells st.Q) :: post
def RefAt (w0 w : World) (b : Nat) (kv : Value) (st : DS) (post : List Thing) : Prop := ∃ fv qv L, Rep L st.F ∧ Sep w0 w (refL b fv qv kv st L post)

set_option maxHeartbeats 3200000 in
set_option maxRecDepth 100000 in
theorem radd_some {w0 w : World} {b : Nat} {kv : Value} {st : DS} {post : List Thing} (f : Int) (a : Nat) (s : ByteArray) (h : RefAt w0 w b kv st post) (hs : 0 < s.size) (hf : 0 ≤ f ∧ f < 16) (ha : a + s.size ≤ 16777216) (hI : DInv st) (hQ : st.Q.length ≤ 600000) :
    Calls Tryd.prog 48 #[.pointer (some ⟨b, 0, none⟩), .int .i64 f, .int .i64 a, .string s] w fun e w' => e = .returned (.tuple #[]) ∧
      RefAt w0 w' b kv { st with F := updF st.F f { st.F f with now := putB (st.F f).now a s }, Q := addSecs st.Q f ((a : Int) / 64) ((a + s.size - 1) / 64 - a / 64 + 1) } post := by
  obtain ⟨i0, hi, hz0, hz1, hz2⟩ := info_parts Tryd.info77
  obtain ⟨fv, qv, L, hR, h0⟩ := h
  have hlen := hR.len
  have H0 := Lib.hid h0; clear h0
  have hemp : s.toList.isEmpty = false := by
    rw [ByteArray.toList_eq]
    cases h : s.data.toList
    · have : s.data.toList.length = s.size := by simp
      rw [h] at this; simp at this; omega
    · rfl
  have hfile := hR.file f
  have hnum := rget_num L f
  obtain ⟨x, hx⟩ : ∃ x, x = rget L f := ⟨_, rfl⟩
  have hsz := (hI.size f).2
  rw [← hx] at hfile hnum
  go_enter Tryd.func48, Tryd.ntmps48
  go_wp2_with fail
  refine (rget_any b fv qv kv st L f w (Sep.block [] _ H0.out) (Sep.row (pre := [_]) H0.out) (by omega)).mono ?_
  rintro e w1 ⟨rfl, ht1⟩
  rw [← hx]
  have HX := Lib.hid (And.intro hR (And.intro hx (And.intro hfile (And.intro hnum hsz)))); clear hx hfile hnum hsz hR
  unfold RF.val
  have H1 : Hid (Sep w0 (w1.alloc (.cells #[.int .i64 x.num, .string x.now, .string x.last] 79)) (blockThing w1.heap.size (xObj x) :: refL b fv qv kv st L post)) := Sep.alloc (H0.out.quiet ht1) (xObj x)
  clear H0 ht1
  go_wp2_with fail
  generalize w1.alloc (.cells #[.int .i64 x.num, .string x.now, .string x.last] 79) = W1 at *
  generalize w1.heap.size = pb at *
  have hxs : x.now.size ≤ 16777216 := by
    obtain ⟨_, _, k3, _, k5⟩ := HX.out
    rw [← k3] at k5
    exact k5
  refine (rput_any x.now s a W1 (by omega) (by omega)).mono ?_
  rintro e W2 ⟨rfl, ht2⟩
  have H2 := Lib.hid (H1.out.quiet ht2); clear ht2 H1
  have hb := Sep.block [] _ H2.out
  have p0 : W2.cell? ⟨pb, 0, none⟩ = some (.int .i64 x.num) := cell_at hb 0
  have p1 : W2.cell? ⟨pb, 1, none⟩ = some (.string x.now) := cell_at hb 1
  have p2 : W2.cell? ⟨pb, 2, none⟩ = some (.string x.last) := cell_at hb 2
  have f1 : W2.frozen? ⟨pb, 1, none⟩ = false := free_at hb 1
  have HB := Lib.hid hb; clear hb
  go_wp2_with fail
  have H3 : Hid (Sep w0 (W2.setCell ⟨pb, 1, none⟩ (.string (putB x.now a s))) (refL b fv qv kv st L post)) :=
    (Sep.block_turned (o' := xObj ⟨x.num, putB x.now a s, x.last⟩) [] _ H2.out (Turns.setCell _ _ _ (by simp)) (heap_setCell_at HB.out 1 _)).drop
  clear H2 HB p0 p1 p2 f1
  generalize W2.setCell ⟨pb, 1, none⟩ (.string (putB x.now a s)) = W3 at *
  refine (rset_sep _ ⟨x.num, putB x.now a s, x.last⟩ H3.out (by omega)).mono ?_
  rintro e W4 ⟨rfl, fv', h4⟩
  have H4 := Lib.hid h4; clear h4 H3
  go_wp2_with fail
  obtain ⟨cnt, hcnt⟩ : ∃ cnt, cnt = (a + s.size - 1) / 64 - a / 64 + 1 := ⟨_, rfl⟩
  generalize hL' : rset L ⟨x.num, putB x.now a s, x.last⟩ = L' at *
  go_loopw [9] (fun iv wr => ∃ k : Nat, k ≤ cnt ∧ iv = .int .i64 ((a : Int) / 64 + (k : Int)) ∧ Hid (∃ qv, Sep w0 wr (refL b fv' qv kv { st with Q := addSecs st.Q f ((a : Int) / 64) k } L' post))) (fun iv _ => cnt - (intOf iv - (a : Int) / 64).toNat)
  case atStart => exact ⟨0, Nat.zero_le _, by simp, _, H4.out⟩
  case round =>
    clear H4
    obtain ⟨k, hk, rfl, qv', hS⟩ := hrel
    have HS := Lib.hid hS; clear hS
    obtain ⟨Q', hQ'⟩ : ∃ Q', Q' = addSecs st.Q f ((a : Int) / 64) k := ⟨_, rfl⟩
    have hql : Q'.length ≤ 900000 := by
      have := addSecs_length st.Q f ((a : Int) / 64) k
      rw [← hQ'] at this
      omega
    have HQ := Lib.hid hQ'
    rw [← hQ'] at HS
    clear hQ'
    obtain ⟨qa, qc, rfl, -⟩ := secs_at (Sep.row (pre := [_, _]) HS.out)
    have hb := Sep.block [] _ HS.out
    have c1 : wr.cell? ⟨b, 1, none⟩ = some (.slice qa Q'.length qc) := cell_at hb 1
    have f1 : wr.frozen? ⟨b, 1, none⟩ = false := free_at hb 1
    have HB := Lib.hid hb; clear hb
    by_cases hlt : k < cnt
    · have hd4 : decide ((a : Int) / 64 + (k : Int) ≤ ((a : Int) + (s.size : Int) - 1) / 64) = true := decide_eq_true (by omega)
      go_wp2_with fail
      refine (rpending_any b fv' _ kv _ Q' f ((a : Int) / 64 + (k : Int)) wr HB.out (Sep.row (pre := [_, _]) HS.out) (by omega)).mono ?_
      rintro e W5 ⟨rfl, rfl⟩
      by_cases hm : (f, (a : Int) / 64 + (k : Int)) ∈ Q'
      · rw [decide_eq_true hm]
        have HN : Hid (addSecs st.Q f ((a : Int) / 64) (k + 1) = Q') := by
          show addSec (addSecs st.Q f ((a : Int) / 64) k) f ((a : Int) / 64 + (k : Int)) = Q'
          rw [← HQ.out, addSec, if_pos hm]
        clear hm
        go_wp2_with fail
        go_roundw
        case rel => exact ⟨k + 1, by omega, by congr 1, _, by rw [HN.out]; exact HS.out⟩
        case measure => simp [intOf]; omega
      · rw [decide_eq_false hm]
        have HN : Hid (addSecs st.Q f ((a : Int) / 64) (k + 1) = Q' ++ [(f, (a : Int) / 64 + (k : Int))]) := by
          show addSec (addSecs st.Q f ((a : Int) / 64) k) f ((a : Int) / 64 + (k : Int)) = _
          rw [← HQ.out, addSec, if_neg hm]
        clear hm
        have HR : Hid ((wr.alloc (.cells #[.int .i64 f, .int .i64 ((a : Int) / 64 + (k : Int))] 77)).ownsRow 0 77 2 (.slice qa Q'.length qc) Q'.length (secCells Q')) := own_kept (Sep.row (pre := [_, _]) HS.out) (Turns.alloc [] wr _) (by simp)
        go_wp2_with (at_builtin; refine wpList_append_src _ rfl (.tmp 45) (.tmp 49) 70 rfl 77 i0 (.agg #[.int .i64 0, .int .i64 0]) 2 16 Tryd.underlying70 hi hz0 hz1 hz2 rfl (by decide) (.slice qa Q'.length qc) Q'.length (secCells Q') rfl HR.out (.slice (some ⟨wr.heap.size, 0, none⟩) 1 1) 1 [.int .i64 f, .int .i64 ((a : Int) / 64 + (k : Int))] rfl (.inr ⟨_, _, rfl, new_cells wr _ 77 _ rfl⟩) ?c1 ?c3 ?c4 ?c5 ?_)
        case c1 => rfl
        case c3 => intro u hu; simp at hu; rcases hu with rfl | rfl <;> rfl
        case c4 => unfold maxLen; omega
        case c5 => omega
        intro v' w5 hown hgr hat
        have HW := Lib.hid (Sep.row_grown [_, _] post HS.out hown hgr hat)
        clear hown hgr hat HR c1 f1
        have hb := Sep.block [] _ HW.out
        have c1 : w5.cell? ⟨b, 1, none⟩ = some (.slice qa Q'.length qc) := cell_at hb 1
        have f1 : w5.frozen? ⟨b, 1, none⟩ = false := free_at hb 1
        have HB2 := Lib.hid hb; clear hb
        obtain ⟨va, vc, rfl, -⟩ := own_shape (Sep.row (pre := [_, _]) HW.out)
        go_wp2_with fail
        go_roundw
        case rel =>
          refine ⟨k + 1, by omega, by congr 1, .slice va (Q'.length + 1) vc, ?_⟩
          rw [HN.out]
          have e1 : secCells (Q' ++ [(f, (a : Int) / 64 + (k : Int))]) = secCells Q' ++ [.int .i64 f, .int .i64 ((a : Int) / 64 + (k : Int))] := by simp [secCells]
          have e2 : (Q' ++ [(f, (a : Int) / 64 + (k : Int))]).length = Q'.length + 1 := by simp
          unfold refL
          simp only []
          rw [e1, e2]
          exact Sep.block_turned (o' := refObj fv' (.slice va (Q'.length + 1) vc) kv { st with Q := Q' }) [] _ HW.out (Turns.setCell w5 ⟨b, 1, none⟩ _ (by simp)) (heap_setCell_at HB2.out 1 _)
        case measure => simp [intOf]; omega
    · have hd4 : decide ((a : Int) / 64 + (k : Int) ≤ ((a : Int) + (s.size : Int) - 1) / 64) = false := decide_eq_false (by omega)
      obtain rfl : k = cnt := by omega
      go_wp2_with fail
      go_end0
      obtain ⟨k1, k2, k3, k4, k5⟩ := HX.out
      rw [← hcnt]
      refine ⟨rfl, fv', .slice qa Q'.length qc, L', ?_, ?_⟩
      · rw [← hL']
        rw [← k3]
        show Rep (rset L ⟨x.num, putB x.now a s, x.last⟩) (updF st.F f ⟨putB x.now a s, x.last⟩)
        have := k1.set ⟨x.num, putB x.now a s, x.last⟩ (by rw [k4]; exact hf)
        rw [k4] at this ⊢
        exact this
      · rw [← HQ.out]
        exact HS.out
end Go.Proofs.YtdcgdnlpagadcaaDoor
