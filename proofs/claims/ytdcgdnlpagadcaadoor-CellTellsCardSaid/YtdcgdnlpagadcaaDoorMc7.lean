/- Contracts and lemmas (texts SetE, SetF, SetG, PureC, DoA, DoB, DoC, DoF, PureD, joined by a program). -/
import Derived.Test.YtdcgdnlpagadcaaDoorMc6
/- Contracts of package disk: maps.DeleteFunc of the set of sectors, the walk. -/
namespace Go.Proofs.YtdcgdnlpagadcaaDoor
open Go.RowKit Go.Proofs.YtdcgdnlpagadcaaDoorMem Go.Maps

set_option maxHeartbeats 1600000 in
set_option maxRecDepth 100000 in
theorem delete_set (b n : Nat) (S : Int → Int → Bool) (f : Int) (c : Nat) (w : World) (h : SetAt w b n S) (hc : w.cell? ⟨c, 0, none⟩ = some (.int .i64 f)) (hcb : c ≠ b) :
    Calls Tryd.prog 56 #[.map (some b), .func (.func 57) #[] #[.pointer (some ⟨c, 0, none⟩)]] w fun e w' => e = .returned (.tuple #[]) ∧ SetAt w' b n (fun g m => S g m && !(g == f)) ∧ Turns [b] w w' := by
  obtain ⟨wI, cnt, hrun, hM, hTI⟩ := h.range f
  have HM := Lib.hid hM; clear hM
  have HTI := Lib.hid hTI
  have HC := Lib.hid hc; clear hc
  clear h hTI
  obtain ⟨r, hr⟩ : ∃ r, r = w.heap.size := ⟨_, rfl⟩
  rw [← hr] at hrun HM
  have HR := Lib.hid hr; clear hr
  go_enter Tryd.func56, Tryd.ntmps56
  go_wp2_with fail
  go_loopw [5] (fun _ wr => ∃ cnt : Nat, Hid (SetMid wr b r n S f cnt) ∧ Hid (Turns [b] w wr)) (fun _ wr => wr.rangeLeft b r)
  case atStart => exact ⟨cnt, HM.out, HTI.out.mono (by simp)⟩
  case round =>
    obtain ⟨cnt, HSM, HTW⟩ := hrel
    have hleq := HSM.out.left_eq
    rcases HSM.out.next with ⟨hnx, hS⟩ | ⟨g, m, x, w1, cnt1, hlt, hnx, ht1, hent, hl1, hno, hyes⟩
    · have HS := Lib.hid hS
      clear hS hleq
      go_wp2_with fail
      go_end0
      exact ⟨rfl, HS.out, HTW.out⟩
    · unfold secVal at hnx hent
      have HL := Lib.hid (And.intro hleq (And.intro hlt hl1))
      have HNO := Lib.hid hno
      have HYES := Lib.hid hyes
      have hcw : w1.cell? ⟨c, 0, none⟩ = some (.int .i64 f) := by
        have h1 := (HTW.out.cell (World.block_lt_of_cell? _ _ HC.out) (by simpa using hcb)).trans HC.out
        have h2 := World.block_lt_of_cell? w _ HC.out
        have h3 := HR.out
        exact (ht1.cell (World.block_lt_of_cell? _ _ h1) (by simp at h2 ⊢; omega)).trans h1
      have HCW := Lib.hid hcw
      have HT1 : Hid (Turns [b] w w1) := HTW.out.trans_new ht1 (fun y hy => by simp at hy; subst hy; exact Or.inr (by rw [HR.out]; exact Nat.le_refl _))
      have hVB : (w1.alloc (.cells #[.int .i64 g, .int .i64 m] 81)).heap[w1.heap.size]? = some (.cells #[.int .i64 g, .int .i64 m] 81 (0, 0)) := heap_alloc_here w1 _
      have HVB := Lib.hid hVB
      have hcA := ((Turns.alloc [] w1 (.cells #[.int .i64 g, .int .i64 m] 81)).cell (World.block_lt_of_cell? _ _ hcw) (by simp)).trans hcw
      have HCA := Lib.hid hcA
      clear hleq hlt hl1 hno hyes hcw ht1 hVB hcA
      go_wp2_with fail
      refine (closure93 g m f x c _ HCA.out).mono ?_
      rintro e w2 ⟨rfl, ht2⟩
      have hbx := (ht2.block w1.heap.size (by simp) (by simp)).trans HVB.out
      have b0 : w2.cell? ⟨w1.heap.size, 0, none⟩ = some (.int .i64 g) := cell_at hbx 0
      have b1 : w2.cell? ⟨w1.heap.size, 1, none⟩ = some (.int .i64 m) := cell_at hbx 1
      have HT2 := Lib.hid ((Turns.alloc [] w1 (.cells #[.int .i64 g, .int .i64 m] 81)).trans ht2)
      clear ht2 hbx
      cases hgf : (g == f)
      · have HS2 := Lib.hid (HNO.out hgf _ HT2.out)
        clear hgf
        go_wp2_with fail
        go_roundw
        case rel => exact ⟨cnt1, HS2.out, HT1.out.trans (HT2.out.mono (by simp))⟩
        case measure => rw [HS2.out.left_eq, HL.out.1]; exact HL.out.2.1
      · obtain ⟨w3, cnt3, hdel, hS3, hle, ht3⟩ := HYES.out hgf _ HT2.out
        unfold secVal at hdel
        have HS3 := Lib.hid (And.intro hS3 (And.intro hle ht3))
        clear hgf hS3 hle ht3
        go_wp2_with fail
        exact ⟨⟨cnt3, HS3.out.1, (HT1.out.trans (HT2.out.mono (by simp))).trans HS3.out.2.2⟩, by rw [HS3.out.1.left_eq, HL.out.1]; have := HL.out.2.1; have := HS3.out.2.1; omega⟩

end Go.Proofs.YtdcgdnlpagadcaaDoor

/- Contracts of package disk: settle. -/
namespace Go.Proofs.YtdcgdnlpagadcaaDoor
open Go.RowKit Go.Proofs.YtdcgdnlpagadcaaDoorMem Go.Maps

set_option maxHeartbeats 800000 in
set_option maxRecDepth 100000 in
theorem delete_nil (f : Int) (c : Nat) (w : World) (hc : w.cell? ⟨c, 0, none⟩ = some (.int .i64 f)) :
    Calls Tryd.prog 54 #[.slice none 0 0, .func (.func 55) #[] #[.pointer (some ⟨c, 0, none⟩)]] w fun e w' => e = .returned (.slice none 0 0) ∧ Turns [] w w' := by
  have HC := Lib.hid hc; clear hc
  have hx : Hid (∀ W, Turns [] w W → Calls Tryd.prog 58 #[.slice none 0 0, .func (.func 55) #[] #[.pointer (some ⟨c, 0, none⟩)]] W fun e w' => e = .returned (.int .i64 (-1)) ∧ Turns [] W w') := fun W hW =>
    index_secs none 0 [] f c W (fun i hi => by simp at hi) ((hW.cell (World.block_lt_of_cell? _ _ HC.out) (by simp)).trans HC.out) (by simp)
  go_enter Tryd.func54, Tryd.ntmps54
  go_wp2_with fail
  refine (hx.out _ (Turns.refl _ _)).mono ?_
  rintro e w1 ⟨rfl, ht1⟩
  have HT := Lib.hid ht1; clear ht1
  go_wp2_with fail
  go_ret
  exact ⟨rfl, HT.out⟩
theorem delete_own (v : Value) (f : Int) (c : Nat) (Q : List (Int × Int)) (w : World) (ho : w.ownsRow 0 81 2 v Q.length (secCells Q)) (hc : w.cell? ⟨c, 0, none⟩ = some (.int .i64 f)) (hcg : c ∉ v.ownBlock.toList) (hl : Q.length ≤ 1000000) :
    Calls Tryd.prog 54 #[v, .func (.func 55) #[] #[.pointer (some ⟨c, 0, none⟩)]] w fun e w' => ∃ v', e = .returned v' ∧
      w'.ownsRow 0 81 2 v' (Q.filter (keepF f)).length (secCells (Q.filter (keepF f))) ∧ v'.ownBlock = v.ownBlock ∧ Turns v.ownBlock.toList w w' := by
  rcases id ho.2 with ⟨rfl, h0⟩ | ⟨g, cap, cur, rfl, _, hg, _⟩
  · obtain rfl : Q = [] := List.eq_nil_of_length_eq_zero h0
    exact (delete_nil f c w hc).mono fun e w' ⟨h1, h2⟩ => ⟨_, h1, by simpa using own_kept ho h2 (by simp), rfl, h2⟩
  · refine (delete_secs g cap f c Q w (RowL.of_own ho) hc (by simpa [Value.ownBlock] using hcg) hl).mono fun e w' ⟨h1, h2, h3⟩ => ⟨_, h1, h2, rfl, by simpa [Value.ownBlock] using h3⟩

set_option maxHeartbeats 3200000 in
set_option maxRecDepth 100000 in
theorem disk_settle (b N : Nat) (FP : List Nat) (st : DS) (kv : Value) (f : Int) (s : ByteArray) (w : World) (h : DiskObj w b FP N st kv) (hf : (Lit.int .i64 f).wf = true) (hQl : st.Q.length ≤ 1000000) (hN : N + 10 < maxLen) :
    Calls Tryd.prog 49 #[.pointer (some ⟨b, 0, none⟩), .int .i64 f, .string s] w fun e w' => e = .returned (.tuple #[]) ∧ DiskPost w b FP (N + 1) (settleS st f s) kv w' := by
  obtain ⟨fb, sb, qv, hb, hF, hS, hQ, hne, hFP⟩ := h
  have hbs := lt_of_at hb
  have hfb := hF.ne hb
  have hsb := hS.ne hb
  have hqb := own_ne hQ hb (by decide)
  have hqf := hF.not_own hQ
  have hqs := hS.not_own hQ
  have hql := own_lt hQ
  have HX := Lib.hid (And.intro hb (And.intro hF (And.intro hS (And.intro hQ (And.intro hne hFP)))))
  have HY := Lib.hid (And.intro hqb (And.intro hqf (And.intro hqs hql)))
  obtain ⟨qa, qc, rfl, -⟩ := own_shape hQ
  have ca0 : ∀ o, (w.alloc o).cell? ⟨b, 0, none⟩ = some (.map (some fb)) := fun o => by rw [World.cell?_alloc_past _ _ _ hbs]; exact cell_at hb 0
  have hcb : (w.alloc (.cells #[.int .i64 f] 3)).heap[w.heap.size]? = some (.cells #[.int .i64 f] 3 (0, 0)) := heap_alloc_here w _
  have cc : (w.alloc (.cells #[.int .i64 f] 3)).cell? ⟨w.heap.size, 0, none⟩ = some (.int .i64 f) := cell_at hcb 0
  have hTA : Turns [] w (w.alloc (.cells #[.int .i64 f] 3)) := Turns.alloc [] w _
  obtain ⟨W1, hr1, hF1, hg1⟩ := (hF.kept hTA.drew (by simp)).store (by omega) f hf ⟨s, s⟩
  unfold File.val at hr1
  dsimp only at hr1
  have ht1 : Turns [fb] w W1 := (hTA.mono (by simp)).trans ((Turns.of_grown (S := [fb]) hg1 (fun k hk => by simp at hk; simp [hk])).of_drew)
  have ht1' : Turns [fb] (w.alloc (.cells #[.int .i64 f] 3)) W1 := ((Turns.of_grown (S := [fb]) hg1 (fun k hk => by simp at hk; simp [hk])).of_drew)
  have hb1 := (ht1.block b hbs (by simp; exact fun e => hfb e.symm)).trans hb
  have hcb1 := (ht1'.block w.heap.size (by simp) (by simp; exact fun e => absurd hF.lt (by omega))).trans hcb
  have hQ1 := own_kept hQ ht1 (fun x hx hxf => by simp at hxf; subst hxf; exact hqf hx)
  have hS1 := hS.kept ht1 (by simp; exact fun e => hne e.symm)
  have c1 : W1.cell? ⟨b, 1, none⟩ = some (.slice qa st.Q.length qc) := cell_at hb1 1
  have HW1 := Lib.hid (And.intro ht1 (And.intro hb1 (And.intro hcb1 (And.intro hQ1 (And.intro hS1 hF1)))))
  have hwlt : w.heap.size < W1.heap.size := lt_of_at hcb1
  clear hb hF hS hQ hne hFP hfb hqb hqf hqs hql hcb hTA hF1 hg1 ht1 ht1' hb1 hcb1 hQ1 hS1 hsb
  go_enter Tryd.func49, Tryd.ntmps49
  go_wp2_with fail
  go_region
  go_wp2_with fail
  refine (delete_own _ f w.heap.size st.Q W1 HW1.out.2.2.2.1 (cell_at HW1.out.2.2.1 0) (fun hx => absurd (HY.out.2.2.2 _ hx) (by omega)) hQl).mono ?_
  rintro e W2 ⟨v', rfl, ho2, hbv, ht2⟩
  obtain ⟨p1, p2, p3, p4, p5, p6⟩ := HW1.out
  obtain ⟨y1, y2, y3, y4⟩ := HY.out
  have hb2 := (ht2.block b (lt_of_at p2) y1).trans p2
  have hcb2 := (ht2.block w.heap.size (lt_of_at p3) (fun hx => absurd (y4 _ hx) (by omega))).trans p3
  have hS2 := p5.kept ht2 y3
  have hF2 := p6.kept ht2 y2
  have c1' : W2.cell? ⟨b, 1, none⟩ = some (.slice qa st.Q.length qc) := cell_at hb2 1
  have f1' : W2.frozen? ⟨b, 1, none⟩ = false := free_at hb2 1
  have c2' : W2.cell? ⟨b, 2, none⟩ = some (.map (some sb)) := cell_at hb2 2
  obtain ⟨va, vc, rfl, -⟩ := own_shape ho2
  have HZ := Lib.hid (And.intro ho2 (And.intro hbv (And.intro ht2 (And.intro hb2 (And.intro hcb2 (And.intro hS2 hF2))))))
  clear p1 p2 p3 p4 p5 p6 y1 y2 y3 y4 ho2 hbv ht2 hb2 hcb2 hS2 hF2 c1
  go_wp2_with fail
  obtain ⟨z1, z2, z3, z4, z5, z6, z7⟩ := HZ.out
  have hS3 := z6.kept (Turns.setCell (S := [b]) W2 ⟨b, 1, none⟩ (.slice va (st.Q.filter (keepF f)).length vc) (by simp)) (by simp; exact z6.ne z4)
  have hc3 := ((Turns.setCell (S := [b]) W2 ⟨b, 1, none⟩ (.slice va (st.Q.filter (keepF f)).length vc) (by simp)).block w.heap.size (lt_of_at z5) (by simp; omega)).trans z5
  refine (delete_set sb N _ f w.heap.size _ hS3 (cell_at hc3 0) (by
    have := HX.out.2.2.1.lt
    omega)).mono ?_
  rintro e W4 ⟨rfl, hS4, ht4⟩
  have H4 := Lib.hid (And.intro hS4 ht4)
  clear hS3 hc3 hS4 ht4 z1 z2 z3 z4 z5 z6 z7
  go_wp2_with fail
  go_end0
  obtain ⟨z1, z2, z3, z4, z5, z6, z7⟩ := HZ.out
  obtain ⟨hb, hF, hS, hQ, hne, hFP⟩ := HX.out
  have tset : Turns [b] W2 (W2.setCell ⟨b, 1, none⟩ (.slice va (st.Q.filter (keepF f)).length vc)) := Turns.setCell _ _ _ (by simp)
  have hb3 := heap_setCell_at z4 1 (.slice va (st.Q.filter (keepF f)).length vc)
  have ht4 := H4.out.2
  have hsb := z6.ne z4
  have hv3 : (W2.setCell ⟨b, 1, none⟩ (.slice va (st.Q.filter (keepF f)).length vc)).ownsRow 0 81 2 (.slice va (st.Q.filter (keepF f)).length vc) (st.Q.filter (keepF f)).length (secCells (st.Q.filter (keepF f))) := own_kept z1 tset (fun x hx hxb => by simp at hxb; subst hxb; rw [z2] at hx; exact HY.out.1 hx)
  refine ⟨rfl, b :: fb :: sb :: (Value.slice va (st.Q.filter (keepF f)).length vc).ownBlock.toList, ⟨fb, sb, _, (ht4.block b (lt_of_at hb3) (by simp; exact fun e => hsb e.symm)).trans hb3, ?_, ?_, own_kept hv3 ht4 (fun x hx hxs => ?_), hne, rfl⟩, ?_⟩
  · exact (z7.kept tset (by simp; exact hF.ne hb)).kept ht4 (by simp; exact hne)
  · have e : (fun g m => decide ((g, m) ∈ st.Q) && !(g == f)) = fun g m => decide ((g, m) ∈ (settleS st f s).Q) := by
      funext g m
      simp only [settleS, List.mem_filter]
      by_cases e1 : g = f <;> simp [e1]
    rw [← e]
    exact H4.out.1.more (by omega)
  · simp at hxs; subst hxs; rw [z2] at hx; exact HY.out.2.2.1 hx
  · rw [z2]
    have hall : Turns FP w W4 := ((HW1.out.1.mono (by rw [hFP]; simp)).trans (z3.mono (by rw [hFP]; intro x hx; simp only [List.mem_cons]; exact Or.inr (Or.inr (Or.inr hx))))).trans ((tset.mono (by rw [hFP]; simp)).trans (ht4.mono (by rw [hFP]; simp)))
    rw [hFP] at hall ⊢
    exact Evolves.of_same hall

end Go.Proofs.YtdcgdnlpagadcaaDoor

/- Contracts of package disk: Sync, Truncate. -/
namespace Go.Proofs.YtdcgdnlpagadcaaDoor
open Go.RowKit Go.Proofs.YtdcgdnlpagadcaaDoorMem Go.Maps

theorem settleI {b B : Nat} {FP : List Nat} {st : DS} {kv : Value} {w : World} (h : DiskI w b FP B st kv) (f : Int) (s : ByteArray) (hf : (Lit.int .i64 f).wf = true) (hs : s.size ≤ 16777216) (hB : B ≤ 900000) :
    Calls Tryd.prog 49 #[.pointer (some ⟨b, 0, none⟩), .int .i64 f, .string s] w fun e w' => e = .returned (.tuple #[]) ∧ DiskIPost w b FP (B + 1) (settleS st f s) kv w' := by
  obtain ⟨hI, N, hN, hD⟩ := h
  refine (disk_settle b N FP st kv f s w hD hf (by omega) (by unfold maxLen; omega)).mono fun _ _ ⟨e1, e2⟩ => ⟨e1, DiskI.post (hI.settle f s hs) e2 ?_⟩
  have : (settleS st f s).Q.length ≤ st.Q.length := List.length_filter_le _ _
  omega
theorem DiskIPost.more {w w' : World} {b B C : Nat} {FP : List Nat} {st : DS} {kv : Value} (h : DiskIPost w b FP B st kv w') (hm : B ≤ C) : DiskIPost w b FP C st kv w' := by
  obtain ⟨FP', hD, hev⟩ := h
  exact ⟨FP', hD.more hm, hev⟩
theorem sizeI {b B : Nat} {FP : List Nat} {st : DS} {kv : Value} {w : World} (h : DiskI w b FP B st kv) (f : Int) (hf : (Lit.int .i64 f).wf = true) :
    Calls Tryd.prog 28 #[.pointer (some ⟨b, 0, none⟩), .int .i64 f] w fun e w' => e = .returned (.int .i64 (st.F f).now.size) ∧ w = w' := by
  obtain ⟨hI, N, hN, hD⟩ := h
  exact disk_size b N FP st kv f w hD hf
theorem readI {b B : Nat} {FP : List Nat} {st : DS} {kv : Value} {w : World} (h : DiskI w b FP B st kv) (f a z : Int) (hf : (Lit.int .i64 f).wf = true) :
    Calls Tryd.prog 29 #[.pointer (some ⟨b, 0, none⟩), .int .i64 f, .int .i64 a, .int .i64 z] w fun e w' => e = .returned (.tuple #[.string (readStr st f a z), .int .i64 (readCode st f a z)]) ∧ w = w' := by
  obtain ⟨hI, N, hN, hD⟩ := h
  exact disk_read b N FP st kv f a z w hD hf
theorem startI {b B : Nat} {FP : List Nat} {st : DS} {kv : Value} {w : World} (h : DiskI w b FP B st kv) :
    Calls Tryd.prog 27 #[.pointer (some ⟨b, 0, none⟩)] w fun e w' => e = .returned (.tuple #[]) ∧ DiskIPost w b FP B { st with down := false } kv w' := by
  obtain ⟨hI, N, hN, hD⟩ := h
  exact (disk_start b N FP st kv w hD).mono fun _ _ ⟨e1, e2⟩ => ⟨e1, DiskI.post (hI.setDown false) e2 hN⟩
theorem loseI {b B : Nat} {FP : List Nat} {st : DS} {kv : Value} {w : World} (h : DiskI w b FP B st kv) (n : Int) (hn : n ≤ 9223372036854775807) :
    Calls Tryd.prog 13 #[.pointer (some ⟨b, 0, none⟩), .int .i64 n] w fun e w' => e = .returned (.tuple #[]) ∧ DiskIPost w b FP B { st with lost := max n 0 } kv w' := by
  obtain ⟨hI, N, hN, hD⟩ := h
  exact (disk_lose b N FP st kv n w hD).mono fun _ _ ⟨e1, e2⟩ => ⟨e1, DiskI.post (hI.setLost _ (by omega) (by omega)) e2 hN⟩

/-- The object's fields, as facts of cells. -/
theorem DiskI.cells {w : World} {b B : Nat} {FP : List Nat} {st : DS} {kv : Value} (h : DiskI w b FP B st kv) :
    (∃ fb, w.cell? ⟨b, 0, none⟩ = some (.map (some fb)) ∧ FilesAt w fb B st.F) ∧ w.cell? ⟨b, 3, none⟩ = some (.int .i64 st.lost) ∧ w.frozen? ⟨b, 3, none⟩ = false ∧ w.cell? ⟨b, 6, none⟩ = some kv := by
  obtain ⟨_, N, hN, fb, sb, qv, hb, hF, _⟩ := h
  exact ⟨⟨fb, cell_at hb 0, hF.more (by omega)⟩, cell_at hb 3, free_at hb 3, cell_at hb 6⟩

/-- The call that may end the machine, at the head of Sync and Truncate. -/
theorem endB_S (st : DS) (K : List Int) (h : endsB st = true) : endS st K = crashS (endsS st) K := by simp [endS, h]
theorem endB_N (st : DS) (K : List Int) (h : endsB st = false) : endS st K = endsS st := by simp [endS, h]

theorem may_crashed {st : DS} (h : endsB st = true) (K : List Int) (f : Int) : mayCode (crashS (endsS st) K) f = 9 := by
  have h1 : st.down = false := by
    unfold endsB at h
    cases hd : st.down
    · rfl
    · simp [hd] at h
  have h2 : (endsS st).down = false := by unfold endsS; split <;> exact h1
  simp [crashS, h2, mayCode]

/-- Behind the head of Sync: what follows. -/
def SyncTail (x : DS) (f : Int) : Int × DS :=
  if mayCode x f ≠ 0 then (mayCode x f, x) else if 0 < x.lost then (10, { x with lost := x.lost - 1 }) else (0, settleS x f (x.F f).now)
theorem crashS_lost (st : DS) (K : List Int) : (crashS st K).lost = st.lost := by unfold crashS; split <;> rfl
theorem endsS_lost (st : DS) : (endsS st).lost = st.lost := by unfold endsS; split <;> rfl
theorem endS_lost (st : DS) (K : List Int) : (endS st K).lost = st.lost := by
  unfold endS; split
  · rw [crashS_lost, endsS_lost]
  · rw [endsS_lost]
theorem sync_tail (st : DS) (K : List Int) (f : Int) : SyncTail (endS st K) f = (syncCode st K f, syncS st K f) := by
  unfold SyncTail syncCode syncS
  simp only
  rw [endS_lost]
  split
  · rfl
  · split <;> rfl

set_option maxHeartbeats 1600000 in
set_option maxRecDepth 100000 in
theorem syncI {b B : Nat} {FP : List Nat} {st : DS} {kv : Value} {K : List Int} {w : World} (h : DiskI w b FP B st kv) (hk : KeepV w kv K FP) (f : Int) (hf : (Lit.int .i64 f).wf = true)
    (hB : B ≤ 800000) (hK : K.length ≤ 1000000) :
    Calls Tryd.prog 34 #[.pointer (some ⟨b, 0, none⟩), .int .i64 f] w fun e w' => e = .returned (.int .i64 (syncCode st K f)) ∧ DiskIPost w b FP (B + 1) (syncS st K f) kv w' := by
  have hst := sync_tail st K f
  have e1 : syncCode st K f = (SyncTail (endS st K) f).1 := by rw [hst]
  have e2 : syncS st K f = (SyncTail (endS st K) f).2 := by rw [hst]
  rw [e1, e2]
  clear hst e1 e2
  have HD := Lib.hid h; clear h
  have HK := Lib.hid hk; clear hk
  obtain ⟨ka, kc, rfl⟩ := HK.out.shape
  cases hE : endsB st
  · rw [endB_N st K hE]
    have HE := Lib.hid hE; clear hE
    by_cases hm : mayCode (endsS st) f = 0
    · by_cases hl : 0 < (endsS st).lost
      · have ht : SyncTail (endsS st) f = (10, { endsS st with lost := (endsS st).lost - 1 }) := by simp [SyncTail, hm, hl]
        rw [ht]; clear ht
        generalize hx : endsS st = x at *
        have HX := Lib.hid hx; clear hx
        have HM := Lib.hid hm; clear hm
        have hl1 : decide (0 < x.lost) = true := decide_eq_true hl
        have hl2 : IntKind.i64.wrap (x.lost - 1) = x.lost - 1 := by
          have := (HX.out ▸ HD.out.1.ends : DInv x).lost
          rw [IntKind.wrap_i64]; omega
        clear hl
        go_enter Tryd.func34, Tryd.ntmps34
        go_wp2_with fail
        refine (endsI HD.out).mono ?_
        rintro e w1 ⟨rfl, FP1, hD1, hev1⟩
        rw [HE.out]
        rw [HX.out] at hD1
        obtain ⟨-, c3, f3, -⟩ := hD1.cells
        have HD1 := Lib.hid (And.intro hD1 hev1); clear hD1 hev1
        go_wp2_with fail
        refine (mayI HD1.out.1 f).mono ?_
        rintro e w2 ⟨rfl, rfl⟩
        rw [HM.out]
        go_wp2_with fail
        go_ret
        obtain ⟨hI, N, hN, hD⟩ := HD1.out.1
        obtain ⟨h1, h2⟩ := hD.set_cell (st' := { x with lost := x.lost - 1 }) (kv' := .slice ka K.length kc) 3 (.int .i64 (x.lost - 1)) rfl rfl (fun _ _ _ => rfl)
        have hlo := hI.lost
        have hpos : 0 < x.lost := by simpa using hl1
        exact ⟨rfl, DiskIPost.trans HD1.out.2 ⟨_, ⟨hI.setLost _ (by omega) (by omega), N, by exact Nat.le_trans hN (Nat.le_succ _), h1⟩, Evolves.of_same h2⟩⟩
      · have ht : SyncTail (endsS st) f = (0, settleS (endsS st) f ((endsS st).F f).now) := by simp [SyncTail, hm, hl]
        rw [ht]; clear ht
        generalize hx : endsS st = x at *
        have HX := Lib.hid hx; clear hx
        have HM := Lib.hid hm; clear hm
        have hl1 : decide (0 < x.lost) = false := decide_eq_false hl
        clear hl
        go_enter Tryd.func34, Tryd.ntmps34
        go_wp2_with fail
        refine (endsI HD.out).mono ?_
        rintro e w1 ⟨rfl, FP1, hD1, hev1⟩
        rw [HE.out]
        rw [HX.out] at hD1
        obtain ⟨⟨fb, c0, hF0⟩, c3, f3, -⟩ := hD1.cells
        have hlk := hF0.look f hf
        have hz := (hD1.1.size f).2
        obtain ⟨y, hy⟩ : ∃ y, y = x.F f := ⟨_, rfl⟩
        rw [← hy] at hlk hz
        unfold File.val at hlk
        have hfn := field_now
        have HY := Lib.hid hy
        have HD1 := Lib.hid (And.intro hD1 hev1); clear hD1 hev1 hF0 hy
        go_wp2_with fail
        refine (mayI HD1.out.1 f).mono ?_
        rintro e w2 ⟨rfl, rfl⟩
        rw [HM.out]
        go_wp2_with fail
        refine (settleI HD1.out.1 f y.now hf hz (by omega)).mono ?_
        rintro e w3 ⟨rfl, hP⟩
        have HP := Lib.hid hP; clear hP
        go_wp2_with fail
        go_ret
        rw [← HY.out]
        exact ⟨rfl, DiskIPost.trans HD1.out.2 HP.out⟩
    · have ht : SyncTail (endsS st) f = (mayCode (endsS st) f, endsS st) := by simp [SyncTail, hm]
      rw [ht]; clear ht
      generalize hx : endsS st = x at *
      have HX := Lib.hid hx; clear hx
      have hm1 : (mayCode x f == 0) = false := by simp [hm]
      have hm2 : (mayCode x f != 0) = true := by simp [hm]
      clear hm
      go_enter Tryd.func34, Tryd.ntmps34
      go_wp2_with fail
      refine (endsI HD.out).mono ?_
      rintro e w1 ⟨rfl, FP1, hD1, hev1⟩
      rw [HE.out]
      rw [HX.out] at hD1
      have HD1 := Lib.hid (And.intro hD1 hev1); clear hD1 hev1
      go_wp2_with fail
      refine (mayI HD1.out.1 f).mono ?_
      rintro e w2 ⟨rfl, rfl⟩
      go_wp2_with fail
      go_ret
      exact ⟨rfl, DiskIPost.trans HD1.out.2 ⟨_, HD1.out.1.more (by omega), Evolves.of_same (Turns.refl _ _)⟩⟩
  · rw [endB_S st K hE]
    have hm : mayCode (crashS (endsS st) K) f = 9 := may_crashed hE K f
    have ht : SyncTail (crashS (endsS st) K) f = (9, crashS (endsS st) K) := by simp [SyncTail, hm]
    rw [ht]; clear ht
    have HE := Lib.hid hE; clear hE
    have HM := Lib.hid hm; clear hm
    go_enter Tryd.func34, Tryd.ntmps34
    go_wp2_with fail
    refine (endsI HD.out).mono ?_
    rintro e w1 ⟨rfl, FP1, hD1, hev1⟩
    rw [HE.out]
    obtain ⟨-, -, -, c6⟩ := hD1.cells
    have hk1 := HK.out.evolves hev1
    have HD1 := Lib.hid (And.intro hD1 (And.intro hev1 hk1)); clear hD1 hev1 hk1
    go_wp2_with fail
    refine (crashI HD1.out.1 HD1.out.2.2 (by omega) hK).mono ?_
    rintro e w2 ⟨rfl, FP2, hD2, hev2⟩
    have HD2 := Lib.hid (And.intro hD2 hev2); clear hD2 hev2
    go_wp2_with fail
    refine (mayI HD2.out.1 f).mono ?_
    rintro e w3 ⟨rfl, rfl⟩
    rw [HM.out]
    go_wp2_with fail
    go_ret
    exact ⟨rfl, DiskIPost.trans HD1.out.2.1 (DiskIPost.trans HD2.out.2 ⟨_, HD2.out.1.more (by omega), Evolves.of_same (Turns.refl _ _)⟩)⟩

end Go.Proofs.YtdcgdnlpagadcaaDoor

/- Plain: the acts of the statements about the disk. No program in sight. -/
namespace Go.Proofs.YtdcgdnlpagadcaaDoor

structure DAct where
  doo : Int
  f : Int
  n : Int
  s : ByteArray
  keep : List Int
def doK (K : List Int) (a : DAct) : List Int := if a.doo % 8 = 5 then a.keep else K
def doS (st : DS) (K : List Int) (a : DAct) : DS :=
  if a.doo % 8 = 2 then syncS st K a.f else if a.doo % 8 = 3 then truncS st K a.f a.n else if a.doo % 8 = 4 then { st with lost := max (a.n % 4) 0 } else
  if a.doo % 8 = 5 then { st with armed := max a.n 0 } else if a.doo % 8 = 6 then crashS st a.keep else if a.doo % 8 = 7 then { st with down := false } else writeS st K a.f a.n a.s
def doC (st : DS) (K : List Int) (a : DAct) : Int :=
  if a.doo % 8 = 2 then syncCode st K a.f else if a.doo % 8 = 3 then truncCode st K a.f a.n else if a.doo % 8 = 4 then 0 else
  if a.doo % 8 = 5 then 0 else if a.doo % 8 = 6 then 0 else if a.doo % 8 = 7 then 0 else writeCode st a.f a.n a.s
/-- The state behind the first k acts. -/
def playTo (st : DS) (K : List Int) (l : List DAct) : Nat → DS × List Int
  | 0 => (st, K)
  | k + 1 => match l[k]? with
    | some a => (doS (playTo st K l k).1 (playTo st K l k).2 a, doK (playTo st K l k).2 a)
    | none => playTo st K l k
theorem playTo_succ (st : DS) (K : List Int) (l : List DAct) (k : Nat) (h : k < l.length) : playTo st K l (k + 1) = (doS (playTo st K l k).1 (playTo st K l k).2 l[k], doK (playTo st K l k).2 l[k]) := by
  simp only [playTo, List.getElem?_eq_getElem h]
theorem DInv.do {st : DS} (h : DInv st) (K : List Int) (a : DAct) (hn : a.n ≤ 9223372036854775807) : DInv (doS st K a) := by
  unfold doS
  split
  · exact h.sync K a.f
  split
  · exact h.trunc K a.f a.n
  split
  · exact h.setLost _ (by omega) (by omega)
  split
  · exact h.setArmed _ (by omega) (by omega)
  split
  · exact h.crash a.keep
  split
  · exact h.setDown false
  · exact h.write K a.f a.n a.s
def fewAct (a : DAct) : Bool := decide (a.s.size ≤ 300) && (decide (a.keep.length ≤ 60) && !(decide (3000 < a.n) && decide (a.n < 16776916)))
def fewD (l : List DAct) : Bool := l.all fewAct && decide ((l.length : Int) ≤ 40)

end Go.Proofs.YtdcgdnlpagadcaaDoor

/- Statements about the disk: do, at a disk. -/
namespace Go.Proofs.YtdcgdnlpagadcaaDoor
open Go.RowKit Go.Proofs.YtdcgdnlpagadcaaDoorMem Go.Maps

theorem armI {b B : Nat} {FP : List Nat} {st : DS} {kv v : Value} {K : List Int} {w : World} (n : Int) (h : DiskI w b FP B st kv) (hv : IntsV w v K) (hn : n ≤ 9223372036854775807) (hK : K.length ≤ 1000000) :
    Calls Tryd.prog 14 #[.pointer (some ⟨b, 0, none⟩), .int .i64 n, v] w fun e w' => e = .returned (.tuple #[]) ∧ ∃ kv', DiskI w' b FP B { st with armed := max n 0 } kv' ∧ KeepV w' kv' K FP ∧ Turns FP w w' ∧ OwnInts w' w.heap.size kv' K := by
  obtain ⟨hI, N, hN, hD⟩ := h
  refine (disk_arm b N FP st kv v n K w hD hv hK).mono fun _ w' ⟨e1, kv', hk, hD', ht⟩ => ⟨e1, kv', ⟨hI.setArmed _ (by omega) (by omega), N, hN, hD'⟩, ?_, ht, hk⟩
  obtain ⟨a, c, rfl, hi⟩ := hk.intsV
  refine ⟨a, c, rfl, fun i h => ?_⟩
  obtain ⟨kb, off, rfl, hc⟩ := hi i h
  refine ⟨kb, off, rfl, fun hx => ?_, hc⟩
  have h1 := hD.lt kb hx
  rcases hk.2 with ⟨e, _⟩ | ⟨g, cap, cur, e, hg, _⟩
  · simp at e
  · simp only [Value.slice.injEq, Option.some.injEq, Addr.mk.injEq] at e
    have := e.1.1
    omega

/-- Behind do. -/
def DoPost (w : World) (b : Nat) (FP : List Nat) (B : Nat) (st : DS) (kv : Value) (K : List Int) (w' : World) : Prop :=
  ∃ FP' kv', DiskI w' b FP' B st kv' ∧ KeepV w' kv' K FP' ∧ Evolves FP FP' w w' ∧ (kv' = kv ∨ OwnInts w' w.heap.size kv' K)
theorem DoPost.of {w w' : World} {b B C : Nat} {FP : List Nat} {st : DS} {kv : Value} {K : List Int} (h : DiskIPost w b FP B st kv w') (hk : KeepV w kv K FP) (hm : B ≤ C) : DoPost w b FP C st kv K w' := by
  obtain ⟨FP', hD, hev⟩ := h
  exact ⟨FP', kv, hD.more hm, hk.evolves hev, hev, Or.inl rfl⟩
theorem DoPost.before {w w1 w' : World} {b B : Nat} {FP : List Nat} {st : DS} {kv : Value} {K : List Int} (ht : Turns [] w w1) (h : DoPost w1 b FP B st kv K w') : DoPost w b FP B st kv K w' := by
  obtain ⟨FP', kv', hD, hk, hev, ho⟩ := h
  refine ⟨FP', kv', hD, hk, (Evolves.of_same (ht.mono (by simp))).trans hev, ho.imp id fun h => own_above (own_base h (Nat.zero_le _)) (fun x hx => Nat.le_trans ht.size (h.lt x (by simpa using hx)).1)⟩
theorem KeepV.kept {w w' : World} {kv : Value} {K : List Int} {FP : List Nat} (h : KeepV w kv K FP) (ht : Turns [] w w') : KeepV w' kv K FP := h.evolves (Evolves.of_same (ht.mono (by simp)))

end Go.Proofs.YtdcgdnlpagadcaaDoor

/- Statements about the disk: the acts in memory, few, played. -/
namespace Go.Proofs.YtdcgdnlpagadcaaDoor
open Go.RowKit Go.Proofs.YtdcgdnlpagadcaaDoorMem Go.Maps

def DAct.wf (a : DAct) : Prop := (Lit.int .i64 a.f).wf = true ∧ a.n ≤ 9223372036854775807
theorem IntsV.old {w w' : World} {v : Value} {K : List Int} (h : IntsV w v K) (ht : Turns [] w w') {FP : List Nat} (hFP : ∀ x ∈ FP, w.heap.size ≤ x) : KeepV w' v K FP := by
  obtain ⟨a, c, rfl, hi⟩ := h
  refine ⟨a, c, rfl, fun i hi' => ?_⟩
  obtain ⟨b, off, rfl, hc⟩ := hi i hi'
  have hlt := World.block_lt_of_cell? _ _ hc
  refine ⟨b, off, rfl, fun hx => ?_, (ht.cell (a := ⟨b, off + i, none⟩) hlt (by simp)).trans hc⟩
  have := hFP b hx
  exact absurd hlt (by simpa using this)
end Go.Proofs.YtdcgdnlpagadcaaDoor

/- Statements about the disk: a disk with its own Keep, among other things. -/
namespace Go.Proofs.YtdcgdnlpagadcaaDoor
open Go.RowKit Go.Proofs.YtdcgdnlpagadcaaDoorMem Go.Maps

/-- A disk and the row of its Keep. -/
def Mach (w : World) (b : Nat) (FP : List Nat) (B : Nat) (st : DS) (K : List Int) : Prop :=
  ∃ kv FP0, DiskI w b FP0 B st kv ∧ OwnInts w 0 kv K ∧ (∀ x ∈ kv.ownBlock.toList, x ∉ FP0) ∧ FP = FP0 ++ kv.ownBlock.toList
theorem Mach.lt {w : World} {b B : Nat} {FP : List Nat} {st : DS} {K : List Int} (h : Mach w b FP B st K) : ∀ x ∈ FP, x < w.heap.size := by
  obtain ⟨kv, FP0, hD, ho, _, rfl⟩ := h
  intro x hx
  rcases List.mem_append.1 hx with hx | hx
  · exact hD.lt x hx
  · exact own_lt ho x hx
theorem Mach.kept {w w' : World} {b B : Nat} {FP S : List Nat} {st : DS} {K : List Int} (h : Mach w b FP B st K) (ht : Turns S w w') (hd : ∀ x ∈ FP, x ∉ S) : Mach w' b FP B st K := by
  obtain ⟨kv, FP0, hD, ho, h1, rfl⟩ := h
  exact ⟨kv, FP0, hD.kept ht (fun x hx => hd x (by simp [hx])), own_kept ho ht (fun x hx => hd x (List.mem_append.2 (Or.inr hx))), h1, rfl⟩
def machThing (b B : Nat) (st : DS) (K : List Int) : Thing :=
  ⟨fun w FP => Mach w b FP B st K, fun _ _ h => h.lt, fun _ _ _ _ h ht hd => h.kept ht hd⟩
theorem own_keep {w : World} {kv : Value} {K : List Int} {FP : List Nat} (h : OwnInts w 0 kv K) (hd : ∀ x ∈ kv.ownBlock.toList, x ∉ FP) : KeepV w kv K FP := by
  obtain ⟨a, c, rfl, hi⟩ := h.intsV
  refine ⟨a, c, rfl, fun i hi' => ?_⟩
  obtain ⟨b, off, rfl, hc⟩ := hi i hi'
  rcases h.2 with ⟨e, _⟩ | ⟨g, cap, cur, e, hg, _⟩
  · simp at e
  · simp only [Value.slice.injEq, Option.some.injEq, Addr.mk.injEq] at e
    obtain ⟨⟨rfl, rfl, -⟩, -⟩ := e
    exact ⟨b, 0, rfl, hd b (by simp [Value.ownBlock]), hc⟩
theorem keep_unique {w : World} {kv : Value} {K K' : List Int} {FP : List Nat} (h : OwnInts w 0 kv K) (h' : KeepV w kv K' FP) : K' = K := by
  obtain ⟨a, c, rfl, hi⟩ := h.intsV
  obtain ⟨a', c', e, hi'⟩ := h'
  simp only [Value.slice.injEq] at e
  obtain ⟨rfl, hl, rfl⟩ := e
  apply List.ext_getElem hl.symm
  intro i h1 h2
  obtain ⟨b, off, rfl, hc⟩ := hi i h2
  obtain ⟨b', off', e, _, hc'⟩ := hi' i h1
  simp only [Option.some.injEq, Addr.mk.injEq] at e
  obtain ⟨rfl, rfl, _⟩ := e
  rw [hc] at hc'
  simpa using hc'.symm

theorem Mach.open {w : World} {b B : Nat} {FP : List Nat} {st : DS} {K : List Int} (h : Mach w b FP B st K) :
    ∃ kv FP0, DiskI w b FP0 B st kv ∧ KeepV w kv K FP0 ∧ (∀ x ∈ FP0, x ∈ FP) ∧ ∀ {B' : Nat} {st' : DS} {K' : List Int} {w' : World}, DoPost w b FP0 B' st' kv K' w' → ∃ FP', Mach w' b FP' B' st' K' ∧ Evolves FP FP' w w' := by
  obtain ⟨kv, FP0, hD, ho, hd, rfl⟩ := h
  refine ⟨kv, FP0, hD, own_keep ho hd, fun x hx => by simp [hx], fun {B' st' K' w'} hP => ?_⟩
  obtain ⟨FP', kv', hD', hk', hev, hor⟩ := hP
  rcases hor with rfl | ho'
  · have ho2 := own_kept ho hev.1 hd
    obtain rfl := keep_unique ho2 hk'
    refine ⟨FP' ++ kv'.ownBlock.toList, ⟨kv', FP', hD', ho2, fun x hx hx' => ?_, rfl⟩, hev.1.mono (by intro x hx; simp [hx]), fun x hx => ?_⟩
    · rcases hev.2 x hx' with h1 | h1
      · exact hd x hx h1
      · have := own_lt ho x hx; omega
    · rcases List.mem_append.1 hx with hx | hx
      · exact (hev.2 x hx).imp (fun h => by simp [h]) id
      · exact Or.inl (List.mem_append.2 (Or.inr hx))
  · have hge : ∀ x ∈ kv'.ownBlock.toList, w.heap.size ≤ x := fun x hx => (ho'.lt x (by simpa using hx)).1
    have ho0 : OwnInts w' 0 kv' K' := own_base ho' (Nat.zero_le _)
    refine ⟨FP' ++ kv'.ownBlock.toList, ⟨kv', FP', hD', ho0, fun x hx hx' => ?_, rfl⟩, hev.1.mono (by intro x hx; simp [hx]), fun x hx => ?_⟩
    · obtain ⟨a, c, e, hi⟩ := hk'
      rcases ho'.2 with ⟨e2, _⟩ | ⟨g, cap, cur, e2, hg, hcur, _⟩
      · rw [e2] at hx; simp [Value.ownBlock] at hx
      · rw [e2] at hx
        simp [Value.ownBlock] at hx
        subst hx
        by_cases h0 : 0 < K'.length
        · obtain ⟨kb, off, e3, hn, _⟩ := hi 0 h0
          rw [e2, e3] at e
          simp only [Value.slice.injEq, Option.some.injEq, Addr.mk.injEq] at e
          obtain ⟨⟨rfl, _⟩, _⟩ := e
          exact hn hx'
        · obtain ⟨_, N, _, hobj⟩ := hD'
          obtain ⟨fb, sb, qv, hb, hF, hS, hQ, hne, hFP⟩ := hobj
          rw [hFP] at hx'
          simp only [List.mem_cons] at hx'
          rcases hx' with rfl | rfl | rfl | hx'
          · rw [hb] at hcur; simp at hcur
          · exact hF.not_own ho0 (by rw [e2]; simp [Value.ownBlock])
          · exact hS.not_own ho0 (by rw [e2]; simp [Value.ownBlock])
          · exact own_ne hQ hcur (by decide) hx'
    · rcases List.mem_append.1 hx with hx | hx
      · exact (hev.2 x hx).imp (fun h => by simp [h]) id
      · exact Or.inr (hge x hx)

end Go.Proofs.YtdcgdnlpagadcaaDoor

/- Statements about the disk: played. -/
namespace Go.Proofs.YtdcgdnlpagadcaaDoor
open Go.RowKit Go.Proofs.YtdcgdnlpagadcaaDoorMem Go.Maps

theorem Sep.mach {w0 w : World} {b B : Nat} {st : DS} {K : List Int} (pre post : List Thing) (h : Sep w0 w (pre ++ machThing b B st K :: post)) :
    ∃ kv FP0, DiskI w b FP0 B st kv ∧ KeepV w kv K FP0 ∧ (∀ x ∈ FP0, w0.heap.size ≤ x) ∧ ∀ {B' : Nat} {st' : DS} {K' : List Int} {w' : World}, DoPost w b FP0 B' st' kv K' w' → Sep w0 w' (pre ++ machThing b B' st' K' :: post) := by
  obtain ⟨FP, hM, hge, step⟩ := h.pick pre _ post
  obtain ⟨kv, FP0, hD, hK, hsub, hstep⟩ := Mach.open hM
  refine ⟨kv, FP0, hD, hK, fun x hx => hge x (hsub x hx), fun {B' st' K' w'} hP => ?_⟩
  obtain ⟨FP', hM', hev⟩ := hstep hP
  exact step w' FP' (machThing b B' st' K') hev hM'
theorem mach_new {w0 w : World} (ts : List Thing) (h : Sep w0 w ts) : Calls Tryd.prog 10 #[] w fun e w' => ∃ b, e = .returned (.pointer (some ⟨b, 0, none⟩)) ∧ Sep w0 w' (machThing b 0 DS.new [] :: ts) :=
  (disk_new w).mono fun e w' ⟨b, FP, h1, h2, h3, h4⟩ => ⟨b, h1, h.add (t := machThing b 0 DS.new []) (FP := FP ++ []) h3 ⟨.slice none 0 0, FP, ⟨DInv.new, 0, by simp [DS.new], h2⟩, World.ownsRow_nil _ _ _ _, by simp [Value.ownBlock], by simp [Value.ownBlock]⟩ (by simpa using h4)⟩

section
variable {w0 w : World} {b B : Nat} {st : DS} {K : List Int}
theorem dwrite_sep (pre post : List Thing) (f a : Int) (s : ByteArray) (h : Sep w0 w (pre ++ machThing b B st K :: post)) (hf : (Lit.int .i64 f).wf = true) (hB : B + s.size ≤ 800000) (hK : K.length ≤ 1000000) :
    Calls Tryd.prog 32 #[.pointer (some ⟨b, 0, none⟩), .int .i64 f, .int .i64 a, .string s] w fun e w' => e = .returned (.int .i64 (writeCode st f a s)) ∧ Sep w0 w' (pre ++ machThing b (B + 8 + s.size) (writeS st K f a s) K :: post) := by
  obtain ⟨kv, FP0, hD, hK0, hge, step⟩ := Sep.mach pre post h
  exact (writeI hD hK0 f a s hf hB hK).mono fun e w' ⟨h1, h2⟩ => ⟨h1, step (DoPost.of h2 hK0 (Nat.le_refl _))⟩
theorem dsync_sep (pre post : List Thing) (f : Int) (h : Sep w0 w (pre ++ machThing b B st K :: post)) (hf : (Lit.int .i64 f).wf = true) (hB : B ≤ 800000) (hK : K.length ≤ 1000000) :
    Calls Tryd.prog 34 #[.pointer (some ⟨b, 0, none⟩), .int .i64 f] w fun e w' => e = .returned (.int .i64 (syncCode st K f)) ∧ Sep w0 w' (pre ++ machThing b (B + 1) (syncS st K f) K :: post) := by
  obtain ⟨kv, FP0, hD, hK0, hge, step⟩ := Sep.mach pre post h
  exact (syncI hD hK0 f hf hB hK).mono fun e w' ⟨h1, h2⟩ => ⟨h1, step (DoPost.of h2 hK0 (Nat.le_refl _))⟩
theorem dcrash_sep (pre post : List Thing) (v : Value) (C : List Int) (h : Sep w0 w (pre ++ machThing b B st K :: post)) (hv : IntsV w0 v C) (hB : B ≤ 900000) (hC : C.length ≤ 1000000) :
    Calls Tryd.prog 26 #[.pointer (some ⟨b, 0, none⟩), v] w fun e w' => e = .returned (.tuple #[]) ∧ Sep w0 w' (pre ++ machThing b B (crashS st C) K :: post) := by
  obtain ⟨kv, FP0, hD, hK0, hge, step⟩ := Sep.mach pre post h
  exact (crashI hD (hv.old h.turns hge) hB hC).mono fun e w' ⟨h1, h2⟩ => ⟨h1, step (DoPost.of h2 hK0 (Nat.le_refl _))⟩
theorem darm_sep (pre post : List Thing) (n : Int) (v : Value) (C : List Int) (h : Sep w0 w (pre ++ machThing b B st K :: post)) (hv : IntsV w0 v C) (hn : n ≤ 9223372036854775807) (hC : C.length ≤ 1000000) :
    Calls Tryd.prog 14 #[.pointer (some ⟨b, 0, none⟩), .int .i64 n, v] w fun e w' => e = .returned (.tuple #[]) ∧ Sep w0 w' (pre ++ machThing b B { st with armed := max n 0 } C :: post) := by
  obtain ⟨kv, FP0, hD, hK0, hge, step⟩ := Sep.mach pre post h
  exact (armI n hD (hv.old h.turns hge).ints.1 hn hC).mono fun e w' ⟨h1, kv', h2, h3, h4, h5⟩ => ⟨h1, step ⟨FP0, kv', h2, h3, Evolves.of_same h4, Or.inr h5⟩⟩
theorem dstart_sep (pre post : List Thing) (h : Sep w0 w (pre ++ machThing b B st K :: post)) :
    Calls Tryd.prog 27 #[.pointer (some ⟨b, 0, none⟩)] w fun e w' => e = .returned (.tuple #[]) ∧ Sep w0 w' (pre ++ machThing b B { st with down := false } K :: post) := by
  obtain ⟨kv, FP0, hD, hK0, hge, step⟩ := Sep.mach pre post h
  exact (startI hD).mono fun e w' ⟨h1, h2⟩ => ⟨h1, step (DoPost.of h2 hK0 (Nat.le_refl _))⟩
theorem dread_sep (pre post : List Thing) (f a z : Int) (h : Sep w0 w (pre ++ machThing b B st K :: post)) (hf : (Lit.int .i64 f).wf = true) :
    Calls Tryd.prog 29 #[.pointer (some ⟨b, 0, none⟩), .int .i64 f, .int .i64 a, .int .i64 z] w fun e w' => e = .returned (.tuple #[.string (readStr st f a z), .int .i64 (readCode st f a z)]) ∧ w = w' := by
  obtain ⟨kv, FP0, hD, hK0, hge, step⟩ := Sep.mach pre post h
  exact readI hD f a z hf
theorem dsize_sep (pre post : List Thing) (f : Int) (h : Sep w0 w (pre ++ machThing b B st K :: post)) (hf : (Lit.int .i64 f).wf = true) :
    Calls Tryd.prog 28 #[.pointer (some ⟨b, 0, none⟩), .int .i64 f] w fun e w' => e = .returned (.int .i64 (st.F f).now.size) ∧ w = w' := by
  obtain ⟨kv, FP0, hD, hK0, hge, step⟩ := Sep.mach pre post h
  exact sizeI hD f hf
theorem mach_inv (pre post : List Thing) (h : Sep w0 w (pre ++ machThing b B st K :: post)) : DInv st := by
  obtain ⟨kv, FP0, hD, hK0, hge, step⟩ := Sep.mach pre post h
  exact hD.1
end

end Go.Proofs.YtdcgdnlpagadcaaDoor

/- Plain: a file that is synced is not touched. No program in sight. -/
namespace Go.Proofs.YtdcgdnlpagadcaaDoor

/-- File f is n, durably. -/
def Quiet (st : DS) (f : Int) (n : ByteArray) : Prop := st.F f = ⟨n, n⟩ ∧ ∀ p ∈ st.Q, p.1 ≠ f
theorem may_zero {st : DS} {f : Int} (h : mayCode st f = 0) : st.down = false ∧ 0 ≤ f ∧ f < 16 := by
  unfold mayCode at h
  split at h
  · cases h
  · rename_i hd
    split at h
    · cases h
    · exact ⟨by simpa using hd, by omega, by omega⟩
theorem may_of {st : DS} {f : Int} (h : st.down = false) (h0 : 0 ≤ f) (h1 : f < 16) : mayCode st f = 0 := by
  unfold mayCode
  rw [h, if_neg (by simp), if_neg (by omega)]
theorem Quiet.ends {st : DS} {f : Int} {n : ByteArray} (h : Quiet st f n) : Quiet (endsS st) f n := by
  unfold endsS; split <;> exact h
theorem Quiet.wr {st : DS} {f g : Int} {n : ByteArray} (h : Quiet st f n) (hg : g ≠ f) (a : Int) (s : ByteArray) : Quiet (wrS st g a s) f n := by
  unfold wrS
  split
  · refine ⟨?_, fun p hp => ?_⟩
    · simp only; rw [updF_other _ (fun e => hg e.symm)]; exact h.1
    · simp only at hp
      rw [mem_addSecs] at hp
      rcases hp with hp | ⟨j, _, rfl⟩
      · exact h.2 p hp
      · exact hg
  · exact h
theorem Quiet.crash {st : DS} {f : Int} {n : ByteArray} (h : Quiet st f n) (K : List Int) : Quiet (crashS st K) f n := by
  unfold crashS
  split
  · exact h
  · refine ⟨?_, fun p hp => by simp at hp⟩
    simp only [lastF]
    rw [crashTo_other h.2 _ (Nat.le_refl _), h.1]
theorem Quiet.settle {st : DS} {f g : Int} {n : ByteArray} (h : Quiet st f n) (hg : g ≠ f) (s : ByteArray) : Quiet (settleS st g s) f n := by
  refine ⟨?_, fun p hp => h.2 p (List.mem_filter.1 hp).1⟩
  simp only [settleS]; rw [updF_other _ (fun e => hg e.symm)]; exact h.1
theorem Quiet.end {st : DS} {f : Int} {n : ByteArray} (h : Quiet st f n) (K : List Int) : Quiet (endS st K) f n := by
  unfold endS; split
  · exact h.ends.crash K
  · exact h.ends
theorem Quiet.do {st : DS} {f : Int} {n : ByteArray} (h : Quiet st f n) (K : List Int) (a : DAct) (ha : a.doo % 8 < 4 ∧ a.f ≠ f ∨ a.doo % 8 = 4) : Quiet (doS st K a) f n := by
  unfold doS
  by_cases h4 : a.doo % 8 = 4
  · rw [if_neg (by omega), if_neg (by omega), if_pos h4]; exact h
  · obtain ⟨hlt, hf⟩ := ha.resolve_right h4
    have hx := h.end K
    split
    · unfold syncS
      simp only
      split
      · exact hx
      split
      · exact hx
      · exact hx.settle hf _
    split
    · unfold truncS
      simp only
      split
      · exact hx
      split
      · exact hx
      · exact hx.settle hf _
    rw [if_neg (by omega), if_neg (by omega), if_neg (by omega)]
    unfold writeS
    split
    · exact (h.ends.wr hf _ _).crash K
    · exact h.ends.wr hf _ _
theorem sync_ok {st : DS} {K : List Int} {f : Int} (h : syncCode st K f = 0) : mayCode st f = 0 ∧ mayCode (syncS st K f) f = 0 ∧ Quiet (syncS st K f) f (st.F f).now := by
  unfold syncCode at h
  split at h
  · contradiction
  rename_i hm
  have hm' : mayCode (endS st K) f = 0 := by simpa using hm
  split at h
  · cases h
  rename_i hl
  obtain ⟨hd, h0, h1⟩ := may_zero hm'
  have hE : endsB st = false := by
    cases hE : endsB st
    · rfl
    · unfold endS at hd
      rw [if_pos hE] at hd
      unfold crashS at hd
      split at hd
      · rename_i h2; rw [h2] at hd; cases hd
      · cases hd
  have he : endS st K = endsS st := by simp [endS, hE]
  have hsd : st.down = false := by
    rw [he] at hd
    unfold endsS at hd
    split at hd
    · exact hd
    · exact hd
  have hF : (endsS st).F = st.F := by unfold endsS; split <;> rfl
  have hll : (endsS st).lost = st.lost := by unfold endsS; split <;> rfl
  have hs : syncS st K f = settleS (endsS st) f (st.F f).now := by
    unfold syncS
    simp only [he]
    rw [if_neg (by rw [← he]; exact hm), hll, if_neg hl, hF]
  refine ⟨may_of hsd h0 h1, ?_, ?_⟩
  · rw [hs]
    rw [he] at hm'
    exact hm'
  · rw [hs]
    refine ⟨by simp only [settleS]; rw [updF_same], fun p hp => ?_⟩
    have := (List.mem_filter.1 hp).2
    simpa using this
theorem read_whole {st : DS} {f : Int} (h : mayCode st f = 0) : readCode st f 0 16777216 = 0 ∧ readStr st f 0 16777216 = (st.F f).now.extract 0 16777216 := by
  have e : readCode st f 0 16777216 = 0 := by rw [readCode, if_pos h, if_neg (by omega)]
  refine ⟨e, ?_⟩
  rw [readStr, if_pos e]
  rfl

end Go.Proofs.YtdcgdnlpagadcaaDoor
