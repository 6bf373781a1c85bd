/- Contracts and lemmas (texts SetE, SetF, SetG, PureC, joined by a program). -/
import Derived.Test.YtmikjninonpejaaMb10
/- Contracts of package disk: maps.DeleteFunc of the set of sectors, the walk. -/
namespace Go.Proofs.Ytmikjninonpejaa
open Go.RowKit Go.Proofs.YtmikjninonpejaaMem Go.Maps

set_option maxHeartbeats 1600000 in
set_option maxRecDepth 100000 in
theorem delete_set (b n : Nat) (S : Int → Int → Bool) (f : Int) (c : Nat) (w : World) (h : SetAt w b n S) (hc : w.cell? ⟨c, 0, none⟩ = some (.int .i64 f)) (hcb : c ≠ b) :
    Calls Try.prog 92 #[.map (some b), .func (.func 93) #[] #[.pointer (some ⟨c, 0, none⟩)]] w fun e w' => e = .returned (.tuple #[]) ∧ SetAt w' b n (fun g m => S g m && !(g == f)) ∧ Turns [b] w w' := by
  obtain ⟨wI, cnt, hrun, hM, hTI⟩ := h.range f
  have HM := Lib.hid hM; clear hM
  have HTI := Lib.hid hTI
  have HC := Lib.hid hc; clear hc
  clear h hTI
  obtain ⟨r, hr⟩ : ∃ r, r = w.heap.size := ⟨_, rfl⟩
  rw [← hr] at hrun HM
  have HR := Lib.hid hr; clear hr
  go_enter Try.func92, Try.ntmps92
  go_wp2_with fail
  go_loopw [5] (fun _ wr => ∃ cnt : Nat, Hid (SetMid wr b r n S f cnt) ∧ Hid (Turns [b] w wr)) (fun _ wr => wr.rangeLeft b r)
  case atStart => exact ⟨cnt, HM.out, HTI.out.mono (by simp)⟩
  case round =>
    obtain ⟨cnt, HSM, HTW⟩ := hrel
    have hleq := HSM.out.left_eq
    rcases HSM.out.next with ⟨hnx, hS⟩ | ⟨g, m, x, w1, cnt1, hlt, hnx, ht1, hent, hl1, hno, hyes⟩
    · have HS := Lib.hid hS
      clear hS hleq
      go_wp2_with fail
      go_end0
      exact ⟨rfl, HS.out, HTW.out⟩
    · unfold secVal at hnx hent
      have HL := Lib.hid (And.intro hleq (And.intro hlt hl1))
      have HNO := Lib.hid hno
      have HYES := Lib.hid hyes
      have hcw : w1.cell? ⟨c, 0, none⟩ = some (.int .i64 f) := by
        have h1 := (HTW.out.cell (World.block_lt_of_cell? _ _ HC.out) (by simpa using hcb)).trans HC.out
        have h2 := World.block_lt_of_cell? w _ HC.out
        have h3 := HR.out
        exact (ht1.cell (World.block_lt_of_cell? _ _ h1) (by simp at h2 ⊢; omega)).trans h1
      have HCW := Lib.hid hcw
      have HT1 : Hid (Turns [b] w w1) := HTW.out.trans_new ht1 (fun y hy => by simp at hy; subst hy; exact Or.inr (by rw [HR.out]; exact Nat.le_refl _))
      have hVB : (w1.alloc (.cells #[.int .i64 g, .int .i64 m] 103)).heap[w1.heap.size]? = some (.cells #[.int .i64 g, .int .i64 m] 103 (0, 0)) := heap_alloc_here w1 _
      have HVB := Lib.hid hVB
      have hcA := ((Turns.alloc [] w1 (.cells #[.int .i64 g, .int .i64 m] 103)).cell (World.block_lt_of_cell? _ _ hcw) (by simp)).trans hcw
      have HCA := Lib.hid hcA
      clear hleq hlt hl1 hno hyes hcw ht1 hVB hcA
      go_wp2_with fail
      refine (closure93 g m f x c _ HCA.out).mono ?_
      rintro e w2 ⟨rfl, ht2⟩
      have hbx := (ht2.block w1.heap.size (by simp) (by simp)).trans HVB.out
      have b0 : w2.cell? ⟨w1.heap.size, 0, none⟩ = some (.int .i64 g) := cell_at hbx 0
      have b1 : w2.cell? ⟨w1.heap.size, 1, none⟩ = some (.int .i64 m) := cell_at hbx 1
      have HT2 := Lib.hid ((Turns.alloc [] w1 (.cells #[.int .i64 g, .int .i64 m] 103)).trans ht2)
      clear ht2 hbx
      cases hgf : (g == f)
      · have HS2 := Lib.hid (HNO.out hgf _ HT2.out)
        clear hgf
        go_wp2_with fail
        go_roundw
        case rel => exact ⟨cnt1, HS2.out, HT1.out.trans (HT2.out.mono (by simp))⟩
        case measure => rw [HS2.out.left_eq, HL.out.1]; exact HL.out.2.1
      · obtain ⟨w3, cnt3, hdel, hS3, hle, ht3⟩ := HYES.out hgf _ HT2.out
        unfold secVal at hdel
        have HS3 := Lib.hid (And.intro hS3 (And.intro hle ht3))
        clear hgf hS3 hle ht3
        go_wp2_with fail
        exact ⟨⟨cnt3, HS3.out.1, (HT1.out.trans (HT2.out.mono (by simp))).trans HS3.out.2.2⟩, by rw [HS3.out.1.left_eq, HL.out.1]; have := HL.out.2.1; have := HS3.out.2.1; omega⟩

end Go.Proofs.Ytmikjninonpejaa

/- Contracts of package disk: settle. -/
namespace Go.Proofs.Ytmikjninonpejaa
open Go.RowKit Go.Proofs.YtmikjninonpejaaMem Go.Maps

set_option maxHeartbeats 800000 in
set_option maxRecDepth 100000 in
theorem delete_nil (f : Int) (c : Nat) (w : World) (hc : w.cell? ⟨c, 0, none⟩ = some (.int .i64 f)) :
    Calls Try.prog 90 #[.slice none 0 0, .func (.func 91) #[] #[.pointer (some ⟨c, 0, none⟩)]] w fun e w' => e = .returned (.slice none 0 0) ∧ Turns [] w w' := by
  have HC := Lib.hid hc; clear hc
  have hx : Hid (∀ W, Turns [] w W → Calls Try.prog 97 #[.slice none 0 0, .func (.func 91) #[] #[.pointer (some ⟨c, 0, none⟩)]] W fun e w' => e = .returned (.int .i64 (-1)) ∧ Turns [] W w') := fun W hW =>
    index_secs none 0 [] f c W (fun i hi => by simp at hi) ((hW.cell (World.block_lt_of_cell? _ _ HC.out) (by simp)).trans HC.out) (by simp)
  go_enter Try.func90, Try.ntmps90
  go_wp2_with fail
  refine (hx.out _ (Turns.refl _ _)).mono ?_
  rintro e w1 ⟨rfl, ht1⟩
  have HT := Lib.hid ht1; clear ht1
  go_wp2_with fail
  go_ret
  exact ⟨rfl, HT.out⟩
theorem delete_own (v : Value) (f : Int) (c : Nat) (Q : List (Int × Int)) (w : World) (ho : w.ownsRow 0 103 2 v Q.length (secCells Q)) (hc : w.cell? ⟨c, 0, none⟩ = some (.int .i64 f)) (hcg : c ∉ v.ownBlock.toList) (hl : Q.length ≤ 1000000) :
    Calls Try.prog 90 #[v, .func (.func 91) #[] #[.pointer (some ⟨c, 0, none⟩)]] w fun e w' => ∃ v', e = .returned v' ∧
      w'.ownsRow 0 103 2 v' (Q.filter (keepF f)).length (secCells (Q.filter (keepF f))) ∧ v'.ownBlock = v.ownBlock ∧ Turns v.ownBlock.toList w w' := by
  rcases id ho.2 with ⟨rfl, h0⟩ | ⟨g, cap, cur, rfl, _, hg, _⟩
  · obtain rfl : Q = [] := List.eq_nil_of_length_eq_zero h0
    exact (delete_nil f c w hc).mono fun e w' ⟨h1, h2⟩ => ⟨_, h1, by simpa using own_kept ho h2 (by simp), rfl, h2⟩
  · refine (delete_secs g cap f c Q w (RowL.of_own ho) hc (by simpa [Value.ownBlock] using hcg) hl).mono fun e w' ⟨h1, h2, h3⟩ => ⟨_, h1, h2, rfl, by simpa [Value.ownBlock] using h3⟩

set_option maxHeartbeats 3200000 in
set_option maxRecDepth 100000 in
theorem disk_settle (b N : Nat) (FP : List Nat) (st : DS) (kv : Value) (f : Int) (s : ByteArray) (w : World) (h : DiskObj w b FP N st kv) (hf : (Lit.int .i64 f).wf = true) (hQl : st.Q.length ≤ 1000000) (hN : N + 10 < maxLen) :
    Calls Try.prog 77 #[.pointer (some ⟨b, 0, none⟩), .int .i64 f, .string s] w fun e w' => e = .returned (.tuple #[]) ∧ DiskPost w b FP (N + 1) (settleS st f s) kv w' := by
  obtain ⟨fb, sb, qv, hb, hF, hS, hQ, hne, hFP⟩ := h
  have hbs := lt_of_at hb
  have hfb := hF.ne hb
  have hsb := hS.ne hb
  have hqb := own_ne hQ hb (by decide)
  have hqf := hF.not_own hQ
  have hqs := hS.not_own hQ
  have hql := own_lt hQ
  have HX := Lib.hid (And.intro hb (And.intro hF (And.intro hS (And.intro hQ (And.intro hne hFP)))))
  have HY := Lib.hid (And.intro hqb (And.intro hqf (And.intro hqs hql)))
  obtain ⟨qa, qc, rfl, -⟩ := own_shape hQ
  have ca0 : ∀ o, (w.alloc o).cell? ⟨b, 0, none⟩ = some (.map (some fb)) := fun o => by rw [World.cell?_alloc_past _ _ _ hbs]; exact cell_at hb 0
  have hcb : (w.alloc (.cells #[.int .i64 f] 3)).heap[w.heap.size]? = some (.cells #[.int .i64 f] 3 (0, 0)) := heap_alloc_here w _
  have cc : (w.alloc (.cells #[.int .i64 f] 3)).cell? ⟨w.heap.size, 0, none⟩ = some (.int .i64 f) := cell_at hcb 0
  have hTA : Turns [] w (w.alloc (.cells #[.int .i64 f] 3)) := Turns.alloc [] w _
  obtain ⟨W1, hr1, hF1, hg1⟩ := (hF.kept hTA.drew (by simp)).store (by omega) f hf ⟨s, s⟩
  unfold File.val at hr1
  dsimp only at hr1
  have ht1 : Turns [fb] w W1 := (hTA.mono (by simp)).trans ((Turns.of_grown (S := [fb]) hg1 (fun k hk => by simp at hk; simp [hk])).of_drew)
  have ht1' : Turns [fb] (w.alloc (.cells #[.int .i64 f] 3)) W1 := ((Turns.of_grown (S := [fb]) hg1 (fun k hk => by simp at hk; simp [hk])).of_drew)
  have hb1 := (ht1.block b hbs (by simp; exact fun e => hfb e.symm)).trans hb
  have hcb1 := (ht1'.block w.heap.size (by simp) (by simp; exact fun e => absurd hF.lt (by omega))).trans hcb
  have hQ1 := own_kept hQ ht1 (fun x hx hxf => by simp at hxf; subst hxf; exact hqf hx)
  have hS1 := hS.kept ht1 (by simp; exact fun e => hne e.symm)
  have c1 : W1.cell? ⟨b, 1, none⟩ = some (.slice qa st.Q.length qc) := cell_at hb1 1
  have HW1 := Lib.hid (And.intro ht1 (And.intro hb1 (And.intro hcb1 (And.intro hQ1 (And.intro hS1 hF1)))))
  have hwlt : w.heap.size < W1.heap.size := lt_of_at hcb1
  clear hb hF hS hQ hne hFP hfb hqb hqf hqs hql hcb hTA hF1 hg1 ht1 ht1' hb1 hcb1 hQ1 hS1 hsb
  go_enter Try.func77, Try.ntmps77
  go_wp2_with fail
  go_region
  go_wp2_with fail
  refine (delete_own _ f w.heap.size st.Q W1 HW1.out.2.2.2.1 (cell_at HW1.out.2.2.1 0) (fun hx => absurd (HY.out.2.2.2 _ hx) (by omega)) hQl).mono ?_
  rintro e W2 ⟨v', rfl, ho2, hbv, ht2⟩
  obtain ⟨p1, p2, p3, p4, p5, p6⟩ := HW1.out
  obtain ⟨y1, y2, y3, y4⟩ := HY.out
  have hb2 := (ht2.block b (lt_of_at p2) y1).trans p2
  have hcb2 := (ht2.block w.heap.size (lt_of_at p3) (fun hx => absurd (y4 _ hx) (by omega))).trans p3
  have hS2 := p5.kept ht2 y3
  have hF2 := p6.kept ht2 y2
  have c1' : W2.cell? ⟨b, 1, none⟩ = some (.slice qa st.Q.length qc) := cell_at hb2 1
  have f1' : W2.frozen? ⟨b, 1, none⟩ = false := free_at hb2 1
  have c2' : W2.cell? ⟨b, 2, none⟩ = some (.map (some sb)) := cell_at hb2 2
  obtain ⟨va, vc, rfl, -⟩ := own_shape ho2
  have HZ := Lib.hid (And.intro ho2 (And.intro hbv (And.intro ht2 (And.intro hb2 (And.intro hcb2 (And.intro hS2 hF2))))))
  clear p1 p2 p3 p4 p5 p6 y1 y2 y3 y4 ho2 hbv ht2 hb2 hcb2 hS2 hF2 c1
  go_wp2_with fail
  obtain ⟨z1, z2, z3, z4, z5, z6, z7⟩ := HZ.out
  have hS3 := z6.kept (Turns.setCell (S := [b]) W2 ⟨b, 1, none⟩ (.slice va (st.Q.filter (keepF f)).length vc) (by simp)) (by simp; exact z6.ne z4)
  have hc3 := ((Turns.setCell (S := [b]) W2 ⟨b, 1, none⟩ (.slice va (st.Q.filter (keepF f)).length vc) (by simp)).block w.heap.size (lt_of_at z5) (by simp; omega)).trans z5
  refine (delete_set sb N _ f w.heap.size _ hS3 (cell_at hc3 0) (by
    have := HX.out.2.2.1.lt
    omega)).mono ?_
  rintro e W4 ⟨rfl, hS4, ht4⟩
  have H4 := Lib.hid (And.intro hS4 ht4)
  clear hS3 hc3 hS4 ht4 z1 z2 z3 z4 z5 z6 z7
  go_wp2_with fail
  go_end0
  obtain ⟨z1, z2, z3, z4, z5, z6, z7⟩ := HZ.out
  obtain ⟨hb, hF, hS, hQ, hne, hFP⟩ := HX.out
  have tset : Turns [b] W2 (W2.setCell ⟨b, 1, none⟩ (.slice va (st.Q.filter (keepF f)).length vc)) := Turns.setCell _ _ _ (by simp)
  have hb3 := heap_setCell_at z4 1 (.slice va (st.Q.filter (keepF f)).length vc)
  have ht4 := H4.out.2
  have hsb := z6.ne z4
  have hv3 : (W2.setCell ⟨b, 1, none⟩ (.slice va (st.Q.filter (keepF f)).length vc)).ownsRow 0 103 2 (.slice va (st.Q.filter (keepF f)).length vc) (st.Q.filter (keepF f)).length (secCells (st.Q.filter (keepF f))) := own_kept z1 tset (fun x hx hxb => by simp at hxb; subst hxb; rw [z2] at hx; exact HY.out.1 hx)
  refine ⟨rfl, b :: fb :: sb :: (Value.slice va (st.Q.filter (keepF f)).length vc).ownBlock.toList, ⟨fb, sb, _, (ht4.block b (lt_of_at hb3) (by simp; exact fun e => hsb e.symm)).trans hb3, ?_, ?_, own_kept hv3 ht4 (fun x hx hxs => ?_), hne, rfl⟩, ?_⟩
  · exact (z7.kept tset (by simp; exact hF.ne hb)).kept ht4 (by simp; exact hne)
  · have e : (fun g m => decide ((g, m) ∈ st.Q) && !(g == f)) = fun g m => decide ((g, m) ∈ (settleS st f s).Q) := by
      funext g m
      simp only [settleS, List.mem_filter]
      by_cases e1 : g = f <;> simp [e1]
    rw [← e]
    exact H4.out.1.more (by omega)
  · simp at hxs; subst hxs; rw [z2] at hx; exact HY.out.2.2.1 hx
  · rw [z2]
    have hall : Turns FP w W4 := ((HW1.out.1.mono (by rw [hFP]; simp)).trans (z3.mono (by rw [hFP]; intro x hx; simp only [List.mem_cons]; exact Or.inr (Or.inr (Or.inr hx))))).trans ((tset.mono (by rw [hFP]; simp)).trans (ht4.mono (by rw [hFP]; simp)))
    rw [hFP] at hall ⊢
    exact Evolves.of_same hall

end Go.Proofs.Ytmikjninonpejaa

/- Contracts of package disk: Sync, Truncate. -/
namespace Go.Proofs.Ytmikjninonpejaa
open Go.RowKit Go.Proofs.YtmikjninonpejaaMem Go.Maps

theorem settleI {b B : Nat} {FP : List Nat} {st : DS} {kv : Value} {w : World} (h : DiskI w b FP B st kv) (f : Int) (s : ByteArray) (hf : (Lit.int .i64 f).wf = true) (hs : s.size ≤ 16777216) (hB : B ≤ 900000) :
    Calls Try.prog 77 #[.pointer (some ⟨b, 0, none⟩), .int .i64 f, .string s] w fun e w' => e = .returned (.tuple #[]) ∧ DiskIPost w b FP (B + 1) (settleS st f s) kv w' := by
  obtain ⟨hI, N, hN, hD⟩ := h
  refine (disk_settle b N FP st kv f s w hD hf (by omega) (by unfold maxLen; omega)).mono fun _ _ ⟨e1, e2⟩ => ⟨e1, DiskI.post (hI.settle f s hs) e2 ?_⟩
  have : (settleS st f s).Q.length ≤ st.Q.length := List.length_filter_le _ _
  omega
theorem DiskIPost.more {w w' : World} {b B C : Nat} {FP : List Nat} {st : DS} {kv : Value} (h : DiskIPost w b FP B st kv w') (hm : B ≤ C) : DiskIPost w b FP C st kv w' := by
  obtain ⟨FP', hD, hev⟩ := h
  exact ⟨FP', hD.more hm, hev⟩
theorem sizeI {b B : Nat} {FP : List Nat} {st : DS} {kv : Value} {w : World} (h : DiskI w b FP B st kv) (f : Int) (hf : (Lit.int .i64 f).wf = true) :
    Calls Try.prog 38 #[.pointer (some ⟨b, 0, none⟩), .int .i64 f] w fun e w' => e = .returned (.int .i64 (st.F f).now.size) ∧ w = w' := by
  obtain ⟨hI, N, hN, hD⟩ := h
  exact disk_size b N FP st kv f w hD hf
theorem readI {b B : Nat} {FP : List Nat} {st : DS} {kv : Value} {w : World} (h : DiskI w b FP B st kv) (f a z : Int) (hf : (Lit.int .i64 f).wf = true) :
    Calls Try.prog 42 #[.pointer (some ⟨b, 0, none⟩), .int .i64 f, .int .i64 a, .int .i64 z] w fun e w' => e = .returned (.tuple #[.string (readStr st f a z), .int .i64 (readCode st f a z)]) ∧ w = w' := by
  obtain ⟨hI, N, hN, hD⟩ := h
  exact disk_read b N FP st kv f a z w hD hf
theorem downI {b B : Nat} {FP : List Nat} {st : DS} {kv : Value} {w : World} (h : DiskI w b FP B st kv) :
    Calls Try.prog 36 #[.pointer (some ⟨b, 0, none⟩)] w fun e w' => e = .returned (.bool st.down) ∧ w = w' := by
  obtain ⟨hI, N, hN, hD⟩ := h
  exact disk_down b N FP st kv w hD
theorem startI {b B : Nat} {FP : List Nat} {st : DS} {kv : Value} {w : World} (h : DiskI w b FP B st kv) :
    Calls Try.prog 48 #[.pointer (some ⟨b, 0, none⟩)] w fun e w' => e = .returned (.tuple #[]) ∧ DiskIPost w b FP B { st with down := false } kv w' := by
  obtain ⟨hI, N, hN, hD⟩ := h
  exact (disk_start b N FP st kv w hD).mono fun _ _ ⟨e1, e2⟩ => ⟨e1, DiskI.post (hI.setDown false) e2 hN⟩
theorem loseI {b B : Nat} {FP : List Nat} {st : DS} {kv : Value} {w : World} (h : DiskI w b FP B st kv) (n : Int) (hn : n ≤ 9223372036854775807) :
    Calls Try.prog 63 #[.pointer (some ⟨b, 0, none⟩), .int .i64 n] w fun e w' => e = .returned (.tuple #[]) ∧ DiskIPost w b FP B { st with lost := max n 0 } kv w' := by
  obtain ⟨hI, N, hN, hD⟩ := h
  exact (disk_lose b N FP st kv n w hD).mono fun _ _ ⟨e1, e2⟩ => ⟨e1, DiskI.post (hI.setLost _ (by omega) (by omega)) e2 hN⟩

/-- The object's fields, as facts of cells. -/
theorem DiskI.cells {w : World} {b B : Nat} {FP : List Nat} {st : DS} {kv : Value} (h : DiskI w b FP B st kv) :
    (∃ fb, w.cell? ⟨b, 0, none⟩ = some (.map (some fb)) ∧ FilesAt w fb B st.F) ∧ w.cell? ⟨b, 3, none⟩ = some (.int .i64 st.lost) ∧ w.frozen? ⟨b, 3, none⟩ = false ∧ w.cell? ⟨b, 6, none⟩ = some kv := by
  obtain ⟨_, N, hN, fb, sb, qv, hb, hF, _⟩ := h
  exact ⟨⟨fb, cell_at hb 0, hF.more (by omega)⟩, cell_at hb 3, free_at hb 3, cell_at hb 6⟩

/-- The call that may end the machine, at the head of Sync and Truncate. -/
theorem endB_S (st : DS) (K : List Int) (h : endsB st = true) : endS st K = crashS (endsS st) K := by simp [endS, h]
theorem endB_N (st : DS) (K : List Int) (h : endsB st = false) : endS st K = endsS st := by simp [endS, h]

theorem may_crashed {st : DS} (h : endsB st = true) (K : List Int) (f : Int) : mayCode (crashS (endsS st) K) f = 9 := by
  have h1 : st.down = false := by
    unfold endsB at h
    cases hd : st.down
    · rfl
    · simp [hd] at h
  have h2 : (endsS st).down = false := by unfold endsS; split <;> exact h1
  simp [crashS, h2, mayCode]

/-- Behind the head of Sync: what follows. -/
def SyncTail (x : DS) (f : Int) : Int × DS :=
  if mayCode x f ≠ 0 then (mayCode x f, x) else if 0 < x.lost then (10, { x with lost := x.lost - 1 }) else (0, settleS x f (x.F f).now)
theorem crashS_lost (st : DS) (K : List Int) : (crashS st K).lost = st.lost := by unfold crashS; split <;> rfl
theorem endsS_lost (st : DS) : (endsS st).lost = st.lost := by unfold endsS; split <;> rfl
theorem endS_lost (st : DS) (K : List Int) : (endS st K).lost = st.lost := by
  unfold endS; split
  · rw [crashS_lost, endsS_lost]
  · rw [endsS_lost]
theorem sync_tail (st : DS) (K : List Int) (f : Int) : SyncTail (endS st K) f = (syncCode st K f, syncS st K f) := by
  unfold SyncTail syncCode syncS
  simp only
  rw [endS_lost]
  split
  · rfl
  · split <;> rfl

set_option maxHeartbeats 1600000 in
set_option maxRecDepth 100000 in
theorem syncI {b B : Nat} {FP : List Nat} {st : DS} {kv : Value} {K : List Int} {w : World} (h : DiskI w b FP B st kv) (hk : KeepV w kv K FP) (f : Int) (hf : (Lit.int .i64 f).wf = true)
    (hB : B ≤ 800000) (hK : K.length ≤ 1000000) :
    Calls Try.prog 41 #[.pointer (some ⟨b, 0, none⟩), .int .i64 f] w fun e w' => e = .returned (.int .i64 (syncCode st K f)) ∧ DiskIPost w b FP (B + 1) (syncS st K f) kv w' := by
  have hst := sync_tail st K f
  have e1 : syncCode st K f = (SyncTail (endS st K) f).1 := by rw [hst]
  have e2 : syncS st K f = (SyncTail (endS st K) f).2 := by rw [hst]
  rw [e1, e2]
  clear hst e1 e2
  have HD := Lib.hid h; clear h
  have HK := Lib.hid hk; clear hk
  obtain ⟨ka, kc, rfl⟩ := HK.out.shape
  cases hE : endsB st
  · rw [endB_N st K hE]
    have HE := Lib.hid hE; clear hE
    by_cases hm : mayCode (endsS st) f = 0
    · by_cases hl : 0 < (endsS st).lost
      · have ht : SyncTail (endsS st) f = (10, { endsS st with lost := (endsS st).lost - 1 }) := by simp [SyncTail, hm, hl]
        rw [ht]; clear ht
        generalize hx : endsS st = x at *
        have HX := Lib.hid hx; clear hx
        have HM := Lib.hid hm; clear hm
        have hl1 : decide (0 < x.lost) = true := decide_eq_true hl
        have hl2 : IntKind.i64.wrap (x.lost - 1) = x.lost - 1 := by
          have := (HX.out ▸ HD.out.1.ends : DInv x).lost
          rw [IntKind.wrap_i64]; omega
        clear hl
        go_enter Try.func41, Try.ntmps41
        go_wp2_with fail
        refine (endsI HD.out).mono ?_
        rintro e w1 ⟨rfl, FP1, hD1, hev1⟩
        rw [HE.out]
        rw [HX.out] at hD1
        obtain ⟨-, c3, f3, -⟩ := hD1.cells
        have HD1 := Lib.hid (And.intro hD1 hev1); clear hD1 hev1
        go_wp2_with fail
        refine (mayI HD1.out.1 f).mono ?_
        rintro e w2 ⟨rfl, rfl⟩
        rw [HM.out]
        go_wp2_with fail
        go_ret
        obtain ⟨hI, N, hN, hD⟩ := HD1.out.1
        obtain ⟨h1, h2⟩ := hD.set_cell (st' := { x with lost := x.lost - 1 }) (kv' := .slice ka K.length kc) 3 (.int .i64 (x.lost - 1)) rfl rfl (fun _ _ _ => rfl)
        have hlo := hI.lost
        have hpos : 0 < x.lost := by simpa using hl1
        exact ⟨rfl, DiskIPost.trans HD1.out.2 ⟨_, ⟨hI.setLost _ (by omega) (by omega), N, by exact Nat.le_trans hN (Nat.le_succ _), h1⟩, Evolves.of_same h2⟩⟩
      · have ht : SyncTail (endsS st) f = (0, settleS (endsS st) f ((endsS st).F f).now) := by simp [SyncTail, hm, hl]
        rw [ht]; clear ht
        generalize hx : endsS st = x at *
        have HX := Lib.hid hx; clear hx
        have HM := Lib.hid hm; clear hm
        have hl1 : decide (0 < x.lost) = false := decide_eq_false hl
        clear hl
        go_enter Try.func41, Try.ntmps41
        go_wp2_with fail
        refine (endsI HD.out).mono ?_
        rintro e w1 ⟨rfl, FP1, hD1, hev1⟩
        rw [HE.out]
        rw [HX.out] at hD1
        obtain ⟨⟨fb, c0, hF0⟩, c3, f3, -⟩ := hD1.cells
        have hlk := hF0.look f hf
        have hz := (hD1.1.size f).2
        obtain ⟨y, hy⟩ : ∃ y, y = x.F f := ⟨_, rfl⟩
        rw [← hy] at hlk hz
        unfold File.val at hlk
        have hfn := field_now
        have HY := Lib.hid hy
        have HD1 := Lib.hid (And.intro hD1 hev1); clear hD1 hev1 hF0 hy
        go_wp2_with fail
        refine (mayI HD1.out.1 f).mono ?_
        rintro e w2 ⟨rfl, rfl⟩
        rw [HM.out]
        go_wp2_with fail
        refine (settleI HD1.out.1 f y.now hf hz (by omega)).mono ?_
        rintro e w3 ⟨rfl, hP⟩
        have HP := Lib.hid hP; clear hP
        go_wp2_with fail
        go_ret
        rw [← HY.out]
        exact ⟨rfl, DiskIPost.trans HD1.out.2 HP.out⟩
    · have ht : SyncTail (endsS st) f = (mayCode (endsS st) f, endsS st) := by simp [SyncTail, hm]
      rw [ht]; clear ht
      generalize hx : endsS st = x at *
      have HX := Lib.hid hx; clear hx
      have hm1 : (mayCode x f == 0) = false := by simp [hm]
      have hm2 : (mayCode x f != 0) = true := by simp [hm]
      clear hm
      go_enter Try.func41, Try.ntmps41
      go_wp2_with fail
      refine (endsI HD.out).mono ?_
      rintro e w1 ⟨rfl, FP1, hD1, hev1⟩
      rw [HE.out]
      rw [HX.out] at hD1
      have HD1 := Lib.hid (And.intro hD1 hev1); clear hD1 hev1
      go_wp2_with fail
      refine (mayI HD1.out.1 f).mono ?_
      rintro e w2 ⟨rfl, rfl⟩
      go_wp2_with fail
      go_ret
      exact ⟨rfl, DiskIPost.trans HD1.out.2 ⟨_, HD1.out.1.more (by omega), Evolves.of_same (Turns.refl _ _)⟩⟩
  · rw [endB_S st K hE]
    have hm : mayCode (crashS (endsS st) K) f = 9 := may_crashed hE K f
    have ht : SyncTail (crashS (endsS st) K) f = (9, crashS (endsS st) K) := by simp [SyncTail, hm]
    rw [ht]; clear ht
    have HE := Lib.hid hE; clear hE
    have HM := Lib.hid hm; clear hm
    go_enter Try.func41, Try.ntmps41
    go_wp2_with fail
    refine (endsI HD.out).mono ?_
    rintro e w1 ⟨rfl, FP1, hD1, hev1⟩
    rw [HE.out]
    obtain ⟨-, -, -, c6⟩ := hD1.cells
    have hk1 := HK.out.evolves hev1
    have HD1 := Lib.hid (And.intro hD1 (And.intro hev1 hk1)); clear hD1 hev1 hk1
    go_wp2_with fail
    refine (crashI HD1.out.1 HD1.out.2.2 (by omega) hK).mono ?_
    rintro e w2 ⟨rfl, FP2, hD2, hev2⟩
    have HD2 := Lib.hid (And.intro hD2 hev2); clear hD2 hev2
    go_wp2_with fail
    refine (mayI HD2.out.1 f).mono ?_
    rintro e w3 ⟨rfl, rfl⟩
    rw [HM.out]
    go_wp2_with fail
    go_ret
    exact ⟨rfl, DiskIPost.trans HD1.out.2.1 (DiskIPost.trans HD2.out.2 ⟨_, HD2.out.1.more (by omega), Evolves.of_same (Turns.refl _ _)⟩)⟩

def TruncTail (x : DS) (f z : Int) : Int × DS :=
  if mayCode x f ≠ 0 then (mayCode x f, x) else if z < 0 ∨ ((x.F f).now.size : Int) < z then (1, x) else (0, settleS x f ((x.F f).now.extract 0 z.toNat))
theorem trunc_tail (st : DS) (K : List Int) (f z : Int) : TruncTail (endS st K) f z = (truncCode st K f z, truncS st K f z) := by
  unfold TruncTail truncCode truncS
  simp only
  split
  · rfl
  · split <;> rfl

set_option maxHeartbeats 1600000 in
set_option maxRecDepth 100000 in
theorem truncI {b B : Nat} {FP : List Nat} {st : DS} {kv : Value} {K : List Int} {w : World} (h : DiskI w b FP B st kv) (hk : KeepV w kv K FP) (f z : Int) (hf : (Lit.int .i64 f).wf = true)
    (hB : B ≤ 800000) (hK : K.length ≤ 1000000) :
    Calls Try.prog 52 #[.pointer (some ⟨b, 0, none⟩), .int .i64 f, .int .i64 z] w fun e w' => e = .returned (.int .i64 (truncCode st K f z)) ∧ DiskIPost w b FP (B + 1) (truncS st K f z) kv w' := by
  have hst := trunc_tail st K f z
  have e1 : truncCode st K f z = (TruncTail (endS st K) f z).1 := by rw [hst]
  have e2 : truncS st K f z = (TruncTail (endS st K) f z).2 := by rw [hst]
  rw [e1, e2]
  clear hst e1 e2
  have HD := Lib.hid h; clear h
  have HK := Lib.hid hk; clear hk
  obtain ⟨ka, kc, rfl⟩ := HK.out.shape
  cases hE : endsB st
  · rw [endB_N st K hE]
    have HE := Lib.hid hE; clear hE
    by_cases hm : mayCode (endsS st) f = 0
    · by_cases hl : z < 0 ∨ (((endsS st).F f).now.size : Int) < z
      · have ht : TruncTail (endsS st) f z = (1, endsS st) := by simp [TruncTail, hm, hl]
        rw [ht]; clear ht
        generalize hx : endsS st = x at *
        have HX := Lib.hid hx; clear hx
        have HM := Lib.hid hm; clear hm
        by_cases hz0 : z < 0
        · have d1 : decide (z < 0) = true := decide_eq_true hz0
          clear hl hz0
          go_enter Try.func52, Try.ntmps52
          go_wp2_with fail
          refine (endsI HD.out).mono ?_
          rintro e w1 ⟨rfl, FP1, hD1, hev1⟩
          rw [HE.out]
          rw [HX.out] at hD1
          have HD1 := Lib.hid (And.intro hD1 hev1); clear hD1 hev1
          go_wp2_with fail
          refine (mayI HD1.out.1 f).mono ?_
          rintro e w2 ⟨rfl, rfl⟩
          rw [HM.out]
          go_wp2_with fail
          go_ret
          exact ⟨rfl, DiskIPost.trans HD1.out.2 ⟨_, HD1.out.1.more (by omega), Evolves.of_same (Turns.refl _ _)⟩⟩
        · have d1 : decide (z < 0) = false := decide_eq_false hz0
          have d2 : decide (((x.F f).now.size : Int) < z) = true := decide_eq_true (by omega)
          clear hl hz0
          go_enter Try.func52, Try.ntmps52
          go_wp2_with fail
          refine (endsI HD.out).mono ?_
          rintro e w1 ⟨rfl, FP1, hD1, hev1⟩
          rw [HE.out]
          rw [HX.out] at hD1
          have HD1 := Lib.hid (And.intro hD1 hev1); clear hD1 hev1
          go_wp2_with fail
          refine (mayI HD1.out.1 f).mono ?_
          rintro e w2 ⟨rfl, rfl⟩
          rw [HM.out]
          go_wp2_with fail
          refine (sizeI HD1.out.1 f hf).mono ?_
          rintro e w2 ⟨rfl, rfl⟩
          go_wp2_with fail
          go_ret
          exact ⟨rfl, DiskIPost.trans HD1.out.2 ⟨_, HD1.out.1.more (by omega), Evolves.of_same (Turns.refl _ _)⟩⟩
      · have ht : TruncTail (endsS st) f z = (0, settleS (endsS st) f (((endsS st).F f).now.extract 0 z.toNat)) := by simp only [TruncTail, hm, if_neg hl]; simp
        rw [ht]; clear ht
        generalize hx : endsS st = x at *
        have HX := Lib.hid hx; clear hx
        have HM := Lib.hid hm; clear hm
        have d1 : decide (z < 0) = false := decide_eq_false (by omega)
        have d2 : decide (((x.F f).now.size : Int) < z) = false := decide_eq_false (by omega)
        have hz0 : 0 ≤ z := by omega
        have hz1 : z ≤ ((x.F f).now.size : Int) := by omega
        clear hl
        go_enter Try.func52, Try.ntmps52
        go_wp2_with fail
        refine (endsI HD.out).mono ?_
        rintro e w1 ⟨rfl, FP1, hD1, hev1⟩
        rw [HE.out]
        rw [HX.out] at hD1
        obtain ⟨⟨fb, c0, hF0⟩, c3, f3, -⟩ := hD1.cells
        have hlk := hF0.look f hf
        have hz := (hD1.1.size f).2
        obtain ⟨y, hy⟩ : ∃ y, y = x.F f := ⟨_, rfl⟩
        rw [← hy] at hlk hz hz1 d2
        unfold File.val at hlk
        have hfn := field_now
        have HY := Lib.hid hy
        have HD1 := Lib.hid (And.intro hD1 hev1); clear hD1 hev1 hF0 hy
        go_wp2_with fail
        refine (mayI HD1.out.1 f).mono ?_
        rintro e w2 ⟨rfl, rfl⟩
        rw [HM.out]
        go_wp2_with fail
        refine (sizeI HD1.out.1 f hf).mono ?_
        rintro e w2 ⟨rfl, rfl⟩
        rw [← HY.out]
        go_wp2_with fail
        refine (settleI HD1.out.1 f (y.now.extract 0 z.toNat) hf (by rw [extract_size]; omega) (by omega)).mono ?_
        rintro e w3 ⟨rfl, hP⟩
        have HP := Lib.hid hP; clear hP
        go_wp2_with fail
        go_ret
        rw [← HY.out]
        exact ⟨rfl, DiskIPost.trans HD1.out.2 HP.out⟩
    · have ht : TruncTail (endsS st) f z = (mayCode (endsS st) f, endsS st) := by simp [TruncTail, hm]
      rw [ht]; clear ht
      generalize hx : endsS st = x at *
      have HX := Lib.hid hx; clear hx
      have hm1 : (mayCode x f == 0) = false := by simp [hm]
      have hm2 : (mayCode x f != 0) = true := by simp [hm]
      clear hm
      go_enter Try.func52, Try.ntmps52
      go_wp2_with fail
      refine (endsI HD.out).mono ?_
      rintro e w1 ⟨rfl, FP1, hD1, hev1⟩
      rw [HE.out]
      rw [HX.out] at hD1
      have HD1 := Lib.hid (And.intro hD1 hev1); clear hD1 hev1
      go_wp2_with fail
      refine (mayI HD1.out.1 f).mono ?_
      rintro e w2 ⟨rfl, rfl⟩
      go_wp2_with fail
      go_ret
      exact ⟨rfl, DiskIPost.trans HD1.out.2 ⟨_, HD1.out.1.more (by omega), Evolves.of_same (Turns.refl _ _)⟩⟩
  · rw [endB_S st K hE]
    have hm : mayCode (crashS (endsS st) K) f = 9 := may_crashed hE K f
    have ht : TruncTail (crashS (endsS st) K) f z = (9, crashS (endsS st) K) := by simp [TruncTail, hm]
    rw [ht]; clear ht
    have HE := Lib.hid hE; clear hE
    have HM := Lib.hid hm; clear hm
    go_enter Try.func52, Try.ntmps52
    go_wp2_with fail
    refine (endsI HD.out).mono ?_
    rintro e w1 ⟨rfl, FP1, hD1, hev1⟩
    rw [HE.out]
    obtain ⟨-, -, -, c6⟩ := hD1.cells
    have hk1 := HK.out.evolves hev1
    have HD1 := Lib.hid (And.intro hD1 (And.intro hev1 hk1)); clear hD1 hev1 hk1
    go_wp2_with fail
    refine (crashI HD1.out.1 HD1.out.2.2 (by omega) hK).mono ?_
    rintro e w2 ⟨rfl, FP2, hD2, hev2⟩
    have HD2 := Lib.hid (And.intro hD2 hev2); clear hD2 hev2
    go_wp2_with fail
    refine (mayI HD2.out.1 f).mono ?_
    rintro e w3 ⟨rfl, rfl⟩
    rw [HM.out]
    go_wp2_with fail
    go_ret
    exact ⟨rfl, DiskIPost.trans HD1.out.2.1 (DiskIPost.trans HD2.out.2 ⟨_, HD2.out.1.more (by omega), Evolves.of_same (Turns.refl _ _)⟩)⟩

end Go.Proofs.Ytmikjninonpejaa

/- Plain: the acts of the statements about the disk. No program in sight. -/
namespace Go.Proofs.Ytmikjninonpejaa

structure DAct where
  doo : Int
  f : Int
  n : Int
  s : ByteArray
  keep : List Int
def doK (K : List Int) (a : DAct) : List Int := if a.doo % 8 = 5 then a.keep else K
def doS (st : DS) (K : List Int) (a : DAct) : DS :=
  if a.doo % 8 = 2 then syncS st K a.f else if a.doo % 8 = 3 then truncS st K a.f a.n else if a.doo % 8 = 4 then { st with lost := max (a.n % 4) 0 } else
  if a.doo % 8 = 5 then { st with armed := max a.n 0 } else if a.doo % 8 = 6 then crashS st a.keep else if a.doo % 8 = 7 then { st with down := false } else writeS st K a.f a.n a.s
def doC (st : DS) (K : List Int) (a : DAct) : Int :=
  if a.doo % 8 = 2 then syncCode st K a.f else if a.doo % 8 = 3 then truncCode st K a.f a.n else if a.doo % 8 = 4 then 0 else
  if a.doo % 8 = 5 then 0 else if a.doo % 8 = 6 then 0 else if a.doo % 8 = 7 then 0 else writeCode st a.f a.n a.s
/-- The state behind the first k acts. -/
def playTo (st : DS) (K : List Int) (l : List DAct) : Nat → DS × List Int
  | 0 => (st, K)
  | k + 1 => match l[k]? with
    | some a => (doS (playTo st K l k).1 (playTo st K l k).2 a, doK (playTo st K l k).2 a)
    | none => playTo st K l k
theorem playTo_succ (st : DS) (K : List Int) (l : List DAct) (k : Nat) (h : k < l.length) : playTo st K l (k + 1) = (doS (playTo st K l k).1 (playTo st K l k).2 l[k], doK (playTo st K l k).2 l[k]) := by
  simp only [playTo, List.getElem?_eq_getElem h]
theorem DInv.do {st : DS} (h : DInv st) (K : List Int) (a : DAct) (hn : a.n ≤ 9223372036854775807) : DInv (doS st K a) := by
  unfold doS
  split
  · exact h.sync K a.f
  split
  · exact h.trunc K a.f a.n
  split
  · exact h.setLost _ (by omega) (by omega)
  split
  · exact h.setArmed _ (by omega) (by omega)
  split
  · exact h.crash a.keep
  split
  · exact h.setDown false
  · exact h.write K a.f a.n a.s
def fewAct (a : DAct) : Bool := decide (a.s.size ≤ 300) && (decide (a.keep.length ≤ 60) && !(decide (3000 < a.n) && decide (a.n < 16776916)))
def fewD (l : List DAct) : Bool := l.all fewAct && decide ((l.length : Int) ≤ 40)

end Go.Proofs.Ytmikjninonpejaa
