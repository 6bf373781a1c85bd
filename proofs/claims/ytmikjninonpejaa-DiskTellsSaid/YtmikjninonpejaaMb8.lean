/- Contracts and lemmas (texts DiskW, joined by a program). -/
import Derived.Test.YtmikjninonpejaaMb7
import Derived.BigQuiet
import Derived.Deep.QuietTactic
/- Contracts of package disk: write, where it writes. -/
namespace Go.Proofs.Ytmikjninonpejaa
open Go.RowKit Go.Proofs.YtmikjninonpejaaMem Go.Maps

set_option maxHeartbeats 3200000 in
set_option maxRecDepth 100000 in
theorem write_some (b N : Nat) (FP : List Nat) (st : DS) (kv : Value) (f : Int) (a : Nat) (s : ByteArray) (cnt : Nat) (F1 : Int → File) (w : World) (h : DiskObj w b FP N st kv) (hm : mayCode st f = 0) (hf : (Lit.int .i64 f).wf = true)
    (ha : a + s.size ≤ 16777216) (hs : 0 < s.size) (hx : (st.F f).now.size ≤ 16777216) (hN : N + cnt + 10 < maxLen)
    (hQl : st.Q.length ≤ 1000000) (hcnt : cnt = (a + s.size - 1) / 64 - a / 64 + 1) (hF1 : F1 = updF st.F f ⟨putB (st.F f).now a s, (st.F f).last⟩) :
    Calls Try.prog 81 #[.pointer (some ⟨b, 0, none⟩), .int .i64 f, .int .i64 a, .string s] w fun e w' => e = .returned (.int .i64 0) ∧
      DiskPost w b FP (N + 1 + cnt) { st with F := F1, Q := addSecs st.Q f ((a : Int) / 64) cnt } kv w' := by
  have HCN := Lib.hid hcnt; clear hcnt
  have HF1 := Lib.hid hF1; clear hF1
  have HN := Lib.hid h
  have HM := Lib.hid hm; clear hm
  obtain ⟨fb, sb, qv, hb, hF, hS, hQ, hne, -⟩ := h
  have c0 : w.cell? ⟨b, 0, none⟩ = some (.map (some fb)) := cell_at hb 0
  obtain ⟨x, hxe⟩ : ∃ x, x = st.F f := ⟨_, rfl⟩
  have HF1 : Hid (F1 = updF st.F f ⟨putB x.now a s, x.last⟩) := hxe ▸ HF1.out
  have hl := hF.look f hf
  rw [← hxe] at hl hx
  unfold File.val at hl
  have HX := Lib.hid hxe; clear hxe
  have hd1 : decide ((a : Int) < 0) = false := decide_eq_false (by omega)
  have hd2 : decide ((16777216 : Int) < (a : Int)) = false := decide_eq_false (by omega)
  have hsub : IntKind.i64.wrap (16777216 - (a : Int)) = 16777216 - (a : Int) := by rw [IntKind.wrap_i64]; omega
  have hd3 : decide (16777216 - (a : Int) < (s.size : Int)) = false := decide_eq_false (by omega)
  have hemp : s.toList.isEmpty = false := by
    rw [ByteArray.toList_eq]
    cases h : s.data.toList
    · have : s.data.toList.length = s.size := by simp
      rw [h] at this; simp at this; omega
    · rfl
  clear hb hF hS hQ hne
  go_enter Try.func81, Try.ntmps81
  go_wp2_with fail
  refine (disk_may b N FP st kv f _ HN.out).mono ?_
  rintro e w' ⟨rfl, rfl⟩
  rw [HM.out]
  go_wp2_with fail
  refine (put_any x.now s a _ (by omega) (by omega)).mono ?_
  rintro e w1 ⟨rfl, ht⟩
  have hX : w1.heap[w.heap.size]? = some (.cells #[.string x.now, .string x.last] 96 (0, 0)) := (ht.block _ (by simp) (by simp)).trans (heap_alloc_here _ _)
  have h1 := HN.out.kept ((Turns.alloc [] w (.cells #[.string x.now, .string x.last] 96)).trans ht) (by simp)
  have hXs : w.heap.size < w1.heap.size := lt_of_at hX
  have x0 : w1.cell? ⟨w.heap.size, 0, none⟩ = some (.string x.now) := cell_at hX 0
  have x1 : w1.cell? ⟨w.heap.size, 1, none⟩ = some (.string x.last) := cell_at hX 1
  have y0 : w1.frozen? ⟨w.heap.size, 0, none⟩ = false := free_at hX 0
  have hT1 := Lib.hid ((Turns.alloc [] w (.cells #[.string x.now, .string x.last] 96)).trans ht)
  have hH1 := Lib.hid (And.intro h1 (And.intro hX hXs))
  clear ht hX h1 hXs hl c0
  go_wp2_with fail
  have hW2 : Hid (Turns [] w (w1.setCell ⟨w.heap.size, 0, none⟩ (.string (putB x.now a s)))) := hT1.out.trans_new (Turns.setCell (S := [w.heap.size]) _ _ _ (by simp)) (fun x hx => Or.inr (by simp at hx; omega))
  have hX2 : (w1.setCell ⟨w.heap.size, 0, none⟩ (.string (putB x.now a s))).heap[w.heap.size]? = some (.cells #[.string (putB x.now a s), .string x.last] 96 (0, 0)) := heap_setCell_at hH1.out.2.1 0 _
  generalize (w1.setCell ⟨w.heap.size, 0, none⟩ (.string (putB x.now a s))) = W2 at hW2 hX2 ⊢
  have h2 := HN.out.kept hW2.out (by simp)
  obtain ⟨fb2, sb2, qv2, hb, hF, hS, hQ, hne, hFP⟩ := h2
  have x0 : W2.cell? ⟨w.heap.size, 0, none⟩ = some (.string (putB x.now a s)) := cell_at hX2 0
  have x1 : W2.cell? ⟨w.heap.size, 1, none⟩ = some (.string x.last) := cell_at hX2 1
  have c0 : W2.cell? ⟨b, 0, none⟩ = some (.map (some fb2)) := cell_at hb 0
  obtain ⟨W3, hr, hF3, hg3⟩ := FilesAt.store (w := W2.drew) (n := N) (F := st.F) hF (by omega) f hf ⟨putB x.now a s, x.last⟩
  unfold File.val at hr
  simp only at hr
  have H2 := Lib.hid (And.intro hb (And.intro hF (And.intro hS (And.intro hQ (And.intro hne hFP)))))
  have H3 := Lib.hid (And.intro hF3 hg3)
  clear hb hF hS hQ hne hFP hF3 hg3 hX2
  go_region
  have HD3 : DiskPost w b FP (N + 1) { st with F := F1 } kv W3 := by
    obtain ⟨hb, hF, hS, hQ, hne, hFP⟩ := H2.out
    have ht : Turns [fb2] W2 W3 := (Turns.of_grown (S := [fb2]) H3.out.2 (fun k hk => by simp at hk; simp [hk])).of_drew
    have hnf := hF.ne hb
    refine ⟨FP, ⟨fb2, sb2, qv2, ?_, HF1.out ▸ H3.out.1, ?_, own_kept hQ ht (fun x hx hxb => ?_), hne, hFP⟩, Evolves.of_same ((hW2.out.mono (by simp)).trans (ht.mono (by rw [hFP]; simp)))⟩
    · rw [ht.block b (lt_of_at hb) (by simp; exact fun e => hnf e.symm)]; exact hb
    · exact (hS.more (by omega)).kept ht (by simp; exact fun e => hne e.symm)
    · simp at hxb; subst hxb; exact hF.not_own hQ hx
  have HD := Lib.hid HD3; clear HD3 x0 x1 c0 hr H2 H3 hW2 hT1 hH1
  clear y0
  go_wp2_with fail
  go_loopw [11] (fun i wr => ∃ k : Nat, k ≤ cnt ∧ i = .int .i64 ((a : Int) / 64 + (k : Int)) ∧ Hid (DiskPost w b FP (N + 1 + k) { st with F := F1, Q := addSecs st.Q f ((a : Int) / 64) k } kv wr)) (fun i _ => cnt - (intOf i - (a : Int) / 64).toNat)
  case atStart => exact ⟨0, Nat.zero_le _, by simp, HD.out⟩
  case round =>
    obtain ⟨k, hk, rfl, HR⟩ := hrel
    by_cases hlt : k < cnt
    · have hd4 : decide ((a : Int) / 64 + (k : Int) ≤ ((a : Int) + (s.size : Int) - 1) / 64) = true := by
        have := HCN.out
        exact decide_eq_true (by omega)
      have hn0 : 0 ≤ (a : Int) / 64 + (k : Int) := by omega
      have hn1 : (a : Int) / 64 + (k : Int) ≤ 300000 := by
        have := HCN.out
        omega
      have hnw : (Lit.int .i64 ((a : Int) / 64 + (k : Int))).wf = true := wf64 (by omega) (by omega)
      obtain ⟨i0, hi, hz0, hz1, hz2⟩ := info_parts Try.info103
      obtain ⟨FP1, hD1, hev1⟩ := HR.out
      have HEV := Lib.hid hev1; clear hev1
      have HD1 := Lib.hid hD1
      obtain ⟨fb1, sb1, qv1, hb1, hFF1, hS1, hQ1, hne1, hFP1⟩ := hD1
      dsimp only at hb1 hFF1 hS1 hQ1
      obtain ⟨qa, qc, rfl, -⟩ := own_shape hQ1
      have HW := Lib.hid (And.intro hb1 (And.intro hFF1 (And.intro hS1 (And.intro hQ1 (And.intro hne1 hFP1)))))
      have hbs : b < wr.heap.size := lt_of_at hb1
      have ca2 : ∀ o, (wr.alloc o).cell? ⟨b, 2, none⟩ = some (.map (some sb1)) := fun o => by rw [World.cell?_alloc_past _ _ _ hbs]; exact cell_at hb1 2
      have hlk : ∀ (o : Obj) (nq : Nat), (Instr.lookup 87 (.map (some sb1)) (.agg #[.int .i64 f, .int .i64 ((a : Int) / 64 + (k : Int))]) false).run Try.prog ((wr.alloc o).drewN nq) = .ok (.bool (decide ((f, (a : Int) / 64 + (k : Int)) ∈ addSecs st.Q f ((a : Int) / 64) k))) ((wr.alloc o).drewN nq) :=
        fun o nq => (hS1.kept ((Turns.alloc [] wr o).drewN nq) (by simp)).look f _ hf hnw
      clear hb1 hFF1 hS1 hQ1 hne1 hFP1
      by_cases hmem : (f, (a : Int) / 64 + (k : Int)) ∈ addSecs st.Q f ((a : Int) / 64) k
      · simp only [decide_eq_true hmem] at hlk
        have HM2 := Lib.hid hmem; clear hmem
        go_wp2_with fail
        go_quiet (fail)
        go_wp2_with fail
        go_roundw
        case rel =>
          refine ⟨k + 1, by omega, by go_num, ?_⟩
          have e : addSecs st.Q f ((a : Int) / 64) (k + 1) = addSecs st.Q f ((a : Int) / 64) k := by simp only [addSecs, addSec, if_pos HM2.out]
          rw [e]
          exact DiskPost.trans HEV.out ⟨_, (HD1.out.kept ((Turns.alloc [] _ _).drewN nq) (by simp)).more (by omega), Evolves.of_same (((Turns.alloc [] _ _).drewN nq).mono (by simp))⟩
        case measure => simp [intOf]; omega
      · simp only [decide_eq_false hmem] at hlk
        have HM2 := Lib.hid hmem; clear hmem
        go_wp2_with fail
        go_quiet (fail)
        go_wp2_with fail
        have hVT : Turns [] wr ((wr.alloc (.cells #[.int .i64 f, .int .i64 ((a : Int) / 64 + (k : Int))] 103)).drewN nq) := (Turns.alloc [] wr _).drewN nq
        have hVB : ((wr.alloc (.cells #[.int .i64 f, .int .i64 ((a : Int) / 64 + (k : Int))] 103)).drewN nq).heap[wr.heap.size]? = some (.cells #[.int .i64 f, .int .i64 ((a : Int) / 64 + (k : Int))] 103 (0, 0)) := heap_alloc_here wr _
        generalize ((wr.alloc (.cells #[.int .i64 f, .int .i64 ((a : Int) / 64 + (k : Int))] 103)).drewN nq) = V at hVT hVB ⊢
        obtain ⟨w1b, w1F, w1S, w1Q, w1n, w1P⟩ := HW.out
        have hlq := own_lt w1Q
        have hb3 := (hVT.block b hbs (by simp)).trans w1b
        have hF3 := w1F.kept hVT (by simp)
        have hS3 := w1S.kept hVT (by simp)
        have hQ3 := own_kept w1Q hVT (by simp)
        have hbq := own_ne w1Q w1b (by decide)
        have hsl := w1S.lt
        have HBQ := Lib.hid (And.intro hbq hlq)
        have HVT := Lib.hid hVT
        have HQ3 := Lib.hid hQ3
        clear hVT ca2 hlk w1b w1Q hbq hlq
        generalize wr.heap.size = B0 at *
        have k1 : V.drew.cell? ⟨b, 1, none⟩ = some (.slice qa (addSecs st.Q f ((a : Int) / 64) k).length qc) := cell_at hb3 1
        have k2 : V.drew.cell? ⟨b, 2, none⟩ = some (.map (some sb1)) := cell_at hb3 2
        have k3 : V.drew.cell? ⟨B0, 0, none⟩ = some (.int .i64 f) := cell_at hVB 0
        have k4 : V.drew.cell? ⟨B0, 1, none⟩ = some (.int .i64 ((a : Int) / 64 + (k : Int))) := cell_at hVB 1
        have hs1 := k1
        have hs2 : V.drew.cell? ⟨b, 2, none⟩ = some (.map (some sb1)) ∧ V.drew.cell? ⟨B0, 0, none⟩ = some (.int .i64 f) ∧ V.drew.cell? ⟨B0, 1, none⟩ = some (.int .i64 ((a : Int) / 64 + (k : Int))) := ⟨k2, k3, k4⟩
        have HB3 := Lib.hid hb3
        have HVB := Lib.hid hVB
        have HX3 := Lib.hid (And.intro hF3 (And.intro hS3 (And.intro w1n w1P)))
        clear hb3 hF3 hS3 hQ3 w1F w1S w1n w1P hVB k1 k2 k3 k4
        refine wp_region_N (fun w' => w'.cell? ⟨b, 1, none⟩ = some (.slice qa (addSecs st.Q f ((a : Int) / 64) k).length qc)) (fun w' => w'.cell? ⟨b, 2, none⟩ = some (.map (some sb1)) ∧ w'.cell? ⟨B0, 0, none⟩ = some (.int .i64 f) ∧ w'.cell? ⟨B0, 1, none⟩ = some (.int .i64 ((a : Int) / 64 + (k : Int)))) (fun j => j == 9 || j == 11) (by kernel_rfl) ?_
        refine wpAnyN_take2 (some 80) (i := 5) (v := ?_) rfl rfl (by kernel_rfl) (by kernel_rfl) (by kernel_rfl) (by kernel_rfl) rfl (fun _ _ _ h => h) (Or.inl ⟨by rfl, ?_⟩) hs2 ?_
        rotate_left
        · intro w' hSw; obtain ⟨g2, g3, g4⟩ := hSw; go_simp; try (with_reducible rfl)
        simp only [Act.put, List.setIfInBounds_toArray, List.set_cons_zero, List.set_cons_succ]
        refine wpAnyN_take2 (some 75) (i := 0) (v := ?_) rfl rfl (by kernel_rfl) (by kernel_rfl) (by kernel_rfl) (by kernel_rfl) rfl (fun _ _ _ h => h) (Or.inl ⟨by rfl, ?_⟩) hs2 ?_
        rotate_left
        · intro w' hSw; obtain ⟨g2, g3, g4⟩ := hSw; go_simp; try (with_reducible rfl)
        simp only [Act.put, List.setIfInBounds_toArray, List.set_cons_zero, List.set_cons_succ]
        refine wpAnyN_take2 (some 76) (i := 1) (v := ?_) rfl rfl (by kernel_rfl) (by kernel_rfl) (by kernel_rfl) (by kernel_rfl) rfl (fun _ _ _ h => h) (Or.inl ⟨by rfl, ?_⟩) hs2 ?_
        rotate_left
        · intro w' hSw; obtain ⟨g2, g3, g4⟩ := hSw; go_simp; try (with_reducible rfl)
        simp only [Act.put, List.setIfInBounds_toArray, List.set_cons_zero, List.set_cons_succ]
        refine wpAnyN_take2 (some 77) (i := 2) (v := ?_) rfl rfl (by kernel_rfl) (by kernel_rfl) (by kernel_rfl) (by kernel_rfl) rfl (fun _ _ _ h => h) (Or.inl ⟨by rfl, ?_⟩) hs2 ?_
        rotate_left
        · intro w' hSw; obtain ⟨g2, g3, g4⟩ := hSw; go_simp; try (with_reducible rfl)
        simp only [Act.put, List.setIfInBounds_toArray, List.set_cons_zero, List.set_cons_succ]
        refine wpAnyN_take2 (some 78) (i := 3) (v := ?_) rfl rfl (by kernel_rfl) (by kernel_rfl) (by kernel_rfl) (by kernel_rfl) rfl (fun _ _ _ h => h) (Or.inl ⟨by rfl, ?_⟩) hs2 ?_
        rotate_left
        · intro w' hSw; obtain ⟨g2, g3, g4⟩ := hSw; go_simp; try (with_reducible rfl)
        simp only [Act.put, List.setIfInBounds_toArray, List.set_cons_zero, List.set_cons_succ]
        refine wpAnyN_take2 (some 79) (i := 4) (v := ?_) rfl rfl (by kernel_rfl) (by kernel_rfl) (by kernel_rfl) (by kernel_rfl) rfl (fun _ _ _ h => h) (Or.inl ⟨by rfl, ?_⟩) hs2 ?_
        rotate_left
        · intro w' hSw; obtain ⟨g2, g3, g4⟩ := hSw; go_simp; try (with_reducible rfl)
        simp only [Act.put, List.setIfInBounds_toArray, List.set_cons_zero, List.set_cons_succ]
        refine wpAnyN_take2 (some 81) (i := 6) (v := ?_) rfl rfl (by kernel_rfl) (by kernel_rfl) (by kernel_rfl) (by kernel_rfl) rfl (fun _ _ _ h => h) (Or.inl ⟨by rfl, ?_⟩) hs2 ?_
        rotate_left
        · intro w' hSw; obtain ⟨g2, g3, g4⟩ := hSw; go_simp; try (with_reducible rfl)
        simp only [Act.put, List.setIfInBounds_toArray, List.set_cons_zero, List.set_cons_succ]
        refine wpAnyN_take2 (some 82) (i := 7) (v := ?_) rfl rfl (by kernel_rfl) (by kernel_rfl) (by kernel_rfl) (by kernel_rfl) rfl (fun _ _ _ h => h) (Or.inl ⟨by rfl, ?_⟩) hs2 ?_
        rotate_left
        · intro w' hSw; obtain ⟨g2, g3, g4⟩ := hSw; go_simp; try (with_reducible rfl)
        simp only [Act.put, List.setIfInBounds_toArray, List.set_cons_zero, List.set_cons_succ]
        refine wpAnyN_take2 (some 83) (i := 8) (v := ?_) rfl rfl (by kernel_rfl) (by kernel_rfl) (by kernel_rfl) (by kernel_rfl) rfl (fun _ _ _ h => h) (Or.inl ⟨by rfl, ?_⟩) hs2 ?_
        rotate_left
        · intro w' hSw; obtain ⟨g2, g3, g4⟩ := hSw; go_simp; try (with_reducible rfl)
        simp only [Act.put, List.setIfInBounds_toArray, List.set_cons_zero, List.set_cons_succ]
        refine wpAnyN_take2 (some 85) (i := 10) (v := ?_) rfl rfl (by kernel_rfl) (by kernel_rfl) (by kernel_rfl) (by kernel_rfl) rfl (fun _ _ _ h => h) (Or.inl ⟨by rfl, ?_⟩) hs2 ?_
        rotate_left
        · intro w' hSw; obtain ⟨g2, g3, g4⟩ := hSw; go_simp; try (with_reducible rfl)
        simp only [Act.put, List.setIfInBounds_toArray, List.set_cons_zero, List.set_cons_succ]
        refine wpAnyN_take1 2 (some 84) (i := 9) (v := ?_) rfl rfl (by kernel_rfl) (by kernel_rfl) (by kernel_rfl) (by kernel_rfl) (by kernel_rfl) (fun _ _ _ h => h) (Or.inl ⟨by rfl, ?_⟩) ⟨hs1, hs2⟩ ?_
        rotate_left
        · intro w' hSw; obtain ⟨g1, g2, g3, g4⟩ := hSw; go_simp; try (with_reducible rfl)
        simp only [Act.put, List.setIfInBounds_toArray, List.set_cons_zero, List.set_cons_succ]
        refine wpAnyN_one (i := 11) (by kernel_rfl) rfl fun K hK => ?_
        go_simp
        have ha11 : ∀ {c : Addr} {u : Value}, V.drew.cell? c = some u → ((V.alloc (.cells #[.int .i64 f, .int .i64 ((a : Int) / 64 + (k : Int))] 103)).drew).cell? c = some u := fun h => ((Turns.alloc [] V _).drew.cell (World.block_lt_of_cell? V _ h) (by simp)).trans h
        refine hK.out _ _ ⟨ha11 hs2.1, ha11 hs2.2.1, ha11 hs2.2.2⟩ (fun _ => ha11 hs1) ?_
        clear hK K
        have h11 : Turns [] V ((V.alloc (.cells #[.int .i64 f, .int .i64 ((a : Int) / 64 + (k : Int))] 103)).drew) := (Turns.alloc [] V _).drew
        have hq11 := own_kept HQ3.out h11 (by simp)
        refine wpAnyN_one (i := 12) (by kernel_rfl) rfl fun K hK => ?_
        refine step_append_own rfl (.tmp 84) (.tmp 86) 88 rfl 103 i0 (.agg #[.int .i64 0, .int .i64 0]) 2 16 Try.underlying88 hi hz0 hz1 hz2 rfl (by decide) (.slice qa (addSecs st.Q f ((a : Int) / 64) k).length qc) (addSecs st.Q f ((a : Int) / 64) k).length (secCells (addSecs st.Q f ((a : Int) / 64) k)) (by simp [Act.eval]) hq11 ⟨V.heap.size, 0, none⟩ 1 1 [.int .i64 f, .int .i64 ((a : Int) / 64 + (k : Int))] (by simp [Act.eval]) rfl (new_cells _ _ _ _ rfl) (by intro u hu; simp at hu; rcases hu with rfl | rfl <;> rfl) ?b1 ?b2 ?_
        case b1 => unfold maxLen at hN ⊢; have := addSecs_length st.Q f ((a : Int) / 64) k; omega
        case b2 => have := addSecs_length st.Q f ((a : Int) / 64) k; omega
        intro v' w12 hown hgr hat
        obtain ⟨hX1, hX2, hX3, hX4⟩ := HX3.out
        obtain ⟨d1, d2, d3, d4, ve, se, wE, wS, d5, d6, d7, d8, d9⟩ := sec_added (st := { st with F := F1, Q := addSecs st.Q f ((a : Int) / 64) k }) (n := (a : Int) / 64 + (k : Int)) hf hnw (by omega) HB3.out hX1 hX2 HQ3.out hX3 hX4 h11 hown hgr hat
        obtain ⟨va, vc, rfl, -⟩ := own_shape hown
        have HP := Lib.hid d9
        clear d9 hown hgr hat hq11 hX1 hX2 hX3 hX4 ha11
        obtain ⟨hbq, hlq⟩ := HBQ.out
        have e2 : w12.cell? ⟨b, 2, none⟩ = some (.map (some sb1)) := (d3.cell (a := ⟨b, 2, none⟩) (World.block_lt_of_cell? V _ hs2.1) hbq).trans hs2.1
        have e3 : w12.cell? ⟨B0, 0, none⟩ = some (.int .i64 f) := (d3.cell (a := ⟨B0, 0, none⟩) (World.block_lt_of_cell? V _ hs2.2.1) (fun h => absurd (hlq _ h) (Nat.lt_irrefl _))).trans hs2.2.1
        have e4 : w12.cell? ⟨B0, 1, none⟩ = some (.int .i64 ((a : Int) / 64 + (k : Int))) := (d3.cell (a := ⟨B0, 1, none⟩) (World.block_lt_of_cell? V _ hs2.2.2) (fun h => absurd (hlq _ h) (Nat.lt_irrefl _))).trans hs2.2.2
        have hs15 : ∀ {u v : Value} {i : Nat}, i ≠ 1 → w12.cell? ⟨b, i, none⟩ = some u → (w12.setCell ⟨b, 1, none⟩ v).cell? ⟨b, i, none⟩ = some u := fun hi h => (World.cell?_setCell_other _ _ _ _ (by intro e; cases e; exact hi rfl)).trans h
        have hs16 : ∀ {u v : Value} {i : Nat}, w12.cell? ⟨B0, i, none⟩ = some u → (w12.setCell ⟨b, 1, none⟩ v).cell? ⟨B0, i, none⟩ = some u := fun h => (World.cell?_setCell_other _ _ _ _ (by intro e; cases e; omega)).trans h
        have HS15 := Lib.hid (show (w12.setCell ⟨b, 1, none⟩ (.slice va ((addSecs st.Q f ((a : Int) / 64) k).length + 1) vc)).cell? ⟨b, 2, none⟩ = some (.map (some sb1)) ∧ (w12.setCell ⟨b, 1, none⟩ (.slice va ((addSecs st.Q f ((a : Int) / 64) k).length + 1) vc)).cell? ⟨B0, 0, none⟩ = some (.int .i64 f) ∧ (w12.setCell ⟨b, 1, none⟩ (.slice va ((addSecs st.Q f ((a : Int) / 64) k).length + 1) vc)).cell? ⟨B0, 1, none⟩ = some (.int .i64 ((a : Int) / 64 + (k : Int))) from ⟨hs15 (by decide) e2, hs16 e3, hs16 e4⟩)
        have HSE : Hid (∀ W, Turns [sb1] (w12.setCell ⟨b, 1, none⟩ (.slice va ((addSecs st.Q f ((a : Int) / 64) k).length + 1) vc)) W → W.cell? ⟨b, 2, none⟩ = some (.map (some sb1)) ∧ W.cell? ⟨B0, 0, none⟩ = some (.int .i64 f) ∧ W.cell? ⟨B0, 1, none⟩ = some (.int .i64 ((a : Int) / 64 + (k : Int)))) := fun W hW =>
          ⟨(hW.cell (World.block_lt_of_cell? _ _ HS15.out.1) (by simp; exact fun e => d4 e.symm)).trans HS15.out.1, (hW.cell (World.block_lt_of_cell? _ _ HS15.out.2.1) (by simp; omega)).trans HS15.out.2.1, (hW.cell (World.block_lt_of_cell? _ _ HS15.out.2.2) (by simp; omega)).trans HS15.out.2.2⟩
        have HTE := Lib.hid d6
        have HTS := Lib.hid d8
        clear hs15 hs16 d6 d8
        unfold secVal at d5
        refine hK.out _ _ ⟨e2, e3, e4⟩ (fun h => absurd h (by decide)) ?_
        clear hK K
        simp only [Act.put, List.setIfInBounds_toArray]
        refine wpAnyN_one (i := 13) (by kernel_rfl) rfl fun K hK => ?_
        go_simp
        refine hK.out _ _ ⟨e2, e3, e4⟩ (fun h => absurd h (by decide)) ?_
        clear hK K
        refine wpAnyN_one (i := 14) (by kernel_rfl) rfl fun K hK => ?_
        go_simp
        refine hK.out _ _ ⟨e2, e3, e4⟩ (fun h => absurd h (by decide)) ?_
        clear hK K
        try (simp only [Act.put, List.setIfInBounds_toArray])
        refine wpAnyN_one (i := 15) (by kernel_rfl) rfl fun K hK => ?_
        go_simp
        refine hK.out _ _ HS15.out (fun h => absurd h (by decide)) ?_
        clear hK K
        try (simp only [Act.put, List.setIfInBounds_toArray])
        refine wpAnyN_one (i := 16) (by kernel_rfl) rfl fun K hK => ?_
        go_simp
        refine hK.out _ _ (HSE.out _ HTE.out) (fun h => absurd h (by decide)) ?_
        clear hK K
        try (simp only [Act.put, List.setIfInBounds_toArray])
        refine wpAnyN_one (i := 17) (by kernel_rfl) rfl fun K hK => ?_
        go_simp
        refine hK.out _ _ (HSE.out _ HTE.out) (fun h => absurd h (by decide)) ?_
        clear hK K
        try (simp only [Act.put, List.setIfInBounds_toArray])
        refine wpAnyN_one (i := 18) (by kernel_rfl) rfl fun K hK => ?_
        go_simp
        refine hK.out _ _ (HSE.out _ HTS.out) (fun h => absurd h (by decide)) ?_
        clear hK K
        refine wpAnyN_done (by kernel_rfl) ?_ _
        try (simp only [Act.put, List.setIfInBounds_toArray])
        go_wp2_with fail
        go_roundw
        case rel =>
          refine ⟨k + 1, by omega, by go_num, ?_⟩
          have e : addSecs st.Q f ((a : Int) / 64) (k + 1) = addSecs st.Q f ((a : Int) / 64) k ++ [(f, (a : Int) / 64 + (k : Int))] := by simp only [addSecs, addSec, if_neg HM2.out]
          rw [e]
          exact (DiskPost.trans HEV.out (DiskPost.trans (Evolves.of_same (HVT.out.mono (by simp))) HP.out))
        case measure => simp [intOf]; omega
    · have hkc : k = cnt := by omega
      subst hkc
      have hd4 : decide ((a : Int) / 64 + (k : Int) ≤ ((a : Int) + (s.size : Int) - 1) / 64) = false := by
        have := HCN.out
        exact decide_eq_false (by omega)
      go_wp2_with fail
      go_ret
      exact ⟨rfl, HR.out⟩

end Go.Proofs.Ytmikjninonpejaa
