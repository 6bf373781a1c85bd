/- Contracts and lemmas (texts RefV2, RefW2, RefX2, joined by a program). -/
import Derived.Test.YtdcgdnlpagadcaaDoorMq2
/- Contracts of the reference for disk: Crash. -/
namespace Go.Proofs.YtdcgdnlpagadcaaDoor
open Go.RowKit Go.Proofs.YtdcgdnlpagadcaaDoorMem Go.Maps

theorem crashStep_surv {K : List Int} {i : Nat} (h : surv K i = true) (F : Int → File) (p : Int × Int) : crashStep K i F p = survF F p := by
  unfold crashStep survF
  by_cases hp : p.2 * 64 < ((F p.1).now.size : Int)
  · rw [if_pos ⟨h, hp⟩, if_pos hp]
  · rw [if_neg (fun hh => hp hh.2), if_neg hp]
theorem crashStep_not {K : List Int} {i : Nat} (h : surv K i = false) (F : Int → File) (p : Int × Int) : crashStep K i F p = F := by
  unfold crashStep
  rw [if_neg (fun hh => by rw [h] at hh; exact absurd hh.1 (by decide))]
def lastR (L : List RF) : List RF := L.map fun x => ⟨x.num, x.last, x.last⟩
theorem lastR_snoc {L : List RF} {k : Nat} (hk : k < L.length) : lastR (L.take (k + 1)) = lastR (L.take k) ++ [⟨L[k].num, L[k].last, L[k].last⟩] := by
  unfold lastR
  rw [List.take_succ_eq_append_getElem hk, List.map_append]
  rfl
section
variable {w0 w : World} {b : Nat} {kv : Value} {st : DS} {post : List Thing}
set_option maxHeartbeats 3200000 in
set_option maxRecDepth 100000 in
theorem rcrash_down (v : Value) (h : RefAt w0 w b kv st post) (hd : st.down = true) :
    Calls Tryd.prog 23 #[.pointer (some ⟨b, 0, none⟩), v] w fun e w' => e = .returned (.tuple #[]) ∧ w = w' := by
  obtain ⟨fv, qv, hb⟩ := h.block
  have c3 : w.cell? ⟨b, 3, none⟩ = some (.bool st.down) := cell_at hb 3
  rw [hd] at c3
  clear hb h hd
  go_enter Tryd.func23, Tryd.ntmps23
  go_wp2_with fail
  refine bodyPost_ret (results_none rfl _ _ _) rfl ?_
  exact ⟨rfl, rfl⟩

set_option maxHeartbeats 3200000 in
set_option maxRecDepth 100000 in
theorem rcrash_up (ka : Option Addr) (kc : Nat) (C : List Int) (h : RefAt w0 w b kv st post) (hd : st.down = false) (hI : DInv st) (hQ : st.Q.length ≤ 900000) (hC : C.length ≤ 1000000)
    (hk : ∀ w' st', RefAt w0 w' b kv st' post → IntsAt w' ka C) :
    Calls Tryd.prog 23 #[.pointer (some ⟨b, 0, none⟩), .slice ka C.length kc] w fun e w' => e = .returned (.tuple #[]) ∧ RefAt w0 w' b kv (crashS st C) post := by
  obtain ⟨fv, qv, hb⟩ := h.block
  have h1 := h.set (st' := { st with down := true }) (kv' := kv) 3 (.bool true) rfl rfl (fun _ _ => rfl)
  have h2 := h1.set (st' := { st with down := true, armed := 0 }) (kv' := kv) 4 (.int .i64 0) rfl rfl (fun _ _ => rfl)
  have H2 : Hid (RefAt w0 ((w.setCell ⟨b, 3, none⟩ (.bool true)).setCell ⟨b, 4, none⟩ (.int .i64 0)) b kv { st with down := true, armed := 0, F := crashTo C st.Q st.F 0 } post) := h2
  have c3 : w.cell? ⟨b, 3, none⟩ = some (.bool st.down) := cell_at hb 3
  have c4 : w.cell? ⟨b, 4, none⟩ = some (.int .i64 st.armed) := cell_at hb 4
  have f3 : w.frozen? ⟨b, 3, none⟩ = false := free_at hb 3
  have f4 : w.frozen? ⟨b, 4, none⟩ = false := free_at hb 4
  rw [hd] at c3
  clear hb h h1 h2
  have HI := Lib.hid hI; clear hI
  have HK := Lib.hid hk; clear hk
  have HD := Lib.hid hd; clear hd
  go_enter Tryd.func23, Tryd.ntmps23
  go_wp2_with fail
  clear c3 c4 f3 f4
  go_loopw [4] (fun iv wr => ∃ k : Nat, k ≤ st.Q.length ∧ iv = .int .i64 k ∧ Hid (RefAt w0 wr b kv { st with down := true, armed := 0, F := crashTo C st.Q st.F k } post)) (fun iv _ => st.Q.length - (intOf iv).toNat)
  case atStart => exact ⟨0, Nat.zero_le _, rfl, H2.out⟩
  case round =>
    clear H2
    obtain ⟨k, hkl, rfl, hS⟩ := hrel
    have HS := Lib.hid hS.out; clear hS
    obtain ⟨fv1, qv1, L1, hR1, hs1⟩ := HS.out
    obtain ⟨qa, qc, rfl, hat⟩ := secs_at (Sep.row (pre := [_, _]) hs1)
    have hb := Sep.block [] _ hs1
    have c1 : wr.cell? ⟨b, 1, none⟩ = some (.slice qa st.Q.length qc) := cell_at hb 1
    have HAT := Lib.hid hat; clear hat hb hs1 hR1
    by_cases hlt : k < st.Q.length
    · have hltI : (k : Int) < (st.Q.length : Int) := by omega
      by_cases hC0 : C.length = 0
      · have d0 : decide ((0 : Int) < (C.length : Int)) = false := decide_eq_false (by omega)
        have hfin : Hid (crashTo C st.Q st.F k = crashTo C st.Q st.F st.Q.length) := by
          have : C = [] := List.eq_nil_of_length_eq_zero hC0
          show crashTo C st.Q st.F k = _
          rw [this, crashTo_nil, crashTo_nil]
        go_wp2_with fail
        clear c1
        obtain ⟨fv2, qv2, L2, hR2, hs2⟩ := HS.out
        obtain ⟨fa, fc, rfl, -⟩ := rf_at (Sep.row (pre := [_]) hs2)
        obtain ⟨qa2, qc2, rfl, -⟩ := secs_at (Sep.row (pre := [_, _]) hs2)
        have hlen2 := hR2.len
        have HR2 := Lib.hid hR2; clear hR2
        have H0 : Hid (Sep w0 wr (rowThing 79 3 (.slice none 0 0) 0 [] :: refL b (.slice fa L2.length fc) (.slice qa2 st.Q.length qc2) kv { st with down := true, armed := 0, F := crashTo C st.Q st.F k } L2 post)) := Sep.row_start hs2 79 3
        clear hs2 HS
        obtain ⟨i0, hi0, hz0, hz1, hz2⟩ := info_parts Tryd.info79
        go_loopw [5, 6] (fun ov iv wx => ∃ j : Nat, j ≤ L2.length ∧ iv = .int .i64 j ∧ Hid (Sep w0 wx (rowThing 79 3 ov (lastR (L2.take j)).length (rfCells (lastR (L2.take j))) :: refL b (.slice fa L2.length fc) (.slice qa2 st.Q.length qc2) kv { st with down := true, armed := 0, F := crashTo C st.Q st.F k } L2 post))) (fun _ iv _ => L2.length - (intOf iv).toNat)
        case atStart => exact ⟨0, Nat.zero_le _, rfl, H0.out⟩
        case round =>
          clear H0
          obtain ⟨j, hj, rfl, hS2⟩ := hrel
          have HS := Lib.hid hS2.out; clear hS2
          obtain ⟨oa, oc, rfl, -⟩ := rf_at (Sep.row (pre := []) HS.out)
          have hb := Sep.block [_] _ HS.out
          have c0 : wr.cell? ⟨b, 0, none⟩ = some (.slice fa L2.length fc) := cell_at hb 0
          have c1 : wr.cell? ⟨b, 1, none⟩ = some (.slice qa2 st.Q.length qc2) := cell_at hb 1
          have f0 : wr.frozen? ⟨b, 0, none⟩ = false := free_at hb 0
          have f1 : wr.frozen? ⟨b, 1, none⟩ = false := free_at hb 1
          have HB := Lib.hid hb; clear hb
          by_cases hlt2 : j < L2.length
          · have hltJ : (j : Int) < (L2.length : Int) := by omega
            go_wp2_with fail
            clear c0 c1 f0 f1
            have HSd := Lib.hid (HS.out.quiet (Turns.refl [] wr).drew); clear HS HB
            have hb := Sep.block [_] _ HSd.out
            have c0 : wr.drew.cell? ⟨b, 0, none⟩ = some (.slice fa L2.length fc) := cell_at hb 0
            obtain ⟨a', c', he, hat⟩ := rf_at (Sep.row (pre := [_, _]) HSd.out)
            obtain ⟨rfl, -, rfl⟩ := Value.slice.inj he
            obtain ⟨g3, rfl, x0, x1, x2⟩ := hat j hlt2
            obtain ⟨y, hy⟩ : ∃ y, y = L2[j] := ⟨_, rfl⟩
            rw [← hy] at x0 x2
            have HY := Lib.hid hy; clear hy hat he hb x1
            have HO : Hid (wr.drew.ownsRow 0 79 3 (.slice oa (lastR (L2.take j)).length oc) (lastR (L2.take j)).length (rfCells (lastR (L2.take j)))) := Sep.row (pre := []) HSd.out
            have hol : (lastR (L2.take j)).length ≤ 16 := by unfold lastR; rw [List.length_map, List.length_take]; omega
            have hs2 := And.intro c0 (And.intro x0 x2)
            have hs2h := Lib.hid hs2
            refine wp_region_N (fun _ => True) (fun w' => w'.cell? ⟨b, 0, none⟩ = some (.slice (some ⟨g3, 0, none⟩) L2.length fc) ∧ w'.cell? ⟨g3, j * 3, none⟩ = some (.int .i64 y.num) ∧ w'.cell? ⟨g3, j * 3 + 2, none⟩ = some (.string y.last)) (fun _ => false) (by kernel_rfl) ?_
            clear c0 x0 x2
            generalize wr.drew = wd at *
            refine wpAnyN_take2 (some 58) (i := 0) (v := ?_) rfl rfl (by kernel_rfl) (by kernel_rfl) (by kernel_rfl) (by kernel_rfl) rfl (fun _ _ _ h => h) (Or.inl ⟨by rfl, ?_⟩) hs2 ?_
            rotate_left
            · intro w' hSw; obtain ⟨g1, g2, g3⟩ := hSw; go_simp; try (with_reducible rfl)
            simp only [Act.put, List.setIfInBounds_toArray, List.set_cons_zero, List.set_cons_succ]
            refine wpAnyN_take2 (some 59) (i := 1) (v := ?_) rfl rfl (by kernel_rfl) (by kernel_rfl) (by kernel_rfl) (by kernel_rfl) rfl (fun _ _ _ h => h) (Or.inl ⟨by rfl, ?_⟩) hs2 ?_
            rotate_left
            · intro w' hSw; obtain ⟨g1, g2, g3⟩ := hSw; go_simp; try (with_reducible rfl)
            simp only [Act.put, List.setIfInBounds_toArray, List.set_cons_zero, List.set_cons_succ]
            refine wpAnyN_take2 (some 60) (i := 2) (v := ?_) rfl rfl (by kernel_rfl) (by kernel_rfl) (by kernel_rfl) (by kernel_rfl) rfl (fun _ _ _ h => h) (Or.inl ⟨by rfl, ?_⟩) hs2 ?_
            rotate_left
            · intro w' hSw; obtain ⟨g1, g2, g3⟩ := hSw; go_simp; try (with_reducible rfl)
            simp only [Act.put, List.setIfInBounds_toArray, List.set_cons_zero, List.set_cons_succ]
            refine wpAnyN_take2 (some 61) (i := 3) (v := ?_) rfl rfl (by kernel_rfl) (by kernel_rfl) (by kernel_rfl) (by kernel_rfl) rfl (fun _ _ _ h => h) (Or.inl ⟨by rfl, ?_⟩) hs2 ?_
            rotate_left
            · intro w' hSw; obtain ⟨g1, g2, g3⟩ := hSw; go_simp; try (with_reducible rfl)
            simp only [Act.put, List.setIfInBounds_toArray, List.set_cons_zero, List.set_cons_succ]
            refine wpAnyN_take2 (some 62) (i := 4) (v := ?_) rfl rfl (by kernel_rfl) (by kernel_rfl) (by kernel_rfl) (by kernel_rfl) rfl (fun _ _ _ h => h) (Or.inl ⟨by rfl, ?_⟩) hs2 ?_
            rotate_left
            · intro w' hSw; obtain ⟨g1, g2, g3⟩ := hSw; go_simp; try (with_reducible rfl)
            simp only [Act.put, List.setIfInBounds_toArray, List.set_cons_zero, List.set_cons_succ]
            refine wpAnyN_take2 (some 63) (i := 5) (v := ?_) rfl rfl (by kernel_rfl) (by kernel_rfl) (by kernel_rfl) (by kernel_rfl) rfl (fun _ _ _ h => h) (Or.inl ⟨by rfl, ?_⟩) hs2 ?_
            rotate_left
            · intro w' hSw; obtain ⟨g1, g2, g3⟩ := hSw; go_simp; try (with_reducible rfl)
            simp only [Act.put, List.setIfInBounds_toArray, List.set_cons_zero, List.set_cons_succ]
            refine wpAnyN_take2 (some 64) (i := 6) (v := ?_) rfl rfl (by kernel_rfl) (by kernel_rfl) (by kernel_rfl) (by kernel_rfl) rfl (fun _ _ _ h => h) (Or.inl ⟨by rfl, ?_⟩) hs2 ?_
            rotate_left
            · intro w' hSw; obtain ⟨g1, g2, g3⟩ := hSw; go_simp; try (with_reducible rfl)
            simp only [Act.put, List.setIfInBounds_toArray, List.set_cons_zero, List.set_cons_succ]
            refine wpAnyN_take2 (some 65) (i := 7) (v := ?_) rfl rfl (by kernel_rfl) (by kernel_rfl) (by kernel_rfl) (by kernel_rfl) rfl (fun _ _ _ h => h) (Or.inl ⟨by rfl, ?_⟩) hs2 ?_
            rotate_left
            · intro w' hSw; obtain ⟨g1, g2, g3⟩ := hSw; go_simp; try (with_reducible rfl)
            simp only [Act.put, List.setIfInBounds_toArray, List.set_cons_zero, List.set_cons_succ]
            refine wpAnyN_take2 (some 66) (i := 8) (v := ?_) rfl rfl (by kernel_rfl) (by kernel_rfl) (by kernel_rfl) (by kernel_rfl) rfl (fun _ _ _ h => h) (Or.inl ⟨by rfl, ?_⟩) hs2 ?_
            rotate_left
            · intro w' hSw; obtain ⟨g1, g2, g3⟩ := hSw; go_simp; try (with_reducible rfl)
            simp only [Act.put, List.setIfInBounds_toArray, List.set_cons_zero, List.set_cons_succ]
            refine wpAnyN_take2 (some 67) (i := 9) (v := ?_) rfl rfl (by kernel_rfl) (by kernel_rfl) (by kernel_rfl) (by kernel_rfl) rfl (fun _ _ _ h => h) (Or.inl ⟨by rfl, ?_⟩) hs2 ?_
            rotate_left
            · intro w' hSw; obtain ⟨g1, g2, g3⟩ := hSw; go_simp; try (with_reducible rfl)
            simp only [Act.put, List.setIfInBounds_toArray, List.set_cons_zero, List.set_cons_succ]
            refine wpAnyN_take2 (some 68) (i := 10) (v := ?_) rfl rfl (by kernel_rfl) (by kernel_rfl) (by kernel_rfl) (by kernel_rfl) rfl (fun _ _ _ h => h) (Or.inl ⟨by rfl, ?_⟩) hs2 ?_
            rotate_left
            · intro w' hSw; obtain ⟨g1, g2, g3⟩ := hSw; go_simp; try (with_reducible rfl)
            simp only [Act.put, List.setIfInBounds_toArray, List.set_cons_zero, List.set_cons_succ]
            refine wpAnyN_take2 (some 69) (i := 11) (v := ?_) rfl rfl (by kernel_rfl) (by kernel_rfl) (by kernel_rfl) (by kernel_rfl) rfl (fun _ _ _ h => h) (Or.inl ⟨by rfl, ?_⟩) hs2 ?_
            rotate_left
            · intro w' hSw; obtain ⟨g1, g2, g3⟩ := hSw; go_simp; try (with_reducible rfl)
            simp only [Act.put, List.setIfInBounds_toArray, List.set_cons_zero, List.set_cons_succ]
            refine wpAnyN_take2 (some 70) (i := 12) (v := ?_) rfl rfl (by kernel_rfl) (by kernel_rfl) (by kernel_rfl) (by kernel_rfl) rfl (fun _ _ _ h => h) (Or.inl ⟨by rfl, ?_⟩) hs2 ?_
            rotate_left
            · intro w' hSw; obtain ⟨g1, g2, g3⟩ := hSw; go_simp; try (with_reducible rfl)
            simp only [Act.put, List.setIfInBounds_toArray, List.set_cons_zero, List.set_cons_succ]
            refine wpAnyN_take2 (some 71) (i := 13) (v := ?_) rfl rfl (by kernel_rfl) (by kernel_rfl) (by kernel_rfl) (by kernel_rfl) rfl (fun _ _ _ h => h) (Or.inl ⟨by rfl, ?_⟩) hs2 ?_
            rotate_left
            · intro w' hSw; obtain ⟨g1, g2, g3⟩ := hSw; go_simp; try (with_reducible rfl)
            simp only [Act.put, List.setIfInBounds_toArray, List.set_cons_zero, List.set_cons_succ]
            refine wpAnyN_take2 (some 72) (i := 14) (v := ?_) rfl rfl (by kernel_rfl) (by kernel_rfl) (by kernel_rfl) (by kernel_rfl) rfl (fun _ _ _ h => h) (Or.inl ⟨by rfl, ?_⟩) hs2 ?_
            rotate_left
            · intro w' hSw; obtain ⟨g1, g2, g3⟩ := hSw; go_simp; try (with_reducible rfl)
            simp only [Act.put, List.setIfInBounds_toArray, List.set_cons_zero, List.set_cons_succ]
            refine wpAnyN_take2 (some 73) (i := 15) (v := ?_) rfl rfl (by kernel_rfl) (by kernel_rfl) (by kernel_rfl) (by kernel_rfl) rfl (fun _ _ _ h => h) (Or.inl ⟨by rfl, ?_⟩) hs2 ?_
            rotate_left
            · intro w' hSw; obtain ⟨g1, g2, g3⟩ := hSw; go_simp; try (with_reducible rfl)
            simp only [Act.put, List.setIfInBounds_toArray, List.set_cons_zero, List.set_cons_succ]
            refine wpAnyN_take2 (some 74) (i := 16) (v := ?_) rfl rfl (by kernel_rfl) (by kernel_rfl) (by kernel_rfl) (by kernel_rfl) rfl (fun _ _ _ h => h) (Or.inl ⟨by rfl, ?_⟩) hs2 ?_
            rotate_left
            · intro w' hSw; obtain ⟨g1, g2, g3⟩ := hSw; go_simp; try (with_reducible rfl)
            simp only [Act.put, List.setIfInBounds_toArray, List.set_cons_zero, List.set_cons_succ]
            refine wpAnyN_take2 (some 75) (i := 17) (v := ?_) rfl rfl (by kernel_rfl) (by kernel_rfl) (by kernel_rfl) (by kernel_rfl) rfl (fun _ _ _ h => h) (Or.inl ⟨by rfl, ?_⟩) hs2 ?_
            rotate_left
            · intro w' hSw; obtain ⟨g1, g2, g3⟩ := hSw; go_simp; try (with_reducible rfl)
            simp only [Act.put, List.setIfInBounds_toArray, List.set_cons_zero, List.set_cons_succ]
            refine wpAnyN_take2 (some 76) (i := 18) (v := ?_) rfl rfl (by kernel_rfl) (by kernel_rfl) (by kernel_rfl) (by kernel_rfl) rfl (fun _ _ _ h => h) (Or.inl ⟨by rfl, ?_⟩) hs2 ?_
            rotate_left
            · intro w' hSw; obtain ⟨g1, g2, g3⟩ := hSw; go_simp; try (with_reducible rfl)
            simp only [Act.put, List.setIfInBounds_toArray, List.set_cons_zero, List.set_cons_succ]
            refine wpAnyN_take2 (some 77) (i := 19) (v := ?_) rfl rfl (by kernel_rfl) (by kernel_rfl) (by kernel_rfl) (by kernel_rfl) rfl (fun _ _ _ h => h) (Or.inl ⟨by rfl, ?_⟩) hs2 ?_
            rotate_left
            · intro w' hSw; obtain ⟨g1, g2, g3⟩ := hSw; go_simp; try (with_reducible rfl)
            simp only [Act.put, List.setIfInBounds_toArray, List.set_cons_zero, List.set_cons_succ]
            refine wpAnyN_take2 (some 78) (i := 20) (v := ?_) rfl rfl (by kernel_rfl) (by kernel_rfl) (by kernel_rfl) (by kernel_rfl) rfl (fun _ _ _ h => h) (Or.inl ⟨by rfl, ?_⟩) hs2 ?_
            rotate_left
            · intro w' hSw; obtain ⟨g1, g2, g3⟩ := hSw; go_simp; try (with_reducible rfl)
            simp only [Act.put, List.setIfInBounds_toArray, List.set_cons_zero, List.set_cons_succ]
            refine wpAnyN_take2 (some 79) (i := 21) (v := ?_) rfl rfl (by kernel_rfl) (by kernel_rfl) (by kernel_rfl) (by kernel_rfl) rfl (fun _ _ _ h => h) (Or.inl ⟨by rfl, ?_⟩) hs2 ?_
            rotate_left
            · intro w' hSw; obtain ⟨g1, g2, g3⟩ := hSw; go_simp; try (with_reducible rfl)
            simp only [Act.put, List.setIfInBounds_toArray, List.set_cons_zero, List.set_cons_succ]
            refine wpAnyN_take2 (some 80) (i := 22) (v := ?_) rfl rfl (by kernel_rfl) (by kernel_rfl) (by kernel_rfl) (by kernel_rfl) rfl (fun _ _ _ h => h) (Or.inl ⟨by rfl, ?_⟩) hs2 ?_
            rotate_left
            · intro w' hSw; obtain ⟨g1, g2, g3⟩ := hSw; go_simp; try (with_reducible rfl)
            simp only [Act.put, List.setIfInBounds_toArray, List.set_cons_zero, List.set_cons_succ]
            refine wpAnyN_take2 (some 81) (i := 23) (v := ?_) rfl rfl (by kernel_rfl) (by kernel_rfl) (by kernel_rfl) (by kernel_rfl) rfl (fun _ _ _ h => h) (Or.inl ⟨by rfl, ?_⟩) hs2 ?_
            rotate_left
            · intro w' hSw; obtain ⟨g1, g2, g3⟩ := hSw; go_simp; try (with_reducible rfl)
            simp only [Act.put, List.setIfInBounds_toArray, List.set_cons_zero, List.set_cons_succ]
            refine wpAnyN_take2 (some 82) (i := 24) (v := ?_) rfl rfl (by kernel_rfl) (by kernel_rfl) (by kernel_rfl) (by kernel_rfl) rfl (fun _ _ _ h => h) (Or.inl ⟨by rfl, ?_⟩) hs2 ?_
            rotate_left
            · intro w' hSw; obtain ⟨g1, g2, g3⟩ := hSw; go_simp; try (with_reducible rfl)
            simp only [Act.put, List.setIfInBounds_toArray, List.set_cons_zero, List.set_cons_succ]
            refine wpAnyN_take2 (some 83) (i := 25) (v := ?_) rfl rfl (by kernel_rfl) (by kernel_rfl) (by kernel_rfl) (by kernel_rfl) rfl (fun _ _ _ h => h) (Or.inl ⟨by rfl, ?_⟩) hs2 ?_
            rotate_left
            · intro w' hSw; obtain ⟨g1, g2, g3⟩ := hSw; go_simp; try (with_reducible rfl)
            simp only [Act.put, List.setIfInBounds_toArray, List.set_cons_zero, List.set_cons_succ]
            refine wpAnyN_one (i := 26) (by kernel_rfl) rfl fun K' hK' => ?_
            go_simp
            have htA := Turns.alloc [] wd (.cells #[.int .i64 y.num, .string y.last, .string y.last] 79)
            refine hK'.out _ _ ⟨(htA.cell (World.block_lt_of_cell? _ _ hs2.1) (by simp)).trans hs2.1, (htA.cell (World.block_lt_of_cell? _ _ hs2.2.1) (by simp)).trans hs2.2.1, (htA.cell (World.block_lt_of_cell? _ _ hs2.2.2) (by simp)).trans hs2.2.2⟩ (fun h => absurd h (by decide)) ?_
            clear hK' K'
            try (simp only [Act.put, List.setIfInBounds_toArray, List.set_cons_zero, List.set_cons_succ])
            refine wpAnyN_one (i := 27) (by kernel_rfl) rfl fun K' hK' => ?_
            refine step_append_src rfl (.tmp 58) (.tmp 84) 69 rfl 79 i0 (.agg #[.int .i64 0, .string ⟨#[]⟩, .string ⟨#[]⟩]) 3 40 Tryd.underlying69 hi0 hz0 hz1 hz2 rfl (by decide) (.slice oa (lastR (L2.take j)).length oc) (lastR (L2.take j)).length (rfCells (lastR (L2.take j))) (by simp [Act.eval]) (own_kept HO.out htA (by simp)) (.slice (some ⟨wd.heap.size, 0, none⟩) 1 1) 1 [.int .i64 y.num, .string y.last, .string y.last] (by simp [Act.eval]) (.inr ⟨_, _, rfl, new_cells wd _ 79 _ rfl⟩) rfl ?b1 ?b2 ?b3 ?_
            case b1 => intro u hu; simp at hu; rcases hu with rfl | rfl | rfl <;> rfl
            case b2 => unfold maxLen; omega
            case b3 => omega
            intro v' w1 hown hgr hat
            have HW : Hid (Sep w0 w1 (rowThing 79 3 v' (lastR (L2.take (j + 1))).length (rfCells (lastR (L2.take (j + 1)))) :: refL b (.slice (some ⟨g3, 0, none⟩) L2.length fc) (.slice qa2 st.Q.length qc2) kv { st with down := true, armed := 0, F := crashTo C st.Q st.F k } L2 post)) := by
              have e : (wd.alloc (.cells #[.int .i64 y.num, .string y.last, .string y.last] 79)).heap.size = wd.heap.size + 1 := by show (wd.heap.push _).size = _; exact Array.size_push _
              rw [e] at hat
              have := Sep.row_grown [] _ HSd.out hown hgr hat
              rw [lastR_snoc hlt2, ← HY.out, rfCells_append, List.length_append]
              exact this
            have hb := Sep.block [_] _ HW.out
            obtain ⟨a', c', he, hat2⟩ := rf_at (Sep.row (pre := [_, _]) HW.out)
            obtain ⟨rfl, -, rfl⟩ := Value.slice.inj he
            obtain ⟨g4, hg4, z0, _, z2⟩ := hat2 j hlt2
            simp only [Option.some.injEq, Addr.mk.injEq] at hg4
            obtain ⟨rfl, -, -⟩ := hg4
            rw [← HY.out] at z0 z2
            have hs3 := And.intro (show w1.cell? ⟨b, 0, none⟩ = _ from cell_at hb 0) (And.intro z0 z2)
            clear hown hgr hat htA hs2 hb hat2 he z0 z2
            refine hK'.out _ _ hs3 (fun h => absurd h (by decide)) ?_
            clear hK' K'
            try (simp only [Act.put, List.setIfInBounds_toArray])
            refine wpAnyN_one (i := 28) (by kernel_rfl) rfl fun K' hK' => ?_
            go_simp
            refine hK'.out _ _ hs3 (fun h => absurd h (by decide)) ?_
            clear hK' K'
            refine wpAnyN_done (by kernel_rfl) ?_ _
            try (simp only [Act.put, List.setIfInBounds_toArray])
            clear hs3
            go_wp2_with fail
            go_roundw
            case rel => exact ⟨j + 1, by omega, by go_num, HW.out⟩
            case measure => simp [intOf]; omega
          · have hltJ : ¬ (j : Int) < (L2.length : Int) := by omega
            go_wp2_with fail
            go_end0
            have e : crashS st C = ⟨lastF (crashTo C st.Q st.F st.Q.length), [], st.lost, true, 0⟩ := by unfold crashS; rw [HD.out]; rfl
            rw [e, ← hfin.out]
            have h1 := Sep.block_turned (o' := refObj (.slice oa (lastR (L2.take j)).length oc) (.slice none 0 0) kv { st with down := true, armed := 0, F := crashTo C st.Q st.F k }) [_] _ HS.out ((Turns.setCell (S := [b]) wr ⟨b, 0, none⟩ (.slice oa (lastR (L2.take j)).length oc) (by simp)).trans (Turns.setCell _ ⟨b, 1, none⟩ (.slice none 0 0) (by simp))) (heap_setCell_at (heap_setCell_at HB.out 0 _) 1 _)
            have h2 := (Sep.toFront [_, _] _ h1).drop
            have h3 := (Sep.toFront [_, _] _ h2).drop
            have h4 := Sep.row_start (Sep.toFront [_] _ h3) 77 2
            rw [List.take_of_length_le (by omega)] at h4
            refine ⟨rfl, .slice oa (lastR (L2.take j)).length oc, .slice none 0 0, lastR L2, HR2.out.lasts, ?_⟩
            have h5 := Sep.fromFront [_, _] _ h4
            rw [List.take_of_length_le (by omega)]
            exact h5
      · have d0 : decide ((0 : Int) < (C.length : Int)) = true := decide_eq_true (by omega)
        have d1 : ((C.length : Int) == 0) = false := by simp [hC0]
        have hkl1 : k % C.length < C.length := Nat.mod_lt _ (by omega)
        obtain ⟨kb, koff, rfl, kc0⟩ := HK.out _ _ HS.out (k % C.length) hkl1
        obtain ⟨bt, hbt⟩ : ∃ y, y = C[k % C.length] := ⟨_, rfl⟩
        rw [← hbt] at kc0
        have HBT := Lib.hid hbt; clear hbt
        have hkl2 : ((k % C.length : Nat) : Int) < (C.length : Int) := by omega
        have hb1 := and1 bt
        have hsv : surv C k = (bt % 2 == 1) := by
          have : C ≠ [] := by intro e; subst e; simp at hkl1
          simp [surv, this, HBT.out, hkl1]
        by_cases he : bt % 2 = 1
        · have he1 : (bt % 2 == 1) = true := by simp [he]
          obtain ⟨g, rfl, x0, x1⟩ := HAT.out k hlt
          obtain ⟨p, hp⟩ : ∃ p, p = st.Q[k] := ⟨_, rfl⟩
          have hsec := HI.out.secs p (by rw [hp]; exact List.getElem_mem hlt)
          have HST : Hid (crashTo C st.Q st.F (k + 1) = survF (crashTo C st.Q st.F k) p) := by
            show crashStep C k _ _ = _
            rw [crashStep_surv (by rw [hsv, he1]), List.getElem?_eq_getElem hlt, Option.getD_some, hp]
          rw [← hp] at x0 x1
          have hL := left_to C st.Q st.F p.1 (fun p hp => (HI.out.secs p hp).2.2.1) k (by omega)
          have hsz := HI.out.size p.1
          have z1 : (crashTo C st.Q st.F k p.1).now.size ≤ 16777216 := by rw [hL.now]; exact hsz.2
          have z2 : (crashTo C st.Q st.F k p.1).last.size ≤ 16777216 := by have := hL.hi; omega
          clear hp hL hsz
          obtain ⟨pf, pn⟩ := p
          obtain ⟨n0, rfl⟩ := Int.eq_ofNat_of_zero_le hsec.2.2.1
          have HZ := Lib.hid (And.intro hsec (And.intro z1 z2)); clear hsec z1 z2 hsv
          go_wp2_with fail
          refine (rsurvive_sep pf n0 HS.out ⟨HZ.out.1.1, HZ.out.1.2.1⟩ HZ.out.2.1 HZ.out.2.2 (by have := HZ.out.1.2.2.2; omega)).mono ?_
          rintro e W5 ⟨rfl, h5⟩
          have H5 := Lib.hid h5; clear h5 HS
          go_wp2_with fail
          go_roundw
          case rel => exact ⟨k + 1, by omega, by go_num, by rw [HST.out]; exact H5.out⟩
          case measure => simp [intOf]; omega
        · have he1 : (bt % 2 == 1) = false := by simp [he]
          have HST : Hid (crashTo C st.Q st.F (k + 1) = crashTo C st.Q st.F k) := by
            show crashStep C k _ _ = _
            exact crashStep_not (by rw [hsv, he1]) _ _
          clear hsv
          go_wp2_with fail
          go_roundw
          case rel => exact ⟨k + 1, by omega, by go_num, by rw [HST.out]; exact HS.out⟩
          case measure => simp [intOf]; omega
    · have hltI : ¬ (k : Int) < (st.Q.length : Int) := by omega
      have hfin : Hid (crashTo C st.Q st.F k = crashTo C st.Q st.F st.Q.length) := by
        show crashTo C st.Q st.F k = _
        rw [show k = st.Q.length by omega]
      go_wp2_with fail
      clear c1
      obtain ⟨fv2, qv2, L2, hR2, hs2⟩ := HS.out
      obtain ⟨fa, fc, rfl, -⟩ := rf_at (Sep.row (pre := [_]) hs2)
      obtain ⟨qa2, qc2, rfl, -⟩ := secs_at (Sep.row (pre := [_, _]) hs2)
      have hlen2 := hR2.len
      have HR2 := Lib.hid hR2; clear hR2
      have H0 : Hid (Sep w0 wr (rowThing 79 3 (.slice none 0 0) 0 [] :: refL b (.slice fa L2.length fc) (.slice qa2 st.Q.length qc2) kv { st with down := true, armed := 0, F := crashTo C st.Q st.F k } L2 post)) := Sep.row_start hs2 79 3
      clear hs2 HS
      obtain ⟨i0, hi0, hz0, hz1, hz2⟩ := info_parts Tryd.info79
      go_loopw [5, 6] (fun ov iv wx => ∃ j : Nat, j ≤ L2.length ∧ iv = .int .i64 j ∧ Hid (Sep w0 wx (rowThing 79 3 ov (lastR (L2.take j)).length (rfCells (lastR (L2.take j))) :: refL b (.slice fa L2.length fc) (.slice qa2 st.Q.length qc2) kv { st with down := true, armed := 0, F := crashTo C st.Q st.F k } L2 post))) (fun _ iv _ => L2.length - (intOf iv).toNat)
      case atStart => exact ⟨0, Nat.zero_le _, rfl, H0.out⟩
      case round =>
        clear H0
        obtain ⟨j, hj, rfl, hS2⟩ := hrel
        have HS := Lib.hid hS2.out; clear hS2
        obtain ⟨oa, oc, rfl, -⟩ := rf_at (Sep.row (pre := []) HS.out)
        have hb := Sep.block [_] _ HS.out
        have c0 : wr.cell? ⟨b, 0, none⟩ = some (.slice fa L2.length fc) := cell_at hb 0
        have c1 : wr.cell? ⟨b, 1, none⟩ = some (.slice qa2 st.Q.length qc2) := cell_at hb 1
        have f0 : wr.frozen? ⟨b, 0, none⟩ = false := free_at hb 0
        have f1 : wr.frozen? ⟨b, 1, none⟩ = false := free_at hb 1
        have HB := Lib.hid hb; clear hb
        by_cases hlt2 : j < L2.length
        · have hltJ : (j : Int) < (L2.length : Int) := by omega
          go_wp2_with fail
          clear c0 c1 f0 f1
          have HSd := Lib.hid (HS.out.quiet (Turns.refl [] wr).drew); clear HS HB
          have hb := Sep.block [_] _ HSd.out
          have c0 : wr.drew.cell? ⟨b, 0, none⟩ = some (.slice fa L2.length fc) := cell_at hb 0
          obtain ⟨a', c', he, hat⟩ := rf_at (Sep.row (pre := [_, _]) HSd.out)
          obtain ⟨rfl, -, rfl⟩ := Value.slice.inj he
          obtain ⟨g3, rfl, x0, x1, x2⟩ := hat j hlt2
          obtain ⟨y, hy⟩ : ∃ y, y = L2[j] := ⟨_, rfl⟩
          rw [← hy] at x0 x2
          have HY := Lib.hid hy; clear hy hat he hb x1
          have HO : Hid (wr.drew.ownsRow 0 79 3 (.slice oa (lastR (L2.take j)).length oc) (lastR (L2.take j)).length (rfCells (lastR (L2.take j)))) := Sep.row (pre := []) HSd.out
          have hol : (lastR (L2.take j)).length ≤ 16 := by unfold lastR; rw [List.length_map, List.length_take]; omega
          have hs2 := And.intro c0 (And.intro x0 x2)
          have hs2h := Lib.hid hs2
          refine wp_region_N (fun _ => True) (fun w' => w'.cell? ⟨b, 0, none⟩ = some (.slice (some ⟨g3, 0, none⟩) L2.length fc) ∧ w'.cell? ⟨g3, j * 3, none⟩ = some (.int .i64 y.num) ∧ w'.cell? ⟨g3, j * 3 + 2, none⟩ = some (.string y.last)) (fun _ => false) (by kernel_rfl) ?_
          clear c0 x0 x2
          generalize wr.drew = wd at *
          refine wpAnyN_take2 (some 58) (i := 0) (v := ?_) rfl rfl (by kernel_rfl) (by kernel_rfl) (by kernel_rfl) (by kernel_rfl) rfl (fun _ _ _ h => h) (Or.inl ⟨by rfl, ?_⟩) hs2 ?_
          rotate_left
          · intro w' hSw; obtain ⟨g1, g2, g3⟩ := hSw; go_simp; try (with_reducible rfl)
          simp only [Act.put, List.setIfInBounds_toArray, List.set_cons_zero, List.set_cons_succ]
          refine wpAnyN_take2 (some 59) (i := 1) (v := ?_) rfl rfl (by kernel_rfl) (by kernel_rfl) (by kernel_rfl) (by kernel_rfl) rfl (fun _ _ _ h => h) (Or.inl ⟨by rfl, ?_⟩) hs2 ?_
          rotate_left
          · intro w' hSw; obtain ⟨g1, g2, g3⟩ := hSw; go_simp; try (with_reducible rfl)
          simp only [Act.put, List.setIfInBounds_toArray, List.set_cons_zero, List.set_cons_succ]
          refine wpAnyN_take2 (some 60) (i := 2) (v := ?_) rfl rfl (by kernel_rfl) (by kernel_rfl) (by kernel_rfl) (by kernel_rfl) rfl (fun _ _ _ h => h) (Or.inl ⟨by rfl, ?_⟩) hs2 ?_
          rotate_left
          · intro w' hSw; obtain ⟨g1, g2, g3⟩ := hSw; go_simp; try (with_reducible rfl)
          simp only [Act.put, List.setIfInBounds_toArray, List.set_cons_zero, List.set_cons_succ]
          refine wpAnyN_take2 (some 61) (i := 3) (v := ?_) rfl rfl (by kernel_rfl) (by kernel_rfl) (by kernel_rfl) (by kernel_rfl) rfl (fun _ _ _ h => h) (Or.inl ⟨by rfl, ?_⟩) hs2 ?_
          rotate_left
          · intro w' hSw; obtain ⟨g1, g2, g3⟩ := hSw; go_simp; try (with_reducible rfl)
          simp only [Act.put, List.setIfInBounds_toArray, List.set_cons_zero, List.set_cons_succ]
          refine wpAnyN_take2 (some 62) (i := 4) (v := ?_) rfl rfl (by kernel_rfl) (by kernel_rfl) (by kernel_rfl) (by kernel_rfl) rfl (fun _ _ _ h => h) (Or.inl ⟨by rfl, ?_⟩) hs2 ?_
          rotate_left
          · intro w' hSw; obtain ⟨g1, g2, g3⟩ := hSw; go_simp; try (with_reducible rfl)
          simp only [Act.put, List.setIfInBounds_toArray, List.set_cons_zero, List.set_cons_succ]
          refine wpAnyN_take2 (some 63) (i := 5) (v := ?_) rfl rfl (by kernel_rfl) (by kernel_rfl) (by kernel_rfl) (by kernel_rfl) rfl (fun _ _ _ h => h) (Or.inl ⟨by rfl, ?_⟩) hs2 ?_
          rotate_left
          · intro w' hSw; obtain ⟨g1, g2, g3⟩ := hSw; go_simp; try (with_reducible rfl)
          simp only [Act.put, List.setIfInBounds_toArray, List.set_cons_zero, List.set_cons_succ]
          refine wpAnyN_take2 (some 64) (i := 6) (v := ?_) rfl rfl (by kernel_rfl) (by kernel_rfl) (by kernel_rfl) (by kernel_rfl) rfl (fun _ _ _ h => h) (Or.inl ⟨by rfl, ?_⟩) hs2 ?_
          rotate_left
          · intro w' hSw; obtain ⟨g1, g2, g3⟩ := hSw; go_simp; try (with_reducible rfl)
          simp only [Act.put, List.setIfInBounds_toArray, List.set_cons_zero, List.set_cons_succ]
          refine wpAnyN_take2 (some 65) (i := 7) (v := ?_) rfl rfl (by kernel_rfl) (by kernel_rfl) (by kernel_rfl) (by kernel_rfl) rfl (fun _ _ _ h => h) (Or.inl ⟨by rfl, ?_⟩) hs2 ?_
          rotate_left
          · intro w' hSw; obtain ⟨g1, g2, g3⟩ := hSw; go_simp; try (with_reducible rfl)
          simp only [Act.put, List.setIfInBounds_toArray, List.set_cons_zero, List.set_cons_succ]
          refine wpAnyN_take2 (some 66) (i := 8) (v := ?_) rfl rfl (by kernel_rfl) (by kernel_rfl) (by kernel_rfl) (by kernel_rfl) rfl (fun _ _ _ h => h) (Or.inl ⟨by rfl, ?_⟩) hs2 ?_
          rotate_left
          · intro w' hSw; obtain ⟨g1, g2, g3⟩ := hSw; go_simp; try (with_reducible rfl)
          simp only [Act.put, List.setIfInBounds_toArray, List.set_cons_zero, List.set_cons_succ]
          refine wpAnyN_take2 (some 67) (i := 9) (v := ?_) rfl rfl (by kernel_rfl) (by kernel_rfl) (by kernel_rfl) (by kernel_rfl) rfl (fun _ _ _ h => h) (Or.inl ⟨by rfl, ?_⟩) hs2 ?_
          rotate_left
          · intro w' hSw; obtain ⟨g1, g2, g3⟩ := hSw; go_simp; try (with_reducible rfl)
          simp only [Act.put, List.setIfInBounds_toArray, List.set_cons_zero, List.set_cons_succ]
          refine wpAnyN_take2 (some 68) (i := 10) (v := ?_) rfl rfl (by kernel_rfl) (by kernel_rfl) (by kernel_rfl) (by kernel_rfl) rfl (fun _ _ _ h => h) (Or.inl ⟨by rfl, ?_⟩) hs2 ?_
          rotate_left
          · intro w' hSw; obtain ⟨g1, g2, g3⟩ := hSw; go_simp; try (with_reducible rfl)
          simp only [Act.put, List.setIfInBounds_toArray, List.set_cons_zero, List.set_cons_succ]
          refine wpAnyN_take2 (some 69) (i := 11) (v := ?_) rfl rfl (by kernel_rfl) (by kernel_rfl) (by kernel_rfl) (by kernel_rfl) rfl (fun _ _ _ h => h) (Or.inl ⟨by rfl, ?_⟩) hs2 ?_
          rotate_left
          · intro w' hSw; obtain ⟨g1, g2, g3⟩ := hSw; go_simp; try (with_reducible rfl)
          simp only [Act.put, List.setIfInBounds_toArray, List.set_cons_zero, List.set_cons_succ]
          refine wpAnyN_take2 (some 70) (i := 12) (v := ?_) rfl rfl (by kernel_rfl) (by kernel_rfl) (by kernel_rfl) (by kernel_rfl) rfl (fun _ _ _ h => h) (Or.inl ⟨by rfl, ?_⟩) hs2 ?_
          rotate_left
          · intro w' hSw; obtain ⟨g1, g2, g3⟩ := hSw; go_simp; try (with_reducible rfl)
          simp only [Act.put, List.setIfInBounds_toArray, List.set_cons_zero, List.set_cons_succ]
          refine wpAnyN_take2 (some 71) (i := 13) (v := ?_) rfl rfl (by kernel_rfl) (by kernel_rfl) (by kernel_rfl) (by kernel_rfl) rfl (fun _ _ _ h => h) (Or.inl ⟨by rfl, ?_⟩) hs2 ?_
          rotate_left
          · intro w' hSw; obtain ⟨g1, g2, g3⟩ := hSw; go_simp; try (with_reducible rfl)
          simp only [Act.put, List.setIfInBounds_toArray, List.set_cons_zero, List.set_cons_succ]
          refine wpAnyN_take2 (some 72) (i := 14) (v := ?_) rfl rfl (by kernel_rfl) (by kernel_rfl) (by kernel_rfl) (by kernel_rfl) rfl (fun _ _ _ h => h) (Or.inl ⟨by rfl, ?_⟩) hs2 ?_
          rotate_left
          · intro w' hSw; obtain ⟨g1, g2, g3⟩ := hSw; go_simp; try (with_reducible rfl)
          simp only [Act.put, List.setIfInBounds_toArray, List.set_cons_zero, List.set_cons_succ]
          refine wpAnyN_take2 (some 73) (i := 15) (v := ?_) rfl rfl (by kernel_rfl) (by kernel_rfl) (by kernel_rfl) (by kernel_rfl) rfl (fun _ _ _ h => h) (Or.inl ⟨by rfl, ?_⟩) hs2 ?_
          rotate_left
          · intro w' hSw; obtain ⟨g1, g2, g3⟩ := hSw; go_simp; try (with_reducible rfl)
          simp only [Act.put, List.setIfInBounds_toArray, List.set_cons_zero, List.set_cons_succ]
          refine wpAnyN_take2 (some 74) (i := 16) (v := ?_) rfl rfl (by kernel_rfl) (by kernel_rfl) (by kernel_rfl) (by kernel_rfl) rfl (fun _ _ _ h => h) (Or.inl ⟨by rfl, ?_⟩) hs2 ?_
          rotate_left
          · intro w' hSw; obtain ⟨g1, g2, g3⟩ := hSw; go_simp; try (with_reducible rfl)
          simp only [Act.put, List.setIfInBounds_toArray, List.set_cons_zero, List.set_cons_succ]
          refine wpAnyN_take2 (some 75) (i := 17) (v := ?_) rfl rfl (by kernel_rfl) (by kernel_rfl) (by kernel_rfl) (by kernel_rfl) rfl (fun _ _ _ h => h) (Or.inl ⟨by rfl, ?_⟩) hs2 ?_
          rotate_left
          · intro w' hSw; obtain ⟨g1, g2, g3⟩ := hSw; go_simp; try (with_reducible rfl)
          simp only [Act.put, List.setIfInBounds_toArray, List.set_cons_zero, List.set_cons_succ]
          refine wpAnyN_take2 (some 76) (i := 18) (v := ?_) rfl rfl (by kernel_rfl) (by kernel_rfl) (by kernel_rfl) (by kernel_rfl) rfl (fun _ _ _ h => h) (Or.inl ⟨by rfl, ?_⟩) hs2 ?_
          rotate_left
          · intro w' hSw; obtain ⟨g1, g2, g3⟩ := hSw; go_simp; try (with_reducible rfl)
          simp only [Act.put, List.setIfInBounds_toArray, List.set_cons_zero, List.set_cons_succ]
          refine wpAnyN_take2 (some 77) (i := 19) (v := ?_) rfl rfl (by kernel_rfl) (by kernel_rfl) (by kernel_rfl) (by kernel_rfl) rfl (fun _ _ _ h => h) (Or.inl ⟨by rfl, ?_⟩) hs2 ?_
          rotate_left
          · intro w' hSw; obtain ⟨g1, g2, g3⟩ := hSw; go_simp; try (with_reducible rfl)
          simp only [Act.put, List.setIfInBounds_toArray, List.set_cons_zero, List.set_cons_succ]
          refine wpAnyN_take2 (some 78) (i := 20) (v := ?_) rfl rfl (by kernel_rfl) (by kernel_rfl) (by kernel_rfl) (by kernel_rfl) rfl (fun _ _ _ h => h) (Or.inl ⟨by rfl, ?_⟩) hs2 ?_
          rotate_left
          · intro w' hSw; obtain ⟨g1, g2, g3⟩ := hSw; go_simp; try (with_reducible rfl)
          simp only [Act.put, List.setIfInBounds_toArray, List.set_cons_zero, List.set_cons_succ]
          refine wpAnyN_take2 (some 79) (i := 21) (v := ?_) rfl rfl (by kernel_rfl) (by kernel_rfl) (by kernel_rfl) (by kernel_rfl) rfl (fun _ _ _ h => h) (Or.inl ⟨by rfl, ?_⟩) hs2 ?_
          rotate_left
          · intro w' hSw; obtain ⟨g1, g2, g3⟩ := hSw; go_simp; try (with_reducible rfl)
          simp only [Act.put, List.setIfInBounds_toArray, List.set_cons_zero, List.set_cons_succ]
          refine wpAnyN_take2 (some 80) (i := 22) (v := ?_) rfl rfl (by kernel_rfl) (by kernel_rfl) (by kernel_rfl) (by kernel_rfl) rfl (fun _ _ _ h => h) (Or.inl ⟨by rfl, ?_⟩) hs2 ?_
          rotate_left
          · intro w' hSw; obtain ⟨g1, g2, g3⟩ := hSw; go_simp; try (with_reducible rfl)
          simp only [Act.put, List.setIfInBounds_toArray, List.set_cons_zero, List.set_cons_succ]
          refine wpAnyN_take2 (some 81) (i := 23) (v := ?_) rfl rfl (by kernel_rfl) (by kernel_rfl) (by kernel_rfl) (by kernel_rfl) rfl (fun _ _ _ h => h) (Or.inl ⟨by rfl, ?_⟩) hs2 ?_
          rotate_left
          · intro w' hSw; obtain ⟨g1, g2, g3⟩ := hSw; go_simp; try (with_reducible rfl)
          simp only [Act.put, List.setIfInBounds_toArray, List.set_cons_zero, List.set_cons_succ]
          refine wpAnyN_take2 (some 82) (i := 24) (v := ?_) rfl rfl (by kernel_rfl) (by kernel_rfl) (by kernel_rfl) (by kernel_rfl) rfl (fun _ _ _ h => h) (Or.inl ⟨by rfl, ?_⟩) hs2 ?_
          rotate_left
          · intro w' hSw; obtain ⟨g1, g2, g3⟩ := hSw; go_simp; try (with_reducible rfl)
          simp only [Act.put, List.setIfInBounds_toArray, List.set_cons_zero, List.set_cons_succ]
          refine wpAnyN_take2 (some 83) (i := 25) (v := ?_) rfl rfl (by kernel_rfl) (by kernel_rfl) (by kernel_rfl) (by kernel_rfl) rfl (fun _ _ _ h => h) (Or.inl ⟨by rfl, ?_⟩) hs2 ?_
          rotate_left
          · intro w' hSw; obtain ⟨g1, g2, g3⟩ := hSw; go_simp; try (with_reducible rfl)
          simp only [Act.put, List.setIfInBounds_toArray, List.set_cons_zero, List.set_cons_succ]
          refine wpAnyN_one (i := 26) (by kernel_rfl) rfl fun K' hK' => ?_
          go_simp
          have htA := Turns.alloc [] wd (.cells #[.int .i64 y.num, .string y.last, .string y.last] 79)
          refine hK'.out _ _ ⟨(htA.cell (World.block_lt_of_cell? _ _ hs2.1) (by simp)).trans hs2.1, (htA.cell (World.block_lt_of_cell? _ _ hs2.2.1) (by simp)).trans hs2.2.1, (htA.cell (World.block_lt_of_cell? _ _ hs2.2.2) (by simp)).trans hs2.2.2⟩ (fun h => absurd h (by decide)) ?_
          clear hK' K'
          try (simp only [Act.put, List.setIfInBounds_toArray, List.set_cons_zero, List.set_cons_succ])
          refine wpAnyN_one (i := 27) (by kernel_rfl) rfl fun K' hK' => ?_
          refine step_append_src rfl (.tmp 58) (.tmp 84) 69 rfl 79 i0 (.agg #[.int .i64 0, .string ⟨#[]⟩, .string ⟨#[]⟩]) 3 40 Tryd.underlying69 hi0 hz0 hz1 hz2 rfl (by decide) (.slice oa (lastR (L2.take j)).length oc) (lastR (L2.take j)).length (rfCells (lastR (L2.take j))) (by simp [Act.eval]) (own_kept HO.out htA (by simp)) (.slice (some ⟨wd.heap.size, 0, none⟩) 1 1) 1 [.int .i64 y.num, .string y.last, .string y.last] (by simp [Act.eval]) (.inr ⟨_, _, rfl, new_cells wd _ 79 _ rfl⟩) rfl ?b1 ?b2 ?b3 ?_
          case b1 => intro u hu; simp at hu; rcases hu with rfl | rfl | rfl <;> rfl
          case b2 => unfold maxLen; omega
          case b3 => omega
          intro v' w1 hown hgr hat
          have HW : Hid (Sep w0 w1 (rowThing 79 3 v' (lastR (L2.take (j + 1))).length (rfCells (lastR (L2.take (j + 1)))) :: refL b (.slice (some ⟨g3, 0, none⟩) L2.length fc) (.slice qa2 st.Q.length qc2) kv { st with down := true, armed := 0, F := crashTo C st.Q st.F k } L2 post)) := by
            have e : (wd.alloc (.cells #[.int .i64 y.num, .string y.last, .string y.last] 79)).heap.size = wd.heap.size + 1 := by show (wd.heap.push _).size = _; exact Array.size_push _
            rw [e] at hat
            have := Sep.row_grown [] _ HSd.out hown hgr hat
            rw [lastR_snoc hlt2, ← HY.out, rfCells_append, List.length_append]
            exact this
          have hb := Sep.block [_] _ HW.out
          obtain ⟨a', c', he, hat2⟩ := rf_at (Sep.row (pre := [_, _]) HW.out)
          obtain ⟨rfl, -, rfl⟩ := Value.slice.inj he
          obtain ⟨g4, hg4, z0, _, z2⟩ := hat2 j hlt2
          simp only [Option.some.injEq, Addr.mk.injEq] at hg4
          obtain ⟨rfl, -, -⟩ := hg4
          rw [← HY.out] at z0 z2
          have hs3 := And.intro (show w1.cell? ⟨b, 0, none⟩ = _ from cell_at hb 0) (And.intro z0 z2)
          clear hown hgr hat htA hs2 hb hat2 he z0 z2
          refine hK'.out _ _ hs3 (fun h => absurd h (by decide)) ?_
          clear hK' K'
          try (simp only [Act.put, List.setIfInBounds_toArray])
          refine wpAnyN_one (i := 28) (by kernel_rfl) rfl fun K' hK' => ?_
          go_simp
          refine hK'.out _ _ hs3 (fun h => absurd h (by decide)) ?_
          clear hK' K'
          refine wpAnyN_done (by kernel_rfl) ?_ _
          try (simp only [Act.put, List.setIfInBounds_toArray])
          clear hs3
          go_wp2_with fail
          go_roundw
          case rel => exact ⟨j + 1, by omega, by go_num, HW.out⟩
          case measure => simp [intOf]; omega
        · have hltJ : ¬ (j : Int) < (L2.length : Int) := by omega
          go_wp2_with fail
          go_end0
          have e : crashS st C = ⟨lastF (crashTo C st.Q st.F st.Q.length), [], st.lost, true, 0⟩ := by unfold crashS; rw [HD.out]; rfl
          rw [e, ← hfin.out]
          have h1 := Sep.block_turned (o' := refObj (.slice oa (lastR (L2.take j)).length oc) (.slice none 0 0) kv { st with down := true, armed := 0, F := crashTo C st.Q st.F k }) [_] _ HS.out ((Turns.setCell (S := [b]) wr ⟨b, 0, none⟩ (.slice oa (lastR (L2.take j)).length oc) (by simp)).trans (Turns.setCell _ ⟨b, 1, none⟩ (.slice none 0 0) (by simp))) (heap_setCell_at (heap_setCell_at HB.out 0 _) 1 _)
          have h2 := (Sep.toFront [_, _] _ h1).drop
          have h3 := (Sep.toFront [_, _] _ h2).drop
          have h4 := Sep.row_start (Sep.toFront [_] _ h3) 77 2
          rw [List.take_of_length_le (by omega)] at h4
          refine ⟨rfl, .slice oa (lastR (L2.take j)).length oc, .slice none 0 0, lastR L2, HR2.out.lasts, ?_⟩
          have h5 := Sep.fromFront [_, _] _ h4
          rw [List.take_of_length_le (by omega)]
          exact h5
end
end Go.Proofs.YtdcgdnlpagadcaaDoor

/- Contracts of the reference for disk: add whole, comes. -/
namespace Go.Proofs.YtdcgdnlpagadcaaDoor
open Go.RowKit Go.Proofs.YtdcgdnlpagadcaaDoorMem Go.Maps

theorem intsAt_row {w0 w : World} {v : Value} {K : List Int} {pre post : List Thing} (h : Sep w0 w (pre ++ rowThing 3 1 v K.length (intCells K) :: post)) : ∃ a c, v = .slice a K.length c ∧ IntsAt w a K := by
  have ho : OwnInts w 0 v K := Sep.row h
  exact ho.intsV
/-- The reference's disk with its Keep. -/
def RefK (w0 w : World) (b : Nat) (st : DS) (K : List Int) (post : List Thing) : Prop := ∃ kv, RefAt w0 w b kv st (rowThing 3 1 kv K.length (intCells K) :: post)

section
variable {w0 w : World} {b : Nat} {kv : Value} {st : DS} {post : List Thing}
set_option maxRecDepth 100000 in
theorem radd_none (f : Int) (a : Int) (h : RefAt w0 w b kv st post) :
    Calls Tryd.prog 48 #[.pointer (some ⟨b, 0, none⟩), .int .i64 f, .int .i64 a, .string ⟨#[]⟩] w fun e w' => e = .returned (.tuple #[]) ∧ RefAt w0 w' b kv st post := by
  have H := Lib.hid h; clear h
  go_enter Tryd.func48, Tryd.ntmps48
  go_wp2_with fail
  refine bodyPost_ret (results_none rfl _ _ _) rfl ?_
  exact ⟨rfl, H.out⟩
/-- add, where the bytes fit. -/
theorem radd_any (f : Int) (a : Nat) (s : ByteArray) (h : RefAt w0 w b kv st post) (hm : mayCode st f = 0) (ha : a + s.size ≤ 16777216) (hI : DInv st) (hQ : st.Q.length ≤ 600000) :
    Calls Tryd.prog 48 #[.pointer (some ⟨b, 0, none⟩), .int .i64 f, .int .i64 a, .string s] w fun e w' => e = .returned (.tuple #[]) ∧ RefAt w0 w' b kv (wrS st f a s) post := by
  obtain ⟨_, h1, h2⟩ := may_zero hm
  have hc : wrCode st f (a : Int) s = 0 := by rw [wrCode, if_neg (by simp [hm]), if_neg (by omega), if_neg (by omega)]
  by_cases hs : s.size = 0
  · have e : s = ⟨#[]⟩ := by
      obtain ⟨d⟩ := s
      have : d.size = 0 := hs
      rw [Array.size_eq_zero_iff.1 this]
    have e2 : wrS st f a s = st := by rw [wrS, if_neg (fun hh => by omega)]
    rw [e2, e]
    exact radd_none f a h
  · have e2 : wrS st f a s = { st with F := updF st.F f { st.F f with now := putB (st.F f).now a s }, Q := addSecs st.Q f ((a : Int) / 64) ((a + s.size - 1) / 64 - a / 64 + 1) } := by
      rw [wrS, if_pos ⟨hc, by omega⟩]
      simp only [Int.toNat_natCast]
      rfl
    rw [e2]
    exact radd_some f a s h (by omega) ⟨h1, h2⟩ ha hI hQ
end
theorem rcrash_any {w0 w : World} {b : Nat} {st : DS} {K : List Int} {post : List Thing} (v : Value) (C : List Int) (h : RefK w0 w b st K post) (hI : DInv st) (hQ : st.Q.length ≤ 900000) (hC : C.length ≤ 1000000)
    (hv : IntsV w0 v C) : Calls Tryd.prog 23 #[.pointer (some ⟨b, 0, none⟩), v] w fun e w' => e = .returned (.tuple #[]) ∧ RefK w0 w' b (crashS st C) K post := by
  obtain ⟨kv, h⟩ := h
  obtain ⟨a, c, rfl, hat⟩ := hv
  cases hd : st.down
  · refine (rcrash_up a c C h hd hI hQ hC (fun w' st' h' => ?_)).mono fun e w' ⟨h1, h2⟩ => ⟨h1, kv, h2⟩
    obtain ⟨_, _, _, _, h'⟩ := h'
    exact hat.below h'.below
  · refine (rcrash_down _ h hd).mono fun e w' ⟨h1, h2⟩ => ⟨h1, kv, ?_⟩
    have e2 : crashS st C = st := by unfold crashS; rw [hd]; rfl
    rw [e2, ← h2]
    exact h
/-- Crash with the disk's own Keep. -/
theorem rcrash_own {w0 w : World} {b : Nat} {st : DS} {K : List Int} {kv : Value} {post : List Thing} (h : RefAt w0 w b kv st (rowThing 3 1 kv K.length (intCells K) :: post)) (hI : DInv st) (hQ : st.Q.length ≤ 900000) (hK : K.length ≤ 1000000) :
    Calls Tryd.prog 23 #[.pointer (some ⟨b, 0, none⟩), kv] w fun e w' => e = .returned (.tuple #[]) ∧ RefAt w0 w' b kv (crashS st K) (rowThing 3 1 kv K.length (intCells K) :: post) := by
  have h0 := h
  obtain ⟨_, _, _, _, hs⟩ := h0
  obtain ⟨a, c, hkv, -⟩ := intsAt_row (pre := [_, _, _]) hs
  subst hkv
  cases hd : st.down
  · refine rcrash_up a c K h hd hI hQ hK (fun w' st' h' => ?_)
    obtain ⟨_, _, _, _, hs'⟩ := h'
    obtain ⟨a', c', he, hat⟩ := intsAt_row (pre := [_, _, _]) hs'
    obtain ⟨rfl, -, rfl⟩ := Value.slice.inj he
    exact hat
  · refine (rcrash_down _ h hd).mono fun e w' ⟨h1, h2⟩ => ⟨h1, ?_⟩
    have e2 : crashS st K = st := by unfold crashS; rw [hd]; rfl
    rw [e2, ← h2]
    exact h
end Go.Proofs.YtdcgdnlpagadcaaDoor

/- Contracts of the reference for disk: comes. -/
namespace Go.Proofs.YtdcgdnlpagadcaaDoor
open Go.RowKit Go.Proofs.YtdcgdnlpagadcaaDoorMem Go.Maps

def comesS (st : DS) (K : List Int) (f a : Int) (s : ByteArray) : DS := if endsB st then crashS (wrS (endsS st) f a s) K else endsS st
section
variable {w0 w : World} {b : Nat} {kv : Value} {st : DS} {K : List Int} {post : List Thing}
set_option maxHeartbeats 1600000 in
set_option maxRecDepth 100000 in
theorem rcomes_down (f a : Int) (s : ByteArray) (h : RefAt w0 w b kv st (rowThing 3 1 kv K.length (intCells K) :: post)) (hd : st.down = true) :
    Calls Tryd.prog 46 #[.pointer (some ⟨b, 0, none⟩), .int .i64 f, .int .i64 a, .string s] w fun e w' => e = .returned (.tuple #[]) ∧ RefAt w0 w' b kv st (rowThing 3 1 kv K.length (intCells K) :: post) := by
  obtain ⟨fv, qv, hb⟩ := h.block
  have c3 : w.cell? ⟨b, 3, none⟩ = some (.bool st.down) := cell_at hb 3
  have c4 : w.cell? ⟨b, 4, none⟩ = some (.int .i64 st.armed) := cell_at hb 4
  have f4 : w.frozen? ⟨b, 4, none⟩ = false := free_at hb 4
  clear hb
  rw [hd] at c3
  have H := Lib.hid h; clear h
  go_enter Tryd.func46, Tryd.ntmps46
  go_wp2_with fail
  refine bodyPost_ret (results_none rfl _ _ _) rfl ?_
  exact ⟨rfl, H.out⟩
set_option maxHeartbeats 1600000 in
set_option maxRecDepth 100000 in
theorem rcomes_idle (f a : Int) (s : ByteArray) (h : RefAt w0 w b kv st (rowThing 3 1 kv K.length (intCells K) :: post)) (hd : st.down = false) (ha : st.armed = 0) :
    Calls Tryd.prog 46 #[.pointer (some ⟨b, 0, none⟩), .int .i64 f, .int .i64 a, .string s] w fun e w' => e = .returned (.tuple #[]) ∧ RefAt w0 w' b kv st (rowThing 3 1 kv K.length (intCells K) :: post) := by
  obtain ⟨fv, qv, hb⟩ := h.block
  have c3 : w.cell? ⟨b, 3, none⟩ = some (.bool st.down) := cell_at hb 3
  have c4 : w.cell? ⟨b, 4, none⟩ = some (.int .i64 st.armed) := cell_at hb 4
  have f4 : w.frozen? ⟨b, 4, none⟩ = false := free_at hb 4
  clear hb
  rw [hd] at c3
  have H := Lib.hid h; clear h
  rw [ha] at c4
  go_enter Tryd.func46, Tryd.ntmps46
  go_wp2_with fail
  refine bodyPost_ret (results_none rfl _ _ _) rfl ?_
  exact ⟨rfl, H.out⟩
set_option maxHeartbeats 1600000 in
set_option maxRecDepth 100000 in
theorem rcomes_far (f a : Int) (s : ByteArray) (h : RefAt w0 w b kv st (rowThing 3 1 kv K.length (intCells K) :: post)) (hd : st.down = false) (ha : 1 < st.armed) (ha2 : st.armed ≤ 9223372036854775807) :
    Calls Tryd.prog 46 #[.pointer (some ⟨b, 0, none⟩), .int .i64 f, .int .i64 a, .string s] w fun e w' => e = .returned (.tuple #[]) ∧ RefAt w0 w' b kv { st with armed := st.armed - 1 } (rowThing 3 1 kv K.length (intCells K) :: post) := by
  obtain ⟨fv, qv, hb⟩ := h.block
  have c3 : w.cell? ⟨b, 3, none⟩ = some (.bool st.down) := cell_at hb 3
  have c4 : w.cell? ⟨b, 4, none⟩ = some (.int .i64 st.armed) := cell_at hb 4
  have f4 : w.frozen? ⟨b, 4, none⟩ = false := free_at hb 4
  clear hb
  rw [hd] at c3
  have H := Lib.hid (h.set (st' := { st with armed := st.armed - 1 }) (kv' := kv) 4 (.int .i64 (st.armed - 1)) rfl rfl (fun _ _ => rfl)); clear h
  generalize st.armed = m at *
  have d0 : (m == 0) = false := by rw [beq_eq_false_iff_ne]; omega
  have d1 : 0 < m - 1 := by omega
  go_enter Tryd.func46, Tryd.ntmps46
  go_wp2_with fail
  refine bodyPost_ret (results_none rfl _ _ _) rfl ?_
  exact ⟨rfl, H.out⟩
set_option maxHeartbeats 1600000 in
set_option maxRecDepth 100000 in
theorem rcomes_neg (f a : Int) (s : ByteArray) (h : RefAt w0 w b kv st (rowThing 3 1 kv K.length (intCells K) :: post)) (hd : st.down = false) (ha : st.armed = 1) (hI : DInv st) (hQ : st.Q.length ≤ 600000) (hK : K.length ≤ 1000000) (hf : f < 0) :
    Calls Tryd.prog 46 #[.pointer (some ⟨b, 0, none⟩), .int .i64 f, .int .i64 a, .string s] w fun e w' => e = .returned (.tuple #[]) ∧ RefAt w0 w' b kv (crashS { st with armed := 0 } K) (rowThing 3 1 kv K.length (intCells K) :: post) := by
  obtain ⟨fv, qv, hb⟩ := h.block
  have c3 : w.cell? ⟨b, 3, none⟩ = some (.bool st.down) := cell_at hb 3
  have c4 : w.cell? ⟨b, 4, none⟩ = some (.int .i64 st.armed) := cell_at hb 4
  have f4 : w.frozen? ⟨b, 4, none⟩ = false := free_at hb 4
  clear hb
  rw [hd] at c3
  have H := Lib.hid (h.set (st' := { st with armed := 0 }) (kv' := kv) 4 (.int .i64 0) rfl rfl (fun _ _ => rfl)); clear h
  rw [ha] at c4
  obtain ⟨fv2, qv2, hb2⟩ := H.out.block
  have c5 : (w.setCell ⟨b, 4, none⟩ (.int .i64 0)).cell? ⟨b, 5, none⟩ = some kv := cell_at hb2 5
  have c5' : w.cell? ⟨b, 5, none⟩ = some kv := by
    rw [← c5]
    exact (World.cell?_setCell_other _ _ _ _ (by intro e; cases e)).symm
  clear hb2 c5
  have HI := Lib.hid (And.intro hI (And.intro hQ hK)); clear hI hQ hK
  have d0 : decide (0 ≤ f) = false := decide_eq_false (by omega)
  go_enter Tryd.func46, Tryd.ntmps46
  go_wp2_with fail
  refine (rcrash_own H.out (HI.out.1.setArmed 0 (by omega) (by omega)) (by have := HI.out.2.1; show st.Q.length ≤ 900000; omega) HI.out.2.2).mono ?_
  rintro e W2 ⟨rfl, h2⟩
  have H2 := Lib.hid h2; clear h2
  go_wp2_with fail
  go_end0
  exact ⟨rfl, H2.out⟩
set_option maxHeartbeats 1600000 in
set_option maxRecDepth 100000 in
theorem rcomes_big (f a : Int) (s : ByteArray) (h : RefAt w0 w b kv st (rowThing 3 1 kv K.length (intCells K) :: post)) (hd : st.down = false) (ha : st.armed = 1) (hI : DInv st) (hQ : st.Q.length ≤ 600000) (hK : K.length ≤ 1000000) (hf : 0 ≤ f) (hf2 : 15 < f) :
    Calls Tryd.prog 46 #[.pointer (some ⟨b, 0, none⟩), .int .i64 f, .int .i64 a, .string s] w fun e w' => e = .returned (.tuple #[]) ∧ RefAt w0 w' b kv (crashS { st with armed := 0 } K) (rowThing 3 1 kv K.length (intCells K) :: post) := by
  obtain ⟨fv, qv, hb⟩ := h.block
  have c3 : w.cell? ⟨b, 3, none⟩ = some (.bool st.down) := cell_at hb 3
  have c4 : w.cell? ⟨b, 4, none⟩ = some (.int .i64 st.armed) := cell_at hb 4
  have f4 : w.frozen? ⟨b, 4, none⟩ = false := free_at hb 4
  clear hb
  rw [hd] at c3
  have H := Lib.hid (h.set (st' := { st with armed := 0 }) (kv' := kv) 4 (.int .i64 0) rfl rfl (fun _ _ => rfl)); clear h
  rw [ha] at c4
  obtain ⟨fv2, qv2, hb2⟩ := H.out.block
  have c5 : (w.setCell ⟨b, 4, none⟩ (.int .i64 0)).cell? ⟨b, 5, none⟩ = some kv := cell_at hb2 5
  have c5' : w.cell? ⟨b, 5, none⟩ = some kv := by
    rw [← c5]
    exact (World.cell?_setCell_other _ _ _ _ (by intro e; cases e)).symm
  clear hb2 c5
  have HI := Lib.hid (And.intro hI (And.intro hQ hK)); clear hI hQ hK
  have d0 : decide (0 ≤ f) = true := decide_eq_true hf
  have d1 : decide (f ≤ 15) = false := decide_eq_false (by omega)
  go_enter Tryd.func46, Tryd.ntmps46
  go_wp2_with fail
  refine (rcrash_own H.out (HI.out.1.setArmed 0 (by omega) (by omega)) (by have := HI.out.2.1; show st.Q.length ≤ 900000; omega) HI.out.2.2).mono ?_
  rintro e W2 ⟨rfl, h2⟩
  have H2 := Lib.hid h2; clear h2
  go_wp2_with fail
  go_end0
  exact ⟨rfl, H2.out⟩
set_option maxHeartbeats 1600000 in
set_option maxRecDepth 100000 in
theorem rcomes_unfit (f a : Int) (s : ByteArray) (h : RefAt w0 w b kv st (rowThing 3 1 kv K.length (intCells K) :: post)) (hd : st.down = false) (ha : st.armed = 1) (hI : DInv st) (hQ : st.Q.length ≤ 600000) (hK : K.length ≤ 1000000) (hf : 0 ≤ f) (hf2 : f ≤ 15) (hs : s.size ≤ 100000000) (hfit : fitsB a s = false) :
    Calls Tryd.prog 46 #[.pointer (some ⟨b, 0, none⟩), .int .i64 f, .int .i64 a, .string s] w fun e w' => e = .returned (.tuple #[]) ∧ RefAt w0 w' b kv (crashS { st with armed := 0 } K) (rowThing 3 1 kv K.length (intCells K) :: post) := by
  obtain ⟨fv, qv, hb⟩ := h.block
  have c3 : w.cell? ⟨b, 3, none⟩ = some (.bool st.down) := cell_at hb 3
  have c4 : w.cell? ⟨b, 4, none⟩ = some (.int .i64 st.armed) := cell_at hb 4
  have f4 : w.frozen? ⟨b, 4, none⟩ = false := free_at hb 4
  clear hb
  rw [hd] at c3
  have H := Lib.hid (h.set (st' := { st with armed := 0 }) (kv' := kv) 4 (.int .i64 0) rfl rfl (fun _ _ => rfl)); clear h
  rw [ha] at c4
  obtain ⟨fv2, qv2, hb2⟩ := H.out.block
  have c5 : (w.setCell ⟨b, 4, none⟩ (.int .i64 0)).cell? ⟨b, 5, none⟩ = some kv := cell_at hb2 5
  have c5' : w.cell? ⟨b, 5, none⟩ = some kv := by
    rw [← c5]
    exact (World.cell?_setCell_other _ _ _ _ (by intro e; cases e)).symm
  clear hb2 c5
  have HI := Lib.hid (And.intro hI (And.intro hQ hK)); clear hI hQ hK
  have d0 : decide (0 ≤ f) = true := decide_eq_true hf
  have d1 : decide (f ≤ 15) = true := decide_eq_true hf2
  have HF := Lib.hid (And.intro hs hfit); clear hs hfit
  go_enter Tryd.func46, Tryd.ntmps46
  go_wp2_with fail
  refine (rfits_any a s _ HF.out.1).mono ?_
  rintro e W1 ⟨rfl, rfl⟩
  rw [HF.out.2]
  go_wp2_with fail
  refine (rcrash_own H.out (HI.out.1.setArmed 0 (by omega) (by omega)) (by have := HI.out.2.1; show st.Q.length ≤ 900000; omega) HI.out.2.2).mono ?_
  rintro e W2 ⟨rfl, h2⟩
  have H2 := Lib.hid h2; clear h2
  go_wp2_with fail
  go_end0
  exact ⟨rfl, H2.out⟩
set_option maxHeartbeats 1600000 in
set_option maxRecDepth 100000 in
theorem rcomes_fit (f a : Int) (s : ByteArray) (h : RefAt w0 w b kv st (rowThing 3 1 kv K.length (intCells K) :: post)) (hd : st.down = false) (ha : st.armed = 1) (hI : DInv st) (hQ : st.Q.length ≤ 300000) (hK : K.length ≤ 1000000) (hf : 0 ≤ f) (hf2 : f ≤ 15) (n : Nat) (hn : a = n) (hfit : n + s.size ≤ 16777216) :
    Calls Tryd.prog 46 #[.pointer (some ⟨b, 0, none⟩), .int .i64 f, .int .i64 a, .string s] w fun e w' => e = .returned (.tuple #[]) ∧ RefAt w0 w' b kv (crashS (wrS { st with armed := 0 } f a s) K) (rowThing 3 1 kv K.length (intCells K) :: post) := by
  obtain ⟨fv, qv, hb⟩ := h.block
  have c3 : w.cell? ⟨b, 3, none⟩ = some (.bool st.down) := cell_at hb 3
  have c4 : w.cell? ⟨b, 4, none⟩ = some (.int .i64 st.armed) := cell_at hb 4
  have f4 : w.frozen? ⟨b, 4, none⟩ = false := free_at hb 4
  clear hb
  rw [hd] at c3
  subst hn
  have H := Lib.hid (h.set (st' := { st with armed := 0 }) (kv' := kv) 4 (.int .i64 0) rfl rfl (fun _ _ => rfl)); clear h
  rw [ha] at c4
  have d0 : decide (0 ≤ f) = true := decide_eq_true hf
  have d1 : decide (f ≤ 15) = true := decide_eq_true hf2
  have hI0 := hI.setArmed 0 (by omega) (by omega)
  have HI := Lib.hid (And.intro hI0 (And.intro hQ (And.intro hK hfit))); clear hI hI0 hQ hK hfit
  have HM : Hid (mayCode { st with armed := 0 } f = 0) := may_of hd hf (by omega)
  go_enter Tryd.func46, Tryd.ntmps46
  go_wp2_with fail
  refine (rfits_any n s _ (by have := HI.out.2.2.2; omega)).mono ?_
  rintro e W1 ⟨rfl, rfl⟩
  rw [show fitsB (n : Int) s = true by have := HI.out.2.2.2; simp [fitsB]; omega]
  go_wp2_with fail
  refine (radd_any f n s H.out HM.out HI.out.2.2.2 HI.out.1 (by have := HI.out.2.1; show st.Q.length ≤ 600000; omega)).mono ?_
  rintro e W2 ⟨rfl, h2⟩
  have H2 := Lib.hid h2; clear h2 H c3 c4 f4
  obtain ⟨fv2, qv2, hb2⟩ := H2.out.block
  have c5 : W2.cell? ⟨b, 5, none⟩ = some kv := cell_at hb2 5
  clear hb2
  go_wp2_with fail
  have hq : (wrS { st with armed := 0 } f (n : Int) s).Q.length ≤ 900000 := by
    have h1 := HI.out.2.1
    have h2 := HI.out.2.2.2
    unfold wrS
    split
    · simp only [Int.toNat_natCast]
      have := addSecs_length st.Q f ((n / 64 : Nat) : Int) ((n + s.size - 1) / 64 - n / 64 + 1)
      omega
    · show st.Q.length ≤ 900000
      omega
  refine (rcrash_own H2.out (HI.out.1.wr f n s) hq HI.out.2.2.1).mono ?_
  rintro e W3 ⟨rfl, h3⟩
  have H3 := Lib.hid h3; clear h3
  go_wp2_with fail
  go_end0
  exact ⟨rfl, H3.out⟩
end
end Go.Proofs.YtdcgdnlpagadcaaDoor
