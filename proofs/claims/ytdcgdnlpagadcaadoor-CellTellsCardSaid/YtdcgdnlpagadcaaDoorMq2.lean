/- Contracts and lemmas (texts RefY, RefZ, RefS2, RefT2, RefU2, joined by a program). -/
import Derived.Test.YtdcgdnlpagadcaaDoorMq1
/- Contracts of the reference for disk: settle. -/
namespace Go.Proofs.YtdcgdnlpagadcaaDoor
open Go.RowKit Go.Proofs.YtdcgdnlpagadcaaDoorMem Go.Maps

def keepS (f : Int) (Q : List (Int × Int)) : List (Int × Int) := Q.filter (fun p => p.1 != f)
theorem keepS_yes {f : Int} {Q : List (Int × Int)} {k : Nat} (hk : k < Q.length) (h : (Q[k].1 != f) = true) : keepS f (Q.take (k + 1)) = keepS f (Q.take k) ++ [Q[k]] := by
  unfold keepS
  rw [List.take_succ_eq_append_getElem hk, List.filter_append]
  simp [h]
theorem keepS_no {f : Int} {Q : List (Int × Int)} {k : Nat} (hk : k < Q.length) (h : (Q[k].1 != f) = false) : keepS f (Q.take (k + 1)) = keepS f (Q.take k) := by
  unfold keepS
  rw [List.take_succ_eq_append_getElem hk, List.filter_append]
  simp [h]
theorem keepS_len (f : Int) (Q : List (Int × Int)) (k : Nat) : (keepS f (Q.take k)).length ≤ Q.length := by
  unfold keepS
  exact Nat.le_trans (List.length_filter_le _ _) (by rw [List.length_take]; omega)
theorem secCells_snoc2 (Q : List (Int × Int)) (p : Int × Int) : secCells (Q ++ [p]) = secCells Q ++ [.int .i64 p.1, .int .i64 p.2] := by simp [secCells]

set_option maxHeartbeats 3200000 in
set_option maxRecDepth 100000 in
theorem rsettle_sep {w0 w : World} {b : Nat} {kv : Value} {st : DS} {post : List Thing} (f : Int) (s : ByteArray) (h : RefAt w0 w b kv st post) (hf : 0 ≤ f ∧ f < 16) (hQ : st.Q.length ≤ 900000) :
    Calls Tryd.prog 50 #[.pointer (some ⟨b, 0, none⟩), .int .i64 f, .string s] w fun e w' => e = .returned (.tuple #[]) ∧ RefAt w0 w' b kv (settleS st f s) post := by
  obtain ⟨i0, hi, hz0, hz1, hz2⟩ := info_parts Tryd.info77
  obtain ⟨fv, qv, L, hR, h0⟩ := h
  have hlen := hR.len
  have H0 := Lib.hid h0; clear h0
  have HR0 := Lib.hid hR; clear hR
  go_enter Tryd.func50, Tryd.ntmps50
  go_wp2_with fail
  refine (rset_sep _ ⟨f, s, s⟩ H0.out (by omega)).mono ?_
  rintro e W1 ⟨rfl, fv', h1⟩
  obtain ⟨qa, qc, rfl, -⟩ := secs_at (Sep.row (pre := [_, _]) h1)
  have H1 : Hid (Sep w0 W1 (rowThing 77 2 (.slice none 0 0) 0 [] :: refL b fv' (.slice qa st.Q.length qc) kv st (rset L ⟨f, s, s⟩) post)) := Sep.row_start h1 77 2
  clear h1 H0
  go_wp2_with fail
  obtain ⟨L', hL'⟩ : ∃ L', L' = rset L ⟨f, s, s⟩ := ⟨_, rfl⟩
  rw [← hL'] at H1
  have HL := Lib.hid hL'; clear hL'
  go_loopw [6, 7] (fun ov iv wr => ∃ k : Nat, k ≤ st.Q.length ∧ iv = .int .i64 k ∧ Hid (Sep w0 wr (rowThing 77 2 ov (keepS f (st.Q.take k)).length (secCells (keepS f (st.Q.take k))) :: refL b fv' (.slice qa st.Q.length qc) kv st L' post))) (fun _ iv _ => st.Q.length - (intOf iv).toNat)
  case atStart => exact ⟨0, Nat.zero_le _, rfl, H1.out⟩
  case round =>
    clear H1
    obtain ⟨k, hk, rfl, hS⟩ := hrel
    have HS := Lib.hid hS.out; clear hS
    obtain ⟨oa, oc, rfl, -⟩ := secs_at (Sep.row (pre := []) HS.out)
    have hb := Sep.block [_] _ HS.out
    obtain ⟨a', c', he, hat⟩ := secs_at (Sep.row (pre := [_, _, _]) HS.out)
    obtain ⟨rfl, -, rfl⟩ := Value.slice.inj he
    have c1 : wr.cell? ⟨b, 1, none⟩ = some (.slice qa st.Q.length qc) := cell_at hb 1
    have f1 : wr.frozen? ⟨b, 1, none⟩ = false := free_at hb 1
    have HB := Lib.hid hb; clear hb he
    have hkl := keepS_len f st.Q k
    by_cases hlt : k < st.Q.length
    · have hltI : (k : Int) < (st.Q.length : Int) := by omega
      obtain ⟨g, rfl, x0, x1⟩ := hat k hlt
      obtain ⟨y, hy⟩ : ∃ y, y = st.Q[k] := ⟨_, rfl⟩
      rw [← hy] at x0 x1
      have HY := Lib.hid hy; clear hy hat
      cases hn : (y.1 != f)
      · have HN := Lib.hid hn
        go_wp2_with fail
        go_roundw
        case rel =>
          refine ⟨k + 1, by omega, by go_num, ?_⟩
          show Sep w0 wr _
          rw [keepS_no hlt (by rw [← HY.out]; exact HN.out)]
          exact HS.out
        case measure => simp [intOf]; omega
      · have HN := Lib.hid hn
        have HR : Hid ((wr.alloc (.cells #[.int .i64 y.1, .int .i64 y.2] 77)).ownsRow 0 77 2 (.slice oa (keepS f (st.Q.take k)).length oc) (keepS f (st.Q.take k)).length (secCells (keepS f (st.Q.take k)))) := own_kept (Sep.row (pre := []) HS.out) (Turns.alloc [] wr _) (by simp)
        go_wp2_with (at_builtin; refine wpList_append_src _ rfl (.tmp 33) (.tmp 41) 70 rfl 77 i0 (.agg #[.int .i64 0, .int .i64 0]) 2 16 Tryd.underlying70 hi hz0 hz1 hz2 rfl (by decide) (.slice oa (keepS f (st.Q.take k)).length oc) (keepS f (st.Q.take k)).length (secCells (keepS f (st.Q.take k))) rfl HR.out (.slice (some ⟨wr.heap.size, 0, none⟩) 1 1) 1 [.int .i64 y.1, .int .i64 y.2] rfl (.inr ⟨_, _, rfl, new_cells wr _ 77 _ rfl⟩) ?c1 ?c3 ?c4 ?c5 ?_)
        case c1 => rfl
        case c3 => intro u hu; simp at hu; rcases hu with rfl | rfl <;> rfl
        case c4 => unfold maxLen; omega
        case c5 => omega
        intro v' w1 hown hgr hat
        have HW : Hid (Sep w0 w1 (rowThing 77 2 v' (keepS f (st.Q.take (k + 1))).length (secCells (keepS f (st.Q.take (k + 1)))) :: refL b fv' (.slice (some ⟨g, 0, none⟩) st.Q.length qc) kv st L' post)) := by
          have := Sep.row_grown [] _ HS.out hown hgr hat
          rw [keepS_yes hlt (by rw [← HY.out]; exact HN.out), ← HY.out, secCells_snoc2, List.length_append]
          exact this
        clear hown hgr hat HR c1 x0 x1
        go_wp2_with fail
        go_roundw
        case rel => exact ⟨k + 1, by omega, by go_num, HW.out⟩
        case measure => simp [intOf]; omega
    · have hltI : ¬ (k : Int) < (st.Q.length : Int) := by omega
      go_wp2_with fail
      go_end0
      have h1 := Sep.block_turned (o' := refObj fv' (.slice oa (keepS f (st.Q.take k)).length oc) kv st) [_] _ HS.out (Turns.setCell wr ⟨b, 1, none⟩ _ (by simp)) (heap_setCell_at HB.out 1 _)
      have h2 := (Sep.toFront [_, _, _] _ h1).drop
      have h3 := Sep.fromFront [_, _] _ h2
      refine ⟨rfl, fv', .slice oa (keepS f (st.Q.take k)).length oc, L', ?_, ?_⟩
      · rw [HL.out]
        exact HR0.out.set ⟨f, s, s⟩ hf
      · rw [List.take_of_length_le (by omega)] at h3 ⊢
        exact h3
end Go.Proofs.YtdcgdnlpagadcaaDoor

/- Contracts of the reference for disk: survive. -/
namespace Go.Proofs.YtdcgdnlpagadcaaDoor
open Go.RowKit Go.Proofs.YtdcgdnlpagadcaaDoorMem Go.Maps

def survF (F : Int → File) (p : Int × Int) : Int → File :=
  if p.2 * 64 < ((F p.1).now.size : Int) then updF F p.1 ⟨(F p.1).now, putB (F p.1).last (p.2 * 64).toNat ((F p.1).now.extract (p.2 * 64).toNat (min ((p.2 * 64).toNat + 64) (F p.1).now.size))⟩ else F
theorem updF_id (F : Int → File) (f : Int) : updF F f (F f) = F := by
  funext g
  unfold updF
  split
  · rename_i h; rw [h]
  · rfl

set_option maxHeartbeats 3200000 in
set_option maxRecDepth 100000 in
theorem rsurvive_sep {w0 w : World} {b : Nat} {kv : Value} {st : DS} {post : List Thing} (pf : Int) (n0 : Nat) (h : RefAt w0 w b kv st post) (hf : 0 ≤ pf ∧ pf < 16) (hs1 : (st.F pf).now.size ≤ 16777216) (hs2 : (st.F pf).last.size ≤ 16777216) (hn : n0 ≤ 300000) :
    Calls Tryd.prog 39 #[.pointer (some ⟨b, 0, none⟩), .agg #[.int .i64 pf, .int .i64 (n0 : Int)]] w fun e w' => e = .returned (.tuple #[]) ∧ RefAt w0 w' b kv { st with F := survF st.F (pf, (n0 : Int)) } post := by
  obtain ⟨fv, qv, L, hR, h0⟩ := h
  have hlen := hR.len
  have HA : Hid (Sep w0 (w.alloc (.cells #[.int .i64 pf, .int .i64 (n0 : Int)] 77)) (blockThing w.heap.size (.cells #[.int .i64 pf, .int .i64 (n0 : Int)] 77 (0, 0)) :: refL b fv qv kv st L post)) := Sep.alloc h0 _
  clear h0
  have hfile := hR.file pf
  have hnum := rget_num L pf
  obtain ⟨x, hx⟩ : ∃ x, x = rget L pf := ⟨_, rfl⟩
  rw [← hx] at hfile hnum
  have hz1 : x.now.size ≤ 16777216 := by rw [← hfile] at hs1; exact hs1
  have hz2 : x.last.size ≤ 16777216 := by rw [← hfile] at hs2; exact hs2
  go_enter Tryd.func39, Tryd.ntmps39
  go_wp2_with fail
  generalize w.alloc (.cells #[.int .i64 pf, .int .i64 (n0 : Int)] 77) = W0 at *
  generalize w.heap.size = sb at *
  refine (rget_any b fv qv kv st L pf W0 (Sep.block [_] _ HA.out) (Sep.row (pre := [_, _]) HA.out) (by omega)).mono ?_
  rintro e w1 ⟨rfl, ht1⟩
  rw [← hx]
  have HX := Lib.hid (And.intro hR (And.intro hx (And.intro hfile (And.intro hnum (And.intro hz1 hz2))))); clear hx hfile hnum hz1 hz2 hR hs1 hs2
  unfold RF.val
  have H1 : Hid (Sep w0 (w1.alloc (.cells #[.int .i64 x.num, .string x.now, .string x.last] 79)) (blockThing w1.heap.size (xObj x) :: blockThing sb (.cells #[.int .i64 pf, .int .i64 (n0 : Int)] 77 (0, 0)) :: refL b fv qv kv st L post)) := Sep.alloc (HA.out.quiet ht1) (xObj x)
  clear HA
  have hsb := Sep.block [_] _ H1.out
  have y1 : (w1.alloc (.cells #[.int .i64 x.num, .string x.now, .string x.last] 79)).cell? ⟨sb, 1, none⟩ = some (.int .i64 (n0 : Int)) := cell_at hsb 1
  clear ht1
  by_cases hlo : n0 * 64 < x.now.size
  · have hloI : 64 * (n0 : Int) < (x.now.size : Int) := by omega
    clear y1
    have hlo1 : 64 * (n0 : Int) ≤ (x.now.size : Int) := by omega
    obtain ⟨m, hm⟩ : ∃ m : Nat, m = min (n0 * 64 + 64) x.now.size := ⟨_, rfl⟩
    have hite : (if (x.now.size : Int) < 64 * (n0 : Int) + 64 then (x.now.size : Int) else 64 * (n0 : Int) + 64) = (m : Int) := by rw [hm]; split <;> omega
    have hlo2 : n0 * 64 ≤ m := by omega
    have hlo3 : m ≤ x.now.size := by omega
    have hlo5 : 64 * (n0 : Int) ≤ (m : Int) := by omega
    have hlo6 : (m : Int) ≤ (x.now.size : Int) := by omega
    have hsl : ∀ w', (Instr.slice 9 (.string x.now) (some (.int .i64 (64 * (n0 : Int)))) (some (.int .i64 (m : Int))) none).run Tryd.prog w' = .ok (.string (x.now.extract (n0 * 64) m)) w' := fun w' => by
      rw [run_slice_string (P := Tryd.prog) w' 9 x.now .i64 .i64 (64 * (n0 : Int)) (m : Int) Tryd.underlying9 (by omega) (by omega) (by omega), show (64 * (n0 : Int)).toNat = n0 * 64 by omega, Int.toNat_natCast]
    have hw1 : IntKind.i64.wrap (64 * (n0 : Int)) = 64 * (n0 : Int) := by rw [IntKind.wrap_i64]; omega
    have hw2 : IntKind.i64.wrap (64 * (n0 : Int) + 64) = 64 * (n0 : Int) + 64 := by rw [IntKind.wrap_i64]; omega
    have HPUT : Hid (∀ W, Calls Tryd.prog 51 #[.string x.last, .int .i64 (64 * (n0 : Int)), .string (x.now.extract (n0 * 64) m)] W fun e w' => e = .returned (.string (putB x.last (n0 * 64) (x.now.extract (n0 * 64) m))) ∧ Turns [] W w') := by
      intro W
      have := rput_any x.last (x.now.extract (n0 * 64) m) (n0 * 64) W (by have := HX.out.2.2.2.2; omega) (by rw [extract_size]; have := HX.out.2.2.2.2; omega)
      rwa [show ((n0 * 64 : Nat) : Int) = 64 * (n0 : Int) by omega] at this
    have HM := Lib.hid (And.intro hm hlo); clear hm hlo
    have hpb := Sep.block [] _ H1.out
    have p1 : (w1.alloc (.cells #[.int .i64 x.num, .string x.now, .string x.last] 79)).cell? ⟨w1.heap.size, 1, none⟩ = some (.string x.now) := cell_at hpb 1
    have s1 : (w1.alloc (.cells #[.int .i64 x.num, .string x.now, .string x.last] 79)).cell? ⟨sb, 1, none⟩ = some (.int .i64 (n0 : Int)) := cell_at hsb 1
    clear hsb hpb
    go_wp2_with fail
    clear p1 s1
    have H2 := Lib.hid (H1.out.quiet (Turns.refl [] _).drew); clear H1
    refine wp_region_N (fun w' => w'.cell? ⟨w1.heap.size, 1, none⟩ = some (.string x.now) ∧ w'.cell? ⟨w1.heap.size, 2, none⟩ = some (.string x.last) ∧ w'.cell? ⟨sb, 0, none⟩ = some (.int .i64 pf) ∧ w'.cell? ⟨sb, 1, none⟩ = some (.int .i64 (n0 : Int))) (fun _ => True) (fun j => decide (j < 21)) (by kernel_rfl) ?_
    generalize (w1.alloc (.cells #[.int .i64 x.num, .string x.now, .string x.last] 79)).drew = W1 at *
    generalize w1.heap.size = pb at *
    have hs1 : W1.cell? ⟨pb, 1, none⟩ = some (.string x.now) ∧ W1.cell? ⟨pb, 2, none⟩ = some (.string x.last) ∧ W1.cell? ⟨sb, 0, none⟩ = some (.int .i64 pf) ∧ W1.cell? ⟨sb, 1, none⟩ = some (.int .i64 (n0 : Int)) :=
      ⟨cell_at (Sep.block [] _ H2.out) 1, cell_at (Sep.block [] _ H2.out) 2, cell_at (Sep.block [_] _ H2.out) 0, cell_at (Sep.block [_] _ H2.out) 1⟩
    have hs2 : True := trivial
    refine wpAnyN_take1 3 (some 16) (i := 0) (v := ?_) rfl rfl (by kernel_rfl) (by kernel_rfl) (by kernel_rfl) (by kernel_rfl) (by kernel_rfl) (fun _ _ _ h => h) (Or.inl ⟨by rfl, ?_⟩) ⟨hs1, hs2⟩ ?_
    rotate_left
    · intro w' hSw; obtain ⟨⟨g1, g2, g3, g4⟩, -⟩ := hSw; go_simp; try (with_reducible rfl)
    simp only [Act.put, List.setIfInBounds_toArray, List.set_cons_zero, List.set_cons_succ]
    refine wpAnyN_take1 3 (some 17) (i := 1) (v := ?_) rfl rfl (by kernel_rfl) (by kernel_rfl) (by kernel_rfl) (by kernel_rfl) (by kernel_rfl) (fun _ _ _ h => h) (Or.inl ⟨by rfl, ?_⟩) ⟨hs1, hs2⟩ ?_
    rotate_left
    · intro w' hSw; obtain ⟨⟨g1, g2, g3, g4⟩, -⟩ := hSw; go_simp; try (with_reducible rfl)
    simp only [Act.put, List.setIfInBounds_toArray, List.set_cons_zero, List.set_cons_succ]
    refine wpAnyN_take1 3 (some 18) (i := 2) (v := ?_) rfl rfl (by kernel_rfl) (by kernel_rfl) (by kernel_rfl) (by kernel_rfl) (by kernel_rfl) (fun _ _ _ h => h) (Or.inl ⟨by rfl, ?_⟩) ⟨hs1, hs2⟩ ?_
    rotate_left
    · intro w' hSw; obtain ⟨⟨g1, g2, g3, g4⟩, -⟩ := hSw; go_simp; try (with_reducible rfl)
    simp only [Act.put, List.setIfInBounds_toArray, List.set_cons_zero, List.set_cons_succ]
    refine wpAnyN_take1 3 (some 19) (i := 3) (v := ?_) rfl rfl (by kernel_rfl) (by kernel_rfl) (by kernel_rfl) (by kernel_rfl) (by kernel_rfl) (fun _ _ _ h => h) (Or.inl ⟨by rfl, ?_⟩) ⟨hs1, hs2⟩ ?_
    rotate_left
    · intro w' hSw; obtain ⟨⟨g1, g2, g3, g4⟩, -⟩ := hSw; go_simp; try (with_reducible rfl)
    simp only [Act.put, List.setIfInBounds_toArray, List.set_cons_zero, List.set_cons_succ]
    refine wpAnyN_take1 3 (some 20) (i := 4) (v := ?_) rfl rfl (by kernel_rfl) (by kernel_rfl) (by kernel_rfl) (by kernel_rfl) (by kernel_rfl) (fun _ _ _ h => h) (Or.inl ⟨by rfl, ?_⟩) ⟨hs1, hs2⟩ ?_
    rotate_left
    · intro w' hSw; obtain ⟨⟨g1, g2, g3, g4⟩, -⟩ := hSw; go_simp; try (with_reducible rfl)
    simp only [Act.put, List.setIfInBounds_toArray, List.set_cons_zero, List.set_cons_succ]
    refine wpAnyN_take1 3 (some 21) (i := 5) (v := ?_) rfl rfl (by kernel_rfl) (by kernel_rfl) (by kernel_rfl) (by kernel_rfl) (by kernel_rfl) (fun _ _ _ h => h) (Or.inl ⟨by rfl, ?_⟩) ⟨hs1, hs2⟩ ?_
    rotate_left
    · intro w' hSw; obtain ⟨⟨g1, g2, g3, g4⟩, -⟩ := hSw; go_simp; try (with_reducible rfl)
    simp only [Act.put, List.setIfInBounds_toArray, List.set_cons_zero, List.set_cons_succ]
    refine wpAnyN_take1 3 (some 22) (i := 6) (v := ?_) rfl rfl (by kernel_rfl) (by kernel_rfl) (by kernel_rfl) (by kernel_rfl) (by kernel_rfl) (fun _ _ _ h => h) (Or.inl ⟨by rfl, ?_⟩) ⟨hs1, hs2⟩ ?_
    rotate_left
    · intro w' hSw; obtain ⟨⟨g1, g2, g3, g4⟩, -⟩ := hSw; go_simp; try (with_reducible rfl)
    simp only [Act.put, List.setIfInBounds_toArray, List.set_cons_zero, List.set_cons_succ]
    refine wpAnyN_take1 3 (some 23) (i := 7) (v := ?_) rfl rfl (by kernel_rfl) (by kernel_rfl) (by kernel_rfl) (by kernel_rfl) (by kernel_rfl) (fun _ _ _ h => h) (Or.inl ⟨by rfl, ?_⟩) ⟨hs1, hs2⟩ ?_
    rotate_left
    · intro w' hSw; obtain ⟨⟨g1, g2, g3, g4⟩, -⟩ := hSw; go_simp; try (with_reducible rfl)
    simp only [Act.put, List.setIfInBounds_toArray, List.set_cons_zero, List.set_cons_succ]
    refine wpAnyN_take1 3 (some 24) (i := 8) (v := ?_) rfl rfl (by kernel_rfl) (by kernel_rfl) (by kernel_rfl) (by kernel_rfl) (by kernel_rfl) (fun _ _ _ h => h) (Or.inl ⟨by rfl, ?_⟩) ⟨hs1, hs2⟩ ?_
    rotate_left
    · intro w' hSw; obtain ⟨⟨g1, g2, g3, g4⟩, -⟩ := hSw; go_simp; try (with_reducible rfl)
    simp only [Act.put, List.setIfInBounds_toArray, List.set_cons_zero, List.set_cons_succ]
    refine wpAnyN_take1 3 (some 25) (i := 9) (v := ?_) rfl rfl (by kernel_rfl) (by kernel_rfl) (by kernel_rfl) (by kernel_rfl) (by kernel_rfl) (fun _ _ _ h => h) (Or.inl ⟨by rfl, ?_⟩) ⟨hs1, hs2⟩ ?_
    rotate_left
    · intro w' hSw; obtain ⟨⟨g1, g2, g3, g4⟩, -⟩ := hSw; go_simp; try (with_reducible rfl)
    simp only [Act.put, List.setIfInBounds_toArray, List.set_cons_zero, List.set_cons_succ]
    refine wpAnyN_take1 3 (some 26) (i := 10) (v := ?_) rfl rfl (by kernel_rfl) (by kernel_rfl) (by kernel_rfl) (by kernel_rfl) (by kernel_rfl) (fun _ _ _ h => h) (Or.inl ⟨by rfl, ?_⟩) ⟨hs1, hs2⟩ ?_
    rotate_left
    · intro w' hSw; obtain ⟨⟨g1, g2, g3, g4⟩, -⟩ := hSw; go_simp; try (with_reducible rfl)
    simp only [Act.put, List.setIfInBounds_toArray, List.set_cons_zero, List.set_cons_succ]
    refine wpAnyN_take1 3 (some 27) (i := 11) (v := ?_) rfl rfl (by kernel_rfl) (by kernel_rfl) (by kernel_rfl) (by kernel_rfl) (by kernel_rfl) (fun _ _ _ h => h) (Or.inl ⟨by rfl, ?_⟩) ⟨hs1, hs2⟩ ?_
    rotate_left
    · intro w' hSw; obtain ⟨⟨g1, g2, g3, g4⟩, -⟩ := hSw; go_simp; try (with_reducible rfl)
    simp only [Act.put, List.setIfInBounds_toArray, List.set_cons_zero, List.set_cons_succ]
    refine wpAnyN_take1 3 (some 28) (i := 12) (v := ?_) rfl rfl (by kernel_rfl) (by kernel_rfl) (by kernel_rfl) (by kernel_rfl) (by kernel_rfl) (fun _ _ _ h => h) (Or.inl ⟨by rfl, ?_⟩) ⟨hs1, hs2⟩ ?_
    rotate_left
    · intro w' hSw; obtain ⟨⟨g1, g2, g3, g4⟩, -⟩ := hSw; go_simp; try (with_reducible rfl)
    simp only [Act.put, List.setIfInBounds_toArray, List.set_cons_zero, List.set_cons_succ]
    refine wpAnyN_take1 3 (some 29) (i := 13) (v := ?_) rfl rfl (by kernel_rfl) (by kernel_rfl) (by kernel_rfl) (by kernel_rfl) (by kernel_rfl) (fun _ _ _ h => h) (Or.inl ⟨by rfl, ?_⟩) ⟨hs1, hs2⟩ ?_
    rotate_left
    · intro w' hSw; obtain ⟨⟨g1, g2, g3, g4⟩, -⟩ := hSw; go_simp; try (with_reducible rfl)
    simp only [Act.put, List.setIfInBounds_toArray, List.set_cons_zero, List.set_cons_succ]
    refine wpAnyN_take1 3 (some 30) (i := 14) (v := ?_) rfl rfl (by kernel_rfl) (by kernel_rfl) (by kernel_rfl) (by kernel_rfl) (by kernel_rfl) (fun _ _ _ h => h) (Or.inl ⟨by rfl, ?_⟩) ⟨hs1, hs2⟩ ?_
    rotate_left
    · intro w' hSw; obtain ⟨⟨g1, g2, g3, g4⟩, -⟩ := hSw; go_simp; try (with_reducible rfl)
    simp only [Act.put, List.setIfInBounds_toArray, List.set_cons_zero, List.set_cons_succ]
    refine wpAnyN_take1 3 (some 31) (i := 15) (v := ?_) rfl rfl (by kernel_rfl) (by kernel_rfl) (by kernel_rfl) (by kernel_rfl) (by kernel_rfl) (fun _ _ _ h => h) (Or.inl ⟨by rfl, ?_⟩) ⟨hs1, hs2⟩ ?_
    rotate_left
    · intro w' hSw; obtain ⟨⟨g1, g2, g3, g4⟩, -⟩ := hSw; go_simp; try (with_reducible rfl)
    simp only [Act.put, List.setIfInBounds_toArray, List.set_cons_zero, List.set_cons_succ]
    refine wpAnyN_take1 3 (some 32) (i := 16) (v := ?_) rfl rfl (by kernel_rfl) (by kernel_rfl) (by kernel_rfl) (by kernel_rfl) (by kernel_rfl) (fun _ _ _ h => h) (Or.inl ⟨by rfl, ?_⟩) ⟨hs1, hs2⟩ ?_
    rotate_left
    · intro w' hSw; obtain ⟨⟨g1, g2, g3, g4⟩, -⟩ := hSw; go_simp; try (with_reducible rfl)
    simp only [Act.put, List.setIfInBounds_toArray, List.set_cons_zero, List.set_cons_succ]
    refine wpAnyN_take1 3 (some 33) (i := 17) (v := ?_) rfl rfl (by kernel_rfl) (by kernel_rfl) (by kernel_rfl) (by kernel_rfl) (by kernel_rfl) (fun _ _ _ h => h) (Or.inl ⟨by rfl, ?_⟩) ⟨hs1, hs2⟩ ?_
    rotate_left
    · intro w' hSw; obtain ⟨⟨g1, g2, g3, g4⟩, -⟩ := hSw; go_simp; try (with_reducible rfl)
    simp only [Act.put, List.setIfInBounds_toArray, List.set_cons_zero, List.set_cons_succ]
    refine wpAnyN_take1 3 (some 34) (i := 18) (v := ?_) rfl rfl (by kernel_rfl) (by kernel_rfl) (by kernel_rfl) (by kernel_rfl) (by kernel_rfl) (fun _ _ _ h => h) (Or.inl ⟨by rfl, ?_⟩) ⟨hs1, hs2⟩ ?_
    rotate_left
    · intro w' hSw; obtain ⟨⟨g1, g2, g3, g4⟩, -⟩ := hSw; go_simp; try (with_reducible rfl)
    simp only [Act.put, List.setIfInBounds_toArray, List.set_cons_zero, List.set_cons_succ]
    refine wpAnyN_one (i := 19) (by kernel_rfl) rfl fun K' hK' => ?_
    go_simp
    refine (HPUT.out _).mono ?_
    rintro e W3 ⟨rfl, ht3⟩
    go_simp
    have H3 := Lib.hid (H2.out.quiet ht3); clear H2 ht3 hs1
    have hpb := Sep.block [] _ H3.out
    have b2 : W3.frozen? ⟨pb, 2, none⟩ = false := free_at hpb 2
    have q0 : W3.cell? ⟨pb, 0, none⟩ = some (.int .i64 x.num) := cell_at hpb 0
    have q1 : W3.cell? ⟨pb, 1, none⟩ = some (.string x.now) := cell_at hpb 1
    have q2 : W3.cell? ⟨pb, 2, none⟩ = some (.string x.last) := cell_at hpb 2
    have HP := Lib.hid hpb; clear hpb
    refine hK'.out _ _ trivial (fun _ => ⟨q1, q2, cell_at (Sep.block [_] _ H3.out) 0, cell_at (Sep.block [_] _ H3.out) 1⟩) ?_
    clear hK' K'
    try (simp only [Act.put, List.setIfInBounds_toArray, List.set_cons_zero, List.set_cons_succ])
    refine wpAnyN_one (i := 20) (by kernel_rfl) rfl fun K' hK' => ?_
    go_simp
    refine hK'.out _ _ trivial (fun _ => ⟨q1, q2, cell_at (Sep.block [_] _ H3.out) 0, cell_at (Sep.block [_] _ H3.out) 1⟩) ?_
    clear hK' K'
    try (simp only [Act.put, List.setIfInBounds_toArray, List.set_cons_zero, List.set_cons_succ])
    refine wpAnyN_one (i := 21) (by kernel_rfl) rfl fun K' hK' => ?_
    go_simp
    refine hK'.out _ _ trivial (fun h => absurd h (by decide)) ?_
    clear hK' K'
    refine wpAnyN_done (by kernel_rfl) ?_ _
    try (simp only [Act.put, List.setIfInBounds_toArray])
    go_wp2_with fail
    have H4 : Hid (Sep w0 (W3.setCell ⟨pb, 2, none⟩ (.string (putB x.last (n0 * 64) (x.now.extract (n0 * 64) m)))) (refL b fv qv kv st L post)) :=
      (Sep.block_turned (o' := xObj ⟨x.num, x.now, putB x.last (n0 * 64) (x.now.extract (n0 * 64) m)⟩) [] _ H3.out (Turns.setCell _ _ _ (by simp)) (heap_setCell_at HP.out 2 _)).drop.drop
    clear H3 HP b2 q0 q1 q2 hsl
    generalize W3.setCell ⟨pb, 2, none⟩ (.string (putB x.last (n0 * 64) (x.now.extract (n0 * 64) m))) = W4 at *
    refine (rset_sep _ ⟨x.num, x.now, putB x.last (n0 * 64) (x.now.extract (n0 * 64) m)⟩ H4.out (by omega)).mono ?_
    rintro e W5 ⟨rfl, fv', h5⟩
    have H5 := Lib.hid h5; clear h5 H4
    go_wp2_with fail
    go_end0
    obtain ⟨k1, k2, k3, k4, k5, k6⟩ := HX.out
    refine ⟨rfl, fv', qv, _, ?_, H5.out⟩
    have := k1.set ⟨x.num, x.now, putB x.last (n0 * 64) (x.now.extract (n0 * 64) m)⟩ (by rw [k4]; exact hf)
    show Rep _ (survF st.F (pf, (n0 : Int)))
    have e : survF st.F (pf, (n0 : Int)) = updF st.F pf ⟨x.now, putB x.last (n0 * 64) (x.now.extract (n0 * 64) m)⟩ := by
      unfold survF
      simp only []
      rw [← k3]
      simp only []
      rw [if_pos (by have := HM.out.2; omega), show ((n0 : Int) * 64).toNat = n0 * 64 by omega, HM.out.1]
    rw [e]
    rw [k4] at this ⊢
    exact this
  · have hloI : ¬ 64 * (n0 : Int) < (x.now.size : Int) := by omega
    have hpb := Sep.block [] _ H1.out
    have HE : Hid (survF st.F (pf, (n0 : Int)) = st.F) := by
      show survF st.F (pf, (n0 : Int)) = st.F
      obtain ⟨k1, k2, k3, k4, k5, k6⟩ := HX.out
      unfold survF
      simp only []
      rw [← k3]
      simp only []
      rw [if_neg (by omega)]
    clear hpb
    go_wp2_with fail
    refine (rset_sep _ ⟨x.num, x.now, x.last⟩ (H1.out.drop.drop) (by omega)).mono ?_
    rintro e W5 ⟨rfl, fv', h5⟩
    have H5 := Lib.hid h5; clear h5 H1 y1 hsb
    go_wp2_with fail
    go_end0
    obtain ⟨k1, k2, k3, k4, k5, k6⟩ := HX.out
    refine ⟨rfl, fv', qv, _, ?_, H5.out⟩
    show Rep _ (survF st.F (pf, (n0 : Int)))
    rw [HE.out]
    have := k1.set ⟨x.num, x.now, x.last⟩ (by rw [k4]; exact hf)
    rw [k4] at this
    rw [show updF st.F pf ⟨x.now, x.last⟩ = st.F by rw [k3]; exact updF_id _ _] at this
    rw [k4]
    exact this
end Go.Proofs.YtdcgdnlpagadcaaDoor

/- Contracts of the reference for disk: may, Size, Start, Lose, New. -/
namespace Go.Proofs.YtdcgdnlpagadcaaDoor
open Go.RowKit Go.Proofs.YtdcgdnlpagadcaaDoorMem Go.Maps

theorem RefAt.block {w0 w : World} {b : Nat} {kv : Value} {st : DS} {post : List Thing} (h : RefAt w0 w b kv st post) : ∃ fv qv, w.heap[b]? = some (refObj fv qv kv st) := by
  obtain ⟨fv, qv, L, _, h⟩ := h
  exact ⟨fv, qv, Sep.block [] _ h⟩
theorem RefAt.quiet {w0 w w' : World} {b : Nat} {kv : Value} {st : DS} {post : List Thing} (h : RefAt w0 w b kv st post) (ht : Turns [] w w') : RefAt w0 w' b kv st post := by
  obtain ⟨fv, qv, L, hR, h⟩ := h
  exact ⟨fv, qv, L, hR, h.quiet ht⟩
/-- A field of the struct turned. -/
theorem RefAt.set {w0 w : World} {b : Nat} {kv kv' : Value} {st st' : DS} {post : List Thing} (h : RefAt w0 w b kv st post) (i : Nat) (x : Value) (hF : st'.F = st.F) (hQ : st'.Q = st.Q)
    (hc : ∀ u0 u1 : Value, (Obj.cells ((#[u0, u1, .int .i64 st.lost, .bool st.down, .int .i64 st.armed, kv] : Array Value).setIfInBounds i x) 72 (0, 0)) = refObj u0 u1 kv' st') :
    RefAt w0 (w.setCell ⟨b, i, none⟩ x) b kv' st' post := by
  obtain ⟨fv, qv, L, hR, h⟩ := h
  refine ⟨fv, qv, L, by rw [hF]; exact hR, ?_⟩
  unfold refL
  rw [hQ]
  exact Sep.block_turned [] _ h (Turns.setCell _ _ _ (by simp)) ((heap_setCell_at (Sep.block [] _ h) i x).trans (congrArg some (hc fv qv)))

section
variable {w0 w : World} {b : Nat} {kv : Value} {st : DS} {post : List Thing}
set_option maxRecDepth 100000 in
theorem rmay_any (f : Int) (h : RefAt w0 w b kv st post) :
    Calls Tryd.prog 42 #[.pointer (some ⟨b, 0, none⟩), .int .i64 f] w fun e w' => e = .returned (.int .i64 (mayCode st f)) ∧ w = w' := by
  obtain ⟨fv, qv, hb⟩ := h.block
  have c3 : w.cell? ⟨b, 3, none⟩ = some (.bool st.down) := cell_at hb 3
  clear hb h
  cases hd : st.down
  · rw [hd] at c3
    by_cases h0 : f < 0
    · have e : mayCode st f = 1 := by rw [mayCode, hd, if_neg (by simp), if_pos (Or.inl h0)]
      have d0 : decide (f < 0) = true := decide_eq_true h0
      rw [e]; clear e
      go_enter Tryd.func42, Tryd.ntmps42
      go_wp2_with fail
      go_ret
      exact ⟨rfl, rfl⟩
    · have d0 : decide (f < 0) = false := decide_eq_false h0
      by_cases h1 : 15 < f
      · have e : mayCode st f = 1 := by rw [mayCode, hd, if_neg (by simp), if_pos (Or.inr (by omega))]
        have d1 : decide (15 < f) = true := decide_eq_true h1
        rw [e]; clear e
        go_enter Tryd.func42, Tryd.ntmps42
        go_wp2_with fail
        go_ret
        exact ⟨rfl, rfl⟩
      · have e : mayCode st f = 0 := by rw [mayCode, hd, if_neg (by simp), if_neg (by omega)]
        have d1 : decide (15 < f) = false := decide_eq_false h1
        rw [e]; clear e
        go_enter Tryd.func42, Tryd.ntmps42
        go_wp2_with fail
        go_ret
        exact ⟨rfl, rfl⟩
  · rw [hd] at c3
    have e : mayCode st f = 9 := by rw [mayCode, hd, if_pos rfl]
    rw [e]; clear e
    go_enter Tryd.func42, Tryd.ntmps42
    go_wp2_with fail
    go_ret
    exact ⟨rfl, rfl⟩

theorem RefAt.get (f : Int) (h : RefAt w0 w b kv st post) : ∃ x : RF, x.now = (st.F f).now ∧ Calls Tryd.prog 43 #[.pointer (some ⟨b, 0, none⟩), .int .i64 f] w fun e w' => e = .returned x.val ∧ Turns [] w w' := by
  obtain ⟨fv, qv, L, hR, h⟩ := h
  refine ⟨rget L f, by rw [← hR.file f], ?_⟩
  exact rget_any b fv qv kv st L f w (Sep.block [] _ h) (Sep.row (pre := [_]) h) (by have := hR.len; omega)
theorem field_rnow (n : Int) (a b : ByteArray) (w : World) : (Instr.field 79 (.agg #[.int .i64 n, .string a, .string b]) 1).run Tryd.prog w = .ok (.string a) w := by kernel_rfl
set_option maxRecDepth 100000 in
theorem rsize_any (f : Int) (h : RefAt w0 w b kv st post) :
    Calls Tryd.prog 31 #[.pointer (some ⟨b, 0, none⟩), .int .i64 f] w fun e w' => e = .returned (.int .i64 ((st.F f).now.size : Int)) ∧ Turns [] w w' := by
  obtain ⟨x, hx, hc⟩ := h.get f
  rw [← hx]
  have HC := Lib.hid hc; clear hc
  have hfl := field_rnow
  have HXN := Lib.hid hx; clear hx
  go_enter Tryd.func31, Tryd.ntmps31
  go_wp2_with fail
  refine HC.out.mono ?_
  rintro e w1 ⟨rfl, ht⟩
  unfold RF.val
  have HT := Lib.hid ht; clear ht
  go_wp2_with fail
  go_ret
  exact ⟨rfl, HT.out⟩
set_option maxRecDepth 100000 in
theorem rstart_any (h : RefAt w0 w b kv st post) :
    Calls Tryd.prog 24 #[.pointer (some ⟨b, 0, none⟩)] w fun e w' => e = .returned (.tuple #[]) ∧ RefAt w0 w' b kv { st with down := false } post := by
  have H := Lib.hid (h.set (st' := { st with down := false }) (kv' := kv) 3 (.bool false) rfl rfl (fun _ _ => rfl))
  obtain ⟨fv, qv, hb⟩ := h.block
  have c3 : w.cell? ⟨b, 3, none⟩ = some (.bool st.down) := cell_at hb 3
  have f3 : w.frozen? ⟨b, 3, none⟩ = false := free_at hb 3
  clear hb h
  go_enter Tryd.func24, Tryd.ntmps24
  go_wp2
  go_end0
  exact ⟨rfl, H.out⟩
set_option maxRecDepth 100000 in
theorem rlose_any (n : Int) (h : RefAt w0 w b kv st post) :
    Calls Tryd.prog 21 #[.pointer (some ⟨b, 0, none⟩), .int .i64 n] w fun e w' => e = .returned (.tuple #[]) ∧ RefAt w0 w' b kv { st with lost := max n 0 } post := by
  have H := Lib.hid (h.set (st' := { st with lost := max n 0 }) (kv' := kv) 2 (.int .i64 (max n 0)) rfl rfl (fun _ _ => rfl))
  obtain ⟨fv, qv, hb⟩ := h.block
  have c2 : w.cell? ⟨b, 2, none⟩ = some (.int .i64 st.lost) := cell_at hb 2
  have f2 : w.frozen? ⟨b, 2, none⟩ = false := free_at hb 2
  clear hb h
  by_cases h0 : n < 0
  · rw [show max n 0 = 0 by omega] at H ⊢
    go_enter Tryd.func21, Tryd.ntmps21
    go_wp2
    go_end0
    exact ⟨rfl, H.out⟩
  · rw [show max n 0 = n by omega] at H ⊢
    have h1 : 0 ≤ n := by omega
    go_enter Tryd.func21, Tryd.ntmps21
    go_wp2
    go_end0
    exact ⟨rfl, H.out⟩
end
end Go.Proofs.YtdcgdnlpagadcaaDoor

/- Contracts of the reference for disk: Read, fits. -/
namespace Go.Proofs.YtdcgdnlpagadcaaDoor
open Go.RowKit Go.Proofs.YtdcgdnlpagadcaaDoorMem Go.Maps

section
variable {w0 w : World} {b : Nat} {kv : Value} {st : DS} {post : List Thing}
set_option maxHeartbeats 800000 in
set_option maxRecDepth 100000 in
theorem rread_any (f a z : Int) (h : RefAt w0 w b kv st post) (hs : (st.F f).now.size ≤ 16777216) (haw : a ≤ 9223372036854775807) (hzw : z ≤ 9223372036854775807) :
    Calls Tryd.prog 30 #[.pointer (some ⟨b, 0, none⟩), .int .i64 f, .int .i64 a, .int .i64 z] w fun e w' => e = .returned (.tuple #[.string (readStr st f a z), .int .i64 (readCode st f a z)]) ∧ Turns [] w w' := by
  have HM := Lib.hid (rmay_any f h)
  obtain ⟨x, hx, hc⟩ := h.get f
  have HC := Lib.hid hc; clear hc
  have hfl := field_rnow
  by_cases hm : mayCode st f = 0
  · rw [hm] at HM
    by_cases ha : a < 0
    · have e1 : readCode st f a z = 1 := by simp [readCode, hm, ha]
      rw [readStr, e1, if_neg (by decide)]
      have d1 : decide (a < 0) = true := decide_eq_true ha
      clear e1 hx hm
      go_enter Tryd.func30, Tryd.ntmps30
      go_wp2_with fail
      refine HM.out.mono ?_
      rintro e w1 ⟨rfl, rfl⟩
      go_wp2_with fail
      go_ret2
      exact ⟨rfl, Turns.refl _ _⟩
    · have d1 : decide (a < 0) = false := decide_eq_false ha
      by_cases hz : z < 0
      · have e1 : readCode st f a z = 1 := by simp [readCode, hm, hz]
        rw [readStr, e1, if_neg (by decide)]
        have d2 : decide (z < 0) = true := decide_eq_true hz
        clear e1 hx hm
        go_enter Tryd.func30, Tryd.ntmps30
        go_wp2_with fail
        refine HM.out.mono ?_
        rintro e w1 ⟨rfl, rfl⟩
        go_wp2_with fail
        go_ret2
        exact ⟨rfl, Turns.refl _ _⟩
      · have d2 : decide (z < 0) = false := decide_eq_false hz
        have e1 : readCode st f a z = 0 := by rw [readCode, if_pos hm, if_neg (by omega)]
        obtain ⟨a, rfl⟩ := Int.eq_ofNat_of_zero_le (show 0 ≤ a by omega)
        obtain ⟨z, rfl⟩ := Int.eq_ofNat_of_zero_le (show 0 ≤ z by omega)
        rw [readStr, if_pos e1, e1, ← hx, Int.toNat_natCast, Int.toNat_natCast]
        rw [← hx] at hs
        have HE := Lib.hid (And.intro e1 (And.intro hx hm)); clear e1 hx hm d1 d2 ha hz
        by_cases hge : x.now.size ≤ a
        · have hgeI : (x.now.size : Int) ≤ (a : Int) := by omega
          have hemp : x.now.extract a (a + z) = ⟨#[]⟩ := by
            have : (x.now.extract a (a + z)).size = 0 := by rw [extract_size]; omega
            obtain ⟨d, hd⟩ : ∃ d, d = x.now.extract a (a + z) := ⟨_, rfl⟩
            rw [← hd] at this ⊢
            obtain ⟨d⟩ := d
            have : d.size = 0 := this
            rw [Array.size_eq_zero_iff.1 this]
          rw [hemp]; clear hemp
          go_enter Tryd.func30, Tryd.ntmps30
          go_wp2_with fail
          refine HM.out.mono ?_
          rintro e w1 ⟨rfl, rfl⟩
          go_wp2_with fail
          refine HC.out.mono ?_
          rintro e w2 ⟨rfl, ht⟩
          unfold RF.val
          have HT := Lib.hid ht; clear ht
          go_wp2_with fail
          go_ret2
          exact ⟨rfl, HT.out⟩
        · have hgeI : ¬ (x.now.size : Int) ≤ (a : Int) := by omega
          obtain ⟨m, hm⟩ : ∃ m : Nat, m = min z (x.now.size - a) := ⟨_, rfl⟩
          have hite : (if (x.now.size : Int) - (a : Int) < (z : Int) then (x.now.size : Int) - (a : Int) else (z : Int)) = (m : Int) := by rw [hm]; split <;> omega
          have hsl : ∀ w', (Instr.slice 9 (.string x.now) (some (.int .i64 (a : Int))) (some (.int .i64 ((a : Int) + (m : Int)))) none).run Tryd.prog w' = .ok (.string (x.now.extract a (a + z))) w' := fun w' => by
            rw [run_slice_string (P := Tryd.prog) w' 9 x.now .i64 .i64 (a : Int) ((a : Int) + (m : Int)) Tryd.underlying9 (by omega) (by omega) (by omega), Int.toNat_natCast, show ((a : Int) + (m : Int)).toNat = a + m by omega]
            congr 2
            refine bytes_ext (by rw [extract_size, extract_size]; omega) (fun i hi => ?_)
            rw [extract_size] at hi
            rw [extract_at, extract_at, if_pos (by omega), if_pos (by omega)]
          have HMM := Lib.hid hm; clear hm
          go_enter Tryd.func30, Tryd.ntmps30
          go_wp2_with fail
          refine HM.out.mono ?_
          rintro e w1 ⟨rfl, rfl⟩
          go_wp2_with fail
          refine HC.out.mono ?_
          rintro e w2 ⟨rfl, ht⟩
          unfold RF.val
          have HT := Lib.hid ht; clear ht
          go_wp2_with fail
          go_ret2
          exact ⟨rfl, HT.out⟩
  · have e1 : readCode st f a z = mayCode st f := by rw [readCode, if_neg hm]
    rw [readStr, e1, if_neg hm]
    generalize mayCode st f = c at *
    clear e1 hx
    go_enter Tryd.func30, Tryd.ntmps30
    go_wp2_with fail
    refine HM.out.mono ?_
    rintro e w1 ⟨rfl, rfl⟩
    go_wp2_with fail
    go_ret2
    exact ⟨rfl, Turns.refl _ _⟩
end
end Go.Proofs.YtdcgdnlpagadcaaDoor

/- Contracts of the reference for disk: New, Down, fits. -/
namespace Go.Proofs.YtdcgdnlpagadcaaDoor
open Go.RowKit Go.Proofs.YtdcgdnlpagadcaaDoorMem Go.Maps

set_option maxRecDepth 100000 in
theorem rnew_any {w0 w : World} {ts : List Thing} (h : Sep w0 w ts) :
    Calls Tryd.prog 18 #[] w fun e w' => ∃ b, e = .returned (.pointer (some ⟨b, 0, none⟩)) ∧ RefAt w0 w' b (.slice none 0 0) DS.new ts := by
  go_enter Tryd.func18, Tryd.ntmps18
  go_wp2_with fail
  go_ret
  refine ⟨w.heap.size, rfl, .slice none 0 0, .slice none 0 0, [], Rep.new, ?_⟩
  have h1 := Sep.alloc h (refObj (.slice none 0 0) (.slice none 0 0) (.slice none 0 0) DS.new)
  have h2 := Sep.row_start (Sep.row_start h1 77 2) 79 3
  exact Sep.toFront [_, _] _ h2

section
variable {w0 w : World} {b : Nat} {kv : Value} {st : DS} {post : List Thing}
end
/-- Whether the bytes lie within a file's bound. -/
def fitsB (a : Int) (s : ByteArray) : Bool := decide (0 ≤ a) && (decide (a ≤ 16777216) && decide (a + (s.size : Int) ≤ 16777216))
set_option maxRecDepth 100000 in
theorem rfits_any (a : Int) (s : ByteArray) (w : World) (hs : s.size ≤ 100000000) :
    Calls Tryd.prog 47 #[.int .i64 a, .string s] w fun e w' => e = .returned (.bool (fitsB a s)) ∧ w = w' := by
  by_cases h0 : 0 ≤ a
  · have d0 : decide (0 ≤ a) = true := decide_eq_true h0
    by_cases h1 : a ≤ 16777216
    · have d1 : decide (a ≤ 16777216) = true := decide_eq_true h1
      by_cases h2 : a + (s.size : Int) ≤ 16777216
      · have d2 : decide (a + (s.size : Int) ≤ 16777216) = true := decide_eq_true h2
        have HE : Hid (fitsB a s = true) := by show fitsB a s = true; rw [fitsB, d0, d1, d2]; rfl
        go_enter Tryd.func47, Tryd.ntmps47
        go_wp2_with fail
        go_ret
        exact ⟨by rw [HE.out]; rfl, rfl⟩
      · have d2 : decide (a + (s.size : Int) ≤ 16777216) = false := decide_eq_false h2
        have HE : Hid (fitsB a s = false) := by show fitsB a s = false; rw [fitsB, d0, d1, d2]; rfl
        go_enter Tryd.func47, Tryd.ntmps47
        go_wp2_with fail
        go_ret
        exact ⟨by rw [HE.out]; rfl, rfl⟩
    · have d1 : decide (a ≤ 16777216) = false := decide_eq_false h1
      have HE : Hid (fitsB a s = false) := by show fitsB a s = false; rw [fitsB, d0, d1]; rfl
      go_enter Tryd.func47, Tryd.ntmps47
      go_wp2_with fail
      go_ret
      exact ⟨by rw [HE.out]; rfl, rfl⟩
  · have d0 : decide (0 ≤ a) = false := decide_eq_false h0
    have HE : Hid (fitsB a s = false) := by show fitsB a s = false; rw [fitsB, d0]; rfl
    go_enter Tryd.func47, Tryd.ntmps47
    go_wp2_with fail
    go_ret
    exact ⟨by rw [HE.out]; rfl, rfl⟩
end Go.Proofs.YtdcgdnlpagadcaaDoor
