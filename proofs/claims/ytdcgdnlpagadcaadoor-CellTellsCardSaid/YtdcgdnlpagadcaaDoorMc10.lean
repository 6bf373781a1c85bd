/- Contracts and lemmas (texts CelB, joined by a program). -/
import Derived.Test.YtdcgdnlpagadcaaDoorMc9
/- Contract of package cell: Set. -/
namespace Go.Proofs.YtdcgdnlpagadcaaDoor
open Go.RowKit Go.Proofs.YtdcgdnlpagadcaaDoorMem Go.Maps

theorem Sep.mach_more {w0 w : World} {b B C : Nat} {st st' : DS} {K K' : List Int} (pre post : List Thing) (h : Sep w0 w (pre ++ machThing b B st K :: post)) (hm : B ≤ C) (e1 : st' = st) (e2 : K' = K) : Sep w0 w (pre ++ machThing b C st' K' :: post) := by
  subst e1 e2
  obtain ⟨FP, hM, _, step⟩ := h.pick pre _ post
  refine step w FP (machThing b C _ _) (Evolves.of_same (Turns.refl _ _)) ?_
  obtain ⟨kv, FP0, q1, q2, q3, q4⟩ := hM
  exact ⟨kv, FP0, q1.more hm, q2, q3, q4⟩
/-- What is known of a cell in memory. -/
theorem cell_facts {w0 w : World} {cb d : Nat} {f : Int} {c : CS} {post : List Thing} (h : Sep w0 w (blockThing cb (cellObj d f c) :: post)) :
    (w.cell? ⟨cb, 0, none⟩ = some (.pointer (some ⟨d, 0, none⟩)) ∧ w.cell? ⟨cb, 1, none⟩ = some (.int .i64 f) ∧ w.cell? ⟨cb, 2, none⟩ = some (.int .i64 c.slot) ∧ w.cell? ⟨cb, 4, none⟩ = some (.bool c.sure)) ∧
      w.heap[cb]? = some (cellObj d f c) := by
  have hb := Sep.block [] _ h
  exact ⟨⟨cell_at hb 0, cell_at hb 1, cell_at hb 2, cell_at hb 4⟩, hb⟩
theorem cell_turned {w0 w w' : World} {cb d : Nat} {f : Int} {c c' : CS} {post : List Thing} (h : Sep w0 w (blockThing cb (cellObj d f c) :: post)) (ht : Turns [cb] w w') (hb : w'.heap[cb]? = some (cellObj d f c')) :
    Sep w0 w' (blockThing cb (cellObj d f c') :: post) := by
  obtain ⟨FP, hF, hge, step⟩ := h.pick [] _ _
  obtain ⟨_, rfl⟩ := hF
  exact step w' [cb] (blockThing cb (cellObj d f c')) (Evolves.of_same ht) ⟨hb, rfl⟩

/-- Set's steps. -/
def setT4 (st : DS) (K : List Int) (f : Int) (s : ByteArray) (slot : Int) : Int × CS × DS := (syncCode st K f, ⟨slot, s, syncCode st K f == 0⟩, syncS st K f)
def setT3 (st : DS) (K : List Int) (f : Int) (c : CS) (s : ByteArray) (slot : Int) : Int × CS × DS :=
  if writeCode st f 0 (hdrB slot s) ≠ 0 then (writeCode st f 0 (hdrB slot s), c, writeS st K f 0 (hdrB slot s)) else setT4 (writeS st K f 0 (hdrB slot s)) K f s slot
def setT2 (st : DS) (K : List Int) (f : Int) (c : CS) (s : ByteArray) (slot : Int) : Int × CS × DS :=
  if syncCode st K f ≠ 0 then (syncCode st K f, c, syncS st K f) else setT3 (syncS st K f) K f c s slot
def setT (st : DS) (K : List Int) (f : Int) (c : CS) (s : ByteArray) (slot OFF : Int) : Int × CS × DS :=
  if writeCode st f OFF s ≠ 0 then (writeCode st f OFF s, c, writeS st K f OFF s) else setT2 (writeS st K f OFF s) K f c s slot
theorem setW_T (st : DS) (K : List Int) (f : Int) (c : CS) (s : ByteArray) (slot OFF : Int) (h1 : slotOf c.slot = slot) (h2 : ((off slot : Nat) : Int) = OFF) : setW st K f c s = setT st K f c s slot OFF := by
  subst h1 h2; rfl
theorem cell_set3 {w0 w : World} {cb d : Nat} {f : Int} {c : CS} {post : List Thing} (h : Sep w0 w (blockThing cb (cellObj d f c) :: post)) (k : Int) (s : ByteArray) (b : Bool) :
    Sep w0 (((w.setCell ⟨cb, 2, none⟩ (.int .i64 k)).setCell ⟨cb, 3, none⟩ (.string s)).setCell ⟨cb, 4, none⟩ (.bool b)) (blockThing cb (cellObj d f ⟨k, s, b⟩) :: post) := by
  have hb := Sep.block [] _ h
  refine cell_turned h (((Turns.setCell _ _ _ (by simp)).trans (Turns.setCell _ _ _ (by simp))).trans (Turns.setCell _ _ _ (by simp))) ?_
  exact heap_setCell_at (heap_setCell_at (heap_setCell_at hb 2 _) 3 _) 4 _
theorem cell_set1 {w0 w : World} {cb d : Nat} {f : Int} {c : CS} {post : List Thing} (h : Sep w0 w (blockThing cb (cellObj d f c) :: post)) (b : Bool) :
    Sep w0 (w.setCell ⟨cb, 4, none⟩ (.bool b)) (blockThing cb (cellObj d f ⟨c.slot, c.value, b⟩) :: post) := by
  have hb := Sep.block [] _ h
  refine cell_turned h (Turns.setCell _ _ _ (by simp)) ?_
  exact heap_setCell_at hb 4 _
def setT0 (st : DS) (K : List Int) (f : Int) (c : CS) (s : ByteArray) (slot OFF : Int) : Int × CS × DS :=
  if syncCode st K f ≠ 0 then (syncCode st K f, c, syncS st K f) else setT (syncS st K f) K f ⟨c.slot, c.value, true⟩ s slot OFF

set_option maxHeartbeats 6400000 in
set_option maxRecDepth 100000 in
theorem set_b1 {w0 w : World} {cb d B : Nat} {f : Int} {c : CS} {st : DS} {K : List Int} (mid post : List Thing) (s : ByteArray)
    (h : Sep w0 w (blockThing cb (cellObj d f c) :: (mid ++ machThing d B st K :: post))) (hO : Offs w0) (hf : (Lit.int .i64 f).wf = true) (hB : B ≤ 600000) (hK : K.length ≤ 1000000) (hs : s.size ≤ 65536) (hsure : c.sure = true) (hslot : c.slot = 1) :
    Calls Tryd.prog 12 #[.pointer (some ⟨cb, 0, none⟩), .string s] w fun e w' => e = .returned (.int .i64 (setR st K f c s).1) ∧
      Sep w0 w' (blockThing cb (cellObj d f (setR st K f c s).2.1) :: (mid ++ machThing d (B + 24 + s.size) (setR st K f c s).2.2 K :: post)) := by
  have HR : Hid (setR st K f c s = setT st K f c s 2 131072) := by
    unfold setR
    rw [if_neg (by omega), if_neg (by rw [hsure]; intro hh; first | exact absurd hh.1 (by decide) | (have := hh.2; omega))]
    exact setW_T _ _ _ _ _ _ _ (by simp [slotOf, hslot]) rfl
  have HS := Lib.hid h; clear h
  obtain ⟨⟨c0, c1, c2, c4⟩, -⟩ := cell_facts HS.out
  rw [hsure] at c4
  rw [hslot] at c2
  have HX := Lib.hid (And.intro hO (And.intro hf (And.intro hB hK))); clear hO hf hB hK
  have hlong : ¬ (65536 : Int) < (s.size : Int) := by omega
  go_enter Tryd.func12, Tryd.ntmps12
  go_wp2_with fail
  clear c0 c1 c2 c4
  have HSd := Lib.hid (HS.out.quiet (Turns.refl [] w).drew)
  obtain ⟨⟨q0, q1, -, -⟩, -⟩ := cell_facts HSd.out
  have ho := (HX.out.1.kept (HSd.out.turns)).2.2
  go_still_tail 12, (by kernel_rfl)
  change wpList _ _ _ _ _ w.drew
  generalize w.drew = Wad at *
  clear HS
  go_wp2_with fail
  refine (dwrite_sep (_ :: mid) post f 131072 s HSd.out HX.out.2.1 (by have := HX.out.2.2.1; omega) HX.out.2.2.2).mono ?_
  rintro e Wa ⟨rfl, h2⟩
  have HWa := Lib.hid h2; clear h2
  clear q0 q1 ho HSd
  obtain ⟨x, hx⟩ : ∃ x, x = writeCode st f 131072 s := ⟨_, rfl⟩
  rw [← hx]
  have HCWa := Lib.hid hx; clear hx
  by_cases he : x = 0
  rotate_left
  · go_wp2_with fail
    go_ret
    have hR := HR.out
    rw [setT, if_pos (by rw [← HCWa.out]; exact he)] at hR
    rw [hR]
    exact ⟨by show Ending.returned (.int .i64 x) = _; rw [HCWa.out], Sep.mach_more (_ :: mid) post HWa.out (by first | omega | (rw [hdrB_size]; omega)) rfl rfl⟩
  subst he
  have HRWa : Hid (setR st K f c s = setT2 (writeS st K f 131072 s) K f c s 2) := by
    have hR := HR.out
    rw [setT, if_neg (by rw [← HCWa.out]; simp)] at hR
    exact hR
  clear HR HCWa
  go_wp2_with fail
  have HWad := Lib.hid (HWa.out.quiet (Turns.refl [] Wa).drew)
  obtain ⟨⟨q0, q1, -, -⟩, -⟩ := cell_facts HWad.out
  go_still_tail 8, (by kernel_rfl)
  change wpList _ _ _ _ _ Wa.drew
  generalize Wa.drew = Wbd at *
  clear HWa
  go_wp2_with fail
  refine (dsync_sep (_ :: mid) post f HWad.out HX.out.2.1 (by have := HX.out.2.2.1; omega) HX.out.2.2.2).mono ?_
  rintro e Wb ⟨rfl, h2⟩
  have HWb := Lib.hid h2; clear h2
  clear q0 q1 HWad
  obtain ⟨x, hx⟩ : ∃ x, x = syncCode (writeS st K f 131072 s) K f := ⟨_, rfl⟩
  rw [← hx]
  have HCWb := Lib.hid hx; clear hx
  by_cases he : x = 0
  rotate_left
  · go_wp2_with fail
    go_ret
    have hR := HRWa.out
    rw [setT2, if_pos (by rw [← HCWb.out]; exact he)] at hR
    rw [hR]
    exact ⟨by show Ending.returned (.int .i64 x) = _; rw [HCWb.out], Sep.mach_more (_ :: mid) post HWb.out (by first | omega | (rw [hdrB_size]; omega)) rfl rfl⟩
  subst he
  have HRWb : Hid (setR st K f c s = setT3 (syncS (writeS st K f 131072 s) K f) K f c s 2) := by
    have hR := HRWa.out
    rw [setT2, if_neg (by rw [← HCWb.out]; simp)] at hR
    exact hR
  clear HRWa HCWb
  go_wp2_with fail
  obtain ⟨⟨q0, q1, -, -⟩, -⟩ := cell_facts (HWb.out.quiet (Turns.refl [] Wb).drew)
  have HWbd := Lib.hid (HWb.out.quiet (Turns.refl [] Wb).drew)
  refine wp_region_N (fun _ => True) (fun w' => w'.cell? ⟨cb, 0, none⟩ = some (.pointer (some ⟨d, 0, none⟩)) ∧ w'.cell? ⟨cb, 1, none⟩ = some (.int .i64 f)) (fun _ => false) (by kernel_rfl) ?_
  generalize Wb.drew = Wd at *
  clear HWb
  have hs2 := And.intro q0 q1
  refine wpAnyN_take2 (some 74) (i := 0) (v := ?_) rfl rfl (by kernel_rfl) (by kernel_rfl) (by kernel_rfl) (by kernel_rfl) rfl (fun _ _ _ h => h) (Or.inl ⟨by rfl, ?_⟩) hs2 ?_
  rotate_left
  · intro w' hSw; obtain ⟨p0, p1⟩ := hSw; go_simp; try (with_reducible rfl)
  simp only [Act.put, List.setIfInBounds_toArray, List.set_cons_zero, List.set_cons_succ]
  refine wpAnyN_take2 (some 75) (i := 1) (v := ?_) rfl rfl (by kernel_rfl) (by kernel_rfl) (by kernel_rfl) (by kernel_rfl) rfl (fun _ _ _ h => h) (Or.inl ⟨by rfl, ?_⟩) hs2 ?_
  rotate_left
  · intro w' hSw; obtain ⟨p0, p1⟩ := hSw; go_simp; try (with_reducible rfl)
  simp only [Act.put, List.setIfInBounds_toArray, List.set_cons_zero, List.set_cons_succ]
  refine wpAnyN_take2 (some 76) (i := 2) (v := ?_) rfl rfl (by kernel_rfl) (by kernel_rfl) (by kernel_rfl) (by kernel_rfl) rfl (fun _ _ _ h => h) (Or.inl ⟨by rfl, ?_⟩) hs2 ?_
  rotate_left
  · intro w' hSw; obtain ⟨p0, p1⟩ := hSw; go_simp; try (with_reducible rfl)
  simp only [Act.put, List.setIfInBounds_toArray, List.set_cons_zero, List.set_cons_succ]
  refine wpAnyN_take2 (some 77) (i := 3) (v := ?_) rfl rfl (by kernel_rfl) (by kernel_rfl) (by kernel_rfl) (by kernel_rfl) rfl (fun _ _ _ h => h) (Or.inl ⟨by rfl, ?_⟩) hs2 ?_
  rotate_left
  · intro w' hSw; obtain ⟨p0, p1⟩ := hSw; go_simp; try (with_reducible rfl)
  simp only [Act.put, List.setIfInBounds_toArray, List.set_cons_zero, List.set_cons_succ]
  refine wpAnyN_take2 (some 78) (i := 4) (v := ?_) rfl rfl (by kernel_rfl) (by kernel_rfl) (by kernel_rfl) (by kernel_rfl) rfl (fun _ _ _ h => h) (Or.inl ⟨by rfl, ?_⟩) hs2 ?_
  rotate_left
  · intro w' hSw; obtain ⟨p0, p1⟩ := hSw; go_simp; try (with_reducible rfl)
  simp only [Act.put, List.setIfInBounds_toArray, List.set_cons_zero, List.set_cons_succ]
  refine wpAnyN_take2 (some 79) (i := 5) (v := ?_) rfl rfl (by kernel_rfl) (by kernel_rfl) (by kernel_rfl) (by kernel_rfl) rfl (fun _ _ _ h => h) (Or.inl ⟨by rfl, ?_⟩) hs2 ?_
  rotate_left
  · intro w' hSw; obtain ⟨p0, p1⟩ := hSw; go_simp; try (with_reducible rfl)
  simp only [Act.put, List.setIfInBounds_toArray, List.set_cons_zero, List.set_cons_succ]
  refine wpAnyN_take2 (some 80) (i := 6) (v := ?_) rfl rfl (by kernel_rfl) (by kernel_rfl) (by kernel_rfl) (by kernel_rfl) rfl (fun _ _ _ h => h) (Or.inl ⟨by rfl, ?_⟩) hs2 ?_
  rotate_left
  · intro w' hSw; obtain ⟨p0, p1⟩ := hSw; go_simp; try (with_reducible rfl)
  simp only [Act.put, List.setIfInBounds_toArray, List.set_cons_zero, List.set_cons_succ]
  refine wpAnyN_take2 (some 81) (i := 7) (v := ?_) rfl rfl (by kernel_rfl) (by kernel_rfl) (by kernel_rfl) (by kernel_rfl) rfl (fun _ _ _ h => h) (Or.inl ⟨by rfl, ?_⟩) hs2 ?_
  rotate_left
  · intro w' hSw; obtain ⟨p0, p1⟩ := hSw; go_simp; try (with_reducible rfl)
  simp only [Act.put, List.setIfInBounds_toArray, List.set_cons_zero, List.set_cons_succ]
  refine wpAnyN_take2 (some 82) (i := 8) (v := ?_) rfl rfl (by kernel_rfl) (by kernel_rfl) (by kernel_rfl) (by kernel_rfl) rfl (fun _ _ _ h => h) (Or.inl ⟨by rfl, ?_⟩) hs2 ?_
  rotate_left
  · intro w' hSw; obtain ⟨p0, p1⟩ := hSw; go_simp; try (with_reducible rfl)
  simp only [Act.put, List.setIfInBounds_toArray, List.set_cons_zero, List.set_cons_succ]
  refine wpAnyN_take2 (some 83) (i := 9) (v := ?_) rfl rfl (by kernel_rfl) (by kernel_rfl) (by kernel_rfl) (by kernel_rfl) rfl (fun _ _ _ h => h) (Or.inl ⟨by rfl, ?_⟩) hs2 ?_
  rotate_left
  · intro w' hSw; obtain ⟨p0, p1⟩ := hSw; go_simp; try (with_reducible rfl)
  simp only [Act.put, List.setIfInBounds_toArray, List.set_cons_zero, List.set_cons_succ]
  refine wpAnyN_one (i := 10) (by kernel_rfl) rfl fun K1 hK1 => ?_
  go_simp
  refine (header_any 2 s _ (by decide) hs).mono ?_
  rintro e We ⟨rfl, hte⟩
  go_simp
  have HWe := Lib.hid (HWbd.out.quiet hte)
  obtain ⟨⟨q0, q1, -, -⟩, -⟩ := cell_facts HWe.out
  clear hte hs2 HWbd
  refine hK1.out _ _ ⟨q0, q1⟩ (fun h => absurd h (by decide)) ?_
  clear hK1 K1
  try (simp only [Act.put, List.setIfInBounds_toArray, List.set_cons_zero, List.set_cons_succ])
  refine wpAnyN_one (i := 11) (by kernel_rfl) rfl fun K1 hK1 => ?_
  go_simp
  refine (dwrite_sep (_ :: mid) post f 0 (hdrB 2 s) HWe.out HX.out.2.1 (by have := HX.out.2.2.1; rw [hdrB_size]; omega) HX.out.2.2.2).mono ?_
  rintro e Wc ⟨rfl, h2⟩
  go_simp
  have HWc := Lib.hid h2; clear h2
  clear q0 q1 HWe
  obtain ⟨⟨q0, q1, -, -⟩, -⟩ := cell_facts HWc.out
  refine hK1.out _ _ ⟨q0, q1⟩ (fun h => absurd h (by decide)) ?_
  clear hK1 K1
  try (simp only [Act.put, List.setIfInBounds_toArray, List.set_cons_zero, List.set_cons_succ])
  obtain ⟨x, hx⟩ : ∃ x, x = writeCode (syncS (writeS st K f 131072 s) K f) f 0 (hdrB 2 s) := ⟨_, rfl⟩
  rw [← hx]
  have HCWc := Lib.hid hx; clear hx
  refine wpAnyN_one (i := 12) (by kernel_rfl) rfl fun K1 hK1 => ?_
  go_simp
  refine hK1.out _ _ ⟨q0, q1⟩ (fun h => absurd h (by decide)) ?_
  clear hK1 K1
  try (simp only [Act.put, List.setIfInBounds_toArray, List.set_cons_zero, List.set_cons_succ])
  refine wpAnyN_done (by kernel_rfl) ?_ _
  clear q0 q1
  by_cases he : x = 0
  rotate_left
  · go_wp2_with fail
    go_ret
    have hR := HRWb.out
    rw [setT3, if_pos (by rw [← HCWc.out]; exact he)] at hR
    rw [hR]
    exact ⟨by show Ending.returned (.int .i64 x) = _; rw [HCWc.out], Sep.mach_more (_ :: mid) post HWc.out (by first | omega | (rw [hdrB_size]; omega)) rfl rfl⟩
  subst he
  have HRWc : Hid (setR st K f c s = setT4 (writeS (syncS (writeS st K f 131072 s) K f) K f 0 (hdrB 2 s)) K f s 2) := by
    have hR := HRWb.out
    rw [setT3, if_neg (by rw [← HCWc.out]; simp)] at hR
    exact hR
  clear HRWb HCWc
  have hb := (cell_facts HWc.out).2
  have z2 : Wc.frozen? ⟨cb, 2, none⟩ = false := free_at hb 2
  have z3 : Wc.frozen? ⟨cb, 3, none⟩ = false := free_at hb 3
  have z4 : Wc.frozen? ⟨cb, 4, none⟩ = false := free_at hb 4
  have y2 : Wc.cell? ⟨cb, 2, none⟩ = _ := cell_at hb 2
  have y3 : Wc.cell? ⟨cb, 3, none⟩ = _ := cell_at hb 3
  have y4 : Wc.cell? ⟨cb, 4, none⟩ = _ := cell_at hb 4
  clear hb
  go_wp2_with fail
  clear z2 z3 z4 y2 y3 y4
  have HWf := Lib.hid (cell_set3 HWc.out 2 s false)
  generalize ((Wc.setCell ⟨cb, 2, none⟩ (.int .i64 2)).setCell ⟨cb, 3, none⟩ (.string s)).setCell ⟨cb, 4, none⟩ (.bool false) = Wf at *
  clear HWc
  have HWfd := Lib.hid (HWf.out.quiet (Turns.refl [] Wf).drew)
  obtain ⟨⟨q0, q1, -, -⟩, -⟩ := cell_facts HWfd.out
  go_still_tail 8, (by kernel_rfl)
  change wpList _ _ _ _ _ Wf.drew
  generalize Wf.drew = Wgd at *
  clear HWf
  go_wp2_with fail
  refine (dsync_sep (_ :: mid) post f HWfd.out HX.out.2.1 (by have := HX.out.2.2.1; have := hdrB_size 2 s; omega) HX.out.2.2.2).mono ?_
  rintro e Wg ⟨rfl, h2⟩
  have HWg := Lib.hid h2; clear h2
  clear q0 q1 HWfd
  obtain ⟨x, hx⟩ : ∃ x, x = syncCode (writeS (syncS (writeS st K f 131072 s) K f) K f 0 (hdrB 2 s)) K f := ⟨_, rfl⟩
  rw [← hx]
  have HCWg := Lib.hid hx; clear hx
  have hb := (cell_facts HWg.out).2
  have z4 : Wg.frozen? ⟨cb, 4, none⟩ = false := free_at hb 4
  have y4 : Wg.cell? ⟨cb, 4, none⟩ = _ := cell_at hb 4
  clear hb
  go_wp2_with fail
  go_ret
  have hR := HRWc.out
  rw [setT4, ← HCWg.out] at hR
  rw [hR]
  exact ⟨rfl, Sep.mach_more (_ :: mid) post (cell_set1 HWg.out (x == 0)) (by have := hdrB_size 2 s; omega) rfl rfl⟩

set_option maxHeartbeats 6400000 in
set_option maxRecDepth 100000 in
theorem set_b2 {w0 w : World} {cb d B : Nat} {f : Int} {c : CS} {st : DS} {K : List Int} (mid post : List Thing) (s : ByteArray)
    (h : Sep w0 w (blockThing cb (cellObj d f c) :: (mid ++ machThing d B st K :: post))) (hO : Offs w0) (hf : (Lit.int .i64 f).wf = true) (hB : B ≤ 600000) (hK : K.length ≤ 1000000) (hs : s.size ≤ 65536) (hsure : c.sure = true) (hslot : ¬ c.slot = 1) :
    Calls Tryd.prog 12 #[.pointer (some ⟨cb, 0, none⟩), .string s] w fun e w' => e = .returned (.int .i64 (setR st K f c s).1) ∧
      Sep w0 w' (blockThing cb (cellObj d f (setR st K f c s).2.1) :: (mid ++ machThing d (B + 24 + s.size) (setR st K f c s).2.2 K :: post)) := by
  have HR : Hid (setR st K f c s = setT st K f c s 1 64) := by
    unfold setR
    rw [if_neg (by omega), if_neg (by rw [hsure]; intro hh; first | exact absurd hh.1 (by decide) | (have := hh.2; omega))]
    exact setW_T _ _ _ _ _ _ _ (by simp [slotOf, hslot]) rfl
  have HS := Lib.hid h; clear h
  obtain ⟨⟨c0, c1, c2, c4⟩, -⟩ := cell_facts HS.out
  rw [hsure] at c4
  have HX := Lib.hid (And.intro hO (And.intro hf (And.intro hB hK))); clear hO hf hB hK
  have hlong : ¬ (65536 : Int) < (s.size : Int) := by omega
  go_enter Tryd.func12, Tryd.ntmps12
  go_wp2_with fail
  clear c0 c1 c2 c4
  have HSd := Lib.hid (HS.out.quiet (Turns.refl [] w).drew)
  obtain ⟨⟨q0, q1, -, -⟩, -⟩ := cell_facts HSd.out
  have ho := (HX.out.1.kept (HSd.out.turns)).2.1
  go_still_tail 12, (by kernel_rfl)
  change wpList _ _ _ _ _ w.drew
  generalize w.drew = Wad at *
  clear HS
  go_wp2_with fail
  refine (dwrite_sep (_ :: mid) post f 64 s HSd.out HX.out.2.1 (by have := HX.out.2.2.1; omega) HX.out.2.2.2).mono ?_
  rintro e Wa ⟨rfl, h2⟩
  have HWa := Lib.hid h2; clear h2
  clear q0 q1 ho HSd
  obtain ⟨x, hx⟩ : ∃ x, x = writeCode st f 64 s := ⟨_, rfl⟩
  rw [← hx]
  have HCWa := Lib.hid hx; clear hx
  by_cases he : x = 0
  rotate_left
  · go_wp2_with fail
    go_ret
    have hR := HR.out
    rw [setT, if_pos (by rw [← HCWa.out]; exact he)] at hR
    rw [hR]
    exact ⟨by show Ending.returned (.int .i64 x) = _; rw [HCWa.out], Sep.mach_more (_ :: mid) post HWa.out (by first | omega | (rw [hdrB_size]; omega)) rfl rfl⟩
  subst he
  have HRWa : Hid (setR st K f c s = setT2 (writeS st K f 64 s) K f c s 1) := by
    have hR := HR.out
    rw [setT, if_neg (by rw [← HCWa.out]; simp)] at hR
    exact hR
  clear HR HCWa
  go_wp2_with fail
  have HWad := Lib.hid (HWa.out.quiet (Turns.refl [] Wa).drew)
  obtain ⟨⟨q0, q1, -, -⟩, -⟩ := cell_facts HWad.out
  go_still_tail 8, (by kernel_rfl)
  change wpList _ _ _ _ _ Wa.drew
  generalize Wa.drew = Wbd at *
  clear HWa
  go_wp2_with fail
  refine (dsync_sep (_ :: mid) post f HWad.out HX.out.2.1 (by have := HX.out.2.2.1; omega) HX.out.2.2.2).mono ?_
  rintro e Wb ⟨rfl, h2⟩
  have HWb := Lib.hid h2; clear h2
  clear q0 q1 HWad
  obtain ⟨x, hx⟩ : ∃ x, x = syncCode (writeS st K f 64 s) K f := ⟨_, rfl⟩
  rw [← hx]
  have HCWb := Lib.hid hx; clear hx
  by_cases he : x = 0
  rotate_left
  · go_wp2_with fail
    go_ret
    have hR := HRWa.out
    rw [setT2, if_pos (by rw [← HCWb.out]; exact he)] at hR
    rw [hR]
    exact ⟨by show Ending.returned (.int .i64 x) = _; rw [HCWb.out], Sep.mach_more (_ :: mid) post HWb.out (by first | omega | (rw [hdrB_size]; omega)) rfl rfl⟩
  subst he
  have HRWb : Hid (setR st K f c s = setT3 (syncS (writeS st K f 64 s) K f) K f c s 1) := by
    have hR := HRWa.out
    rw [setT2, if_neg (by rw [← HCWb.out]; simp)] at hR
    exact hR
  clear HRWa HCWb
  go_wp2_with fail
  obtain ⟨⟨q0, q1, -, -⟩, -⟩ := cell_facts (HWb.out.quiet (Turns.refl [] Wb).drew)
  have HWbd := Lib.hid (HWb.out.quiet (Turns.refl [] Wb).drew)
  refine wp_region_N (fun _ => True) (fun w' => w'.cell? ⟨cb, 0, none⟩ = some (.pointer (some ⟨d, 0, none⟩)) ∧ w'.cell? ⟨cb, 1, none⟩ = some (.int .i64 f)) (fun _ => false) (by kernel_rfl) ?_
  generalize Wb.drew = Wd at *
  clear HWb
  have hs2 := And.intro q0 q1
  refine wpAnyN_take2 (some 74) (i := 0) (v := ?_) rfl rfl (by kernel_rfl) (by kernel_rfl) (by kernel_rfl) (by kernel_rfl) rfl (fun _ _ _ h => h) (Or.inl ⟨by rfl, ?_⟩) hs2 ?_
  rotate_left
  · intro w' hSw; obtain ⟨p0, p1⟩ := hSw; go_simp; try (with_reducible rfl)
  simp only [Act.put, List.setIfInBounds_toArray, List.set_cons_zero, List.set_cons_succ]
  refine wpAnyN_take2 (some 75) (i := 1) (v := ?_) rfl rfl (by kernel_rfl) (by kernel_rfl) (by kernel_rfl) (by kernel_rfl) rfl (fun _ _ _ h => h) (Or.inl ⟨by rfl, ?_⟩) hs2 ?_
  rotate_left
  · intro w' hSw; obtain ⟨p0, p1⟩ := hSw; go_simp; try (with_reducible rfl)
  simp only [Act.put, List.setIfInBounds_toArray, List.set_cons_zero, List.set_cons_succ]
  refine wpAnyN_take2 (some 76) (i := 2) (v := ?_) rfl rfl (by kernel_rfl) (by kernel_rfl) (by kernel_rfl) (by kernel_rfl) rfl (fun _ _ _ h => h) (Or.inl ⟨by rfl, ?_⟩) hs2 ?_
  rotate_left
  · intro w' hSw; obtain ⟨p0, p1⟩ := hSw; go_simp; try (with_reducible rfl)
  simp only [Act.put, List.setIfInBounds_toArray, List.set_cons_zero, List.set_cons_succ]
  refine wpAnyN_take2 (some 77) (i := 3) (v := ?_) rfl rfl (by kernel_rfl) (by kernel_rfl) (by kernel_rfl) (by kernel_rfl) rfl (fun _ _ _ h => h) (Or.inl ⟨by rfl, ?_⟩) hs2 ?_
  rotate_left
  · intro w' hSw; obtain ⟨p0, p1⟩ := hSw; go_simp; try (with_reducible rfl)
  simp only [Act.put, List.setIfInBounds_toArray, List.set_cons_zero, List.set_cons_succ]
  refine wpAnyN_take2 (some 78) (i := 4) (v := ?_) rfl rfl (by kernel_rfl) (by kernel_rfl) (by kernel_rfl) (by kernel_rfl) rfl (fun _ _ _ h => h) (Or.inl ⟨by rfl, ?_⟩) hs2 ?_
  rotate_left
  · intro w' hSw; obtain ⟨p0, p1⟩ := hSw; go_simp; try (with_reducible rfl)
  simp only [Act.put, List.setIfInBounds_toArray, List.set_cons_zero, List.set_cons_succ]
  refine wpAnyN_take2 (some 79) (i := 5) (v := ?_) rfl rfl (by kernel_rfl) (by kernel_rfl) (by kernel_rfl) (by kernel_rfl) rfl (fun _ _ _ h => h) (Or.inl ⟨by rfl, ?_⟩) hs2 ?_
  rotate_left
  · intro w' hSw; obtain ⟨p0, p1⟩ := hSw; go_simp; try (with_reducible rfl)
  simp only [Act.put, List.setIfInBounds_toArray, List.set_cons_zero, List.set_cons_succ]
  refine wpAnyN_take2 (some 80) (i := 6) (v := ?_) rfl rfl (by kernel_rfl) (by kernel_rfl) (by kernel_rfl) (by kernel_rfl) rfl (fun _ _ _ h => h) (Or.inl ⟨by rfl, ?_⟩) hs2 ?_
  rotate_left
  · intro w' hSw; obtain ⟨p0, p1⟩ := hSw; go_simp; try (with_reducible rfl)
  simp only [Act.put, List.setIfInBounds_toArray, List.set_cons_zero, List.set_cons_succ]
  refine wpAnyN_take2 (some 81) (i := 7) (v := ?_) rfl rfl (by kernel_rfl) (by kernel_rfl) (by kernel_rfl) (by kernel_rfl) rfl (fun _ _ _ h => h) (Or.inl ⟨by rfl, ?_⟩) hs2 ?_
  rotate_left
  · intro w' hSw; obtain ⟨p0, p1⟩ := hSw; go_simp; try (with_reducible rfl)
  simp only [Act.put, List.setIfInBounds_toArray, List.set_cons_zero, List.set_cons_succ]
  refine wpAnyN_take2 (some 82) (i := 8) (v := ?_) rfl rfl (by kernel_rfl) (by kernel_rfl) (by kernel_rfl) (by kernel_rfl) rfl (fun _ _ _ h => h) (Or.inl ⟨by rfl, ?_⟩) hs2 ?_
  rotate_left
  · intro w' hSw; obtain ⟨p0, p1⟩ := hSw; go_simp; try (with_reducible rfl)
  simp only [Act.put, List.setIfInBounds_toArray, List.set_cons_zero, List.set_cons_succ]
  refine wpAnyN_take2 (some 83) (i := 9) (v := ?_) rfl rfl (by kernel_rfl) (by kernel_rfl) (by kernel_rfl) (by kernel_rfl) rfl (fun _ _ _ h => h) (Or.inl ⟨by rfl, ?_⟩) hs2 ?_
  rotate_left
  · intro w' hSw; obtain ⟨p0, p1⟩ := hSw; go_simp; try (with_reducible rfl)
  simp only [Act.put, List.setIfInBounds_toArray, List.set_cons_zero, List.set_cons_succ]
  refine wpAnyN_one (i := 10) (by kernel_rfl) rfl fun K1 hK1 => ?_
  go_simp
  refine (header_any 1 s _ (by decide) hs).mono ?_
  rintro e We ⟨rfl, hte⟩
  go_simp
  have HWe := Lib.hid (HWbd.out.quiet hte)
  obtain ⟨⟨q0, q1, -, -⟩, -⟩ := cell_facts HWe.out
  clear hte hs2 HWbd
  refine hK1.out _ _ ⟨q0, q1⟩ (fun h => absurd h (by decide)) ?_
  clear hK1 K1
  try (simp only [Act.put, List.setIfInBounds_toArray, List.set_cons_zero, List.set_cons_succ])
  refine wpAnyN_one (i := 11) (by kernel_rfl) rfl fun K1 hK1 => ?_
  go_simp
  refine (dwrite_sep (_ :: mid) post f 0 (hdrB 1 s) HWe.out HX.out.2.1 (by have := HX.out.2.2.1; rw [hdrB_size]; omega) HX.out.2.2.2).mono ?_
  rintro e Wc ⟨rfl, h2⟩
  go_simp
  have HWc := Lib.hid h2; clear h2
  clear q0 q1 HWe
  obtain ⟨⟨q0, q1, -, -⟩, -⟩ := cell_facts HWc.out
  refine hK1.out _ _ ⟨q0, q1⟩ (fun h => absurd h (by decide)) ?_
  clear hK1 K1
  try (simp only [Act.put, List.setIfInBounds_toArray, List.set_cons_zero, List.set_cons_succ])
  obtain ⟨x, hx⟩ : ∃ x, x = writeCode (syncS (writeS st K f 64 s) K f) f 0 (hdrB 1 s) := ⟨_, rfl⟩
  rw [← hx]
  have HCWc := Lib.hid hx; clear hx
  refine wpAnyN_one (i := 12) (by kernel_rfl) rfl fun K1 hK1 => ?_
  go_simp
  refine hK1.out _ _ ⟨q0, q1⟩ (fun h => absurd h (by decide)) ?_
  clear hK1 K1
  try (simp only [Act.put, List.setIfInBounds_toArray, List.set_cons_zero, List.set_cons_succ])
  refine wpAnyN_done (by kernel_rfl) ?_ _
  clear q0 q1
  by_cases he : x = 0
  rotate_left
  · go_wp2_with fail
    go_ret
    have hR := HRWb.out
    rw [setT3, if_pos (by rw [← HCWc.out]; exact he)] at hR
    rw [hR]
    exact ⟨by show Ending.returned (.int .i64 x) = _; rw [HCWc.out], Sep.mach_more (_ :: mid) post HWc.out (by first | omega | (rw [hdrB_size]; omega)) rfl rfl⟩
  subst he
  have HRWc : Hid (setR st K f c s = setT4 (writeS (syncS (writeS st K f 64 s) K f) K f 0 (hdrB 1 s)) K f s 1) := by
    have hR := HRWb.out
    rw [setT3, if_neg (by rw [← HCWc.out]; simp)] at hR
    exact hR
  clear HRWb HCWc
  have hb := (cell_facts HWc.out).2
  have z2 : Wc.frozen? ⟨cb, 2, none⟩ = false := free_at hb 2
  have z3 : Wc.frozen? ⟨cb, 3, none⟩ = false := free_at hb 3
  have z4 : Wc.frozen? ⟨cb, 4, none⟩ = false := free_at hb 4
  have y2 : Wc.cell? ⟨cb, 2, none⟩ = _ := cell_at hb 2
  have y3 : Wc.cell? ⟨cb, 3, none⟩ = _ := cell_at hb 3
  have y4 : Wc.cell? ⟨cb, 4, none⟩ = _ := cell_at hb 4
  clear hb
  go_wp2_with fail
  clear z2 z3 z4 y2 y3 y4
  have HWf := Lib.hid (cell_set3 HWc.out 1 s false)
  generalize ((Wc.setCell ⟨cb, 2, none⟩ (.int .i64 1)).setCell ⟨cb, 3, none⟩ (.string s)).setCell ⟨cb, 4, none⟩ (.bool false) = Wf at *
  clear HWc
  have HWfd := Lib.hid (HWf.out.quiet (Turns.refl [] Wf).drew)
  obtain ⟨⟨q0, q1, -, -⟩, -⟩ := cell_facts HWfd.out
  go_still_tail 8, (by kernel_rfl)
  change wpList _ _ _ _ _ Wf.drew
  generalize Wf.drew = Wgd at *
  clear HWf
  go_wp2_with fail
  refine (dsync_sep (_ :: mid) post f HWfd.out HX.out.2.1 (by have := HX.out.2.2.1; have := hdrB_size 1 s; omega) HX.out.2.2.2).mono ?_
  rintro e Wg ⟨rfl, h2⟩
  have HWg := Lib.hid h2; clear h2
  clear q0 q1 HWfd
  obtain ⟨x, hx⟩ : ∃ x, x = syncCode (writeS (syncS (writeS st K f 64 s) K f) K f 0 (hdrB 1 s)) K f := ⟨_, rfl⟩
  rw [← hx]
  have HCWg := Lib.hid hx; clear hx
  have hb := (cell_facts HWg.out).2
  have z4 : Wg.frozen? ⟨cb, 4, none⟩ = false := free_at hb 4
  have y4 : Wg.cell? ⟨cb, 4, none⟩ = _ := cell_at hb 4
  clear hb
  go_wp2_with fail
  go_ret
  have hR := HRWc.out
  rw [setT4, ← HCWg.out] at hR
  rw [hR]
  exact ⟨rfl, Sep.mach_more (_ :: mid) post (cell_set1 HWg.out (x == 0)) (by have := hdrB_size 1 s; omega) rfl rfl⟩

set_option maxHeartbeats 6400000 in
set_option maxRecDepth 100000 in
theorem set_b3 {w0 w : World} {cb d B : Nat} {f : Int} {c : CS} {st : DS} {K : List Int} (mid post : List Thing) (s : ByteArray)
    (h : Sep w0 w (blockThing cb (cellObj d f c) :: (mid ++ machThing d B st K :: post))) (hO : Offs w0) (hf : (Lit.int .i64 f).wf = true) (hB : B ≤ 600000) (hK : K.length ≤ 1000000) (hs : s.size ≤ 65536) (hsure : c.sure = false) (hz : ¬ 0 < c.slot) (hslot : ¬ c.slot = 1) :
    Calls Tryd.prog 12 #[.pointer (some ⟨cb, 0, none⟩), .string s] w fun e w' => e = .returned (.int .i64 (setR st K f c s).1) ∧
      Sep w0 w' (blockThing cb (cellObj d f (setR st K f c s).2.1) :: (mid ++ machThing d (B + 24 + s.size) (setR st K f c s).2.2 K :: post)) := by
  have HR : Hid (setR st K f c s = setT st K f c s 1 64) := by
    unfold setR
    rw [if_neg (by omega), if_neg (by rw [hsure]; intro hh; first | exact absurd hh.1 (by decide) | (have := hh.2; omega))]
    exact setW_T _ _ _ _ _ _ _ (by simp [slotOf, hslot]) rfl
  have HS := Lib.hid h; clear h
  obtain ⟨⟨c0, c1, c2, c4⟩, -⟩ := cell_facts HS.out
  rw [hsure] at c4
  have HX := Lib.hid (And.intro hO (And.intro hf (And.intro hB hK))); clear hO hf hB hK
  have hlong : ¬ (65536 : Int) < (s.size : Int) := by omega
  go_enter Tryd.func12, Tryd.ntmps12
  go_wp2_with fail
  clear c0 c1 c2 c4
  have HSd := Lib.hid (HS.out.quiet (Turns.refl [] w).drew)
  obtain ⟨⟨q0, q1, -, -⟩, -⟩ := cell_facts HSd.out
  have ho := (HX.out.1.kept (HSd.out.turns)).2.1
  go_still_tail 12, (by kernel_rfl)
  change wpList _ _ _ _ _ w.drew
  generalize w.drew = Wad at *
  clear HS
  go_wp2_with fail
  refine (dwrite_sep (_ :: mid) post f 64 s HSd.out HX.out.2.1 (by have := HX.out.2.2.1; omega) HX.out.2.2.2).mono ?_
  rintro e Wa ⟨rfl, h2⟩
  have HWa := Lib.hid h2; clear h2
  clear q0 q1 ho HSd
  obtain ⟨x, hx⟩ : ∃ x, x = writeCode st f 64 s := ⟨_, rfl⟩
  rw [← hx]
  have HCWa := Lib.hid hx; clear hx
  by_cases he : x = 0
  rotate_left
  · go_wp2_with fail
    go_ret
    have hR := HR.out
    rw [setT, if_pos (by rw [← HCWa.out]; exact he)] at hR
    rw [hR]
    exact ⟨by show Ending.returned (.int .i64 x) = _; rw [HCWa.out], Sep.mach_more (_ :: mid) post HWa.out (by first | omega | (rw [hdrB_size]; omega)) rfl rfl⟩
  subst he
  have HRWa : Hid (setR st K f c s = setT2 (writeS st K f 64 s) K f c s 1) := by
    have hR := HR.out
    rw [setT, if_neg (by rw [← HCWa.out]; simp)] at hR
    exact hR
  clear HR HCWa
  go_wp2_with fail
  have HWad := Lib.hid (HWa.out.quiet (Turns.refl [] Wa).drew)
  obtain ⟨⟨q0, q1, -, -⟩, -⟩ := cell_facts HWad.out
  go_still_tail 8, (by kernel_rfl)
  change wpList _ _ _ _ _ Wa.drew
  generalize Wa.drew = Wbd at *
  clear HWa
  go_wp2_with fail
  refine (dsync_sep (_ :: mid) post f HWad.out HX.out.2.1 (by have := HX.out.2.2.1; omega) HX.out.2.2.2).mono ?_
  rintro e Wb ⟨rfl, h2⟩
  have HWb := Lib.hid h2; clear h2
  clear q0 q1 HWad
  obtain ⟨x, hx⟩ : ∃ x, x = syncCode (writeS st K f 64 s) K f := ⟨_, rfl⟩
  rw [← hx]
  have HCWb := Lib.hid hx; clear hx
  by_cases he : x = 0
  rotate_left
  · go_wp2_with fail
    go_ret
    have hR := HRWa.out
    rw [setT2, if_pos (by rw [← HCWb.out]; exact he)] at hR
    rw [hR]
    exact ⟨by show Ending.returned (.int .i64 x) = _; rw [HCWb.out], Sep.mach_more (_ :: mid) post HWb.out (by first | omega | (rw [hdrB_size]; omega)) rfl rfl⟩
  subst he
  have HRWb : Hid (setR st K f c s = setT3 (syncS (writeS st K f 64 s) K f) K f c s 1) := by
    have hR := HRWa.out
    rw [setT2, if_neg (by rw [← HCWb.out]; simp)] at hR
    exact hR
  clear HRWa HCWb
  go_wp2_with fail
  obtain ⟨⟨q0, q1, -, -⟩, -⟩ := cell_facts (HWb.out.quiet (Turns.refl [] Wb).drew)
  have HWbd := Lib.hid (HWb.out.quiet (Turns.refl [] Wb).drew)
  refine wp_region_N (fun _ => True) (fun w' => w'.cell? ⟨cb, 0, none⟩ = some (.pointer (some ⟨d, 0, none⟩)) ∧ w'.cell? ⟨cb, 1, none⟩ = some (.int .i64 f)) (fun _ => false) (by kernel_rfl) ?_
  generalize Wb.drew = Wd at *
  clear HWb
  have hs2 := And.intro q0 q1
  refine wpAnyN_take2 (some 74) (i := 0) (v := ?_) rfl rfl (by kernel_rfl) (by kernel_rfl) (by kernel_rfl) (by kernel_rfl) rfl (fun _ _ _ h => h) (Or.inl ⟨by rfl, ?_⟩) hs2 ?_
  rotate_left
  · intro w' hSw; obtain ⟨p0, p1⟩ := hSw; go_simp; try (with_reducible rfl)
  simp only [Act.put, List.setIfInBounds_toArray, List.set_cons_zero, List.set_cons_succ]
  refine wpAnyN_take2 (some 75) (i := 1) (v := ?_) rfl rfl (by kernel_rfl) (by kernel_rfl) (by kernel_rfl) (by kernel_rfl) rfl (fun _ _ _ h => h) (Or.inl ⟨by rfl, ?_⟩) hs2 ?_
  rotate_left
  · intro w' hSw; obtain ⟨p0, p1⟩ := hSw; go_simp; try (with_reducible rfl)
  simp only [Act.put, List.setIfInBounds_toArray, List.set_cons_zero, List.set_cons_succ]
  refine wpAnyN_take2 (some 76) (i := 2) (v := ?_) rfl rfl (by kernel_rfl) (by kernel_rfl) (by kernel_rfl) (by kernel_rfl) rfl (fun _ _ _ h => h) (Or.inl ⟨by rfl, ?_⟩) hs2 ?_
  rotate_left
  · intro w' hSw; obtain ⟨p0, p1⟩ := hSw; go_simp; try (with_reducible rfl)
  simp only [Act.put, List.setIfInBounds_toArray, List.set_cons_zero, List.set_cons_succ]
  refine wpAnyN_take2 (some 77) (i := 3) (v := ?_) rfl rfl (by kernel_rfl) (by kernel_rfl) (by kernel_rfl) (by kernel_rfl) rfl (fun _ _ _ h => h) (Or.inl ⟨by rfl, ?_⟩) hs2 ?_
  rotate_left
  · intro w' hSw; obtain ⟨p0, p1⟩ := hSw; go_simp; try (with_reducible rfl)
  simp only [Act.put, List.setIfInBounds_toArray, List.set_cons_zero, List.set_cons_succ]
  refine wpAnyN_take2 (some 78) (i := 4) (v := ?_) rfl rfl (by kernel_rfl) (by kernel_rfl) (by kernel_rfl) (by kernel_rfl) rfl (fun _ _ _ h => h) (Or.inl ⟨by rfl, ?_⟩) hs2 ?_
  rotate_left
  · intro w' hSw; obtain ⟨p0, p1⟩ := hSw; go_simp; try (with_reducible rfl)
  simp only [Act.put, List.setIfInBounds_toArray, List.set_cons_zero, List.set_cons_succ]
  refine wpAnyN_take2 (some 79) (i := 5) (v := ?_) rfl rfl (by kernel_rfl) (by kernel_rfl) (by kernel_rfl) (by kernel_rfl) rfl (fun _ _ _ h => h) (Or.inl ⟨by rfl, ?_⟩) hs2 ?_
  rotate_left
  · intro w' hSw; obtain ⟨p0, p1⟩ := hSw; go_simp; try (with_reducible rfl)
  simp only [Act.put, List.setIfInBounds_toArray, List.set_cons_zero, List.set_cons_succ]
  refine wpAnyN_take2 (some 80) (i := 6) (v := ?_) rfl rfl (by kernel_rfl) (by kernel_rfl) (by kernel_rfl) (by kernel_rfl) rfl (fun _ _ _ h => h) (Or.inl ⟨by rfl, ?_⟩) hs2 ?_
  rotate_left
  · intro w' hSw; obtain ⟨p0, p1⟩ := hSw; go_simp; try (with_reducible rfl)
  simp only [Act.put, List.setIfInBounds_toArray, List.set_cons_zero, List.set_cons_succ]
  refine wpAnyN_take2 (some 81) (i := 7) (v := ?_) rfl rfl (by kernel_rfl) (by kernel_rfl) (by kernel_rfl) (by kernel_rfl) rfl (fun _ _ _ h => h) (Or.inl ⟨by rfl, ?_⟩) hs2 ?_
  rotate_left
  · intro w' hSw; obtain ⟨p0, p1⟩ := hSw; go_simp; try (with_reducible rfl)
  simp only [Act.put, List.setIfInBounds_toArray, List.set_cons_zero, List.set_cons_succ]
  refine wpAnyN_take2 (some 82) (i := 8) (v := ?_) rfl rfl (by kernel_rfl) (by kernel_rfl) (by kernel_rfl) (by kernel_rfl) rfl (fun _ _ _ h => h) (Or.inl ⟨by rfl, ?_⟩) hs2 ?_
  rotate_left
  · intro w' hSw; obtain ⟨p0, p1⟩ := hSw; go_simp; try (with_reducible rfl)
  simp only [Act.put, List.setIfInBounds_toArray, List.set_cons_zero, List.set_cons_succ]
  refine wpAnyN_take2 (some 83) (i := 9) (v := ?_) rfl rfl (by kernel_rfl) (by kernel_rfl) (by kernel_rfl) (by kernel_rfl) rfl (fun _ _ _ h => h) (Or.inl ⟨by rfl, ?_⟩) hs2 ?_
  rotate_left
  · intro w' hSw; obtain ⟨p0, p1⟩ := hSw; go_simp; try (with_reducible rfl)
  simp only [Act.put, List.setIfInBounds_toArray, List.set_cons_zero, List.set_cons_succ]
  refine wpAnyN_one (i := 10) (by kernel_rfl) rfl fun K1 hK1 => ?_
  go_simp
  refine (header_any 1 s _ (by decide) hs).mono ?_
  rintro e We ⟨rfl, hte⟩
  go_simp
  have HWe := Lib.hid (HWbd.out.quiet hte)
  obtain ⟨⟨q0, q1, -, -⟩, -⟩ := cell_facts HWe.out
  clear hte hs2 HWbd
  refine hK1.out _ _ ⟨q0, q1⟩ (fun h => absurd h (by decide)) ?_
  clear hK1 K1
  try (simp only [Act.put, List.setIfInBounds_toArray, List.set_cons_zero, List.set_cons_succ])
  refine wpAnyN_one (i := 11) (by kernel_rfl) rfl fun K1 hK1 => ?_
  go_simp
  refine (dwrite_sep (_ :: mid) post f 0 (hdrB 1 s) HWe.out HX.out.2.1 (by have := HX.out.2.2.1; rw [hdrB_size]; omega) HX.out.2.2.2).mono ?_
  rintro e Wc ⟨rfl, h2⟩
  go_simp
  have HWc := Lib.hid h2; clear h2
  clear q0 q1 HWe
  obtain ⟨⟨q0, q1, -, -⟩, -⟩ := cell_facts HWc.out
  refine hK1.out _ _ ⟨q0, q1⟩ (fun h => absurd h (by decide)) ?_
  clear hK1 K1
  try (simp only [Act.put, List.setIfInBounds_toArray, List.set_cons_zero, List.set_cons_succ])
  obtain ⟨x, hx⟩ : ∃ x, x = writeCode (syncS (writeS st K f 64 s) K f) f 0 (hdrB 1 s) := ⟨_, rfl⟩
  rw [← hx]
  have HCWc := Lib.hid hx; clear hx
  refine wpAnyN_one (i := 12) (by kernel_rfl) rfl fun K1 hK1 => ?_
  go_simp
  refine hK1.out _ _ ⟨q0, q1⟩ (fun h => absurd h (by decide)) ?_
  clear hK1 K1
  try (simp only [Act.put, List.setIfInBounds_toArray, List.set_cons_zero, List.set_cons_succ])
  refine wpAnyN_done (by kernel_rfl) ?_ _
  clear q0 q1
  by_cases he : x = 0
  rotate_left
  · go_wp2_with fail
    go_ret
    have hR := HRWb.out
    rw [setT3, if_pos (by rw [← HCWc.out]; exact he)] at hR
    rw [hR]
    exact ⟨by show Ending.returned (.int .i64 x) = _; rw [HCWc.out], Sep.mach_more (_ :: mid) post HWc.out (by first | omega | (rw [hdrB_size]; omega)) rfl rfl⟩
  subst he
  have HRWc : Hid (setR st K f c s = setT4 (writeS (syncS (writeS st K f 64 s) K f) K f 0 (hdrB 1 s)) K f s 1) := by
    have hR := HRWb.out
    rw [setT3, if_neg (by rw [← HCWc.out]; simp)] at hR
    exact hR
  clear HRWb HCWc
  have hb := (cell_facts HWc.out).2
  have z2 : Wc.frozen? ⟨cb, 2, none⟩ = false := free_at hb 2
  have z3 : Wc.frozen? ⟨cb, 3, none⟩ = false := free_at hb 3
  have z4 : Wc.frozen? ⟨cb, 4, none⟩ = false := free_at hb 4
  have y2 : Wc.cell? ⟨cb, 2, none⟩ = _ := cell_at hb 2
  have y3 : Wc.cell? ⟨cb, 3, none⟩ = _ := cell_at hb 3
  have y4 : Wc.cell? ⟨cb, 4, none⟩ = _ := cell_at hb 4
  clear hb
  go_wp2_with fail
  clear z2 z3 z4 y2 y3 y4
  have HWf := Lib.hid (cell_set3 HWc.out 1 s false)
  generalize ((Wc.setCell ⟨cb, 2, none⟩ (.int .i64 1)).setCell ⟨cb, 3, none⟩ (.string s)).setCell ⟨cb, 4, none⟩ (.bool false) = Wf at *
  clear HWc
  have HWfd := Lib.hid (HWf.out.quiet (Turns.refl [] Wf).drew)
  obtain ⟨⟨q0, q1, -, -⟩, -⟩ := cell_facts HWfd.out
  go_still_tail 8, (by kernel_rfl)
  change wpList _ _ _ _ _ Wf.drew
  generalize Wf.drew = Wgd at *
  clear HWf
  go_wp2_with fail
  refine (dsync_sep (_ :: mid) post f HWfd.out HX.out.2.1 (by have := HX.out.2.2.1; have := hdrB_size 1 s; omega) HX.out.2.2.2).mono ?_
  rintro e Wg ⟨rfl, h2⟩
  have HWg := Lib.hid h2; clear h2
  clear q0 q1 HWfd
  obtain ⟨x, hx⟩ : ∃ x, x = syncCode (writeS (syncS (writeS st K f 64 s) K f) K f 0 (hdrB 1 s)) K f := ⟨_, rfl⟩
  rw [← hx]
  have HCWg := Lib.hid hx; clear hx
  have hb := (cell_facts HWg.out).2
  have z4 : Wg.frozen? ⟨cb, 4, none⟩ = false := free_at hb 4
  have y4 : Wg.cell? ⟨cb, 4, none⟩ = _ := cell_at hb 4
  clear hb
  go_wp2_with fail
  go_ret
  have hR := HRWc.out
  rw [setT4, ← HCWg.out] at hR
  rw [hR]
  exact ⟨rfl, Sep.mach_more (_ :: mid) post (cell_set1 HWg.out (x == 0)) (by have := hdrB_size 1 s; omega) rfl rfl⟩

set_option maxHeartbeats 6400000 in
set_option maxRecDepth 100000 in
theorem set_a1 {w0 w : World} {cb d B : Nat} {f : Int} {c : CS} {st : DS} {K : List Int} (mid post : List Thing) (s : ByteArray)
    (h : Sep w0 w (blockThing cb (cellObj d f c) :: (mid ++ machThing d B st K :: post))) (hO : Offs w0) (hf : (Lit.int .i64 f).wf = true) (hB : B ≤ 600000) (hK : K.length ≤ 1000000) (hs : s.size ≤ 65536) (hsure : c.sure = false) (hslot : c.slot = 1) :
    Calls Tryd.prog 12 #[.pointer (some ⟨cb, 0, none⟩), .string s] w fun e w' => e = .returned (.int .i64 (setR st K f c s).1) ∧
      Sep w0 w' (blockThing cb (cellObj d f (setR st K f c s).2.1) :: (mid ++ machThing d (B + 24 + s.size) (setR st K f c s).2.2 K :: post)) := by
  have HR : Hid (setR st K f c s = setT0 st K f c s 2 131072) := by
    unfold setR
    rw [if_neg (by omega), if_pos ⟨hsure, by omega⟩]
    rw [setW_T _ _ _ ⟨c.slot, c.value, true⟩ _ 2 131072 (by simp [slotOf, hslot]) rfl]; rfl
  have HS := Lib.hid h; clear h
  obtain ⟨⟨c0, c1, c2, c4⟩, -⟩ := cell_facts HS.out
  rw [hsure] at c4
  rw [hslot] at c2
  have HX := Lib.hid (And.intro hO (And.intro hf (And.intro hB hK))); clear hO hf hB hK
  have hlong : ¬ (65536 : Int) < (s.size : Int) := by omega
  go_enter Tryd.func12, Tryd.ntmps12
  go_wp2_with fail
  clear c0 c1 c2 c4
  have HSd := Lib.hid (HS.out.quiet (Turns.refl [] w).drew)
  obtain ⟨⟨q0, q1, -, -⟩, -⟩ := cell_facts HSd.out
  go_still_tail 8, (by kernel_rfl)
  change wpList _ _ _ _ _ w.drew
  generalize w.drew = Wzd at *
  clear HS
  go_wp2_with fail
  refine (dsync_sep (_ :: mid) post f HSd.out HX.out.2.1 (by have := HX.out.2.2.1; omega) HX.out.2.2.2).mono ?_
  rintro e Wz ⟨rfl, h2⟩
  have HWz := Lib.hid h2; clear h2
  clear q0 q1 HSd
  obtain ⟨x, hx⟩ : ∃ x, x = syncCode st K f := ⟨_, rfl⟩
  rw [← hx]
  have HCWz := Lib.hid hx; clear hx
  by_cases he : x = 0
  rotate_left
  · go_wp2_with fail
    go_ret
    have hR := HR.out
    rw [setT0, if_pos (by rw [← HCWz.out]; exact he)] at hR
    rw [hR]
    exact ⟨by show Ending.returned (.int .i64 x) = _; rw [HCWz.out], Sep.mach_more (_ :: mid) post HWz.out (by first | omega | (rw [hdrB_size]; omega)) rfl rfl⟩
  subst he
  have HRWz : Hid (setR st K f c s = setT (syncS st K f) K f ⟨c.slot, c.value, true⟩ s 2 131072) := by
    have hR := HR.out
    rw [setT0, if_neg (by rw [← HCWz.out]; simp)] at hR
    exact hR
  clear HR HCWz
  have hb := (cell_facts HWz.out).2
  have z4 : Wz.frozen? ⟨cb, 4, none⟩ = false := free_at hb 4
  have y4 : Wz.cell? ⟨cb, 4, none⟩ = _ := cell_at hb 4
  have y2 := (cell_facts HWz.out).1.2.2.1
  rw [hslot] at y2
  clear hb
  go_wp2_with fail
  clear z4 y4 y2
  have HWy := Lib.hid (cell_set1 HWz.out true)
  generalize Wz.setCell ⟨cb, 4, none⟩ (.bool true) = Wy at *
  clear HWz
  have HWyd := Lib.hid (HWy.out.quiet (Turns.refl [] Wy).drew)
  obtain ⟨⟨q0, q1, -, -⟩, -⟩ := cell_facts HWyd.out
  have ho := (HX.out.1.kept (HWyd.out.turns)).2.2
  go_still_tail 12, (by kernel_rfl)
  change wpList _ _ _ _ _ Wy.drew
  generalize Wy.drew = Wad at *
  clear HWy
  go_wp2_with fail
  refine (dwrite_sep (_ :: mid) post f 131072 s HWyd.out HX.out.2.1 (by have := HX.out.2.2.1; omega) HX.out.2.2.2).mono ?_
  rintro e Wa ⟨rfl, h2⟩
  have HWa := Lib.hid h2; clear h2
  clear q0 q1 ho HWyd
  obtain ⟨x, hx⟩ : ∃ x, x = writeCode (syncS st K f) f 131072 s := ⟨_, rfl⟩
  rw [← hx]
  have HCWa := Lib.hid hx; clear hx
  by_cases he : x = 0
  rotate_left
  · go_wp2_with fail
    go_ret
    have hR := HRWz.out
    rw [setT, if_pos (by rw [← HCWa.out]; exact he)] at hR
    rw [hR]
    exact ⟨by show Ending.returned (.int .i64 x) = _; rw [HCWa.out], Sep.mach_more (_ :: mid) post HWa.out (by first | omega | (rw [hdrB_size]; omega)) rfl rfl⟩
  subst he
  have HRWa : Hid (setR st K f c s = setT2 (writeS (syncS st K f) K f 131072 s) K f ⟨c.slot, c.value, true⟩ s 2) := by
    have hR := HRWz.out
    rw [setT, if_neg (by rw [← HCWa.out]; simp)] at hR
    exact hR
  clear HRWz HCWa
  go_wp2_with fail
  have HWad := Lib.hid (HWa.out.quiet (Turns.refl [] Wa).drew)
  obtain ⟨⟨q0, q1, -, -⟩, -⟩ := cell_facts HWad.out
  go_still_tail 8, (by kernel_rfl)
  change wpList _ _ _ _ _ Wa.drew
  generalize Wa.drew = Wbd at *
  clear HWa
  go_wp2_with fail
  refine (dsync_sep (_ :: mid) post f HWad.out HX.out.2.1 (by have := HX.out.2.2.1; omega) HX.out.2.2.2).mono ?_
  rintro e Wb ⟨rfl, h2⟩
  have HWb := Lib.hid h2; clear h2
  clear q0 q1 HWad
  obtain ⟨x, hx⟩ : ∃ x, x = syncCode (writeS (syncS st K f) K f 131072 s) K f := ⟨_, rfl⟩
  rw [← hx]
  have HCWb := Lib.hid hx; clear hx
  by_cases he : x = 0
  rotate_left
  · go_wp2_with fail
    go_ret
    have hR := HRWa.out
    rw [setT2, if_pos (by rw [← HCWb.out]; exact he)] at hR
    rw [hR]
    exact ⟨by show Ending.returned (.int .i64 x) = _; rw [HCWb.out], Sep.mach_more (_ :: mid) post HWb.out (by first | omega | (rw [hdrB_size]; omega)) rfl rfl⟩
  subst he
  have HRWb : Hid (setR st K f c s = setT3 (syncS (writeS (syncS st K f) K f 131072 s) K f) K f ⟨c.slot, c.value, true⟩ s 2) := by
    have hR := HRWa.out
    rw [setT2, if_neg (by rw [← HCWb.out]; simp)] at hR
    exact hR
  clear HRWa HCWb
  go_wp2_with fail
  obtain ⟨⟨q0, q1, -, -⟩, -⟩ := cell_facts (HWb.out.quiet (Turns.refl [] Wb).drew)
  have HWbd := Lib.hid (HWb.out.quiet (Turns.refl [] Wb).drew)
  refine wp_region_N (fun _ => True) (fun w' => w'.cell? ⟨cb, 0, none⟩ = some (.pointer (some ⟨d, 0, none⟩)) ∧ w'.cell? ⟨cb, 1, none⟩ = some (.int .i64 f)) (fun _ => false) (by kernel_rfl) ?_
  generalize Wb.drew = Wd at *
  clear HWb
  have hs2 := And.intro q0 q1
  refine wpAnyN_take2 (some 74) (i := 0) (v := ?_) rfl rfl (by kernel_rfl) (by kernel_rfl) (by kernel_rfl) (by kernel_rfl) rfl (fun _ _ _ h => h) (Or.inl ⟨by rfl, ?_⟩) hs2 ?_
  rotate_left
  · intro w' hSw; obtain ⟨p0, p1⟩ := hSw; go_simp; try (with_reducible rfl)
  simp only [Act.put, List.setIfInBounds_toArray, List.set_cons_zero, List.set_cons_succ]
  refine wpAnyN_take2 (some 75) (i := 1) (v := ?_) rfl rfl (by kernel_rfl) (by kernel_rfl) (by kernel_rfl) (by kernel_rfl) rfl (fun _ _ _ h => h) (Or.inl ⟨by rfl, ?_⟩) hs2 ?_
  rotate_left
  · intro w' hSw; obtain ⟨p0, p1⟩ := hSw; go_simp; try (with_reducible rfl)
  simp only [Act.put, List.setIfInBounds_toArray, List.set_cons_zero, List.set_cons_succ]
  refine wpAnyN_take2 (some 76) (i := 2) (v := ?_) rfl rfl (by kernel_rfl) (by kernel_rfl) (by kernel_rfl) (by kernel_rfl) rfl (fun _ _ _ h => h) (Or.inl ⟨by rfl, ?_⟩) hs2 ?_
  rotate_left
  · intro w' hSw; obtain ⟨p0, p1⟩ := hSw; go_simp; try (with_reducible rfl)
  simp only [Act.put, List.setIfInBounds_toArray, List.set_cons_zero, List.set_cons_succ]
  refine wpAnyN_take2 (some 77) (i := 3) (v := ?_) rfl rfl (by kernel_rfl) (by kernel_rfl) (by kernel_rfl) (by kernel_rfl) rfl (fun _ _ _ h => h) (Or.inl ⟨by rfl, ?_⟩) hs2 ?_
  rotate_left
  · intro w' hSw; obtain ⟨p0, p1⟩ := hSw; go_simp; try (with_reducible rfl)
  simp only [Act.put, List.setIfInBounds_toArray, List.set_cons_zero, List.set_cons_succ]
  refine wpAnyN_take2 (some 78) (i := 4) (v := ?_) rfl rfl (by kernel_rfl) (by kernel_rfl) (by kernel_rfl) (by kernel_rfl) rfl (fun _ _ _ h => h) (Or.inl ⟨by rfl, ?_⟩) hs2 ?_
  rotate_left
  · intro w' hSw; obtain ⟨p0, p1⟩ := hSw; go_simp; try (with_reducible rfl)
  simp only [Act.put, List.setIfInBounds_toArray, List.set_cons_zero, List.set_cons_succ]
  refine wpAnyN_take2 (some 79) (i := 5) (v := ?_) rfl rfl (by kernel_rfl) (by kernel_rfl) (by kernel_rfl) (by kernel_rfl) rfl (fun _ _ _ h => h) (Or.inl ⟨by rfl, ?_⟩) hs2 ?_
  rotate_left
  · intro w' hSw; obtain ⟨p0, p1⟩ := hSw; go_simp; try (with_reducible rfl)
  simp only [Act.put, List.setIfInBounds_toArray, List.set_cons_zero, List.set_cons_succ]
  refine wpAnyN_take2 (some 80) (i := 6) (v := ?_) rfl rfl (by kernel_rfl) (by kernel_rfl) (by kernel_rfl) (by kernel_rfl) rfl (fun _ _ _ h => h) (Or.inl ⟨by rfl, ?_⟩) hs2 ?_
  rotate_left
  · intro w' hSw; obtain ⟨p0, p1⟩ := hSw; go_simp; try (with_reducible rfl)
  simp only [Act.put, List.setIfInBounds_toArray, List.set_cons_zero, List.set_cons_succ]
  refine wpAnyN_take2 (some 81) (i := 7) (v := ?_) rfl rfl (by kernel_rfl) (by kernel_rfl) (by kernel_rfl) (by kernel_rfl) rfl (fun _ _ _ h => h) (Or.inl ⟨by rfl, ?_⟩) hs2 ?_
  rotate_left
  · intro w' hSw; obtain ⟨p0, p1⟩ := hSw; go_simp; try (with_reducible rfl)
  simp only [Act.put, List.setIfInBounds_toArray, List.set_cons_zero, List.set_cons_succ]
  refine wpAnyN_take2 (some 82) (i := 8) (v := ?_) rfl rfl (by kernel_rfl) (by kernel_rfl) (by kernel_rfl) (by kernel_rfl) rfl (fun _ _ _ h => h) (Or.inl ⟨by rfl, ?_⟩) hs2 ?_
  rotate_left
  · intro w' hSw; obtain ⟨p0, p1⟩ := hSw; go_simp; try (with_reducible rfl)
  simp only [Act.put, List.setIfInBounds_toArray, List.set_cons_zero, List.set_cons_succ]
  refine wpAnyN_take2 (some 83) (i := 9) (v := ?_) rfl rfl (by kernel_rfl) (by kernel_rfl) (by kernel_rfl) (by kernel_rfl) rfl (fun _ _ _ h => h) (Or.inl ⟨by rfl, ?_⟩) hs2 ?_
  rotate_left
  · intro w' hSw; obtain ⟨p0, p1⟩ := hSw; go_simp; try (with_reducible rfl)
  simp only [Act.put, List.setIfInBounds_toArray, List.set_cons_zero, List.set_cons_succ]
  refine wpAnyN_one (i := 10) (by kernel_rfl) rfl fun K1 hK1 => ?_
  go_simp
  refine (header_any 2 s _ (by decide) hs).mono ?_
  rintro e We ⟨rfl, hte⟩
  go_simp
  have HWe := Lib.hid (HWbd.out.quiet hte)
  obtain ⟨⟨q0, q1, -, -⟩, -⟩ := cell_facts HWe.out
  clear hte hs2 HWbd
  refine hK1.out _ _ ⟨q0, q1⟩ (fun h => absurd h (by decide)) ?_
  clear hK1 K1
  try (simp only [Act.put, List.setIfInBounds_toArray, List.set_cons_zero, List.set_cons_succ])
  refine wpAnyN_one (i := 11) (by kernel_rfl) rfl fun K1 hK1 => ?_
  go_simp
  refine (dwrite_sep (_ :: mid) post f 0 (hdrB 2 s) HWe.out HX.out.2.1 (by have := HX.out.2.2.1; rw [hdrB_size]; omega) HX.out.2.2.2).mono ?_
  rintro e Wc ⟨rfl, h2⟩
  go_simp
  have HWc := Lib.hid h2; clear h2
  clear q0 q1 HWe
  obtain ⟨⟨q0, q1, -, -⟩, -⟩ := cell_facts HWc.out
  refine hK1.out _ _ ⟨q0, q1⟩ (fun h => absurd h (by decide)) ?_
  clear hK1 K1
  try (simp only [Act.put, List.setIfInBounds_toArray, List.set_cons_zero, List.set_cons_succ])
  obtain ⟨x, hx⟩ : ∃ x, x = writeCode (syncS (writeS (syncS st K f) K f 131072 s) K f) f 0 (hdrB 2 s) := ⟨_, rfl⟩
  rw [← hx]
  have HCWc := Lib.hid hx; clear hx
  refine wpAnyN_one (i := 12) (by kernel_rfl) rfl fun K1 hK1 => ?_
  go_simp
  refine hK1.out _ _ ⟨q0, q1⟩ (fun h => absurd h (by decide)) ?_
  clear hK1 K1
  try (simp only [Act.put, List.setIfInBounds_toArray, List.set_cons_zero, List.set_cons_succ])
  refine wpAnyN_done (by kernel_rfl) ?_ _
  clear q0 q1
  by_cases he : x = 0
  rotate_left
  · go_wp2_with fail
    go_ret
    have hR := HRWb.out
    rw [setT3, if_pos (by rw [← HCWc.out]; exact he)] at hR
    rw [hR]
    exact ⟨by show Ending.returned (.int .i64 x) = _; rw [HCWc.out], Sep.mach_more (_ :: mid) post HWc.out (by first | omega | (rw [hdrB_size]; omega)) rfl rfl⟩
  subst he
  have HRWc : Hid (setR st K f c s = setT4 (writeS (syncS (writeS (syncS st K f) K f 131072 s) K f) K f 0 (hdrB 2 s)) K f s 2) := by
    have hR := HRWb.out
    rw [setT3, if_neg (by rw [← HCWc.out]; simp)] at hR
    exact hR
  clear HRWb HCWc
  have hb := (cell_facts HWc.out).2
  have z2 : Wc.frozen? ⟨cb, 2, none⟩ = false := free_at hb 2
  have z3 : Wc.frozen? ⟨cb, 3, none⟩ = false := free_at hb 3
  have z4 : Wc.frozen? ⟨cb, 4, none⟩ = false := free_at hb 4
  have y2 : Wc.cell? ⟨cb, 2, none⟩ = _ := cell_at hb 2
  have y3 : Wc.cell? ⟨cb, 3, none⟩ = _ := cell_at hb 3
  have y4 : Wc.cell? ⟨cb, 4, none⟩ = _ := cell_at hb 4
  clear hb
  go_wp2_with fail
  clear z2 z3 z4 y2 y3 y4
  have HWf := Lib.hid (cell_set3 HWc.out 2 s false)
  generalize ((Wc.setCell ⟨cb, 2, none⟩ (.int .i64 2)).setCell ⟨cb, 3, none⟩ (.string s)).setCell ⟨cb, 4, none⟩ (.bool false) = Wf at *
  clear HWc
  have HWfd := Lib.hid (HWf.out.quiet (Turns.refl [] Wf).drew)
  obtain ⟨⟨q0, q1, -, -⟩, -⟩ := cell_facts HWfd.out
  go_still_tail 8, (by kernel_rfl)
  change wpList _ _ _ _ _ Wf.drew
  generalize Wf.drew = Wgd at *
  clear HWf
  go_wp2_with fail
  refine (dsync_sep (_ :: mid) post f HWfd.out HX.out.2.1 (by have := HX.out.2.2.1; have := hdrB_size 2 s; omega) HX.out.2.2.2).mono ?_
  rintro e Wg ⟨rfl, h2⟩
  have HWg := Lib.hid h2; clear h2
  clear q0 q1 HWfd
  obtain ⟨x, hx⟩ : ∃ x, x = syncCode (writeS (syncS (writeS (syncS st K f) K f 131072 s) K f) K f 0 (hdrB 2 s)) K f := ⟨_, rfl⟩
  rw [← hx]
  have HCWg := Lib.hid hx; clear hx
  have hb := (cell_facts HWg.out).2
  have z4 : Wg.frozen? ⟨cb, 4, none⟩ = false := free_at hb 4
  have y4 : Wg.cell? ⟨cb, 4, none⟩ = _ := cell_at hb 4
  clear hb
  go_wp2_with fail
  go_ret
  have hR := HRWc.out
  rw [setT4, ← HCWg.out] at hR
  rw [hR]
  exact ⟨rfl, Sep.mach_more (_ :: mid) post (cell_set1 HWg.out (x == 0)) (by have := hdrB_size 2 s; omega) rfl rfl⟩

set_option maxHeartbeats 6400000 in
set_option maxRecDepth 100000 in
theorem set_a2 {w0 w : World} {cb d B : Nat} {f : Int} {c : CS} {st : DS} {K : List Int} (mid post : List Thing) (s : ByteArray)
    (h : Sep w0 w (blockThing cb (cellObj d f c) :: (mid ++ machThing d B st K :: post))) (hO : Offs w0) (hf : (Lit.int .i64 f).wf = true) (hB : B ≤ 600000) (hK : K.length ≤ 1000000) (hs : s.size ≤ 65536) (hsure : c.sure = false) (hz : 0 < c.slot) (hslot : ¬ c.slot = 1) :
    Calls Tryd.prog 12 #[.pointer (some ⟨cb, 0, none⟩), .string s] w fun e w' => e = .returned (.int .i64 (setR st K f c s).1) ∧
      Sep w0 w' (blockThing cb (cellObj d f (setR st K f c s).2.1) :: (mid ++ machThing d (B + 24 + s.size) (setR st K f c s).2.2 K :: post)) := by
  have HR : Hid (setR st K f c s = setT0 st K f c s 1 64) := by
    unfold setR
    rw [if_neg (by omega), if_pos ⟨hsure, by omega⟩]
    rw [setW_T _ _ _ ⟨c.slot, c.value, true⟩ _ 1 64 (by simp [slotOf, hslot]) rfl]; rfl
  have HS := Lib.hid h; clear h
  obtain ⟨⟨c0, c1, c2, c4⟩, -⟩ := cell_facts HS.out
  rw [hsure] at c4
  have HX := Lib.hid (And.intro hO (And.intro hf (And.intro hB hK))); clear hO hf hB hK
  have hlong : ¬ (65536 : Int) < (s.size : Int) := by omega
  go_enter Tryd.func12, Tryd.ntmps12
  go_wp2_with fail
  clear c0 c1 c2 c4
  have HSd := Lib.hid (HS.out.quiet (Turns.refl [] w).drew)
  obtain ⟨⟨q0, q1, -, -⟩, -⟩ := cell_facts HSd.out
  go_still_tail 8, (by kernel_rfl)
  change wpList _ _ _ _ _ w.drew
  generalize w.drew = Wzd at *
  clear HS
  go_wp2_with fail
  refine (dsync_sep (_ :: mid) post f HSd.out HX.out.2.1 (by have := HX.out.2.2.1; omega) HX.out.2.2.2).mono ?_
  rintro e Wz ⟨rfl, h2⟩
  have HWz := Lib.hid h2; clear h2
  clear q0 q1 HSd
  obtain ⟨x, hx⟩ : ∃ x, x = syncCode st K f := ⟨_, rfl⟩
  rw [← hx]
  have HCWz := Lib.hid hx; clear hx
  by_cases he : x = 0
  rotate_left
  · go_wp2_with fail
    go_ret
    have hR := HR.out
    rw [setT0, if_pos (by rw [← HCWz.out]; exact he)] at hR
    rw [hR]
    exact ⟨by show Ending.returned (.int .i64 x) = _; rw [HCWz.out], Sep.mach_more (_ :: mid) post HWz.out (by first | omega | (rw [hdrB_size]; omega)) rfl rfl⟩
  subst he
  have HRWz : Hid (setR st K f c s = setT (syncS st K f) K f ⟨c.slot, c.value, true⟩ s 1 64) := by
    have hR := HR.out
    rw [setT0, if_neg (by rw [← HCWz.out]; simp)] at hR
    exact hR
  clear HR HCWz
  have hb := (cell_facts HWz.out).2
  have z4 : Wz.frozen? ⟨cb, 4, none⟩ = false := free_at hb 4
  have y4 : Wz.cell? ⟨cb, 4, none⟩ = _ := cell_at hb 4
  have y2 := (cell_facts HWz.out).1.2.2.1
  clear hb
  go_wp2_with fail
  clear z4 y4 y2
  have HWy := Lib.hid (cell_set1 HWz.out true)
  generalize Wz.setCell ⟨cb, 4, none⟩ (.bool true) = Wy at *
  clear HWz
  have HWyd := Lib.hid (HWy.out.quiet (Turns.refl [] Wy).drew)
  obtain ⟨⟨q0, q1, -, -⟩, -⟩ := cell_facts HWyd.out
  have ho := (HX.out.1.kept (HWyd.out.turns)).2.1
  go_still_tail 12, (by kernel_rfl)
  change wpList _ _ _ _ _ Wy.drew
  generalize Wy.drew = Wad at *
  clear HWy
  go_wp2_with fail
  refine (dwrite_sep (_ :: mid) post f 64 s HWyd.out HX.out.2.1 (by have := HX.out.2.2.1; omega) HX.out.2.2.2).mono ?_
  rintro e Wa ⟨rfl, h2⟩
  have HWa := Lib.hid h2; clear h2
  clear q0 q1 ho HWyd
  obtain ⟨x, hx⟩ : ∃ x, x = writeCode (syncS st K f) f 64 s := ⟨_, rfl⟩
  rw [← hx]
  have HCWa := Lib.hid hx; clear hx
  by_cases he : x = 0
  rotate_left
  · go_wp2_with fail
    go_ret
    have hR := HRWz.out
    rw [setT, if_pos (by rw [← HCWa.out]; exact he)] at hR
    rw [hR]
    exact ⟨by show Ending.returned (.int .i64 x) = _; rw [HCWa.out], Sep.mach_more (_ :: mid) post HWa.out (by first | omega | (rw [hdrB_size]; omega)) rfl rfl⟩
  subst he
  have HRWa : Hid (setR st K f c s = setT2 (writeS (syncS st K f) K f 64 s) K f ⟨c.slot, c.value, true⟩ s 1) := by
    have hR := HRWz.out
    rw [setT, if_neg (by rw [← HCWa.out]; simp)] at hR
    exact hR
  clear HRWz HCWa
  go_wp2_with fail
  have HWad := Lib.hid (HWa.out.quiet (Turns.refl [] Wa).drew)
  obtain ⟨⟨q0, q1, -, -⟩, -⟩ := cell_facts HWad.out
  go_still_tail 8, (by kernel_rfl)
  change wpList _ _ _ _ _ Wa.drew
  generalize Wa.drew = Wbd at *
  clear HWa
  go_wp2_with fail
  refine (dsync_sep (_ :: mid) post f HWad.out HX.out.2.1 (by have := HX.out.2.2.1; omega) HX.out.2.2.2).mono ?_
  rintro e Wb ⟨rfl, h2⟩
  have HWb := Lib.hid h2; clear h2
  clear q0 q1 HWad
  obtain ⟨x, hx⟩ : ∃ x, x = syncCode (writeS (syncS st K f) K f 64 s) K f := ⟨_, rfl⟩
  rw [← hx]
  have HCWb := Lib.hid hx; clear hx
  by_cases he : x = 0
  rotate_left
  · go_wp2_with fail
    go_ret
    have hR := HRWa.out
    rw [setT2, if_pos (by rw [← HCWb.out]; exact he)] at hR
    rw [hR]
    exact ⟨by show Ending.returned (.int .i64 x) = _; rw [HCWb.out], Sep.mach_more (_ :: mid) post HWb.out (by first | omega | (rw [hdrB_size]; omega)) rfl rfl⟩
  subst he
  have HRWb : Hid (setR st K f c s = setT3 (syncS (writeS (syncS st K f) K f 64 s) K f) K f ⟨c.slot, c.value, true⟩ s 1) := by
    have hR := HRWa.out
    rw [setT2, if_neg (by rw [← HCWb.out]; simp)] at hR
    exact hR
  clear HRWa HCWb
  go_wp2_with fail
  obtain ⟨⟨q0, q1, -, -⟩, -⟩ := cell_facts (HWb.out.quiet (Turns.refl [] Wb).drew)
  have HWbd := Lib.hid (HWb.out.quiet (Turns.refl [] Wb).drew)
  refine wp_region_N (fun _ => True) (fun w' => w'.cell? ⟨cb, 0, none⟩ = some (.pointer (some ⟨d, 0, none⟩)) ∧ w'.cell? ⟨cb, 1, none⟩ = some (.int .i64 f)) (fun _ => false) (by kernel_rfl) ?_
  generalize Wb.drew = Wd at *
  clear HWb
  have hs2 := And.intro q0 q1
  refine wpAnyN_take2 (some 74) (i := 0) (v := ?_) rfl rfl (by kernel_rfl) (by kernel_rfl) (by kernel_rfl) (by kernel_rfl) rfl (fun _ _ _ h => h) (Or.inl ⟨by rfl, ?_⟩) hs2 ?_
  rotate_left
  · intro w' hSw; obtain ⟨p0, p1⟩ := hSw; go_simp; try (with_reducible rfl)
  simp only [Act.put, List.setIfInBounds_toArray, List.set_cons_zero, List.set_cons_succ]
  refine wpAnyN_take2 (some 75) (i := 1) (v := ?_) rfl rfl (by kernel_rfl) (by kernel_rfl) (by kernel_rfl) (by kernel_rfl) rfl (fun _ _ _ h => h) (Or.inl ⟨by rfl, ?_⟩) hs2 ?_
  rotate_left
  · intro w' hSw; obtain ⟨p0, p1⟩ := hSw; go_simp; try (with_reducible rfl)
  simp only [Act.put, List.setIfInBounds_toArray, List.set_cons_zero, List.set_cons_succ]
  refine wpAnyN_take2 (some 76) (i := 2) (v := ?_) rfl rfl (by kernel_rfl) (by kernel_rfl) (by kernel_rfl) (by kernel_rfl) rfl (fun _ _ _ h => h) (Or.inl ⟨by rfl, ?_⟩) hs2 ?_
  rotate_left
  · intro w' hSw; obtain ⟨p0, p1⟩ := hSw; go_simp; try (with_reducible rfl)
  simp only [Act.put, List.setIfInBounds_toArray, List.set_cons_zero, List.set_cons_succ]
  refine wpAnyN_take2 (some 77) (i := 3) (v := ?_) rfl rfl (by kernel_rfl) (by kernel_rfl) (by kernel_rfl) (by kernel_rfl) rfl (fun _ _ _ h => h) (Or.inl ⟨by rfl, ?_⟩) hs2 ?_
  rotate_left
  · intro w' hSw; obtain ⟨p0, p1⟩ := hSw; go_simp; try (with_reducible rfl)
  simp only [Act.put, List.setIfInBounds_toArray, List.set_cons_zero, List.set_cons_succ]
  refine wpAnyN_take2 (some 78) (i := 4) (v := ?_) rfl rfl (by kernel_rfl) (by kernel_rfl) (by kernel_rfl) (by kernel_rfl) rfl (fun _ _ _ h => h) (Or.inl ⟨by rfl, ?_⟩) hs2 ?_
  rotate_left
  · intro w' hSw; obtain ⟨p0, p1⟩ := hSw; go_simp; try (with_reducible rfl)
  simp only [Act.put, List.setIfInBounds_toArray, List.set_cons_zero, List.set_cons_succ]
  refine wpAnyN_take2 (some 79) (i := 5) (v := ?_) rfl rfl (by kernel_rfl) (by kernel_rfl) (by kernel_rfl) (by kernel_rfl) rfl (fun _ _ _ h => h) (Or.inl ⟨by rfl, ?_⟩) hs2 ?_
  rotate_left
  · intro w' hSw; obtain ⟨p0, p1⟩ := hSw; go_simp; try (with_reducible rfl)
  simp only [Act.put, List.setIfInBounds_toArray, List.set_cons_zero, List.set_cons_succ]
  refine wpAnyN_take2 (some 80) (i := 6) (v := ?_) rfl rfl (by kernel_rfl) (by kernel_rfl) (by kernel_rfl) (by kernel_rfl) rfl (fun _ _ _ h => h) (Or.inl ⟨by rfl, ?_⟩) hs2 ?_
  rotate_left
  · intro w' hSw; obtain ⟨p0, p1⟩ := hSw; go_simp; try (with_reducible rfl)
  simp only [Act.put, List.setIfInBounds_toArray, List.set_cons_zero, List.set_cons_succ]
  refine wpAnyN_take2 (some 81) (i := 7) (v := ?_) rfl rfl (by kernel_rfl) (by kernel_rfl) (by kernel_rfl) (by kernel_rfl) rfl (fun _ _ _ h => h) (Or.inl ⟨by rfl, ?_⟩) hs2 ?_
  rotate_left
  · intro w' hSw; obtain ⟨p0, p1⟩ := hSw; go_simp; try (with_reducible rfl)
  simp only [Act.put, List.setIfInBounds_toArray, List.set_cons_zero, List.set_cons_succ]
  refine wpAnyN_take2 (some 82) (i := 8) (v := ?_) rfl rfl (by kernel_rfl) (by kernel_rfl) (by kernel_rfl) (by kernel_rfl) rfl (fun _ _ _ h => h) (Or.inl ⟨by rfl, ?_⟩) hs2 ?_
  rotate_left
  · intro w' hSw; obtain ⟨p0, p1⟩ := hSw; go_simp; try (with_reducible rfl)
  simp only [Act.put, List.setIfInBounds_toArray, List.set_cons_zero, List.set_cons_succ]
  refine wpAnyN_take2 (some 83) (i := 9) (v := ?_) rfl rfl (by kernel_rfl) (by kernel_rfl) (by kernel_rfl) (by kernel_rfl) rfl (fun _ _ _ h => h) (Or.inl ⟨by rfl, ?_⟩) hs2 ?_
  rotate_left
  · intro w' hSw; obtain ⟨p0, p1⟩ := hSw; go_simp; try (with_reducible rfl)
  simp only [Act.put, List.setIfInBounds_toArray, List.set_cons_zero, List.set_cons_succ]
  refine wpAnyN_one (i := 10) (by kernel_rfl) rfl fun K1 hK1 => ?_
  go_simp
  refine (header_any 1 s _ (by decide) hs).mono ?_
  rintro e We ⟨rfl, hte⟩
  go_simp
  have HWe := Lib.hid (HWbd.out.quiet hte)
  obtain ⟨⟨q0, q1, -, -⟩, -⟩ := cell_facts HWe.out
  clear hte hs2 HWbd
  refine hK1.out _ _ ⟨q0, q1⟩ (fun h => absurd h (by decide)) ?_
  clear hK1 K1
  try (simp only [Act.put, List.setIfInBounds_toArray, List.set_cons_zero, List.set_cons_succ])
  refine wpAnyN_one (i := 11) (by kernel_rfl) rfl fun K1 hK1 => ?_
  go_simp
  refine (dwrite_sep (_ :: mid) post f 0 (hdrB 1 s) HWe.out HX.out.2.1 (by have := HX.out.2.2.1; rw [hdrB_size]; omega) HX.out.2.2.2).mono ?_
  rintro e Wc ⟨rfl, h2⟩
  go_simp
  have HWc := Lib.hid h2; clear h2
  clear q0 q1 HWe
  obtain ⟨⟨q0, q1, -, -⟩, -⟩ := cell_facts HWc.out
  refine hK1.out _ _ ⟨q0, q1⟩ (fun h => absurd h (by decide)) ?_
  clear hK1 K1
  try (simp only [Act.put, List.setIfInBounds_toArray, List.set_cons_zero, List.set_cons_succ])
  obtain ⟨x, hx⟩ : ∃ x, x = writeCode (syncS (writeS (syncS st K f) K f 64 s) K f) f 0 (hdrB 1 s) := ⟨_, rfl⟩
  rw [← hx]
  have HCWc := Lib.hid hx; clear hx
  refine wpAnyN_one (i := 12) (by kernel_rfl) rfl fun K1 hK1 => ?_
  go_simp
  refine hK1.out _ _ ⟨q0, q1⟩ (fun h => absurd h (by decide)) ?_
  clear hK1 K1
  try (simp only [Act.put, List.setIfInBounds_toArray, List.set_cons_zero, List.set_cons_succ])
  refine wpAnyN_done (by kernel_rfl) ?_ _
  clear q0 q1
  by_cases he : x = 0
  rotate_left
  · go_wp2_with fail
    go_ret
    have hR := HRWb.out
    rw [setT3, if_pos (by rw [← HCWc.out]; exact he)] at hR
    rw [hR]
    exact ⟨by show Ending.returned (.int .i64 x) = _; rw [HCWc.out], Sep.mach_more (_ :: mid) post HWc.out (by first | omega | (rw [hdrB_size]; omega)) rfl rfl⟩
  subst he
  have HRWc : Hid (setR st K f c s = setT4 (writeS (syncS (writeS (syncS st K f) K f 64 s) K f) K f 0 (hdrB 1 s)) K f s 1) := by
    have hR := HRWb.out
    rw [setT3, if_neg (by rw [← HCWc.out]; simp)] at hR
    exact hR
  clear HRWb HCWc
  have hb := (cell_facts HWc.out).2
  have z2 : Wc.frozen? ⟨cb, 2, none⟩ = false := free_at hb 2
  have z3 : Wc.frozen? ⟨cb, 3, none⟩ = false := free_at hb 3
  have z4 : Wc.frozen? ⟨cb, 4, none⟩ = false := free_at hb 4
  have y2 : Wc.cell? ⟨cb, 2, none⟩ = _ := cell_at hb 2
  have y3 : Wc.cell? ⟨cb, 3, none⟩ = _ := cell_at hb 3
  have y4 : Wc.cell? ⟨cb, 4, none⟩ = _ := cell_at hb 4
  clear hb
  go_wp2_with fail
  clear z2 z3 z4 y2 y3 y4
  have HWf := Lib.hid (cell_set3 HWc.out 1 s false)
  generalize ((Wc.setCell ⟨cb, 2, none⟩ (.int .i64 1)).setCell ⟨cb, 3, none⟩ (.string s)).setCell ⟨cb, 4, none⟩ (.bool false) = Wf at *
  clear HWc
  have HWfd := Lib.hid (HWf.out.quiet (Turns.refl [] Wf).drew)
  obtain ⟨⟨q0, q1, -, -⟩, -⟩ := cell_facts HWfd.out
  go_still_tail 8, (by kernel_rfl)
  change wpList _ _ _ _ _ Wf.drew
  generalize Wf.drew = Wgd at *
  clear HWf
  go_wp2_with fail
  refine (dsync_sep (_ :: mid) post f HWfd.out HX.out.2.1 (by have := HX.out.2.2.1; have := hdrB_size 1 s; omega) HX.out.2.2.2).mono ?_
  rintro e Wg ⟨rfl, h2⟩
  have HWg := Lib.hid h2; clear h2
  clear q0 q1 HWfd
  obtain ⟨x, hx⟩ : ∃ x, x = syncCode (writeS (syncS (writeS (syncS st K f) K f 64 s) K f) K f 0 (hdrB 1 s)) K f := ⟨_, rfl⟩
  rw [← hx]
  have HCWg := Lib.hid hx; clear hx
  have hb := (cell_facts HWg.out).2
  have z4 : Wg.frozen? ⟨cb, 4, none⟩ = false := free_at hb 4
  have y4 : Wg.cell? ⟨cb, 4, none⟩ = _ := cell_at hb 4
  clear hb
  go_wp2_with fail
  go_ret
  have hR := HRWc.out
  rw [setT4, ← HCWg.out] at hR
  rw [hR]
  exact ⟨rfl, Sep.mach_more (_ :: mid) post (cell_set1 HWg.out (x == 0)) (by have := hdrB_size 1 s; omega) rfl rfl⟩

theorem set_any {w0 w : World} {cb d B : Nat} {f : Int} {c : CS} {st : DS} {K : List Int} (mid post : List Thing) (s : ByteArray)
    (h : Sep w0 w (blockThing cb (cellObj d f c) :: (mid ++ machThing d B st K :: post))) (hO : Offs w0) (hf : (Lit.int .i64 f).wf = true) (hB : B ≤ 600000) (hK : K.length ≤ 1000000) (hs : s.size ≤ 65536) :
    Calls Tryd.prog 12 #[.pointer (some ⟨cb, 0, none⟩), .string s] w fun e w' => e = .returned (.int .i64 (setR st K f c s).1) ∧
      Sep w0 w' (blockThing cb (cellObj d f (setR st K f c s).2.1) :: (mid ++ machThing d (B + 24 + s.size) (setR st K f c s).2.2 K :: post)) := by
  cases hsure : c.sure
  · by_cases hslot : c.slot = 1
    · exact set_a1 mid post s h hO hf hB hK hs hsure hslot
    · by_cases hz : 0 < c.slot
      · exact set_a2 mid post s h hO hf hB hK hs hsure hz hslot
      · exact set_b3 mid post s h hO hf hB hK hs hsure hz hslot
  · by_cases hslot : c.slot = 1
    · exact set_b1 mid post s h hO hf hB hK hs hsure hslot
    · exact set_b2 mid post s h hO hf hB hK hs hsure hslot

set_option maxRecDepth 100000 in
theorem set_long {cb : Nat} (s : ByteArray) (w : World) (hs : 65536 < s.size) :
    Calls Tryd.prog 12 #[.pointer (some ⟨cb, 0, none⟩), .string s] w fun e w' => e = .returned (.int .i64 6) ∧ w = w' := by
  have hlong : (65536 : Int) < (s.size : Int) := by omega
  go_enter Tryd.func12, Tryd.ntmps12
  go_wp2_with fail
  go_ret
  exact ⟨rfl, rfl⟩

end Go.Proofs.YtdcgdnlpagadcaaDoor
