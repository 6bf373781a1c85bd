/- Contracts and lemmas (texts CellT, CelL, CelM, joined by a program). -/
import Derived.Test.YtdcgdnlpagadcaaDoorMc12
/- Plain: two cells in different files. No program in sight. -/
namespace Go.Proofs.YtdcgdnlpagadcaaDoor

theorem Quiet.write {st : DS} {f g : Int} {n : ByteArray} (h : Quiet st f n) (hg : g ≠ f) (K : List Int) (a : Int) (s : ByteArray) : Quiet (writeS st K g a s) f n := by
  unfold writeS
  split
  · exact (h.ends.wr hg _ _).crash K
  · exact h.ends.wr hg _ _
theorem Quiet.sync {st : DS} {f g : Int} {n : ByteArray} (h : Quiet st f n) (hg : g ≠ f) (K : List Int) : Quiet (syncS st K g) f n := by
  unfold syncS
  have hx := h.end K
  simp only
  split
  · exact hx
  split
  · exact hx
  · exact hx.settle hg _
theorem Quiet.setW {st : DS} {f g : Int} {n : ByteArray} (h : Quiet st f n) (hg : g ≠ f) (K : List Int) (c : CS) (s : ByteArray) : Quiet (setW st K g c s).2.2 f n := by
  unfold Go.Proofs.YtdcgdnlpagadcaaDoor.setW
  split
  · exact h.write hg K _ _
  split
  · exact (h.write hg K _ _).sync hg K
  split
  · exact ((h.write hg K _ _).sync hg K).write hg K _ _
  · exact (((h.write hg K _ _).sync hg K).write hg K _ _).sync hg K
theorem Quiet.setR {st : DS} {f g : Int} {n : ByteArray} (h : Quiet st f n) (hg : g ≠ f) (K : List Int) (c : CS) (s : ByteArray) : Quiet (setR st K g c s).2.2 f n := by
  unfold Go.Proofs.YtdcgdnlpagadcaaDoor.setR
  split
  · exact h
  split
  · split
    · exact h.sync hg K
    · exact (h.sync hg K).setW hg K _ _
  · exact h.setW hg K _ _
theorem Quiet.after {st : DS} {f : Int} {n : ByteArray} (h : Quiet st f n) (C : List Int) : (afterS st C).F f = ⟨n, n⟩ := (h.crash C).1

theorem CInv.new0 (f : Int) : CInv [] true f c0S DS.new := ⟨DInv.new, Or.inr ⟨rfl, Or.inl (Or.inl ⟨rfl, rfl, rfl, rfl⟩)⟩⟩
/-- The first set on a new disk. -/
theorem first_set {f : Int} (hf : 0 ≤ f ∧ f < 16) (s : ByteArray) (hs : s.size ≤ 65536) :
    (setR DS.new [] f c0S s).1 = 0 ∧ (setR DS.new [] f c0S s).2.1 = ⟨1, s, true⟩ ∧ DInv (setR DS.new [] f c0S s).2.2 ∧ (setR DS.new [] f c0S s).2.2.down = false ∧
      (∃ N, Holds N 1 s ∧ Quiet (setR DS.new [] f c0S s).2.2 f N) ∧ ∀ g, g ≠ f → (setR DS.new [] f c0S s).2.2.F g = noFile := by
  have e : setR DS.new [] f c0S s = setW DS.new [] f c0S s := by rw [setR, if_neg (by omega), if_neg (by decide)]
  obtain ⟨h1, h2, h3, h4, h5⟩ := calm_setW calm_new [] hf c0S s hs
  have hbe := setR_inv (f := f) hf [] hs (CInv.new0 f)
  have hq : ∃ N, Quiet (setW DS.new [] f c0S s).2.2 f N := by
    have hoff : off (slotOf c0S.slot) ≤ 131072 := by rcases off_cases (slotOf c0S.slot) with h | h <;> omega
    obtain ⟨a1, a2, a3, a4⟩ := calm_write calm_new [] hf (off (slotOf c0S.slot)) s (by omega)
    obtain ⟨b1, b2, b3, b4⟩ := calm_sync a2 [] hf
    obtain ⟨q1, q2, q3, q4⟩ := calm_write b2 [] hf 0 (hdrB (slotOf c0S.slot) s) (by rw [hdrB_size]; omega)
    obtain ⟨d1, d2, d3, d4⟩ := calm_sync q2 [] hf
    simp only [show ((0 : Nat) : Int) = 0 from rfl] at q1 q2 q3 q4 d1 d2 d3 d4
    have hx : (setW DS.new [] f c0S s).2.2 = syncS (writeS (syncS (writeS DS.new [] f (off (slotOf c0S.slot) : Nat) s) [] f) [] f 0 (hdrB (slotOf c0S.slot) s)) [] f := by
      rw [setW, if_neg (by simp [a1]), if_neg (by simp [b1]), if_neg (by simp [q1])]
    rw [hx]
    exact ⟨_, (sync_ok d1).2.2⟩
  rw [e] at hbe ⊢
  obtain ⟨N, hN⟩ := hq
  have hh := (hbe.2.1 h1).2.2.1
  rw [h2] at hh
  refine ⟨h1, h2, hbe.1, h3.1, ⟨N, ?_, hN⟩, fun g hg => h5 g hg⟩
  rw [hN.1] at hh
  exact hh
end Go.Proofs.YtdcgdnlpagadcaaDoor

/- Statements about cell: CellApart. -/
namespace Go.Proofs.YtdcgdnlpagadcaaDoor
open Go.RowKit Go.Proofs.YtdcgdnlpagadcaaDoorMem Go.Maps

theorem wf15 {f : Int} (h : 0 ≤ f ∧ f < 16) : (Lit.int .i64 f).wf = true := by
  have e1 : IntKind.i64.max = 9223372036854775807 := by decide
  have e2 : IntKind.i64.min = -9223372036854775808 := by decide
  simp [Lit.wf, e1, e2]
  omega
theorem num_max {n : Int} (h : (Lit.int .i64 n).wf = true) : n ≤ 9223372036854775807 := by
  have e1 : IntKind.i64.max = 9223372036854775807 := by decide
  simp [Lit.wf, e1] at h
  exact h.2

set_option maxHeartbeats 20000000 in
set_option maxRecDepth 100000 in
theorem apart_run (s t : ByteArray) (f g n : Int) (a5 : Option Addr) (c5 : Nat) (C : List Int) (w : World) (hO : Offs w) (h5 : IntsAt w a5 C)
    (hs : s.size ≤ 400) (ht : t.size ≤ 400) (hf : 0 ≤ f ∧ f < 16) (hg : 0 ≤ g ∧ g < 16) (hfg : ¬ f = g) (hn : n ≤ 9223372036854775807) (hC : C.length ≤ 100) :
    Calls Tryd.prog 7 #[.string s, .string t, .int .i64 f, .int .i64 g, .int .i64 n, .slice a5 C.length c5] w fun e w' => e = .returned (.bool true) ∧ Turns [] w w' := by
  have HC := Lib.hid h5; clear h5
  have hgf : g ≠ f := fun e => hfg e.symm
  have d1 : ¬ (400 : Int) < (s.size : Int) := by omega
  have d2 : ¬ (400 : Int) < (t.size : Int) := by omega
  have d3 : ¬ (100 : Int) < (C.length : Int) := by omega
  have d4 : ¬ f < 0 := by omega
  have d5 : ¬ 15 < f := by omega
  have d6 : ¬ g < 0 := by omega
  have d7 : ¬ 15 < g := by omega
  have d8 : (f == g) = false := by rw [beq_eq_false_iff_ne]; exact hfg
  have HZ := Lib.hid (And.intro hf (And.intro hg (And.intro hgf (And.intro hn (And.intro hs (And.intro ht hC))))))
  clear hf hg hgf hn hs ht hC
  go_enter Tryd.func7, Tryd.ntmps7
  go_wp2_with fail
  refine (small_cell w hO).mono ?_
  rintro e w1 ⟨rfl, ht1⟩
  have H1 := Lib.hid ht1; clear ht1
  go_wp2_with fail
  refine (mach_new [] ((Sep.start w).quiet H1.out)).mono ?_
  rintro e w2 ⟨d, rfl, h2⟩
  have H2 := Lib.hid h2; clear h2
  go_wp2_with fail
  refine (open_sep [] [] H2.out (wf15 HZ.out.1) hO).mono ?_
  rintro e w3 hp
  obtain ⟨ca, rfl, h3⟩ := hp.ok (open_new HZ.out.1.1 HZ.out.1.2).1
  rw [(open_new HZ.out.1.1 HZ.out.1.2).2] at h3
  have H3 := Lib.hid h3; clear h3 hp H2 H1
  go_wp2_with fail
  refine (open_sep [_] [] H3.out (wf15 HZ.out.2.1) hO).mono ?_
  rintro e w4 hp
  obtain ⟨cb, rfl, h4⟩ := hp.ok (open_new HZ.out.2.1.1 HZ.out.2.1.2).1
  rw [(open_new HZ.out.2.1.1 HZ.out.2.1.2).2] at h4
  have H4 : Hid (Sep w w4 (blockThing ca (cellObj d f c0S) :: ([blockThing cb (cellObj d g c0S)] ++ machThing d 0 DS.new [] :: []))) := Sep.swap01 h4
  clear h4 hp H3
  go_wp2_with fail
  refine (set_any [_] [] s H4.out hO (wf15 HZ.out.1) (by omega) (by decide) (by have := HZ.out.2.2.2.2.1; omega)).mono ?_
  rintro e w5 ⟨rfl, h5⟩
  obtain ⟨k1, k2, k3, k4, ⟨N, k5, k6⟩, k7⟩ := first_set HZ.out.1 s (by have := HZ.out.2.2.2.2.1; omega)
  rw [k1]
  rw [k2] at h5
  obtain ⟨st1, hst1⟩ : ∃ x, x = (setR DS.new [] f c0S s).2.2 := ⟨_, rfl⟩
  rw [← hst1] at h5 k3 k4 k6 k7
  have HK := Lib.hid (And.intro k3 (And.intro k4 (And.intro k5 (And.intro k6 (k7 g HZ.out.2.2.1)))))
  have H5 := Lib.hid h5; clear h5 k1 k2 k3 k4 k5 k6 k7 hst1 H4
  go_wp2_with fail
  refine (darm_sep [_, _] [] n (.slice a5 C.length c5) C H5.out ⟨_, _, rfl, HC.out⟩ HZ.out.2.2.2.1 (by have := HZ.out.2.2.2.2.2.2; omega)).mono ?_
  rintro e w6 ⟨rfl, h6⟩
  obtain ⟨st2, hst2⟩ : ∃ x : DS, x = { st1 with armed := max n 0 } := ⟨_, rfl⟩
  rw [← hst2] at h6
  have HK2 : Hid (Quiet st2 f N ∧ CInv [] true g c0S st2) := by
    obtain ⟨k3, k4, k5, k6, k7⟩ := HK.out
    subst hst2
    refine ⟨k6, mach_inv [_, _] [] h6, Or.inr ⟨k4, Or.inl (Or.inl ⟨rfl, rfl, ?_, ?_⟩)⟩⟩
    · show Zero (st1.F g).now
      rw [k7]; exact byteA_past (Nat.zero_le _)
    · show Zero (st1.F g).last
      rw [k7]; exact byteA_past (Nat.zero_le _)
  have H6 : Hid (Sep w w6 (blockThing cb (cellObj d g c0S) :: ([blockThing ca (cellObj d f ⟨1, s, true⟩)] ++ machThing d _ st2 C :: []))) := Sep.swap01 h6
  clear h6 H5 hst2
  go_wp2_with fail
  refine (set_any [_] [] t H6.out hO (wf15 HZ.out.2.1) (by have := HZ.out.2.2.2.2.1; omega) (by have := HZ.out.2.2.2.2.2.2; omega) (by have := HZ.out.2.2.2.2.2.1; omega)).mono ?_
  rintro e w7 ⟨rfl, h7⟩
  have hbe := setR_inv HZ.out.2.1 C (s := t) (by have := HZ.out.2.2.2.2.2.1; omega) HK2.out.2
  have hq := HK2.out.1.setR HZ.out.2.2.1 C c0S t
  obtain ⟨R, hR⟩ : ∃ R, R = setR st2 C g c0S t := ⟨_, rfl⟩
  rw [← hR] at h7 hbe hq ⊢
  obtain ⟨x, cR, st3⟩ := R
  have H7 := Lib.hid h7; clear h7 hR H6
  have HB := Lib.hid (And.intro hbe hq); clear hbe hq HK2
  go_wp2_with fail
  refine (dcrash_sep [_, _] [] (.slice a5 C.length c5) C H7.out ⟨_, _, rfl, HC.out⟩ (by have := HZ.out.2.2.2.2; omega) (by have := HZ.out.2.2.2.2.2.2; omega)).mono ?_
  rintro e w8 ⟨rfl, h8⟩
  have H8 := Lib.hid h8; clear h8 H7
  go_wp2_with fail
  refine (dstart_sep [_, _] [] H8.out).mono ?_
  rintro e w9 ⟨rfl, h9⟩
  have H9 : Hid (Sep w w9 ([_, _] ++ machThing d _ (afterS st3 C) C :: [])) := h9
  clear h9 H8
  go_wp2_with fail
  refine (open_sep [_, _] [] H9.out (wf15 HZ.out.1) hO).mono ?_
  rintro e w10 hp
  have hopen : openC (afterS st3 C) f = 0 ∧ openV (afterS st3 C) f = ⟨1, s, false⟩ := open_holds (may_of rfl HZ.out.1.1 HZ.out.1.2) (by rw [HB.out.2.after C]; exact HK.out.2.2.1)
  obtain ⟨ca2, rfl, h10⟩ := hp.ok hopen.1
  rw [hopen.2] at h10
  have H10 := Lib.hid h10; clear h10 hp H9 hopen
  have hres : openC (afterS st3 C) g = 0 ∧ ((openV (afterS st3 C) g).value = t ∧ 0 < (openV (afterS st3 C) g).slot ∨ (openV (afterS st3 C) g).slot = 0 ∧ ¬ x = 0) := by
    obtain ⟨_, b1, b2⟩ := HB.out.1
    by_cases hx : x = 0
    · obtain ⟨ho, hv⟩ := again_inv HZ.out.2.1 (b1 hx).1 C
      refine ⟨ho, Or.inl ?_⟩
      rcases hv with ⟨_, hnn, _⟩ | ⟨k, v, hv, hk, hm, _⟩
      · cases hnn
      · rw [hv]; exact ⟨by simpa using hm, hk⟩
    · obtain ⟨ho, hv⟩ := again_inv HZ.out.2.1 (b2 hx) C
      refine ⟨ho, ?_⟩
      rcases hv with ⟨hv, _, _⟩ | ⟨k, v, hv, hk, hm, _⟩
      · exact Or.inr ⟨by rw [hv], hx⟩
      · exact Or.inl (by rw [hv]; exact ⟨by simpa using hm, hk⟩)
  have HR := Lib.hid hres; clear hres HB HK
  go_wp2_with fail
  refine (open_sep [_, _, _] [] H10.out (wf15 HZ.out.2.1) hO).mono ?_
  rintro e w11 hp
  obtain ⟨cb2, rfl, h11⟩ := hp.ok HR.out.1
  have H11 := Lib.hid h11; clear h11 hp H10
  go_wp2_with fail
  refine (cell_get ca2 d f ⟨1, s, false⟩ _ (Sep.block [_] _ H11.out)).mono ?_
  rintro e w12 ⟨rfl, ht⟩
  have H12 := Lib.hid (YtdcgdnlpagadcaaDoorMem.Sep.quiet H11.out ht); clear ht H11
  rw [show decide ((0 : Int) < (⟨1, s, false⟩ : CS).slot) = true from rfl]
  obtain ⟨cv, hcv⟩ : ∃ c, c = openV (afterS st3 C) g := ⟨_, rfl⟩
  have hr := HR.out.2
  rw [← hcv] at hr
  have H12' := H12.out
  rw [← hcv] at H12'
  have H13 := Lib.hid H12'; clear H12' H12 HR hcv
  go_wp2_with fail
  refine (cell_get cb2 d g cv _ (cell_facts H13.out).2).mono ?_
  rintro e w14 ⟨rfl, ht⟩
  have H14 := Lib.hid (YtdcgdnlpagadcaaDoorMem.Sep.quiet H13.out ht); clear ht H13
  rcases hr with ⟨hv, hsl⟩ | ⟨hsl, hx⟩
  · rw [hv, decide_eq_true hsl]
    clear hv hsl
    by_cases hx : x = 0
    · subst hx
      go_wp2_with fail
      go_ret
      exact ⟨by simp, YtdcgdnlpagadcaaDoorMem.Sep.turns H14.out⟩
    · go_wp2_with fail
      go_ret
      exact ⟨by simp, YtdcgdnlpagadcaaDoorMem.Sep.turns H14.out⟩
  · rw [show decide (0 < cv.slot) = false from decide_eq_false (by omega)]
    go_wp2_with fail
    go_ret
    exact ⟨by simp, YtdcgdnlpagadcaaDoorMem.Sep.turns H14.out⟩

end Go.Proofs.YtdcgdnlpagadcaaDoor

/- Statements about cell: CellApart, every input. -/
namespace Go.Proofs.YtdcgdnlpagadcaaDoor
open Go.RowKit Go.Proofs.YtdcgdnlpagadcaaDoorMem Go.Maps

set_option maxHeartbeats 12800000 in
set_option maxRecDepth 100000 in
theorem apart_row {Y Z : Prop} (s t : ByteArray) (f g n : Int) (a5 : Option Addr) (cap5 : Nat) (C : List Int) (w : World) (hO : Offs w) (_ : Y) (_ : Z) (_ : (Lit.int .i64 f).wf = true) (_ : (Lit.int .i64 g).wf = true) (hwn : (Lit.int .i64 n).wf = true) (h5 : IntsIn w a5 C) :
    Calls Tryd.prog 7 #[.string s, .string t, .int .i64 f, .int .i64 g, .int .i64 n, .slice a5 C.length cap5] w fun e w' => e = .returned (.bool true) ∧ Below w.heap.size w w' := by
  have fin : ∀ {w' : World}, Turns [] w w' → Below w.heap.size w w' := fun h => h.below (Nat.le_refl _) (by simp)
  have hn := num_max hwn
  clear hwn
  by_cases q0 : (400 : Int) < (s.size : Int)
  · skip
    go_enter Tryd.func7, Tryd.ntmps7
    go_wp2_with fail
    refine (small_cell w hO).mono ?_
    rintro e w1 ⟨rfl, ht1⟩
    have H1 := Lib.hid ht1; clear ht1
    go_wp2_with fail
    go_ret
    exact ⟨rfl, fin H1.out⟩
  by_cases q1 : (400 : Int) < (t.size : Int)
  · skip
    go_enter Tryd.func7, Tryd.ntmps7
    go_wp2_with fail
    refine (small_cell w hO).mono ?_
    rintro e w1 ⟨rfl, ht1⟩
    have H1 := Lib.hid ht1; clear ht1
    go_wp2_with fail
    go_ret
    exact ⟨rfl, fin H1.out⟩
  by_cases q2 : f < 0
  · skip
    go_enter Tryd.func7, Tryd.ntmps7
    go_wp2_with fail
    refine (small_cell w hO).mono ?_
    rintro e w1 ⟨rfl, ht1⟩
    have H1 := Lib.hid ht1; clear ht1
    go_wp2_with fail
    go_ret
    exact ⟨rfl, fin H1.out⟩
  by_cases q3 : 15 < f
  · skip
    go_enter Tryd.func7, Tryd.ntmps7
    go_wp2_with fail
    refine (small_cell w hO).mono ?_
    rintro e w1 ⟨rfl, ht1⟩
    have H1 := Lib.hid ht1; clear ht1
    go_wp2_with fail
    go_ret
    exact ⟨rfl, fin H1.out⟩
  by_cases q4 : g < 0
  · skip
    go_enter Tryd.func7, Tryd.ntmps7
    go_wp2_with fail
    refine (small_cell w hO).mono ?_
    rintro e w1 ⟨rfl, ht1⟩
    have H1 := Lib.hid ht1; clear ht1
    go_wp2_with fail
    go_ret
    exact ⟨rfl, fin H1.out⟩
  by_cases q5 : 15 < g
  · skip
    go_enter Tryd.func7, Tryd.ntmps7
    go_wp2_with fail
    refine (small_cell w hO).mono ?_
    rintro e w1 ⟨rfl, ht1⟩
    have H1 := Lib.hid ht1; clear ht1
    go_wp2_with fail
    go_ret
    exact ⟨rfl, fin H1.out⟩
  by_cases q6 : f = g
  · have q6b : (f == g) = true := by rw [beq_iff_eq]; exact q6
    clear q6
    go_enter Tryd.func7, Tryd.ntmps7
    go_wp2_with fail
    refine (small_cell w hO).mono ?_
    rintro e w1 ⟨rfl, ht1⟩
    have H1 := Lib.hid ht1; clear ht1
    go_wp2_with fail
    go_ret
    exact ⟨rfl, fin H1.out⟩
  have q6b : (f == g) = false := by rw [beq_eq_false_iff_ne]; exact q6
  by_cases q7 : (100 : Int) < (C.length : Int)
  · skip
    go_enter Tryd.func7, Tryd.ntmps7
    go_wp2_with fail
    refine (small_cell w hO).mono ?_
    rintro e w1 ⟨rfl, ht1⟩
    have H1 := Lib.hid ht1; clear ht1
    go_wp2_with fail
    go_ret
    exact ⟨rfl, fin H1.out⟩
  exact (apart_run s t f g n a5 cap5 C w hO h5.2 (by omega) (by omega) (by omega) (by omega) q6 hn (by omega)).mono fun e w' ⟨e1, e2⟩ => ⟨e1, fin e2⟩

end Go.Proofs.YtdcgdnlpagadcaaDoor
