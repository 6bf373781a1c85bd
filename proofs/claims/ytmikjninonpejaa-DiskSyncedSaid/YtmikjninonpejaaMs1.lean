/- Contracts and lemmas (texts DoG, joined by a program). -/
import Derived.Test.YtmikjninonpejaaMb13
/- Statements about the disk: DiskSynced, the walk. -/
namespace Go.Proofs.Ytmikjninonpejaa
open Go.RowKit Go.Proofs.YtmikjninonpejaaMem Go.Maps

theorem ActsAt.get {w0 w : World} {a : Option Addr} {l : List DAct} (h : ActsAt w0 a l) (ht : Turns [] w0 w) {i : Nat} (hi : i < l.length) :
    ∃ b off kv, a = some ⟨b, off, none⟩ ∧ w.cell? ⟨b, off + i * 5, none⟩ = some (.int .i64 l[i].doo) ∧ w.cell? ⟨b, off + i * 5 + 1, none⟩ = some (.int .i64 l[i].f) ∧
    w.cell? ⟨b, off + i * 5 + 2, none⟩ = some (.int .i64 l[i].n) ∧ w.cell? ⟨b, off + i * 5 + 3, none⟩ = some (.string l[i].s) ∧ w.cell? ⟨b, off + i * 5 + 4, none⟩ = some kv ∧ IntsV w0 kv l[i].keep ∧ l[i].wf := by
  obtain ⟨hw, b, off, kv, rfl, h0, h1, h2, h3, h4, hk⟩ := h i hi
  exact ⟨b, off, kv, rfl, (ht.cell (World.block_lt_of_cell? _ _ h0) (by simp)).trans h0, (ht.cell (World.block_lt_of_cell? _ _ h1) (by simp)).trans h1, (ht.cell (World.block_lt_of_cell? _ _ h2) (by simp)).trans h2,
    (ht.cell (World.block_lt_of_cell? _ _ h3) (by simp)).trans h3, (ht.cell (World.block_lt_of_cell? _ _ h4) (by simp)).trans h4, hk, hw⟩
theorem Sep.mach_more {w0 w : World} {b B C : Nat} {st st' : DS} {K K' : List Int} (pre post : List Thing) (h : Sep w0 w (pre ++ machThing b B st K :: post)) (hm : B ≤ C) (e1 : st' = st) (e2 : K' = K) : Sep w0 w (pre ++ machThing b C st' K' :: post) := by
  subst e1 e2
  obtain ⟨FP, hM, _, step⟩ := h.pick pre _ post
  refine step w FP (machThing b C _ _) (Evolves.of_same (Turns.refl _ _)) ?_
  obtain ⟨kv, FP0, q1, q2, q3, q4⟩ := hM
  exact ⟨kv, FP0, q1.more hm, q2, q3, q4⟩

set_option maxHeartbeats 6400000 in
set_option maxRecDepth 100000 in
theorem synced_few (a1 a2 : Option Addr) (c1 c2 : Nat) (l m : List DAct) (f : Int) (kv : Value) (C : List Int) (w : World) (h1 : ActsAt w a1 l) (h2 : ActsAt w a2 m) (hk : IntsV w kv C)
    (hl1 : l.length ≤ maxLen) (hl2 : m.length ≤ maxLen) (hno : ¬ (fewD l = true ∧ fewD m = true ∧ C.length ≤ 60)) :
    Calls Try.prog 9 #[.slice a1 l.length c1, .int .i64 f, .slice a2 m.length c2, kv] w fun e w' => e = .returned (.bool true) ∧ Turns [] w w' := by
  have H1 := Lib.hid h1; clear h1
  have H2 := Lib.hid h2; clear h2
  obtain ⟨ka, kc, rfl, -⟩ := hk
  cases hfl : fewD l
  · have HL := Lib.hid hfl; clear hfl hno
    go_enter Try.func9, Try.ntmps9
    go_wp2_with fail
    refine (small_disk _).mono ?_
    rintro e w1 ⟨rfl, ht1⟩
    have HT := Lib.hid ht1; clear ht1
    go_wp2_with fail
    refine (few_acts a1 c1 l _ (H1.out.kept HT.out) hl1).mono ?_
    rintro e w2 ⟨rfl, rfl⟩
    rw [HL.out]
    go_wp2_with fail
    go_ret
    exact ⟨rfl, HT.out⟩
  · cases hfm : fewD m
    · have HL := Lib.hid hfl
      have HM := Lib.hid hfm
      clear hfl hfm hno
      go_enter Try.func9, Try.ntmps9
      go_wp2_with fail
      refine (small_disk _).mono ?_
      rintro e w1 ⟨rfl, ht1⟩
      have HT := Lib.hid ht1; clear ht1
      go_wp2_with fail
      refine (few_acts a1 c1 l _ (H1.out.kept HT.out) hl1).mono ?_
      rintro e w2 ⟨rfl, rfl⟩
      rw [HL.out]
      go_wp2_with fail
      refine (few_acts a2 c2 m _ (H2.out.kept HT.out) hl2).mono ?_
      rintro e w2 ⟨rfl, rfl⟩
      rw [HM.out]
      go_wp2_with fail
      go_ret
      exact ⟨rfl, HT.out⟩
    · have hC : decide ((60 : Int) < (C.length : Int)) = true := decide_eq_true (by
        have : ¬ C.length ≤ 60 := fun h => hno ⟨hfl, hfm, h⟩
        omega)
      have HL := Lib.hid hfl
      have HM := Lib.hid hfm
      clear hfl hfm hno
      go_enter Try.func9, Try.ntmps9
      go_wp2_with fail
      refine (small_disk _).mono ?_
      rintro e w1 ⟨rfl, ht1⟩
      have HT := Lib.hid ht1; clear ht1
      go_wp2_with fail
      refine (few_acts a1 c1 l _ (H1.out.kept HT.out) hl1).mono ?_
      rintro e w2 ⟨rfl, rfl⟩
      rw [HL.out]
      go_wp2_with fail
      refine (few_acts a2 c2 m _ (H2.out.kept HT.out) hl2).mono ?_
      rintro e w2 ⟨rfl, rfl⟩
      rw [HM.out]
      go_wp2_with fail
      go_ret
      exact ⟨rfl, HT.out⟩

set_option maxHeartbeats 6400000 in
set_option maxRecDepth 100000 in
theorem synced_run (a1 a2 : Option Addr) (c1 c2 : Nat) (l m : List DAct) (f : Int) (kv : Value) (C : List Int) (w : World) (h1 : ActsAt w a1 l) (h2 : ActsAt w a2 m) (hk : IntsV w kv C) (hf : (Lit.int .i64 f).wf = true)
    (hfl : fewD l = true) (hfm : fewD m = true) (hC : C.length ≤ 60) :
    Calls Try.prog 9 #[.slice a1 l.length c1, .int .i64 f, .slice a2 m.length c2, kv] w fun e w' => e = .returned (.bool true) ∧ Turns [] w w' := by
  have H1 := Lib.hid h1; clear h1
  have H2 := Lib.hid h2; clear h2
  have HKV := Lib.hid hk
  obtain ⟨ka, kc, rfl, -⟩ := hk
  have HL := Lib.hid hfl; clear hfl
  have HM := Lib.hid hfm; clear hfm
  have hll := fewD_len HL.out
  have hml := fewD_len HM.out
  have hd60 : decide ((60 : Int) < (C.length : Int)) = false := decide_eq_false (by omega)
  have hkk := playTo_keep HL.out DS.new [] (by simp) l.length (Nat.le_refl _)
  go_enter Try.func9, Try.ntmps9
  go_wp2_with fail
  refine (small_disk _).mono ?_
  rintro e w1 ⟨rfl, ht1⟩
  have HT := Lib.hid ht1; clear ht1
  go_wp2_with fail
  refine (few_acts a1 c1 l _ (H1.out.kept HT.out) (by unfold maxLen; omega)).mono ?_
  rintro e w2 ⟨rfl, rfl⟩
  rw [HL.out]
  go_wp2_with fail
  refine (few_acts a2 c2 m _ (H2.out.kept HT.out) (by unfold maxLen; omega)).mono ?_
  rintro e w2 ⟨rfl, rfl⟩
  rw [HM.out]
  go_wp2_with fail
  refine (played_any [] a1 c1 l _ ((Sep.start w).quiet HT.out) H1.out HL.out).mono ?_
  rintro e w2 ⟨b, rfl, hs2⟩
  generalize (playTo DS.new [] l l.length).1 = st at hs2
  generalize (playTo DS.new [] l l.length).2 = K at hs2 hkk
  have HS2 := Lib.hid (Sep.mach_more (C := 12400) [] [] hs2 (by omega) rfl rfl); clear hs2
  go_wp2_with fail
  refine (dread_sep [] [] f 0 16777216 HS2.out hf).mono ?_
  rintro e w3 ⟨rfl, rfl⟩
  go_wp2_with fail
  refine (dsync_sep [] [] f HS2.out hf (by omega) (by omega)).mono ?_
  rintro e w3 ⟨rfl, hs3⟩
  have HS3 := Lib.hid hs3; clear hs3
  by_cases hz : syncCode st K f = 0
  · obtain ⟨q1, q2, q3⟩ := sync_ok hz
    obtain ⟨r1, r2⟩ := read_whole q1
    obtain ⟨r3, r4⟩ := read_whole q2
    rw [q3.1] at r4
    dsimp only at r4
    rw [hz, r2]
    have HQ := Lib.hid (And.intro q2 (And.intro q3 (And.intro r3 r4)))
    clear q1 q2 q3 r1 r2 r3 r4 hz
    generalize syncS st K f = st1 at HS3 HQ
    generalize (st.F f).now = n at HQ ⊢
    clear HS2
    go_wp2_with fail
    refine (dread_sep [] [] f 0 16777216 HS3.out hf).mono ?_
    rintro e w4 ⟨rfl, rfl⟩
    rw [HQ.out.2.2.1, HQ.out.2.2.2]
    go_wp2_with fail
    go_loopw [15] (fun i wr => ∃ k : Nat, k ≤ m.length ∧ i = .int .i64 k ∧ Hid (∃ st', Quiet st' f n ∧ Sep w wr [machThing b (12401 + k * 310) st' K])) (fun i _ => m.length - (intOf i).toNat)
    case atStart => exact ⟨0, Nat.zero_le _, rfl, st1, HQ.out.2.1, HS3.out⟩
    case round =>
      obtain ⟨k, hk, rfl, HR⟩ := hrel
      obtain ⟨st', hq, hs⟩ := HR.out
      have HQ' := Lib.hid hq
      have HS := Lib.hid hs
      clear hq hs
      by_cases hlt : k < m.length
      · obtain ⟨bb, off, kv', rfl, c0, c1', c2', c3, c4, hkv, hwf⟩ := H2.out.get HS.out.turns hlt
        obtain ⟨ka', kc', rfl, -⟩ := id hkv
        obtain ⟨x, hx⟩ : ∃ x, x = m[k] := ⟨_, rfl⟩
        have hsz := fewD_act HM.out hlt
        rw [← hx] at c0 c1' c2' c3 c4 hkv hwf hsz
        have HX := Lib.hid (And.intro hx (And.intro hkv hwf)); clear hx hkv hwf
        have hltI : (k : Int) < (m.length : Int) := by omega
        have hand := and7 x.doo
        have hskip : Hid (∃ st', Quiet st' f n ∧ Sep w wr [machThing b (12401 + (k + 1) * 310) st' K]) := ⟨st', HQ'.out, Sep.mach_more [] [] HS.out (by omega) rfl rfl⟩
        by_cases c4' : x.doo % 8 = 4
        · have t1 : decide (x.doo % 8 < 4) = false := decide_eq_false (by omega)
          have t2 : (x.doo % 8 == 4) = true := by simp [c4']
          have HG := Lib.hid (show x.doo % 8 < 4 ∧ x.f ≠ f ∨ x.doo % 8 = 4 from Or.inr c4')
          have HG5 : Hid (doK K x = K) := by show doK K x = K; rw [doK, if_neg (by omega)]
          clear c4' hskip
          go_wp2_with fail
          refine (do_sep [] [] x _ HS.out HX.out.2.1 HX.out.2.2 (by omega) (by omega) (by omega)).mono ?_
          rintro e w5 ⟨rfl, hs5⟩
          have HS5 : Hid (∃ st', Quiet st' f n ∧ Sep w w5 [machThing b (12401 + (k + 1) * 310) st' K]) := ⟨_, HQ'.out.do K x HG.out, Sep.mach_more [] [] hs5 (by omega) rfl HG5.out.symm⟩
          clear hs5
          go_wp2_with fail
          go_roundw
          case rel => exact ⟨k + 1, by omega, by go_num, HS5.out⟩
          case measure => simp [intOf]; omega
        · have t2 : (x.doo % 8 == 4) = false := by simpa using c4'
          by_cases cl : x.doo % 8 < 4
          · have t1 : decide (x.doo % 8 < 4) = true := decide_eq_true cl
            by_cases cf : x.f = f
            · have t3 : (x.f == f) = true := by simp [cf]
              have t4 : (x.f != f) = false := by simp [cf]
              clear cf cl c4'
              go_wp2_with fail
              go_roundw
              case rel => exact ⟨k + 1, by omega, by go_num, hskip.out⟩
              case measure => simp [intOf]; omega
            · have t3 : (x.f == f) = false := by simpa using cf
              have t4 : (x.f != f) = true := by simpa using cf
              have HG := Lib.hid (show x.doo % 8 < 4 ∧ x.f ≠ f ∨ x.doo % 8 = 4 from Or.inl ⟨cl, cf⟩)
              have HG5 : Hid (doK K x = K) := by show doK K x = K; rw [doK, if_neg (by omega)]
              clear c4' hskip cf cl
              go_wp2_with fail
              refine (do_sep [] [] x _ HS.out HX.out.2.1 HX.out.2.2 (by omega) (by omega) (by omega)).mono ?_
              rintro e w5 ⟨rfl, hs5⟩
              have HS5 : Hid (∃ st', Quiet st' f n ∧ Sep w w5 [machThing b (12401 + (k + 1) * 310) st' K]) := ⟨_, HQ'.out.do K x HG.out, Sep.mach_more [] [] hs5 (by omega) rfl HG5.out.symm⟩
              clear hs5
              go_wp2_with fail
              go_roundw
              case rel => exact ⟨k + 1, by omega, by go_num, HS5.out⟩
              case measure => simp [intOf]; omega
          · have t1 : decide (x.doo % 8 < 4) = false := decide_eq_false cl
            clear cl c4'
            go_wp2_with fail
            go_roundw
            case rel => exact ⟨k + 1, by omega, by go_num, hskip.out⟩
            case measure => simp [intOf]; omega
      · have hltI : decide ((k : Int) < (m.length : Int)) = false := decide_eq_false (by omega)
        go_wp2_with fail
        refine (dcrash_sep [] [] _ C HS.out HKV.out (by omega) (by omega)).mono ?_
        rintro e w5 ⟨rfl, hs5⟩
        have HS5 := Lib.hid hs5; clear hs5
        go_wp2_with fail
        refine (dstart_sep [] [] HS5.out).mono ?_
        rintro e w6 ⟨rfl, hs6⟩
        have HS6 := Lib.hid hs6; clear hs6
        go_wp2_with fail
        refine (dread_sep [] [] f 0 16777216 HS6.out hf).mono ?_
        rintro e w7 ⟨rfl, rfl⟩
        obtain ⟨_, f0, f1⟩ := may_zero HQ.out.1
        obtain ⟨r1, r2⟩ := read_whole (st := { crashS st' C with down := false }) (f := f) (may_of rfl f0 f1)
        have e1 : ({ crashS st' C with down := false } : DS).F f = ⟨n, n⟩ := (HQ'.out.crash C).1
        rw [e1] at r2
        dsimp only at r2
        rw [r1, r2]
        clear r1 r2 e1
        go_wp2_with fail
        go_ret
        exact ⟨rfl, HS6.out.turns⟩
  · have hz1 : (syncCode st K f == 0) = false := by simpa using hz
    have hz2 : (syncCode st K f != 0) = true := by simpa using hz
    clear hz
    go_wp2_with fail
    go_ret
    exact ⟨rfl, HS3.out.turns⟩

theorem synced_walk (a1 : Option Addr) (c1 : Nat) (l : List DAct) (f : Int) (a2 : Option Addr) (c2 : Nat) (m : List DAct) (ka : Option Addr) (kc : Nat) (C : List Int) (w : World) (h1 : ActsAt w a1 l) (hl1 : l.length ≤ maxLen) (hf : (Lit.int .i64 f).wf = true)
    (h2 : ActsAt w a2 m) (hl2 : m.length ≤ maxLen) (hk : IntsAt w ka C) :
    Calls Try.prog 9 #[.slice a1 l.length c1, .int .i64 f, .slice a2 m.length c2, .slice ka C.length kc] w fun e w' => e = .returned (.bool true) ∧ Below w.heap.size w w' := by
  have hkv : IntsV w (.slice ka C.length kc) C := ⟨ka, kc, rfl, hk⟩
  by_cases h : fewD l = true ∧ fewD m = true ∧ C.length ≤ 60
  · exact (synced_run a1 a2 c1 c2 l m f _ C w h1 h2 hkv hf h.1 h.2.1 h.2.2).mono fun e w' ⟨e1, e2⟩ => ⟨e1, e2.below (Nat.le_refl _) (by simp)⟩
  · exact (synced_few a1 a2 c1 c2 l m f _ C w h1 h2 hkv hl1 hl2 h).mono fun e w' ⟨e1, e2⟩ => ⟨e1, e2.below (Nat.le_refl _) (by simp)⟩

theorem synced_row (a1 : Option Addr) (c1 : Nat) (l : List DAct) (f : Int) (a2 : Option Addr) (c2 : Nat) (m : List DAct) (ka : Option Addr) (kc : Nat) (C : List Int) (w : World) (h1 : ActsIn w a1 l) (hf : (Lit.int .i64 f).wf = true)
    (h2 : ActsIn w a2 m) (hk : IntsIn w ka C) :
    Calls Try.prog 9 #[.slice a1 l.length c1, .int .i64 f, .slice a2 m.length c2, .slice ka C.length kc] w fun e w' => e = .returned (.bool true) ∧ Below w.heap.size w w' :=
  synced_walk a1 c1 l f a2 c2 m ka kc C w h1.2 h1.1 hf h2.2 h2.1 hk.2

end Go.Proofs.Ytmikjninonpejaa
