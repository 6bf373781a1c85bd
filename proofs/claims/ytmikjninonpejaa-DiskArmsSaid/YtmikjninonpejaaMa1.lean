/- Contracts and lemmas (texts DoG, PureE, PureF, PureG, DoK, DoL, joined by a program). -/
import Derived.Test.YtmikjninonpejaaMb13
import Derived.BigQuiet
import Derived.Deep.QuietTactic
/- Statements about the disk: DiskSynced, the walk. -/
namespace Go.Proofs.Ytmikjninonpejaa
open Go.RowKit Go.Proofs.YtmikjninonpejaaMem Go.Maps

theorem ActsAt.get {w0 w : World} {a : Option Addr} {l : List DAct} (h : ActsAt w0 a l) (ht : Turns [] w0 w) {i : Nat} (hi : i < l.length) :
    ∃ b off kv, a = some ⟨b, off, none⟩ ∧ w.cell? ⟨b, off + i * 5, none⟩ = some (.int .i64 l[i].doo) ∧ w.cell? ⟨b, off + i * 5 + 1, none⟩ = some (.int .i64 l[i].f) ∧
    w.cell? ⟨b, off + i * 5 + 2, none⟩ = some (.int .i64 l[i].n) ∧ w.cell? ⟨b, off + i * 5 + 3, none⟩ = some (.string l[i].s) ∧ w.cell? ⟨b, off + i * 5 + 4, none⟩ = some kv ∧ IntsV w0 kv l[i].keep ∧ l[i].wf := by
  obtain ⟨hw, b, off, kv, rfl, h0, h1, h2, h3, h4, hk⟩ := h i hi
  exact ⟨b, off, kv, rfl, (ht.cell (World.block_lt_of_cell? _ _ h0) (by simp)).trans h0, (ht.cell (World.block_lt_of_cell? _ _ h1) (by simp)).trans h1, (ht.cell (World.block_lt_of_cell? _ _ h2) (by simp)).trans h2,
    (ht.cell (World.block_lt_of_cell? _ _ h3) (by simp)).trans h3, (ht.cell (World.block_lt_of_cell? _ _ h4) (by simp)).trans h4, hk, hw⟩
theorem Sep.mach_more {w0 w : World} {b B C : Nat} {st st' : DS} {K K' : List Int} (pre post : List Thing) (h : Sep w0 w (pre ++ machThing b B st K :: post)) (hm : B ≤ C) (e1 : st' = st) (e2 : K' = K) : Sep w0 w (pre ++ machThing b C st' K' :: post) := by
  subst e1 e2
  obtain ⟨FP, hM, _, step⟩ := h.pick pre _ post
  refine step w FP (machThing b C _ _) (Evolves.of_same (Turns.refl _ _)) ?_
  obtain ⟨kv, FP0, q1, q2, q3, q4⟩ := hM
  exact ⟨kv, FP0, q1.more hm, q2, q3, q4⟩

set_option maxHeartbeats 6400000 in
set_option maxRecDepth 100000 in
theorem synced_few (a1 a2 : Option Addr) (c1 c2 : Nat) (l m : List DAct) (f : Int) (kv : Value) (C : List Int) (w : World) (h1 : ActsAt w a1 l) (h2 : ActsAt w a2 m) (hk : IntsV w kv C)
    (hl1 : l.length ≤ maxLen) (hl2 : m.length ≤ maxLen) (hno : ¬ (fewD l = true ∧ fewD m = true ∧ C.length ≤ 60)) :
    Calls Try.prog 9 #[.slice a1 l.length c1, .int .i64 f, .slice a2 m.length c2, kv] w fun e w' => e = .returned (.bool true) ∧ Turns [] w w' := by
  have H1 := Lib.hid h1; clear h1
  have H2 := Lib.hid h2; clear h2
  obtain ⟨ka, kc, rfl, -⟩ := hk
  cases hfl : fewD l
  · have HL := Lib.hid hfl; clear hfl hno
    go_enter Try.func9, Try.ntmps9
    go_wp2_with fail
    refine (small_disk _).mono ?_
    rintro e w1 ⟨rfl, ht1⟩
    have HT := Lib.hid ht1; clear ht1
    go_wp2_with fail
    refine (few_acts a1 c1 l _ (H1.out.kept HT.out) hl1).mono ?_
    rintro e w2 ⟨rfl, rfl⟩
    rw [HL.out]
    go_wp2_with fail
    go_ret
    exact ⟨rfl, HT.out⟩
  · cases hfm : fewD m
    · have HL := Lib.hid hfl
      have HM := Lib.hid hfm
      clear hfl hfm hno
      go_enter Try.func9, Try.ntmps9
      go_wp2_with fail
      refine (small_disk _).mono ?_
      rintro e w1 ⟨rfl, ht1⟩
      have HT := Lib.hid ht1; clear ht1
      go_wp2_with fail
      refine (few_acts a1 c1 l _ (H1.out.kept HT.out) hl1).mono ?_
      rintro e w2 ⟨rfl, rfl⟩
      rw [HL.out]
      go_wp2_with fail
      refine (few_acts a2 c2 m _ (H2.out.kept HT.out) hl2).mono ?_
      rintro e w2 ⟨rfl, rfl⟩
      rw [HM.out]
      go_wp2_with fail
      go_ret
      exact ⟨rfl, HT.out⟩
    · have hC : decide ((60 : Int) < (C.length : Int)) = true := decide_eq_true (by
        have : ¬ C.length ≤ 60 := fun h => hno ⟨hfl, hfm, h⟩
        omega)
      have HL := Lib.hid hfl
      have HM := Lib.hid hfm
      clear hfl hfm hno
      go_enter Try.func9, Try.ntmps9
      go_wp2_with fail
      refine (small_disk _).mono ?_
      rintro e w1 ⟨rfl, ht1⟩
      have HT := Lib.hid ht1; clear ht1
      go_wp2_with fail
      refine (few_acts a1 c1 l _ (H1.out.kept HT.out) hl1).mono ?_
      rintro e w2 ⟨rfl, rfl⟩
      rw [HL.out]
      go_wp2_with fail
      refine (few_acts a2 c2 m _ (H2.out.kept HT.out) hl2).mono ?_
      rintro e w2 ⟨rfl, rfl⟩
      rw [HM.out]
      go_wp2_with fail
      go_ret
      exact ⟨rfl, HT.out⟩

set_option maxHeartbeats 6400000 in
set_option maxRecDepth 100000 in
theorem synced_run (a1 a2 : Option Addr) (c1 c2 : Nat) (l m : List DAct) (f : Int) (kv : Value) (C : List Int) (w : World) (h1 : ActsAt w a1 l) (h2 : ActsAt w a2 m) (hk : IntsV w kv C) (hf : (Lit.int .i64 f).wf = true)
    (hfl : fewD l = true) (hfm : fewD m = true) (hC : C.length ≤ 60) :
    Calls Try.prog 9 #[.slice a1 l.length c1, .int .i64 f, .slice a2 m.length c2, kv] w fun e w' => e = .returned (.bool true) ∧ Turns [] w w' := by
  have H1 := Lib.hid h1; clear h1
  have H2 := Lib.hid h2; clear h2
  have HKV := Lib.hid hk
  obtain ⟨ka, kc, rfl, -⟩ := hk
  have HL := Lib.hid hfl; clear hfl
  have HM := Lib.hid hfm; clear hfm
  have hll := fewD_len HL.out
  have hml := fewD_len HM.out
  have hd60 : decide ((60 : Int) < (C.length : Int)) = false := decide_eq_false (by omega)
  have hkk := playTo_keep HL.out DS.new [] (by simp) l.length (Nat.le_refl _)
  go_enter Try.func9, Try.ntmps9
  go_wp2_with fail
  refine (small_disk _).mono ?_
  rintro e w1 ⟨rfl, ht1⟩
  have HT := Lib.hid ht1; clear ht1
  go_wp2_with fail
  refine (few_acts a1 c1 l _ (H1.out.kept HT.out) (by unfold maxLen; omega)).mono ?_
  rintro e w2 ⟨rfl, rfl⟩
  rw [HL.out]
  go_wp2_with fail
  refine (few_acts a2 c2 m _ (H2.out.kept HT.out) (by unfold maxLen; omega)).mono ?_
  rintro e w2 ⟨rfl, rfl⟩
  rw [HM.out]
  go_wp2_with fail
  refine (played_any [] a1 c1 l _ ((Sep.start w).quiet HT.out) H1.out HL.out).mono ?_
  rintro e w2 ⟨b, rfl, hs2⟩
  generalize (playTo DS.new [] l l.length).1 = st at hs2
  generalize (playTo DS.new [] l l.length).2 = K at hs2 hkk
  have HS2 := Lib.hid (Sep.mach_more (C := 12400) [] [] hs2 (by omega) rfl rfl); clear hs2
  go_wp2_with fail
  refine (dread_sep [] [] f 0 16777216 HS2.out hf).mono ?_
  rintro e w3 ⟨rfl, rfl⟩
  go_wp2_with fail
  refine (dsync_sep [] [] f HS2.out hf (by omega) (by omega)).mono ?_
  rintro e w3 ⟨rfl, hs3⟩
  have HS3 := Lib.hid hs3; clear hs3
  by_cases hz : syncCode st K f = 0
  · obtain ⟨q1, q2, q3⟩ := sync_ok hz
    obtain ⟨r1, r2⟩ := read_whole q1
    obtain ⟨r3, r4⟩ := read_whole q2
    rw [q3.1] at r4
    dsimp only at r4
    rw [hz, r2]
    have HQ := Lib.hid (And.intro q2 (And.intro q3 (And.intro r3 r4)))
    clear q1 q2 q3 r1 r2 r3 r4 hz
    generalize syncS st K f = st1 at HS3 HQ
    generalize (st.F f).now = n at HQ ⊢
    clear HS2
    go_wp2_with fail
    refine (dread_sep [] [] f 0 16777216 HS3.out hf).mono ?_
    rintro e w4 ⟨rfl, rfl⟩
    rw [HQ.out.2.2.1, HQ.out.2.2.2]
    go_wp2_with fail
    go_loopw [15] (fun i wr => ∃ k : Nat, k ≤ m.length ∧ i = .int .i64 k ∧ Hid (∃ st', Quiet st' f n ∧ Sep w wr [machThing b (12401 + k * 310) st' K])) (fun i _ => m.length - (intOf i).toNat)
    case atStart => exact ⟨0, Nat.zero_le _, rfl, st1, HQ.out.2.1, HS3.out⟩
    case round =>
      obtain ⟨k, hk, rfl, HR⟩ := hrel
      obtain ⟨st', hq, hs⟩ := HR.out
      have HQ' := Lib.hid hq
      have HS := Lib.hid hs
      clear hq hs
      by_cases hlt : k < m.length
      · obtain ⟨bb, off, kv', rfl, c0, c1', c2', c3, c4, hkv, hwf⟩ := H2.out.get HS.out.turns hlt
        obtain ⟨ka', kc', rfl, -⟩ := id hkv
        obtain ⟨x, hx⟩ : ∃ x, x = m[k] := ⟨_, rfl⟩
        have hsz := fewD_act HM.out hlt
        rw [← hx] at c0 c1' c2' c3 c4 hkv hwf hsz
        have HX := Lib.hid (And.intro hx (And.intro hkv hwf)); clear hx hkv hwf
        have hltI : (k : Int) < (m.length : Int) := by omega
        have hand := and7 x.doo
        have hskip : Hid (∃ st', Quiet st' f n ∧ Sep w wr [machThing b (12401 + (k + 1) * 310) st' K]) := ⟨st', HQ'.out, Sep.mach_more [] [] HS.out (by omega) rfl rfl⟩
        by_cases c4' : x.doo % 8 = 4
        · have t1 : decide (x.doo % 8 < 4) = false := decide_eq_false (by omega)
          have t2 : (x.doo % 8 == 4) = true := by simp [c4']
          have HG := Lib.hid (show x.doo % 8 < 4 ∧ x.f ≠ f ∨ x.doo % 8 = 4 from Or.inr c4')
          have HG5 : Hid (doK K x = K) := by show doK K x = K; rw [doK, if_neg (by omega)]
          clear c4' hskip
          go_wp2_with fail
          refine (do_sep [] [] x _ HS.out HX.out.2.1 HX.out.2.2 (by omega) (by omega) (by omega)).mono ?_
          rintro e w5 ⟨rfl, hs5⟩
          have HS5 : Hid (∃ st', Quiet st' f n ∧ Sep w w5 [machThing b (12401 + (k + 1) * 310) st' K]) := ⟨_, HQ'.out.do K x HG.out, Sep.mach_more [] [] hs5 (by omega) rfl HG5.out.symm⟩
          clear hs5
          go_wp2_with fail
          go_roundw
          case rel => exact ⟨k + 1, by omega, by go_num, HS5.out⟩
          case measure => simp [intOf]; omega
        · have t2 : (x.doo % 8 == 4) = false := by simpa using c4'
          by_cases cl : x.doo % 8 < 4
          · have t1 : decide (x.doo % 8 < 4) = true := decide_eq_true cl
            by_cases cf : x.f = f
            · have t3 : (x.f == f) = true := by simp [cf]
              have t4 : (x.f != f) = false := by simp [cf]
              clear cf cl c4'
              go_wp2_with fail
              go_roundw
              case rel => exact ⟨k + 1, by omega, by go_num, hskip.out⟩
              case measure => simp [intOf]; omega
            · have t3 : (x.f == f) = false := by simpa using cf
              have t4 : (x.f != f) = true := by simpa using cf
              have HG := Lib.hid (show x.doo % 8 < 4 ∧ x.f ≠ f ∨ x.doo % 8 = 4 from Or.inl ⟨cl, cf⟩)
              have HG5 : Hid (doK K x = K) := by show doK K x = K; rw [doK, if_neg (by omega)]
              clear c4' hskip cf cl
              go_wp2_with fail
              refine (do_sep [] [] x _ HS.out HX.out.2.1 HX.out.2.2 (by omega) (by omega) (by omega)).mono ?_
              rintro e w5 ⟨rfl, hs5⟩
              have HS5 : Hid (∃ st', Quiet st' f n ∧ Sep w w5 [machThing b (12401 + (k + 1) * 310) st' K]) := ⟨_, HQ'.out.do K x HG.out, Sep.mach_more [] [] hs5 (by omega) rfl HG5.out.symm⟩
              clear hs5
              go_wp2_with fail
              go_roundw
              case rel => exact ⟨k + 1, by omega, by go_num, HS5.out⟩
              case measure => simp [intOf]; omega
          · have t1 : decide (x.doo % 8 < 4) = false := decide_eq_false cl
            clear cl c4'
            go_wp2_with fail
            go_roundw
            case rel => exact ⟨k + 1, by omega, by go_num, hskip.out⟩
            case measure => simp [intOf]; omega
      · have hltI : decide ((k : Int) < (m.length : Int)) = false := decide_eq_false (by omega)
        go_wp2_with fail
        refine (dcrash_sep [] [] _ C HS.out HKV.out (by omega) (by omega)).mono ?_
        rintro e w5 ⟨rfl, hs5⟩
        have HS5 := Lib.hid hs5; clear hs5
        go_wp2_with fail
        refine (dstart_sep [] [] HS5.out).mono ?_
        rintro e w6 ⟨rfl, hs6⟩
        have HS6 := Lib.hid hs6; clear hs6
        go_wp2_with fail
        refine (dread_sep [] [] f 0 16777216 HS6.out hf).mono ?_
        rintro e w7 ⟨rfl, rfl⟩
        obtain ⟨_, f0, f1⟩ := may_zero HQ.out.1
        obtain ⟨r1, r2⟩ := read_whole (st := { crashS st' C with down := false }) (f := f) (may_of rfl f0 f1)
        have e1 : ({ crashS st' C with down := false } : DS).F f = ⟨n, n⟩ := (HQ'.out.crash C).1
        rw [e1] at r2
        dsimp only at r2
        rw [r1, r2]
        clear r1 r2 e1
        go_wp2_with fail
        go_ret
        exact ⟨rfl, HS6.out.turns⟩
  · have hz1 : (syncCode st K f == 0) = false := by simpa using hz
    have hz2 : (syncCode st K f != 0) = true := by simpa using hz
    clear hz
    go_wp2_with fail
    go_ret
    exact ⟨rfl, HS3.out.turns⟩

theorem synced_walk (a1 : Option Addr) (c1 : Nat) (l : List DAct) (f : Int) (a2 : Option Addr) (c2 : Nat) (m : List DAct) (ka : Option Addr) (kc : Nat) (C : List Int) (w : World) (h1 : ActsAt w a1 l) (hl1 : l.length ≤ maxLen) (hf : (Lit.int .i64 f).wf = true)
    (h2 : ActsAt w a2 m) (hl2 : m.length ≤ maxLen) (hk : IntsAt w ka C) :
    Calls Try.prog 9 #[.slice a1 l.length c1, .int .i64 f, .slice a2 m.length c2, .slice ka C.length kc] w fun e w' => e = .returned (.bool true) ∧ Below w.heap.size w w' := by
  have hkv : IntsV w (.slice ka C.length kc) C := ⟨ka, kc, rfl, hk⟩
  by_cases h : fewD l = true ∧ fewD m = true ∧ C.length ≤ 60
  · exact (synced_run a1 a2 c1 c2 l m f _ C w h1 h2 hkv hf h.1 h.2.1 h.2.2).mono fun e w' ⟨e1, e2⟩ => ⟨e1, e2.below (Nat.le_refl _) (by simp)⟩
  · exact (synced_few a1 a2 c1 c2 l m f _ C w h1 h2 hkv hl1 hl2 h).mono fun e w' ⟨e1, e2⟩ => ⟨e1, e2.below (Nat.le_refl _) (by simp)⟩

theorem synced_row (a1 : Option Addr) (c1 : Nat) (l : List DAct) (f : Int) (a2 : Option Addr) (c2 : Nat) (m : List DAct) (ka : Option Addr) (kc : Nat) (C : List Int) (w : World) (h1 : ActsIn w a1 l) (hf : (Lit.int .i64 f).wf = true)
    (h2 : ActsIn w a2 m) (hk : IntsIn w ka C) :
    Calls Try.prog 9 #[.slice a1 l.length c1, .int .i64 f, .slice a2 m.length c2, .slice ka C.length kc] w fun e w' => e = .returned (.bool true) ∧ Below w.heap.size w w' :=
  synced_walk a1 c1 l f a2 c2 m ka kc C w h1.2 h1.1 hf h2.2 h2.1 hk.2

end Go.Proofs.Ytmikjninonpejaa

/- Plain: what is written is read again. No program in sight. -/
namespace Go.Proofs.Ytmikjninonpejaa

theorem read_part {st : DS} {f : Int} (h : mayCode st f = 0) (a z : Nat) : readCode st f (a : Int) (z : Int) = 0 ∧ readStr st f (a : Int) (z : Int) = (st.F f).now.extract a (a + z) := by
  have e : readCode st f (a : Int) (z : Int) = 0 := by rw [readCode, if_pos h, if_neg (by omega)]
  refine ⟨e, ?_⟩
  rw [readStr, if_pos e]
  simp
theorem extract_full (s : ByteArray) : s.extract 0 s.size = s := bytes_ext (by rw [extract_size]; omega) (fun i hi => by
  rw [extract_size] at hi
  rw [extract_at, if_pos (by omega)]; congr 1; omega)
theorem extract_most (s : ByteArray) (z : Nat) (h : s.size ≤ z) : s.extract 0 z = s := bytes_ext (by rw [extract_size]; omega) (fun i hi => by
  rw [extract_size] at hi
  rw [extract_at, if_pos (by omega)]; congr 1; omega)
theorem put_read (s : ByteArray) (a : Nat) (t : ByteArray) (ht : 0 < t.size) : (putB s a t).extract a (a + t.size) = t := by
  have hs := putB_size s a t
  rw [if_neg (by omega)] at hs
  refine bytes_ext (by rw [extract_size, hs]; omega) (fun i hi => ?_)
  rw [extract_size, hs] at hi
  rw [extract_at, if_pos (by omega), putB_at, if_pos (by omega)]
  congr 1
  omega
theorem part_of (s : ByteArray) (a z fr m : Nat) (h1 : fr = min a s.size) (h2 : m = min z (s.size - fr)) : s.extract a (a + z) = s.extract fr (fr + m) := by
  refine bytes_ext (by rw [extract_size, extract_size]; omega) (fun i hi => ?_)
  rw [extract_size] at hi
  rw [extract_at, extract_at, if_pos (by omega), if_pos (by omega)]
  congr 1
  omega

/-- A disk that is not armed. -/
theorem idle_ends {st : DS} (h : st.armed = 0) : endsB st = false ∧ endsS st = st := by simp [endsB, endsS, h]
theorem idle_write {st : DS} (h : st.armed = 0) (K : List Int) (f a : Int) (s : ByteArray) : writeCode st f a s = wrCode st f a s ∧ writeS st K f a s = wrS st f a s := by
  obtain ⟨h1, h2⟩ := idle_ends h
  simp [writeCode, writeS, h1, h2]
theorem reads_no {st : DS} (h : st.armed = 0) {f : Int} (hm : mayCode st f ≠ 0) (a : Int) (s : ByteArray) : writeCode st f a s = mayCode st f := by
  rw [(idle_write h [] f a s).1, wrCode, if_pos hm]
/-- Behind the write. -/
structure Wrote (x : DS) (f : Int) (n : Nat) (s : ByteArray) : Prop where
  may : mayCode x f = 0
  armed : x.armed = 0
  size : (x.F f).now.size ≤ 16777216
  str : (x.F f).now.extract n (n + s.size) = s
theorem reads_yes {st : DS} (hI : DInv st) (h : st.armed = 0) {f : Int} (hm : mayCode st f = 0) (n : Nat) (hn : n ≤ 3000) (s : ByteArray) (hs : s.size ≤ 300) (K : List Int) :
    writeCode st f n s = 0 ∧ Wrote (writeS st K f n s) f n s := by
  have e1 : wrCode st f (n : Int) s = 0 := by rw [wrCode, if_neg (by simp [hm]), if_neg (by omega), if_neg (by omega)]
  rw [(idle_write h K f n s).1, (idle_write h K f n s).2]
  refine ⟨e1, ?_, ?_, ((hI.wr f n s).size f).2, ?_⟩
  · unfold wrS; split <;> exact hm
  · unfold wrS; split <;> exact h
  · by_cases h0 : 0 < s.size
    · rw [wrS, if_pos ⟨e1, h0⟩]
      simp only [updF_same, Int.toNat_natCast]
      exact put_read _ _ _ h0
    · rw [wrS, if_neg (by omega)]
      exact bytes_ext (by rw [extract_size]; omega) (fun i hi => by rw [extract_size] at hi; omega)
theorem reads_cut {x : DS} {f : Int} {n : Nat} {s : ByteArray} (h : Wrote x f n s) (fr : Nat) (hfr : fr ≤ (x.F f).now.size) (K C : List Int) :
    truncCode x K f fr = 0 ∧ readCode { crashS (truncS x K f fr) C with down := false } f 0 16777216 = 0 ∧ readStr { crashS (truncS x K f fr) C with down := false } f 0 16777216 = (x.F f).now.extract 0 fr := by
  obtain ⟨h1, h2⟩ := idle_ends h.armed
  have he : endS x K = x := by simp [endS, h1, h2]
  have hz := h.size
  obtain ⟨hd, f0, f1⟩ := may_zero h.may
  have hc : truncCode x K f fr = 0 := by rw [truncCode, he, if_neg (by simp [h.may]), if_neg (by omega)]
  have ht : truncS x K f fr = settleS x f ((x.F f).now.extract 0 fr) := by
    unfold truncS
    simp only [he]
    rw [if_neg (by simp [h.may]), if_neg (by omega)]
    simp
  have hq : Quiet (truncS x K f fr) f ((x.F f).now.extract 0 fr) := by
    rw [ht]
    refine ⟨by simp only [settleS]; rw [updF_same], fun p hp => ?_⟩
    have := (List.mem_filter.1 hp).2
    simpa using this
  have hq2 := hq.crash C
  obtain ⟨r1, r2⟩ := read_whole (st := { crashS (truncS x K f fr) C with down := false }) (f := f) (may_of rfl f0 f1)
  refine ⟨hc, r1, ?_⟩
  rw [r2]
  show ((crashS (truncS x K f fr) C).F f).now.extract 0 16777216 = _
  rw [hq2.1]
  exact extract_most _ _ (by rw [extract_size]; omega)

end Go.Proofs.Ytmikjninonpejaa

/- Plain: what survives a crash. No program in sight. -/
namespace Go.Proofs.Ytmikjninonpejaa

def afterS (st : DS) (C : List Int) : DS := { crashS st C with down := false }
/-- The file behind a crash. -/
def afterB (st : DS) (f : Int) (C : List Int) : ByteArray := (crashTo C st.Q st.F st.Q.length f).last
theorem after_left {st : DS} (hI : DInv st) (f : Int) (C : List Int) : Left (st.F f) (crashTo C st.Q st.F st.Q.length f) (fun n => sv C st.Q f n st.Q.length) :=
  left_to C st.Q st.F f (fun p hp => (hI.secs p hp).2.2.1) _ (Nat.le_refl _)
theorem after_read {st : DS} (hI : DInv st) (hd : st.down = false) {f : Int} (hf : 0 ≤ f ∧ f < 16) (C : List Int) :
    readCode (afterS st C) f 0 16777216 = 0 ∧ readStr (afterS st C) f 0 16777216 = afterB st f C := by
  obtain ⟨r1, r2⟩ := read_whole (st := afterS st C) (f := f) (may_of rfl hf.1 hf.2)
  refine ⟨r1, ?_⟩
  rw [r2]
  have e : (afterS st C).F f = ⟨afterB st f C, afterB st f C⟩ := by simp [afterS, crashS, hd, lastF, afterB]
  rw [e]
  have h1 := (after_left hI f C).hi
  have h2 := hI.size f
  exact extract_most _ _ (by show (crashTo C st.Q st.F st.Q.length f).last.size ≤ _; omega)
theorem after_nil (st : DS) (f : Int) : afterB st f [] = (st.F f).last := by rw [afterB, crashTo_nil]
theorem after_all {st : DS} (hI : DInv st) (f : Int) : afterB st f [1] = (st.F f).now := by
  have h := after_left hI f [1]
  have h2 := hI.size f
  have hsv : ∀ n : Nat, (f, (n : Int)) ∈ st.Q → sv [1] st.Q f n st.Q.length = true := fun n hn => by
    obtain ⟨j, hj, e⟩ := List.getElem_of_mem hn
    exact sv_all surv_one (Nat.le_refl _) j hj (by rw [List.getElem?_eq_getElem hj, e])
  have hsz : (afterB st f [1]).size = (st.F f).now.size := by
    have h3 := h.hi
    have h4 := h.lo
    unfold afterB
    by_cases ht : (st.F f).last.size < (st.F f).now.size
    · have h5 := h.end' _ (hsv _ (hI.tail f ht)) (by omega)
      omega
    · omega
  refine bytes_ext hsz (fun i hi => ?_)
  unfold afterB
  rw [h.at' i]
  by_cases hs : sv [1] st.Q f (i / 64) st.Q.length = true
  · rw [if_pos ⟨hs, by omega⟩]
  · rw [if_neg (fun hh => hs hh.1)]
    rcases hI.cont f i (by omega) with h5 | h5
    · exact absurd (hsv _ h5) hs
    · exact h5
/-- What the statement asks of the file behind a crash. -/
structure Torn (N L R : ByteArray) : Prop where
  lo : L.size ≤ R.size
  hi : R.size ≤ N.size
  secs : ∀ n, (∀ i, i < R.size → i / 64 = n → byteA R i = byteA N i) ∨ (∀ i, i < R.size → i / 64 = n → byteA R i = byteA L i)
theorem after_torn {st : DS} (hI : DInv st) (f : Int) (C : List Int) : Torn (st.F f).now (st.F f).last (afterB st f C) := by
  have h := after_left hI f C
  have h2 := hI.size f
  refine ⟨h.lo, by have := h.hi; show (crashTo C st.Q st.F st.Q.length f).last.size ≤ _; omega, fun n => ?_⟩
  by_cases hs : sv C st.Q f n st.Q.length = true
  · left
    intro i hi hn
    have h3 : i < (st.F f).now.size := by
      have := h.hi
      have h4 : i < (crashTo C st.Q st.F st.Q.length f).last.size := hi
      omega
    show byteA (crashTo C st.Q st.F st.Q.length f).last i = _
    rw [h.at' i, hn, if_pos ⟨hs, h3⟩]
  · right
    intro i hi hn
    show byteA (crashTo C st.Q st.F st.Q.length f).last i = _
    rw [h.at' i, hn, if_neg (fun hh => hs hh.1)]
theorem byteA_get {s : ByteArray} {i : Nat} (h : i < s.size) : byteA s i = s[i] := by
  unfold byteA
  rw [Array.getElem?_eq_getElem h]
  rfl

end Go.Proofs.Ytmikjninonpejaa

/- Plain: a scheduled crash. No program in sight. -/
namespace Go.Proofs.Ytmikjninonpejaa

def arm (st : DS) (m : Int) : DS := { st with armed := m }
theorem may_arm (st : DS) (m f : Int) : mayCode (arm st m) f = mayCode st f := rfl
theorem wrCode_arm (st : DS) (m f a : Int) (s : ByteArray) : wrCode (arm st m) f a s = wrCode st f a s := rfl
theorem wrS_arm (st : DS) (m f a : Int) (s : ByteArray) : wrS (arm st m) f a s = arm (wrS st f a s) m := by
  unfold wrS
  rw [wrCode_arm]
  split <;> rfl
theorem settleS_arm (st : DS) (m f : Int) (s : ByteArray) : settleS (arm st m) f s = arm (settleS st f s) m := rfl
theorem crash_arm {st : DS} (h : st.down = false) (m : Int) (C : List Int) : crashS (arm st m) C = crashS st C := by
  have e : (arm st m).down = false := h
  unfold crashS
  rw [e, h]
  rfl
theorem ends_arm {st : DS} (h : st.down = false) {m : Int} (hm : 1 ≤ m) : endsB (arm st m) = (m == 1) ∧ endsS (arm st m) = arm st (m - 1) := by
  have e : (arm st m).down = false := h
  refine ⟨by unfold endsB; rw [e]; simp [arm], ?_⟩
  unfold endsS
  rw [if_neg (by rw [e]; simp [arm]; omega)]
  rfl

/-- Ahead of the crash: the armed disk st and the other. -/
def Near (m : Int) (st st' : DS) : Prop := st = arm st' m ∧ st'.down = false ∧ st'.armed = 0
/-- Behind it. -/
def Fell (st st' : DS) : Prop := st.F = st'.F ∧ st.down = true ∧ st'.down = true

theorem idle_end {st : DS} (h : st.armed = 0) (K : List Int) : endS st K = st := by
  obtain ⟨h1, h2⟩ := idle_ends h
  simp [endS, h1, h2]
theorem wrS_down (st : DS) (f a : Int) (s : ByteArray) : (wrS st f a s).down = st.down ∧ (wrS st f a s).armed = st.armed := by
  unfold wrS; split <;> exact ⟨rfl, rfl⟩

/-- Lose: at any time. -/
theorem near_lose {m : Int} {st st' : DS} (h : Near m st st') (C : List Int) (a : DAct) (ha : a.doo % 8 = 4) : doC st C a = doC st' [] a ∧ Near m (doS st C a) (doS st' [] a) := by
  obtain ⟨rfl, h1, h2⟩ := h
  refine ⟨by simp [doC, ha], ?_⟩
  have e1 : ∀ (x : DS) (K : List Int), doS x K a = { x with lost := max (a.n % 4) 0 } := fun x K => by simp [doS, ha]
  rw [e1, e1]
  exact ⟨rfl, h1, h2⟩
/-- A call ahead of the one in which the crash happens. -/
theorem near_call {m : Int} {st st' : DS} (h : Near m st st') (hm : 2 ≤ m) (C : List Int) (a : DAct) (ha : a.doo % 8 < 4) : doC st C a = doC st' [] a ∧ Near (m - 1) (doS st C a) (doS st' [] a) := by
  obtain ⟨rfl, h1, h2⟩ := h
  obtain ⟨e1, e2⟩ := ends_arm h1 (m := m) (by omega)
  have e1' : endsB (arm st' m) = false := by rw [e1]; simp; omega
  have hE : endS (arm st' m) C = arm st' (m - 1) := by simp [endS, e1', e2]
  have hE' := idle_end h2 []
  obtain ⟨i1, i2⟩ := idle_ends h2
  by_cases k2 : a.doo % 8 = 2
  · have d1 : ∀ (x : DS) (K : List Int), doS x K a = syncS x K a.f ∧ doC x K a = syncCode x K a.f := fun x K => ⟨by simp [doS, k2], by simp [doC, k2]⟩
    rw [(d1 _ _).1, (d1 _ _).2, (d1 _ _).1, (d1 _ _).2]
    unfold syncCode syncS
    simp only [hE, hE', may_arm]
    refine ⟨rfl, ?_⟩
    show Near (m - 1) (if mayCode st' a.f ≠ 0 then arm st' (m - 1) else if 0 < st'.lost then _ else settleS (arm st' (m - 1)) a.f (st'.F a.f).now) _
    split
    · exact ⟨rfl, h1, h2⟩
    split
    · exact ⟨rfl, h1, h2⟩
    · exact ⟨rfl, h1, h2⟩
  by_cases k3 : a.doo % 8 = 3
  · have d1 : ∀ (x : DS) (K : List Int), doS x K a = truncS x K a.f a.n ∧ doC x K a = truncCode x K a.f a.n := fun x K => ⟨by simp [doS, k3], by simp [doC, k3]⟩
    rw [(d1 _ _).1, (d1 _ _).2, (d1 _ _).1, (d1 _ _).2]
    unfold truncCode truncS
    simp only [hE, hE', may_arm]
    refine ⟨rfl, ?_⟩
    show Near (m - 1) (if mayCode st' a.f ≠ 0 then arm st' (m - 1) else if a.n < 0 ∨ ((st'.F a.f).now.size : Int) < a.n then arm st' (m - 1) else settleS (arm st' (m - 1)) a.f ((st'.F a.f).now.extract 0 a.n.toNat)) _
    split
    · exact ⟨rfl, h1, h2⟩
    split
    · exact ⟨rfl, h1, h2⟩
    · exact ⟨rfl, h1, h2⟩
  · have d1 : ∀ (x : DS) (K : List Int), doS x K a = writeS x K a.f a.n a.s ∧ doC x K a = writeCode x a.f a.n a.s := fun x K => by
      constructor
      · rw [doS, if_neg k2, if_neg k3, if_neg (by omega), if_neg (by omega), if_neg (by omega), if_neg (by omega)]
      · rw [doC, if_neg k2, if_neg k3, if_neg (by omega), if_neg (by omega), if_neg (by omega), if_neg (by omega)]
    rw [(d1 _ _).1, (d1 _ _).2, (d1 _ _).1, (d1 _ _).2]
    unfold writeCode writeS
    simp only [e1', e2, i1, i2, Bool.false_eq_true, if_false, wrCode_arm, wrS_arm]
    refine ⟨trivial, rfl, ?_, ?_⟩
    · rw [(wrS_down _ _ _ _).1]; exact h1
    · rw [(wrS_down _ _ _ _).2]; exact h2
theorem fell_crash {x : DS} (h : x.down = false) (C : List Int) : (crashS x C).down = true := by simp [crashS, h]
/-- The call in which it happens: a Write. -/
theorem near_write {st st' : DS} (h : Near 1 st st') (C : List Int) (a : DAct) (ha : a.doo % 8 < 2) : doC st C a = 9 ∧ Fell (doS st C a) (crashS (doS st' [] a) C) := by
  obtain ⟨rfl, h1, h2⟩ := h
  obtain ⟨e1, e2⟩ := ends_arm h1 (m := 1) (by omega)
  have e1' : endsB (arm st' 1) = true := by rw [e1]; rfl
  obtain ⟨i1, i2⟩ := idle_ends h2
  have d1 : ∀ (x : DS) (K : List Int), doS x K a = writeS x K a.f a.n a.s ∧ doC x K a = writeCode x a.f a.n a.s := fun x K => by
    constructor
    · rw [doS, if_neg (by omega), if_neg (by omega), if_neg (by omega), if_neg (by omega), if_neg (by omega), if_neg (by omega)]
    · rw [doC, if_neg (by omega), if_neg (by omega), if_neg (by omega), if_neg (by omega), if_neg (by omega), if_neg (by omega)]
  rw [(d1 _ _).1, (d1 _ _).2, (d1 _ _).1]
  have hw : (wrS st' a.f a.n a.s).down = false := by rw [(wrS_down _ _ _ _).1]; exact h1
  have e3 : writeS (arm st' 1) C a.f a.n a.s = crashS (wrS st' a.f a.n a.s) C := by
    rw [writeS, if_pos e1', e2, wrS_arm, crash_arm hw]
  have e4 : writeS st' [] a.f a.n a.s = wrS st' a.f a.n a.s := (idle_write h2 [] _ _ _).2
  rw [e3, e4]
  exact ⟨by rw [writeCode, if_pos e1'], rfl, fell_crash hw C, fell_crash hw C⟩
/-- .. another call. -/
theorem near_other {st st' : DS} (h : Near 1 st st') (C : List Int) (a : DAct) (ha : a.doo % 8 = 2 ∨ a.doo % 8 = 3) : doC st C a = 9 ∧ Fell (doS st C a) (crashS st' C) := by
  obtain ⟨rfl, h1, h2⟩ := h
  obtain ⟨e1, e2⟩ := ends_arm h1 (m := 1) (by omega)
  have e1' : endsB (arm st' 1) = true := by rw [e1]; rfl
  have hE : endS (arm st' 1) C = crashS st' C := by rw [endS, if_pos e1', e2, crash_arm h1]
  have hd := fell_crash h1 C
  have hm : ∀ f, mayCode (crashS st' C) f = 9 := fun f => by rw [mayCode, if_pos hd]
  rcases ha with k | k
  · have d1 : doS (arm st' 1) C a = syncS (arm st' 1) C a.f ∧ doC (arm st' 1) C a = syncCode (arm st' 1) C a.f := ⟨by simp [doS, k], by simp [doC, k]⟩
    rw [d1.1, d1.2]
    unfold syncCode syncS
    simp only [hE, hm]
    exact ⟨by simp, by simp, by simpa using hd, hd⟩
  · have d1 : doS (arm st' 1) C a = truncS (arm st' 1) C a.f a.n ∧ doC (arm st' 1) C a = truncCode (arm st' 1) C a.f a.n := ⟨by simp [doS, k], by simp [doC, k]⟩
    rw [d1.1, d1.2]
    unfold truncCode truncS
    simp only [hE, hm]
    exact ⟨by simp, by simp, by simpa using hd, hd⟩
/-- A call on a machine that is down. -/
theorem fell_call {st st' : DS} (h : Fell st st') (K : List Int) (a : DAct) (ha : a.doo % 8 < 4) : doC st K a = 9 ∧ Fell (doS st K a) st' := by
  obtain ⟨h0, h1, h2⟩ := h
  have i1 : endsB st = false := by simp [endsB, h1]
  have i2 : endsS st = st := by simp [endsS, h1]
  have hE : endS st K = st := by simp [endS, i1, i2]
  have hm : ∀ f, mayCode st f = 9 := fun f => by rw [mayCode, if_pos h1]
  by_cases k2 : a.doo % 8 = 2
  · have d1 : doS st K a = syncS st K a.f ∧ doC st K a = syncCode st K a.f := ⟨by simp [doS, k2], by simp [doC, k2]⟩
    rw [d1.1, d1.2]
    unfold syncCode syncS
    simp only [hE, hm]
    exact ⟨by simp, by simpa using h0, by simpa using h1, h2⟩
  by_cases k3 : a.doo % 8 = 3
  · have d1 : doS st K a = truncS st K a.f a.n ∧ doC st K a = truncCode st K a.f a.n := ⟨by simp [doS, k3], by simp [doC, k3]⟩
    rw [d1.1, d1.2]
    unfold truncCode truncS
    simp only [hE, hm]
    exact ⟨by simp, by simpa using h0, by simpa using h1, h2⟩
  · have d1 : doS st K a = writeS st K a.f a.n a.s ∧ doC st K a = writeCode st a.f a.n a.s := by
      constructor
      · rw [doS, if_neg k2, if_neg k3, if_neg (by omega), if_neg (by omega), if_neg (by omega), if_neg (by omega)]
      · rw [doC, if_neg k2, if_neg k3, if_neg (by omega), if_neg (by omega), if_neg (by omega), if_neg (by omega)]
    have hc : wrCode st a.f a.n a.s = 9 := by rw [wrCode, if_pos (by rw [hm]; simp), hm]
    have hs : wrS st a.f a.n a.s = st := by rw [wrS, if_neg (by rw [hc]; simp)]
    rw [d1.1, d1.2]
    unfold writeCode writeS
    simp only [i1, i2, Bool.false_eq_true, if_false, hc, hs]
    exact ⟨trivial, h0, h1, h2⟩
theorem fell_lose {st st' : DS} (h : Fell st st') (K : List Int) (a : DAct) (ha : a.doo % 8 = 4) : Fell (doS st K a) st' := by
  have e1 : doS st K a = { st with lost := max (a.n % 4) 0 } := by simp [doS, ha]
  rw [e1]
  exact h
theorem fell_start {st st' : DS} (h : st.F = st'.F) : ({ st with down := false } : DS).F = ({ st' with down := false } : DS).F := h

end Go.Proofs.Ytmikjninonpejaa

/- Statements about the disk: same. -/
namespace Go.Proofs.Ytmikjninonpejaa
open Go.RowKit Go.Proofs.YtmikjninonpejaaMem Go.Maps

theorem read_same {x y : DS} (hF : x.F = y.F) (hd : x.down = y.down) (f a z : Int) : readCode x f a z = readCode y f a z ∧ readStr x f a z = readStr y f a z := by
  have hm : mayCode x f = mayCode y f := by simp [mayCode, hd]
  have hc : readCode x f a z = readCode y f a z := by simp [readCode, hm]
  exact ⟨hc, by simp [readStr, hc, hF]⟩

set_option maxHeartbeats 3200000 in
set_option maxRecDepth 100000 in
theorem same_sep {w0 w : World} {b c B D : Nat} {x y : DS} {K J : List Int} (a : Option Addr) (cap : Nat) (l : List DAct) (h : Sep w0 w [machThing b B x K, machThing c D y J]) (hA : ActsAt w0 a l) (hl : l.length ≤ 40) (hF : x.F = y.F) (hd : x.down = y.down) :
    Calls Try.prog 50 #[.pointer (some ⟨b, 0, none⟩), .pointer (some ⟨c, 0, none⟩), .slice a l.length cap] w fun e w' => e = .returned (.bool true) ∧ Turns [] w w' := by
  have HS := Lib.hid h; clear h
  have HA := Lib.hid hA; clear hA
  have HF := Lib.hid hF; clear hF
  have HD := Lib.hid hd; clear hd
  go_enter Try.func50, Try.ntmps50
  go_wp2_with fail
  refine (ddown_sep [] [machThing c D y J] HS.out).mono ?_
  rintro e w1 ⟨rfl, rfl⟩
  rw [HD.out]
  go_wp2_with fail
  refine (ddown_sep [machThing b B x K] [] HS.out).mono ?_
  rintro e w1 ⟨rfl, rfl⟩
  go_wp2_with fail
  go_loopw [7] (fun iv wr => ∃ k : Nat, iv = .int .i64 k ∧ k ≤ l.length ∧ Hid (Turns [] w wr)) (fun iv _ => l.length - (intOf iv).toNat)
  case atStart => exact ⟨0, rfl, by omega, Turns.refl _ _⟩
  case round =>
    obtain ⟨k, rfl, hk, HW⟩ := hrel
    by_cases hlt : k < l.length
    · have hSr := HS.out.quiet HW.out
      have HSR := Lib.hid hSr; clear hSr
      obtain ⟨bb, off, kv, rfl, c0, c1, c2, c3, c4, hkv, hwf⟩ := HA.out.get HSR.out.turns hlt
      obtain ⟨z, hz⟩ : ∃ z, z = l[k] := ⟨_, rfl⟩
      rw [← hz] at c1 hwf
      have HZ := Lib.hid (And.intro hz hwf); clear hz hwf hkv c0 c2 c3 c4
      have hltI : (k : Int) < (l.length : Int) := by omega
      obtain ⟨r1, r2⟩ := read_same HF.out HD.out z.f 0 16777216
      have HR := Lib.hid (And.intro r1 r2); clear r1 r2
      go_wp2_with fail
      refine (dread_sep [] [machThing c D y J] z.f 0 16777216 HSR.out HZ.out.2.1).mono ?_
      rintro e w2 ⟨rfl, rfl⟩
      rw [HR.out.1, HR.out.2]
      go_wp2_with fail
      refine (dread_sep [machThing b B x K] [] z.f 0 16777216 HSR.out HZ.out.2.1).mono ?_
      rintro e w2 ⟨rfl, rfl⟩
      have hk0 : (0 : Int) ≤ (k : Int) := by omega
      obtain ⟨n1, hn1⟩ : ∃ n1, n1 = (y.F z.f).now.size := ⟨_, rfl⟩
      have s1 : Hid (∀ W, Turns [] wr W → Calls Try.prog 38 #[.pointer (some ⟨b, 0, none⟩), .int .i64 z.f] W fun e w' => e = .returned (.int .i64 n1) ∧ W = w') := fun W hW => by
        have := dsize_sep [] [machThing c D y J] z.f (HSR.out.quiet hW) HZ.out.2.1
        rw [HF.out, ← hn1] at this; exact this
      have s2 : Hid (∀ W, Turns [] wr W → Calls Try.prog 38 #[.pointer (some ⟨c, 0, none⟩), .int .i64 z.f] W fun e w' => e = .returned (.int .i64 n1) ∧ W = w') := fun W hW => by
        have := dsize_sep [machThing b B x K] [] z.f (HSR.out.quiet hW) HZ.out.2.1
        rw [← hn1] at this; exact this
      clear hn1
      go_wp2_with fail
      go_quiet (first | (go_at_call_of 38 b; exact quiet_id (s1.out _ ((Turns.refl _ _).drewN _))) | (go_at_call_of 38 c; exact quiet_id (s2.out _ ((Turns.refl _ _).drewN _))))
      go_wp2_with fail
      go_roundw
      case rel => exact ⟨k + 1, by go_num, by omega, HW.out.drewN _⟩
      case measure => simp [intOf]; omega
    · go_wp2_with fail
      go_ret
      exact ⟨rfl, HW.out⟩

end Go.Proofs.Ytmikjninonpejaa

/- Statements about the disk: DiskArms, the walk. -/
namespace Go.Proofs.Ytmikjninonpejaa
open Go.RowKit Go.Proofs.YtmikjninonpejaaMem Go.Maps

theorem Sep.swap {w0 w : World} {t u : Thing} (h : Sep w0 w [t, u]) : Sep w0 w [u, t] := by
  obtain ⟨G, FP, G1, rfl, h1, h2, FQ, G2, rfl, h3, h4, rfl, h5⟩ := h
  refine ⟨FQ ++ (FP ++ []), FQ, _, rfl, h3, fun x hx => ⟨(h4 x hx).1, fun hx2 => ?_⟩, FP, [], rfl, h1, fun x hx => ⟨(h2 x hx).1, by simp⟩, rfl, h5⟩
  have hx3 : x ∈ FP := by simpa using hx2
  exact (h2 x hx3).2 (by simp [hx])

/-- In the middle of DiskArms. -/
def ArmsMid (w wr : World) (b c k cnt N : Nat) (C : List Int) : Prop :=
  ∃ st st', Sep w wr [machThing b (k * 310) st C, machThing c (k * 310) st' []] ∧ (cnt < N ∧ Near ((N : Int) - (cnt : Int)) st st' ∨ N ≤ cnt ∧ Fell st st')

set_option maxHeartbeats 20000000 in
set_option maxRecDepth 100000 in
theorem arms_run (a1 : Option Addr) (c1 : Nat) (l : List DAct) (N : Nat) (kv : Value) (C : List Int) (w : World) (h1 : ActsAt w a1 l) (hk : IntsV w kv C)
    (hfl : fewD l = true) (hC : C.length ≤ 60) (hN1 : 1 ≤ N) (hN2 : N ≤ 60) :
    Calls Try.prog 10 #[.slice a1 l.length c1, .int .i64 N, kv] w fun e w' => e = .returned (.bool true) ∧ Turns [] w w' := by
  have H1 := Lib.hid h1; clear h1
  have HKV := Lib.hid hk
  obtain ⟨ka, kc, rfl, -⟩ := hk
  have HL := Lib.hid hfl; clear hfl
  have hll := fewD_len HL.out
  have hd60 : decide ((60 : Int) < (C.length : Int)) = false := decide_eq_false (by omega)
  have hd1 : decide ((N : Int) < 1) = false := decide_eq_false (by omega)
  have hd2 : decide ((60 : Int) < (N : Int)) = false := decide_eq_false (by omega)
  go_enter Try.func10, Try.ntmps10
  go_wp2_with fail
  refine (small_disk _).mono ?_
  rintro e w1 ⟨rfl, ht1⟩
  have HT := Lib.hid ht1; clear ht1
  go_wp2_with fail
  refine (few_acts a1 c1 l _ (H1.out.kept HT.out) (by unfold maxLen; omega)).mono ?_
  rintro e w2 ⟨rfl, rfl⟩
  rw [HL.out]
  go_wp2_with fail
  refine (mach_new [] ((Sep.start w).quiet HT.out)).mono ?_
  rintro e w2 ⟨b, rfl, hs2⟩
  have HS2 := Lib.hid hs2; clear hs2
  go_wp2_with fail
  refine (mach_new _ HS2.out).mono ?_
  rintro e w3 ⟨c, rfl, hs3⟩
  have HS3 := Lib.hid (Sep.swap hs3); clear hs3
  go_wp2_with fail
  refine (darm_sep [] [machThing c 0 DS.new []] (N : Int) _ C HS3.out HKV.out (by omega) (by omega)).mono ?_
  rintro e w4 ⟨rfl, hs4⟩
  have HM : Hid (ArmsMid w w4 b c 0 0 N C) := by
    refine ⟨_, _, hs4, Or.inl ⟨by omega, ?_, rfl, rfl⟩⟩
    show ({ DS.new with armed := max (N : Int) 0 } : DS) = { DS.new with armed := (N : Int) - ((0 : Nat) : Int) }
    rw [show max (N : Int) 0 = (N : Int) - ((0 : Nat) : Int) by omega]
  clear hs4 HS3 HS2
  go_wp2_with fail
  go_loopw [10, 11] (fun cv iv wr => ∃ (k cnt : Nat), iv = .int .i64 k ∧ cv = .int .i64 cnt ∧ k ≤ l.length ∧ cnt ≤ k ∧ Hid (ArmsMid w wr b c k cnt N C)) (fun _ iv _ => l.length - (intOf iv).toNat)
  case atStart => exact ⟨0, 0, rfl, rfl, by omega, by omega, HM.out⟩
  case round =>
    obtain ⟨k, cnt, rfl, rfl, hk, hck, HR⟩ := hrel
    obtain ⟨st, st', hs, hph⟩ := HR.out
    have HS := Lib.hid hs; clear hs
    by_cases hlt : k < l.length
    · obtain ⟨bb, off, kv', rfl, c0, c1', c2', c3, c4, hkv, hwf⟩ := H1.out.get HS.out.turns hlt
      obtain ⟨ka', kc', rfl, -⟩ := id hkv
      obtain ⟨x, hx⟩ : ∃ x, x = l[k] := ⟨_, rfl⟩
      have hsz := fewD_act HL.out hlt
      rw [← hx] at c0 c1' c2' c3 c4 hkv hwf hsz
      have HX := Lib.hid (And.intro hx (And.intro hkv hwf)); clear hx hkv hwf
      have hltI : (k : Int) < (l.length : Int) := by omega
      have hand := and7 x.doo
      by_cases hq5 : 4 < x.doo % 8
      · have q1 : decide (4 < x.doo % 8) = true := decide_eq_true hq5
        clear hq5 hph
        go_wp2_with fail
        go_ret
        exact ⟨rfl, HS.out.turns⟩
      have HDK : Hid (doK C x = C) := by show doK C x = C; rw [doK, if_neg (by omega)]
      have HDK0 : Hid (doK [] x = []) := by show doK [] x = []; rw [doK, if_neg (by omega)]
      have HCE : Hid (∀ W, Turns [] w W → W.cell? ⟨bb, off + k * 5, none⟩ = some (.int .i64 x.doo) ∧ W.cell? ⟨bb, off + k * 5 + 1, none⟩ = some (.int .i64 x.f) ∧ W.cell? ⟨bb, off + k * 5 + 2, none⟩ = some (.int .i64 x.n) ∧ W.cell? ⟨bb, off + k * 5 + 3, none⟩ = some (.string x.s) ∧ W.cell? ⟨bb, off + k * 5 + 4, none⟩ = some (.slice ka' x.keep.length kc')) := by
        intro W hW
        obtain ⟨b0, o0, k0, e0, f0, f1, f2, f3, f4, _, _⟩ := H1.out.get hW hlt
        simp only [Option.some.injEq, Addr.mk.injEq] at e0
        obtain ⟨rfl, rfl, _⟩ := e0
        obtain ⟨b1, o1, k1, e1, g0, g1, g2, g3, g4, _, _⟩ := H1.out.get HS.out.turns hlt
        simp only [Option.some.injEq, Addr.mk.injEq] at e1
        obtain ⟨rfl, rfl, _⟩ := e1
        obtain ⟨_, b2, o2, k2, e2, d0, d1, d2, d3, d4, _⟩ := H1.out k hlt
        simp only [Option.some.injEq, Addr.mk.injEq] at e2
        obtain ⟨rfl, rfl, _⟩ := e2
        have h4 := (HS.out.turns.cell (World.block_lt_of_cell? _ _ d4) (by simp)).trans d4
        have h5 := (hW.cell (World.block_lt_of_cell? _ _ d4) (by simp)).trans d4
        rw [c4] at h4
        rw [← HX.out.1] at f0 f1 f2 f3
        exact ⟨f0, f1, f2, f3, h5.trans h4.symm⟩
      by_cases hq4 : x.doo % 8 < 4
      · rcases hph with ⟨hph, hnear⟩ | ⟨hph, hfell⟩
        · by_cases hc1 : cnt + 1 < N
          · skip
            have p1 : decide ((cnt : Int) + 1 < (N : Int)) = true := decide_eq_true (by omega)
            obtain ⟨nc1, nc2⟩ := near_call hnear (by omega) C x hq4
            have HN := Lib.hid (And.intro nc1 nc2)
            have q1 : decide (4 < x.doo % 8) = false := decide_eq_false (by omega)
            have q2 : decide (x.doo % 8 < 4) = true := decide_eq_true (by omega)
            have q3 : (x.doo % 8 == 4) = false := by simp; omega
            clear nc1 nc2 hnear hq4
            go_wp2_with fail
            refine (do_sep [] [machThing c (k * 310) st' []] x _ HS.out HX.out.2.1 HX.out.2.2 (by omega) (by omega) (by omega)).mono ?_
            rintro e w5 ⟨rfl, hs5⟩
            rw [HDK.out] at hs5
            rw [HN.out.1]
            have HS5 := Lib.hid hs5; clear hs5
            obtain ⟨m0, m1, m2, m3, m4⟩ := HCE.out _ HS5.out.turns
            go_wp2_with fail
            have HB := Lib.hid (show (k * 310 + 8 + x.s.size ≤ (k + 1) * 310) by omega)
            refine (do_sep [machThing b (k * 310 + 8 + x.s.size) (doS st C x) C] [] x _ HS5.out HX.out.2.1 HX.out.2.2 (by omega) (by simp) (by omega)).mono ?_
            rintro e w6 ⟨rfl, hs6⟩
            rw [HDK0.out] at hs6
            have HS6 := Lib.hid hs6; clear hs6
            go_wp2_with fail
            have HS9 : Hid (Sep w w6 [machThing b ((k + 1) * 310) (doS st C x) C, machThing c ((k + 1) * 310) (doS st' [] x) []]) :=
              Sep.mach_more [machThing b ((k + 1) * 310) (doS st C x) C] [] (Sep.mach_more [] [machThing c (k * 310 + 8 + x.s.size) (doS st' [] x) []] HS6.out (by omega) rfl rfl) (by omega) rfl rfl
            go_roundw
            case rel => exact ⟨k + 1, cnt + 1, by go_num, by go_num, by omega, by omega, _, _, HS9.out, Or.inl ⟨by omega, by have := HN.out.2; rw [show ((N : Int) - ((cnt + 1 : Nat) : Int)) = (N : Int) - (cnt : Int) - 1 by omega]; exact this⟩⟩
            case measure => simp [intOf]; omega
          · by_cases hq2 : x.doo % 8 < 2
            · skip
              have p1 : decide ((cnt : Int) + 1 < (N : Int)) = false := decide_eq_false (by omega)
              have p2 : ((cnt : Int) + 1 == (N : Int)) = true := by simp; omega
              have hnear1 : Near 1 st st' := by rw [show (1 : Int) = (N : Int) - (cnt : Int) by omega]; exact hnear
              obtain ⟨nc1, nc2⟩ := near_write hnear1 C x hq2
              have HN := Lib.hid (And.intro nc1 nc2)
              have q4 : decide (x.doo % 8 < 2) = true := decide_eq_true hq2
              have q1 : decide (4 < x.doo % 8) = false := decide_eq_false (by omega)
              have q2 : decide (x.doo % 8 < 4) = true := decide_eq_true (by omega)
              have q3 : (x.doo % 8 == 4) = false := by simp; omega
              clear nc1 nc2 hnear hnear1 hq4 hq2
              go_wp2_with fail
              refine (do_sep [] [machThing c (k * 310) st' []] x _ HS.out HX.out.2.1 HX.out.2.2 (by omega) (by omega) (by omega)).mono ?_
              rintro e w5 ⟨rfl, hs5⟩
              rw [HDK.out] at hs5
              rw [HN.out.1]
              have HS5 := Lib.hid hs5; clear hs5
              obtain ⟨m0, m1, m2, m3, m4⟩ := HCE.out _ HS5.out.turns
              go_wp2_with fail
              have HB := Lib.hid (show (k * 310 + 8 + x.s.size ≤ (k + 1) * 310) by omega)
              refine (do_sep [machThing b (k * 310 + 8 + x.s.size) (doS st C x) C] [] x _ HS5.out HX.out.2.1 HX.out.2.2 (by omega) (by simp) (by omega)).mono ?_
              rintro e w6 ⟨rfl, hs6⟩
              rw [HDK0.out] at hs6
              have HS6 := Lib.hid hs6; clear hs6
              go_wp2_with fail
              refine (dcrash_sep [machThing b (k * 310 + 8 + x.s.size) (doS st C x) C] [] _ C HS6.out HKV.out (by omega) (by omega)).mono ?_
              rintro e w7 ⟨rfl, hs7⟩
              have HS7 := Lib.hid hs7; clear hs7
              go_wp2_with fail
              refine (ddown_sep [] [machThing c (k * 310 + 8 + x.s.size) (crashS (doS st' [] x) C) []] HS7.out).mono ?_
              rintro e w8 ⟨rfl, rfl⟩
              rw [HN.out.2.2.1]
              go_wp2_with fail
              have HS9 : Hid (Sep w w7 [machThing b ((k + 1) * 310) (doS st C x) C, machThing c ((k + 1) * 310) (crashS (doS st' [] x) C) []]) :=
                Sep.mach_more [machThing b ((k + 1) * 310) (doS st C x) C] [] (Sep.mach_more [] [machThing c (k * 310 + 8 + x.s.size) (crashS (doS st' [] x) C) []] HS7.out (by omega) rfl rfl) (by omega) rfl rfl
              go_roundw
              case rel => exact ⟨k + 1, cnt + 1, by go_num, by go_num, by omega, by omega, _, _, HS9.out, Or.inr ⟨by omega, HN.out.2⟩⟩
              case measure => simp [intOf]; omega
            · skip
              have p1 : decide ((cnt : Int) + 1 < (N : Int)) = false := decide_eq_false (by omega)
              have p2 : ((cnt : Int) + 1 == (N : Int)) = true := by simp; omega
              have hnear1 : Near 1 st st' := by rw [show (1 : Int) = (N : Int) - (cnt : Int) by omega]; exact hnear
              obtain ⟨nc1, nc2⟩ := near_other hnear1 C x (by omega)
              have HN := Lib.hid (And.intro nc1 nc2)
              have q4 : decide (x.doo % 8 < 2) = false := decide_eq_false hq2
              have q1 : decide (4 < x.doo % 8) = false := decide_eq_false (by omega)
              have q2 : decide (x.doo % 8 < 4) = true := decide_eq_true (by omega)
              have q3 : (x.doo % 8 == 4) = false := by simp; omega
              clear nc1 nc2 hnear hnear1 hq4 hq2
              go_wp2_with fail
              refine (do_sep [] [machThing c (k * 310) st' []] x _ HS.out HX.out.2.1 HX.out.2.2 (by omega) (by omega) (by omega)).mono ?_
              rintro e w5 ⟨rfl, hs5⟩
              rw [HDK.out] at hs5
              rw [HN.out.1]
              have HS5 := Lib.hid hs5; clear hs5
              obtain ⟨m0, m1, m2, m3, m4⟩ := HCE.out _ HS5.out.turns
              go_wp2_with fail
              refine (dcrash_sep [machThing b (k * 310 + 8 + x.s.size) (doS st C x) C] [] _ C HS5.out HKV.out (by omega) (by omega)).mono ?_
              rintro e w7 ⟨rfl, hs7⟩
              have HS7 := Lib.hid hs7; clear hs7
              go_wp2_with fail
              refine (ddown_sep [] [machThing c (k * 310) (crashS st' C) []] HS7.out).mono ?_
              rintro e w8 ⟨rfl, rfl⟩
              rw [HN.out.2.2.1]
              go_wp2_with fail
              have HS9 : Hid (Sep w w7 [machThing b ((k + 1) * 310) (doS st C x) C, machThing c ((k + 1) * 310) (crashS st' C) []]) :=
                Sep.mach_more [machThing b ((k + 1) * 310) (doS st C x) C] [] (Sep.mach_more [] [machThing c (k * 310) (crashS st' C) []] HS7.out (by omega) rfl rfl) (by omega) rfl rfl
              go_roundw
              case rel => exact ⟨k + 1, cnt + 1, by go_num, by go_num, by omega, by omega, _, _, HS9.out, Or.inr ⟨by omega, HN.out.2⟩⟩
              case measure => simp [intOf]; omega
        · skip
          have p1 : decide ((cnt : Int) + 1 < (N : Int)) = false := decide_eq_false (by omega)
          have p2 : ((cnt : Int) + 1 == (N : Int)) = false := by simp; omega
          obtain ⟨nc1, nc2⟩ := fell_call hfell C x hq4
          have HN := Lib.hid (And.intro nc1 nc2)
          have q1 : decide (4 < x.doo % 8) = false := decide_eq_false (by omega)
          have q2 : decide (x.doo % 8 < 4) = true := decide_eq_true (by omega)
          have q3 : (x.doo % 8 == 4) = false := by simp; omega
          clear nc1 nc2 hfell hq4
          go_wp2_with fail
          refine (do_sep [] [machThing c (k * 310) st' []] x _ HS.out HX.out.2.1 HX.out.2.2 (by omega) (by omega) (by omega)).mono ?_
          rintro e w5 ⟨rfl, hs5⟩
          rw [HDK.out] at hs5
          rw [HN.out.1]
          have HS5 := Lib.hid hs5; clear hs5
          obtain ⟨m0, m1, m2, m3, m4⟩ := HCE.out _ HS5.out.turns
          go_wp2_with fail
          refine (ddown_sep [] [machThing c (k * 310) (st') []] HS5.out).mono ?_
          rintro e w8 ⟨rfl, rfl⟩
          rw [HN.out.2.2.1]
          go_wp2_with fail
          have HS9 : Hid (Sep w w5 [machThing b ((k + 1) * 310) (doS st C x) C, machThing c ((k + 1) * 310) (st') []]) :=
            Sep.mach_more [machThing b ((k + 1) * 310) (doS st C x) C] [] (Sep.mach_more [] [machThing c (k * 310) (st') []] HS5.out (by omega) rfl rfl) (by omega) rfl rfl
          go_roundw
          case rel => exact ⟨k + 1, cnt + 1, by go_num, by go_num, by omega, by omega, _, _, HS9.out, Or.inr ⟨by omega, HN.out.2⟩⟩
          case measure => simp [intOf]; omega
      · have hq : x.doo % 8 = 4 := by omega
        clear hq4 hq5
        rcases hph with ⟨hph, hnear⟩ | ⟨hph, hfell⟩
        · skip
          have p1 : cnt < N := hph
          obtain ⟨nc1, nc2⟩ := near_lose hnear C x hq
          have HN := Lib.hid (And.intro nc1 nc2)
          have q1 : decide (4 < x.doo % 8) = false := decide_eq_false (by omega)
          have q2 : decide (x.doo % 8 < 4) = false := decide_eq_false (by omega)
          have q3 : (x.doo % 8 == 4) = true := by simp [hq]
          have q4 : decide (x.doo % 8 < 2) = false := decide_eq_false (by omega)
          clear nc1 nc2 hnear hq
          go_wp2_with fail
          refine (do_sep [] [machThing c (k * 310) st' []] x _ HS.out HX.out.2.1 HX.out.2.2 (by omega) (by omega) (by omega)).mono ?_
          rintro e w5 ⟨rfl, hs5⟩
          rw [HDK.out] at hs5
          rw [HN.out.1]
          have HS5 := Lib.hid hs5; clear hs5
          obtain ⟨m0, m1, m2, m3, m4⟩ := HCE.out _ HS5.out.turns
          go_wp2_with fail
          have HB := Lib.hid (show (k * 310 + 8 + x.s.size ≤ (k + 1) * 310) by omega)
          refine (do_sep [machThing b (k * 310 + 8 + x.s.size) (doS st C x) C] [] x _ HS5.out HX.out.2.1 HX.out.2.2 (by omega) (by simp) (by omega)).mono ?_
          rintro e w6 ⟨rfl, hs6⟩
          rw [HDK0.out] at hs6
          have HS6 := Lib.hid hs6; clear hs6
          go_wp2_with fail
          have HS9 : Hid (Sep w w6 [machThing b ((k + 1) * 310) (doS st C x) C, machThing c ((k + 1) * 310) (doS st' [] x) []]) :=
            Sep.mach_more [machThing b ((k + 1) * 310) (doS st C x) C] [] (Sep.mach_more [] [machThing c (k * 310 + 8 + x.s.size) (doS st' [] x) []] HS6.out (by omega) rfl rfl) (by omega) rfl rfl
          go_roundw
          case rel => exact ⟨k + 1, cnt, by go_num, rfl, by omega, by omega, _, _, HS9.out, Or.inl ⟨by omega, HN.out.2⟩⟩
          case measure => simp [intOf]; omega
        · skip
          have p1 : ¬ (cnt < N) := by omega
          obtain nc2 := fell_lose hfell C x hq
          have HN := Lib.hid (And.intro (show doC st C x = 0 by simp [doC, hq]) nc2)
          have q1 : decide (4 < x.doo % 8) = false := decide_eq_false (by omega)
          have q2 : decide (x.doo % 8 < 4) = false := decide_eq_false (by omega)
          have q3 : (x.doo % 8 == 4) = true := by simp [hq]
          have q4 : decide (x.doo % 8 < 2) = false := decide_eq_false (by omega)
          clear nc2 hfell hq
          by_cases hcn : cnt = N
          · have p2 : ((cnt : Int) == (N : Int)) = true := by simp [hcn]
            clear hcn
            go_wp2_with fail
            refine (do_sep [] [machThing c (k * 310) st' []] x _ HS.out HX.out.2.1 HX.out.2.2 (by omega) (by omega) (by omega)).mono ?_
            rintro e w5 ⟨rfl, hs5⟩
            rw [HDK.out] at hs5
            rw [HN.out.1]
            have HS5 := Lib.hid hs5; clear hs5
            obtain ⟨m0, m1, m2, m3, m4⟩ := HCE.out _ HS5.out.turns
            go_wp2_with fail
            refine (ddown_sep [] [machThing c (k * 310) (st') []] HS5.out).mono ?_
            rintro e w8 ⟨rfl, rfl⟩
            rw [HN.out.2.2.1]
            go_wp2_with fail
            refine (ddown_sep [] [machThing c (k * 310) (st') []] HS5.out).mono ?_
            rintro e w8 ⟨rfl, rfl⟩
            rw [HN.out.2.2.1]
            go_wp2_with fail
            have HS9 : Hid (Sep w w5 [machThing b ((k + 1) * 310) (doS st C x) C, machThing c ((k + 1) * 310) (st') []]) :=
              Sep.mach_more [machThing b ((k + 1) * 310) (doS st C x) C] [] (Sep.mach_more [] [machThing c (k * 310) (st') []] HS5.out (by omega) rfl rfl) (by omega) rfl rfl
            go_roundw
            case rel => exact ⟨k + 1, cnt, by go_num, rfl, by omega, by omega, _, _, HS9.out, Or.inr ⟨by omega, HN.out.2⟩⟩
            case measure => simp [intOf]; omega
          · have p2 : ((cnt : Int) == (N : Int)) = false := by simp; omega
            clear hcn
            go_wp2_with fail
            refine (do_sep [] [machThing c (k * 310) st' []] x _ HS.out HX.out.2.1 HX.out.2.2 (by omega) (by omega) (by omega)).mono ?_
            rintro e w5 ⟨rfl, hs5⟩
            rw [HDK.out] at hs5
            rw [HN.out.1]
            have HS5 := Lib.hid hs5; clear hs5
            obtain ⟨m0, m1, m2, m3, m4⟩ := HCE.out _ HS5.out.turns
            go_wp2_with fail
            refine (ddown_sep [] [machThing c (k * 310) (st') []] HS5.out).mono ?_
            rintro e w8 ⟨rfl, rfl⟩
            rw [HN.out.2.2.1]
            go_wp2_with fail
            have HS9 : Hid (Sep w w5 [machThing b ((k + 1) * 310) (doS st C x) C, machThing c ((k + 1) * 310) (st') []]) :=
              Sep.mach_more [machThing b ((k + 1) * 310) (doS st C x) C] [] (Sep.mach_more [] [machThing c (k * 310) (st') []] HS5.out (by omega) rfl rfl) (by omega) rfl rfl
            go_roundw
            case rel => exact ⟨k + 1, cnt, by go_num, rfl, by omega, by omega, _, _, HS9.out, Or.inr ⟨by omega, HN.out.2⟩⟩
            case measure => simp [intOf]; omega
    · have hFD : Hid (st.F = st'.F ∧ st.down = st'.down) := by
        rcases hph with ⟨_, h1, h2, h3⟩ | ⟨_, h1, h2, h3⟩
        · subst h1; exact ⟨rfl, rfl⟩
        · exact ⟨h1, h2.trans h3.symm⟩
      clear hph
      go_wp2_with fail
      refine (same_sep a1 c1 l HS.out H1.out hll hFD.out.1 hFD.out.2).mono ?_
      rintro e w5 ⟨rfl, ht5⟩
      have HS5 := Lib.hid (HS.out.quiet ht5); clear ht5
      go_wp2_with fail
      refine (dstart_sep [] [machThing c (k * 310) st' []] HS5.out).mono ?_
      rintro e w6 ⟨rfl, hs6⟩
      have HS6 := Lib.hid hs6; clear hs6
      go_wp2_with fail
      refine (dstart_sep [machThing b (k * 310) { st with down := false } C] [] HS6.out).mono ?_
      rintro e w7 ⟨rfl, hs7⟩
      have HS7 := Lib.hid hs7; clear hs7
      go_wp2_with fail
      refine (same_sep a1 c1 l HS7.out H1.out hll hFD.out.1 rfl).mono ?_
      rintro e w8 ⟨rfl, ht8⟩
      have HT8 := Lib.hid (HS7.out.turns.trans ht8); clear ht8
      go_wp2_with fail
      go_ret
      exact ⟨rfl, HT8.out⟩

set_option maxHeartbeats 6400000 in
set_option maxRecDepth 100000 in
theorem arms_few (a1 : Option Addr) (c1 : Nat) (l : List DAct) (n : Int) (kv : Value) (C : List Int) (w : World) (h1 : ActsAt w a1 l) (hl1 : l.length ≤ maxLen) (hk : IntsV w kv C)
    (hno : ¬ (fewD l = true ∧ C.length ≤ 60 ∧ 1 ≤ n ∧ n ≤ 60)) :
    Calls Try.prog 10 #[.slice a1 l.length c1, .int .i64 n, kv] w fun e w' => e = .returned (.bool true) ∧ Turns [] w w' := by
  have H1 := Lib.hid h1; clear h1
  obtain ⟨ka, kc, rfl, -⟩ := hk
  have hcases : fewD l = false ∨ (fewD l = true ∧ (decide ((60 : Int) < (C.length : Int)) = true ∨ (decide ((60 : Int) < (C.length : Int)) = false ∧ (decide (n < 1) = true ∨ (decide (n < 1) = false ∧ decide (60 < n) = true))))) := by
    cases hf : fewD l
    · exact Or.inl rfl
    · refine Or.inr ⟨rfl, ?_⟩
      by_cases g1 : (60 : Int) < (C.length : Int)
      · exact Or.inl (decide_eq_true g1)
      · refine Or.inr ⟨decide_eq_false g1, ?_⟩
        by_cases g2 : n < 1
        · exact Or.inl (decide_eq_true g2)
        · exact Or.inr ⟨decide_eq_false g2, decide_eq_true (by
            by_cases g3 : 60 < n
            · exact g3
            · exact absurd ⟨hf, by omega, by omega, by omega⟩ hno)⟩
  clear hno
  rcases hcases with hfl | ⟨hfl, hrest⟩
  · have HL := Lib.hid hfl; clear hfl
    go_enter Try.func10, Try.ntmps10
    go_wp2_with fail
    refine (small_disk _).mono ?_
    rintro e w1 ⟨rfl, ht1⟩
    have HT := Lib.hid ht1; clear ht1
    go_wp2_with fail
    refine (few_acts a1 c1 l _ (H1.out.kept HT.out) hl1).mono ?_
    rintro e w2 ⟨rfl, rfl⟩
    rw [HL.out]
    go_wp2_with fail
    go_ret
    exact ⟨rfl, HT.out⟩
  · have HL := Lib.hid hfl; clear hfl
    have HREST := Lib.hid hrest; clear hrest
    go_enter Try.func10, Try.ntmps10
    go_wp2_with fail
    refine (small_disk _).mono ?_
    rintro e w1 ⟨rfl, ht1⟩
    have HT := Lib.hid ht1; clear ht1
    go_wp2_with fail
    refine (few_acts a1 c1 l _ (H1.out.kept HT.out) hl1).mono ?_
    rintro e w2 ⟨rfl, rfl⟩
    rw [HL.out]
    rcases HREST.out with g1 | ⟨g1, g2 | ⟨g2, g3⟩⟩
    all_goals
      go_wp2_with fail
      go_ret
      exact ⟨rfl, HT.out⟩
theorem arms_row (a1 : Option Addr) (c1 : Nat) (l : List DAct) (n : Int) (ka : Option Addr) (kc : Nat) (C : List Int) (w : World) (h1 : ActsIn w a1 l) (_ : (Lit.int .i64 n).wf = true) (hk : IntsIn w ka C) :
    Calls Try.prog 10 #[.slice a1 l.length c1, .int .i64 n, .slice ka C.length kc] w fun e w' => e = .returned (.bool true) ∧ Below w.heap.size w w' := by
  have hkv : IntsV w (.slice ka C.length kc) C := ⟨ka, kc, rfl, hk.2⟩
  by_cases h : fewD l = true ∧ C.length ≤ 60 ∧ 1 ≤ n ∧ n ≤ 60
  · obtain ⟨g1, g2, g3, g4⟩ := h
    obtain ⟨N, rfl⟩ := Int.eq_ofNat_of_zero_le (show 0 ≤ n by omega)
    exact (arms_run a1 c1 l N _ C w h1.2 hkv g1 g2 (by omega) (by omega)).mono fun e w' ⟨e1, e2⟩ => ⟨e1, e2.below (Nat.le_refl _) (by simp)⟩
  · exact (arms_few a1 c1 l n _ C w h1.2 h1.1 hkv h).mono fun e w' ⟨e1, e2⟩ => ⟨e1, e2.below (Nat.le_refl _) (by simp)⟩

end Go.Proofs.Ytmikjninonpejaa
