/- Contracts and lemmas (texts DoG, PureE, DoH, PureF, DoI, DoJ, joined by a program). -/
import Derived.Test.YtmikjninonpejaaMb13
import Derived.BigQuiet
import Derived.Deep.QuietTactic
/- Statements about the disk: DiskSynced, the walk. -/
namespace Go.Proofs.Ytmikjninonpejaa
open Go.RowKit Go.Proofs.YtmikjninonpejaaMem Go.Maps

theorem ActsAt.get {w0 w : World} {a : Option Addr} {l : List DAct} (h : ActsAt w0 a l) (ht : Turns [] w0 w) {i : Nat} (hi : i < l.length) :
    ∃ b off kv, a = some ⟨b, off, none⟩ ∧ w.cell? ⟨b, off + i * 5, none⟩ = some (.int .i64 l[i].doo) ∧ w.cell? ⟨b, off + i * 5 + 1, none⟩ = some (.int .i64 l[i].f) ∧
    w.cell? ⟨b, off + i * 5 + 2, none⟩ = some (.int .i64 l[i].n) ∧ w.cell? ⟨b, off + i * 5 + 3, none⟩ = some (.string l[i].s) ∧ w.cell? ⟨b, off + i * 5 + 4, none⟩ = some kv ∧ IntsV w0 kv l[i].keep ∧ l[i].wf := by
  obtain ⟨hw, b, off, kv, rfl, h0, h1, h2, h3, h4, hk⟩ := h i hi
  exact ⟨b, off, kv, rfl, (ht.cell (World.block_lt_of_cell? _ _ h0) (by simp)).trans h0, (ht.cell (World.block_lt_of_cell? _ _ h1) (by simp)).trans h1, (ht.cell (World.block_lt_of_cell? _ _ h2) (by simp)).trans h2,
    (ht.cell (World.block_lt_of_cell? _ _ h3) (by simp)).trans h3, (ht.cell (World.block_lt_of_cell? _ _ h4) (by simp)).trans h4, hk, hw⟩
theorem Sep.mach_more {w0 w : World} {b B C : Nat} {st st' : DS} {K K' : List Int} (pre post : List Thing) (h : Sep w0 w (pre ++ machThing b B st K :: post)) (hm : B ≤ C) (e1 : st' = st) (e2 : K' = K) : Sep w0 w (pre ++ machThing b C st' K' :: post) := by
  subst e1 e2
  obtain ⟨FP, hM, _, step⟩ := h.pick pre _ post
  refine step w FP (machThing b C _ _) (Evolves.of_same (Turns.refl _ _)) ?_
  obtain ⟨kv, FP0, q1, q2, q3, q4⟩ := hM
  exact ⟨kv, FP0, q1.more hm, q2, q3, q4⟩

set_option maxHeartbeats 6400000 in
set_option maxRecDepth 100000 in
theorem synced_few (a1 a2 : Option Addr) (c1 c2 : Nat) (l m : List DAct) (f : Int) (kv : Value) (C : List Int) (w : World) (h1 : ActsAt w a1 l) (h2 : ActsAt w a2 m) (hk : IntsV w kv C)
    (hl1 : l.length ≤ maxLen) (hl2 : m.length ≤ maxLen) (hno : ¬ (fewD l = true ∧ fewD m = true ∧ C.length ≤ 60)) :
    Calls Try.prog 9 #[.slice a1 l.length c1, .int .i64 f, .slice a2 m.length c2, kv] w fun e w' => e = .returned (.bool true) ∧ Turns [] w w' := by
  have H1 := Lib.hid h1; clear h1
  have H2 := Lib.hid h2; clear h2
  obtain ⟨ka, kc, rfl, -⟩ := hk
  cases hfl : fewD l
  · have HL := Lib.hid hfl; clear hfl hno
    go_enter Try.func9, Try.ntmps9
    go_wp2_with fail
    refine (small_disk _).mono ?_
    rintro e w1 ⟨rfl, ht1⟩
    have HT := Lib.hid ht1; clear ht1
    go_wp2_with fail
    refine (few_acts a1 c1 l _ (H1.out.kept HT.out) hl1).mono ?_
    rintro e w2 ⟨rfl, rfl⟩
    rw [HL.out]
    go_wp2_with fail
    go_ret
    exact ⟨rfl, HT.out⟩
  · cases hfm : fewD m
    · have HL := Lib.hid hfl
      have HM := Lib.hid hfm
      clear hfl hfm hno
      go_enter Try.func9, Try.ntmps9
      go_wp2_with fail
      refine (small_disk _).mono ?_
      rintro e w1 ⟨rfl, ht1⟩
      have HT := Lib.hid ht1; clear ht1
      go_wp2_with fail
      refine (few_acts a1 c1 l _ (H1.out.kept HT.out) hl1).mono ?_
      rintro e w2 ⟨rfl, rfl⟩
      rw [HL.out]
      go_wp2_with fail
      refine (few_acts a2 c2 m _ (H2.out.kept HT.out) hl2).mono ?_
      rintro e w2 ⟨rfl, rfl⟩
      rw [HM.out]
      go_wp2_with fail
      go_ret
      exact ⟨rfl, HT.out⟩
    · have hC : decide ((60 : Int) < (C.length : Int)) = true := decide_eq_true (by
        have : ¬ C.length ≤ 60 := fun h => hno ⟨hfl, hfm, h⟩
        omega)
      have HL := Lib.hid hfl
      have HM := Lib.hid hfm
      clear hfl hfm hno
      go_enter Try.func9, Try.ntmps9
      go_wp2_with fail
      refine (small_disk _).mono ?_
      rintro e w1 ⟨rfl, ht1⟩
      have HT := Lib.hid ht1; clear ht1
      go_wp2_with fail
      refine (few_acts a1 c1 l _ (H1.out.kept HT.out) hl1).mono ?_
      rintro e w2 ⟨rfl, rfl⟩
      rw [HL.out]
      go_wp2_with fail
      refine (few_acts a2 c2 m _ (H2.out.kept HT.out) hl2).mono ?_
      rintro e w2 ⟨rfl, rfl⟩
      rw [HM.out]
      go_wp2_with fail
      go_ret
      exact ⟨rfl, HT.out⟩

set_option maxHeartbeats 6400000 in
set_option maxRecDepth 100000 in
theorem synced_run (a1 a2 : Option Addr) (c1 c2 : Nat) (l m : List DAct) (f : Int) (kv : Value) (C : List Int) (w : World) (h1 : ActsAt w a1 l) (h2 : ActsAt w a2 m) (hk : IntsV w kv C) (hf : (Lit.int .i64 f).wf = true)
    (hfl : fewD l = true) (hfm : fewD m = true) (hC : C.length ≤ 60) :
    Calls Try.prog 9 #[.slice a1 l.length c1, .int .i64 f, .slice a2 m.length c2, kv] w fun e w' => e = .returned (.bool true) ∧ Turns [] w w' := by
  have H1 := Lib.hid h1; clear h1
  have H2 := Lib.hid h2; clear h2
  have HKV := Lib.hid hk
  obtain ⟨ka, kc, rfl, -⟩ := hk
  have HL := Lib.hid hfl; clear hfl
  have HM := Lib.hid hfm; clear hfm
  have hll := fewD_len HL.out
  have hml := fewD_len HM.out
  have hd60 : decide ((60 : Int) < (C.length : Int)) = false := decide_eq_false (by omega)
  have hkk := playTo_keep HL.out DS.new [] (by simp) l.length (Nat.le_refl _)
  go_enter Try.func9, Try.ntmps9
  go_wp2_with fail
  refine (small_disk _).mono ?_
  rintro e w1 ⟨rfl, ht1⟩
  have HT := Lib.hid ht1; clear ht1
  go_wp2_with fail
  refine (few_acts a1 c1 l _ (H1.out.kept HT.out) (by unfold maxLen; omega)).mono ?_
  rintro e w2 ⟨rfl, rfl⟩
  rw [HL.out]
  go_wp2_with fail
  refine (few_acts a2 c2 m _ (H2.out.kept HT.out) (by unfold maxLen; omega)).mono ?_
  rintro e w2 ⟨rfl, rfl⟩
  rw [HM.out]
  go_wp2_with fail
  refine (played_any [] a1 c1 l _ ((Sep.start w).quiet HT.out) H1.out HL.out).mono ?_
  rintro e w2 ⟨b, rfl, hs2⟩
  generalize (playTo DS.new [] l l.length).1 = st at hs2
  generalize (playTo DS.new [] l l.length).2 = K at hs2 hkk
  have HS2 := Lib.hid (Sep.mach_more (C := 12400) [] [] hs2 (by omega) rfl rfl); clear hs2
  go_wp2_with fail
  refine (dread_sep [] [] f 0 16777216 HS2.out hf).mono ?_
  rintro e w3 ⟨rfl, rfl⟩
  go_wp2_with fail
  refine (dsync_sep [] [] f HS2.out hf (by omega) (by omega)).mono ?_
  rintro e w3 ⟨rfl, hs3⟩
  have HS3 := Lib.hid hs3; clear hs3
  by_cases hz : syncCode st K f = 0
  · obtain ⟨q1, q2, q3⟩ := sync_ok hz
    obtain ⟨r1, r2⟩ := read_whole q1
    obtain ⟨r3, r4⟩ := read_whole q2
    rw [q3.1] at r4
    dsimp only at r4
    rw [hz, r2]
    have HQ := Lib.hid (And.intro q2 (And.intro q3 (And.intro r3 r4)))
    clear q1 q2 q3 r1 r2 r3 r4 hz
    generalize syncS st K f = st1 at HS3 HQ
    generalize (st.F f).now = n at HQ ⊢
    clear HS2
    go_wp2_with fail
    refine (dread_sep [] [] f 0 16777216 HS3.out hf).mono ?_
    rintro e w4 ⟨rfl, rfl⟩
    rw [HQ.out.2.2.1, HQ.out.2.2.2]
    go_wp2_with fail
    go_loopw [15] (fun i wr => ∃ k : Nat, k ≤ m.length ∧ i = .int .i64 k ∧ Hid (∃ st', Quiet st' f n ∧ Sep w wr [machThing b (12401 + k * 310) st' K])) (fun i _ => m.length - (intOf i).toNat)
    case atStart => exact ⟨0, Nat.zero_le _, rfl, st1, HQ.out.2.1, HS3.out⟩
    case round =>
      obtain ⟨k, hk, rfl, HR⟩ := hrel
      obtain ⟨st', hq, hs⟩ := HR.out
      have HQ' := Lib.hid hq
      have HS := Lib.hid hs
      clear hq hs
      by_cases hlt : k < m.length
      · obtain ⟨bb, off, kv', rfl, c0, c1', c2', c3, c4, hkv, hwf⟩ := H2.out.get HS.out.turns hlt
        obtain ⟨ka', kc', rfl, -⟩ := id hkv
        obtain ⟨x, hx⟩ : ∃ x, x = m[k] := ⟨_, rfl⟩
        have hsz := fewD_act HM.out hlt
        rw [← hx] at c0 c1' c2' c3 c4 hkv hwf hsz
        have HX := Lib.hid (And.intro hx (And.intro hkv hwf)); clear hx hkv hwf
        have hltI : (k : Int) < (m.length : Int) := by omega
        have hand := and7 x.doo
        have hskip : Hid (∃ st', Quiet st' f n ∧ Sep w wr [machThing b (12401 + (k + 1) * 310) st' K]) := ⟨st', HQ'.out, Sep.mach_more [] [] HS.out (by omega) rfl rfl⟩
        by_cases c4' : x.doo % 8 = 4
        · have t1 : decide (x.doo % 8 < 4) = false := decide_eq_false (by omega)
          have t2 : (x.doo % 8 == 4) = true := by simp [c4']
          have HG := Lib.hid (show x.doo % 8 < 4 ∧ x.f ≠ f ∨ x.doo % 8 = 4 from Or.inr c4')
          have HG5 : Hid (doK K x = K) := by show doK K x = K; rw [doK, if_neg (by omega)]
          clear c4' hskip
          go_wp2_with fail
          refine (do_sep [] [] x _ HS.out HX.out.2.1 HX.out.2.2 (by omega) (by omega) (by omega)).mono ?_
          rintro e w5 ⟨rfl, hs5⟩
          have HS5 : Hid (∃ st', Quiet st' f n ∧ Sep w w5 [machThing b (12401 + (k + 1) * 310) st' K]) := ⟨_, HQ'.out.do K x HG.out, Sep.mach_more [] [] hs5 (by omega) rfl HG5.out.symm⟩
          clear hs5
          go_wp2_with fail
          go_roundw
          case rel => exact ⟨k + 1, by omega, by go_num, HS5.out⟩
          case measure => simp [intOf]; omega
        · have t2 : (x.doo % 8 == 4) = false := by simpa using c4'
          by_cases cl : x.doo % 8 < 4
          · have t1 : decide (x.doo % 8 < 4) = true := decide_eq_true cl
            by_cases cf : x.f = f
            · have t3 : (x.f == f) = true := by simp [cf]
              have t4 : (x.f != f) = false := by simp [cf]
              clear cf cl c4'
              go_wp2_with fail
              go_roundw
              case rel => exact ⟨k + 1, by omega, by go_num, hskip.out⟩
              case measure => simp [intOf]; omega
            · have t3 : (x.f == f) = false := by simpa using cf
              have t4 : (x.f != f) = true := by simpa using cf
              have HG := Lib.hid (show x.doo % 8 < 4 ∧ x.f ≠ f ∨ x.doo % 8 = 4 from Or.inl ⟨cl, cf⟩)
              have HG5 : Hid (doK K x = K) := by show doK K x = K; rw [doK, if_neg (by omega)]
              clear c4' hskip cf cl
              go_wp2_with fail
              refine (do_sep [] [] x _ HS.out HX.out.2.1 HX.out.2.2 (by omega) (by omega) (by omega)).mono ?_
              rintro e w5 ⟨rfl, hs5⟩
              have HS5 : Hid (∃ st', Quiet st' f n ∧ Sep w w5 [machThing b (12401 + (k + 1) * 310) st' K]) := ⟨_, HQ'.out.do K x HG.out, Sep.mach_more [] [] hs5 (by omega) rfl HG5.out.symm⟩
              clear hs5
              go_wp2_with fail
              go_roundw
              case rel => exact ⟨k + 1, by omega, by go_num, HS5.out⟩
              case measure => simp [intOf]; omega
          · have t1 : decide (x.doo % 8 < 4) = false := decide_eq_false cl
            clear cl c4'
            go_wp2_with fail
            go_roundw
            case rel => exact ⟨k + 1, by omega, by go_num, hskip.out⟩
            case measure => simp [intOf]; omega
      · have hltI : decide ((k : Int) < (m.length : Int)) = false := decide_eq_false (by omega)
        go_wp2_with fail
        refine (dcrash_sep [] [] _ C HS.out HKV.out (by omega) (by omega)).mono ?_
        rintro e w5 ⟨rfl, hs5⟩
        have HS5 := Lib.hid hs5; clear hs5
        go_wp2_with fail
        refine (dstart_sep [] [] HS5.out).mono ?_
        rintro e w6 ⟨rfl, hs6⟩
        have HS6 := Lib.hid hs6; clear hs6
        go_wp2_with fail
        refine (dread_sep [] [] f 0 16777216 HS6.out hf).mono ?_
        rintro e w7 ⟨rfl, rfl⟩
        obtain ⟨_, f0, f1⟩ := may_zero HQ.out.1
        obtain ⟨r1, r2⟩ := read_whole (st := { crashS st' C with down := false }) (f := f) (may_of rfl f0 f1)
        have e1 : ({ crashS st' C with down := false } : DS).F f = ⟨n, n⟩ := (HQ'.out.crash C).1
        rw [e1] at r2
        dsimp only at r2
        rw [r1, r2]
        clear r1 r2 e1
        go_wp2_with fail
        go_ret
        exact ⟨rfl, HS6.out.turns⟩
  · have hz1 : (syncCode st K f == 0) = false := by simpa using hz
    have hz2 : (syncCode st K f != 0) = true := by simpa using hz
    clear hz
    go_wp2_with fail
    go_ret
    exact ⟨rfl, HS3.out.turns⟩

theorem synced_walk (a1 : Option Addr) (c1 : Nat) (l : List DAct) (f : Int) (a2 : Option Addr) (c2 : Nat) (m : List DAct) (ka : Option Addr) (kc : Nat) (C : List Int) (w : World) (h1 : ActsAt w a1 l) (hl1 : l.length ≤ maxLen) (hf : (Lit.int .i64 f).wf = true)
    (h2 : ActsAt w a2 m) (hl2 : m.length ≤ maxLen) (hk : IntsAt w ka C) :
    Calls Try.prog 9 #[.slice a1 l.length c1, .int .i64 f, .slice a2 m.length c2, .slice ka C.length kc] w fun e w' => e = .returned (.bool true) ∧ Below w.heap.size w w' := by
  have hkv : IntsV w (.slice ka C.length kc) C := ⟨ka, kc, rfl, hk⟩
  by_cases h : fewD l = true ∧ fewD m = true ∧ C.length ≤ 60
  · exact (synced_run a1 a2 c1 c2 l m f _ C w h1 h2 hkv hf h.1 h.2.1 h.2.2).mono fun e w' ⟨e1, e2⟩ => ⟨e1, e2.below (Nat.le_refl _) (by simp)⟩
  · exact (synced_few a1 a2 c1 c2 l m f _ C w h1 h2 hkv hl1 hl2 h).mono fun e w' ⟨e1, e2⟩ => ⟨e1, e2.below (Nat.le_refl _) (by simp)⟩

theorem synced_row (a1 : Option Addr) (c1 : Nat) (l : List DAct) (f : Int) (a2 : Option Addr) (c2 : Nat) (m : List DAct) (ka : Option Addr) (kc : Nat) (C : List Int) (w : World) (h1 : ActsIn w a1 l) (hf : (Lit.int .i64 f).wf = true)
    (h2 : ActsIn w a2 m) (hk : IntsIn w ka C) :
    Calls Try.prog 9 #[.slice a1 l.length c1, .int .i64 f, .slice a2 m.length c2, .slice ka C.length kc] w fun e w' => e = .returned (.bool true) ∧ Below w.heap.size w w' :=
  synced_walk a1 c1 l f a2 c2 m ka kc C w h1.2 h1.1 hf h2.2 h2.1 hk.2

end Go.Proofs.Ytmikjninonpejaa

/- Plain: what is written is read again. No program in sight. -/
namespace Go.Proofs.Ytmikjninonpejaa

theorem read_part {st : DS} {f : Int} (h : mayCode st f = 0) (a z : Nat) : readCode st f (a : Int) (z : Int) = 0 ∧ readStr st f (a : Int) (z : Int) = (st.F f).now.extract a (a + z) := by
  have e : readCode st f (a : Int) (z : Int) = 0 := by rw [readCode, if_pos h, if_neg (by omega)]
  refine ⟨e, ?_⟩
  rw [readStr, if_pos e]
  simp
theorem extract_full (s : ByteArray) : s.extract 0 s.size = s := bytes_ext (by rw [extract_size]; omega) (fun i hi => by
  rw [extract_size] at hi
  rw [extract_at, if_pos (by omega)]; congr 1; omega)
theorem extract_most (s : ByteArray) (z : Nat) (h : s.size ≤ z) : s.extract 0 z = s := bytes_ext (by rw [extract_size]; omega) (fun i hi => by
  rw [extract_size] at hi
  rw [extract_at, if_pos (by omega)]; congr 1; omega)
theorem put_read (s : ByteArray) (a : Nat) (t : ByteArray) (ht : 0 < t.size) : (putB s a t).extract a (a + t.size) = t := by
  have hs := putB_size s a t
  rw [if_neg (by omega)] at hs
  refine bytes_ext (by rw [extract_size, hs]; omega) (fun i hi => ?_)
  rw [extract_size, hs] at hi
  rw [extract_at, if_pos (by omega), putB_at, if_pos (by omega)]
  congr 1
  omega
theorem part_of (s : ByteArray) (a z fr m : Nat) (h1 : fr = min a s.size) (h2 : m = min z (s.size - fr)) : s.extract a (a + z) = s.extract fr (fr + m) := by
  refine bytes_ext (by rw [extract_size, extract_size]; omega) (fun i hi => ?_)
  rw [extract_size] at hi
  rw [extract_at, extract_at, if_pos (by omega), if_pos (by omega)]
  congr 1
  omega

/-- A disk that is not armed. -/
theorem idle_ends {st : DS} (h : st.armed = 0) : endsB st = false ∧ endsS st = st := by simp [endsB, endsS, h]
theorem idle_write {st : DS} (h : st.armed = 0) (K : List Int) (f a : Int) (s : ByteArray) : writeCode st f a s = wrCode st f a s ∧ writeS st K f a s = wrS st f a s := by
  obtain ⟨h1, h2⟩ := idle_ends h
  simp [writeCode, writeS, h1, h2]
theorem reads_no {st : DS} (h : st.armed = 0) {f : Int} (hm : mayCode st f ≠ 0) (a : Int) (s : ByteArray) : writeCode st f a s = mayCode st f := by
  rw [(idle_write h [] f a s).1, wrCode, if_pos hm]
/-- Behind the write. -/
structure Wrote (x : DS) (f : Int) (n : Nat) (s : ByteArray) : Prop where
  may : mayCode x f = 0
  armed : x.armed = 0
  size : (x.F f).now.size ≤ 16777216
  str : (x.F f).now.extract n (n + s.size) = s
theorem reads_yes {st : DS} (hI : DInv st) (h : st.armed = 0) {f : Int} (hm : mayCode st f = 0) (n : Nat) (hn : n ≤ 3000) (s : ByteArray) (hs : s.size ≤ 300) (K : List Int) :
    writeCode st f n s = 0 ∧ Wrote (writeS st K f n s) f n s := by
  have e1 : wrCode st f (n : Int) s = 0 := by rw [wrCode, if_neg (by simp [hm]), if_neg (by omega), if_neg (by omega)]
  rw [(idle_write h K f n s).1, (idle_write h K f n s).2]
  refine ⟨e1, ?_, ?_, ((hI.wr f n s).size f).2, ?_⟩
  · unfold wrS; split <;> exact hm
  · unfold wrS; split <;> exact h
  · by_cases h0 : 0 < s.size
    · rw [wrS, if_pos ⟨e1, h0⟩]
      simp only [updF_same, Int.toNat_natCast]
      exact put_read _ _ _ h0
    · rw [wrS, if_neg (by omega)]
      exact bytes_ext (by rw [extract_size]; omega) (fun i hi => by rw [extract_size] at hi; omega)
theorem reads_cut {x : DS} {f : Int} {n : Nat} {s : ByteArray} (h : Wrote x f n s) (fr : Nat) (hfr : fr ≤ (x.F f).now.size) (K C : List Int) :
    truncCode x K f fr = 0 ∧ readCode { crashS (truncS x K f fr) C with down := false } f 0 16777216 = 0 ∧ readStr { crashS (truncS x K f fr) C with down := false } f 0 16777216 = (x.F f).now.extract 0 fr := by
  obtain ⟨h1, h2⟩ := idle_ends h.armed
  have he : endS x K = x := by simp [endS, h1, h2]
  have hz := h.size
  obtain ⟨hd, f0, f1⟩ := may_zero h.may
  have hc : truncCode x K f fr = 0 := by rw [truncCode, he, if_neg (by simp [h.may]), if_neg (by omega)]
  have ht : truncS x K f fr = settleS x f ((x.F f).now.extract 0 fr) := by
    unfold truncS
    simp only [he]
    rw [if_neg (by simp [h.may]), if_neg (by omega)]
    simp
  have hq : Quiet (truncS x K f fr) f ((x.F f).now.extract 0 fr) := by
    rw [ht]
    refine ⟨by simp only [settleS]; rw [updF_same], fun p hp => ?_⟩
    have := (List.mem_filter.1 hp).2
    simpa using this
  have hq2 := hq.crash C
  obtain ⟨r1, r2⟩ := read_whole (st := { crashS (truncS x K f fr) C with down := false }) (f := f) (may_of rfl f0 f1)
  refine ⟨hc, r1, ?_⟩
  rw [r2]
  show ((crashS (truncS x K f fr) C).F f).now.extract 0 16777216 = _
  rw [hq2.1]
  exact extract_most _ _ (by rw [extract_size]; omega)

end Go.Proofs.Ytmikjninonpejaa

/- Statements about the disk: DiskReads, the walk. -/
namespace Go.Proofs.Ytmikjninonpejaa
open Go.RowKit Go.Proofs.YtmikjninonpejaaMem Go.Maps

set_option maxHeartbeats 6400000 in
set_option maxRecDepth 100000 in
theorem reads_few (a1 : Option Addr) (c1 : Nat) (l : List DAct) (f a : Int) (s : ByteArray) (z : Int) (w : World) (h1 : ActsAt w a1 l) (hl1 : l.length ≤ maxLen)
    (hno : ¬ (fewD l = true ∧ s.size ≤ 300 ∧ 0 ≤ a ∧ a ≤ 3000 ∧ 0 ≤ z)) :
    Calls Try.prog 11 #[.slice a1 l.length c1, .int .i64 f, .int .i64 a, .string s, .int .i64 z] w fun e w' => e = .returned (.bool true) ∧ Turns [] w w' := by
  have H1 := Lib.hid h1; clear h1
  have hcases : fewD l = false ∨ (fewD l = true ∧ (decide ((300 : Int) < (s.size : Int)) = true ∨ (decide ((300 : Int) < (s.size : Int)) = false ∧ (decide (a < 0) = true ∨ (decide (a < 0) = false ∧ (decide (3000 < a) = true ∨ (decide (3000 < a) = false ∧ decide (z < 0) = true))))))) := by
    cases hf : fewD l
    · exact Or.inl rfl
    · refine Or.inr ⟨rfl, ?_⟩
      by_cases g1 : (300 : Int) < (s.size : Int)
      · exact Or.inl (decide_eq_true g1)
      · refine Or.inr ⟨decide_eq_false g1, ?_⟩
        by_cases g2 : a < 0
        · exact Or.inl (decide_eq_true g2)
        · refine Or.inr ⟨decide_eq_false g2, ?_⟩
          by_cases g3 : 3000 < a
          · exact Or.inl (decide_eq_true g3)
          · exact Or.inr ⟨decide_eq_false g3, decide_eq_true (by
              by_cases g4 : z < 0
              · exact g4
              · exact absurd ⟨hf, by omega, by omega, by omega, by omega⟩ hno)⟩
  clear hno
  rcases hcases with hfl | ⟨hfl, hrest⟩
  · have HL := Lib.hid hfl; clear hfl
    go_enter Try.func11, Try.ntmps11
    go_wp2_with fail
    refine (small_disk _).mono ?_
    rintro e w1 ⟨rfl, ht1⟩
    have HT := Lib.hid ht1; clear ht1
    go_wp2_with fail
    refine (few_acts a1 c1 l _ (H1.out.kept HT.out) hl1).mono ?_
    rintro e w2 ⟨rfl, rfl⟩
    rw [HL.out]
    go_wp2_with fail
    go_ret
    exact ⟨rfl, HT.out⟩
  · have HL := Lib.hid hfl; clear hfl
    have HREST := Lib.hid hrest; clear hrest
    go_enter Try.func11, Try.ntmps11
    go_wp2_with fail
    refine (small_disk _).mono ?_
    rintro e w1 ⟨rfl, ht1⟩
    have HT := Lib.hid ht1; clear ht1
    go_wp2_with fail
    refine (few_acts a1 c1 l _ (H1.out.kept HT.out) hl1).mono ?_
    rintro e w2 ⟨rfl, rfl⟩
    rw [HL.out]
    rcases HREST.out with g1 | ⟨g1, g2 | ⟨g2, g3 | ⟨g3, g4⟩⟩⟩
    all_goals
      go_wp2_with fail
      go_ret
      exact ⟨rfl, HT.out⟩

theorem slice_to (N : ByteArray) (fr : Nat) (h : fr ≤ N.size) (w : World) : (Instr.slice 9 (.string N) none (some (.int .i64 (fr : Int))) none).run Try.prog w = .ok (.string (N.extract 0 fr)) w := by
  have u9 := Try.underlying9
  have h2 : (fr : Int) ≤ (N.size : Int) := by omega
  go_simp

set_option maxHeartbeats 6400000 in
set_option maxRecDepth 100000 in
theorem reads_run (a1 : Option Addr) (c1 : Nat) (l : List DAct) (f : Int) (n : Nat) (s : ByteArray) (z : Nat) (w : World) (h1 : ActsAt w a1 l) (hf : (Lit.int .i64 f).wf = true)
    (hfl : fewD l = true) (hs : s.size ≤ 300) (hn : n ≤ 3000) (hz : z ≤ 9223372036854775807) :
    Calls Try.prog 11 #[.slice a1 l.length c1, .int .i64 f, .int .i64 n, .string s, .int .i64 z] w fun e w' => e = .returned (.bool true) ∧ Turns [] w w' := by
  have H1 := Lib.hid h1; clear h1
  have HL := Lib.hid hfl; clear hfl
  have hll := fewD_len HL.out
  have g1 : decide ((300 : Int) < (s.size : Int)) = false := decide_eq_false (by omega)
  have g2 : decide ((n : Int) < 0) = false := decide_eq_false (by omega)
  have g3 : decide ((3000 : Int) < (n : Int)) = false := decide_eq_false (by omega)
  have g4 : decide ((z : Int) < 0) = false := decide_eq_false (by omega)
  go_enter Try.func11, Try.ntmps11
  go_wp2_with fail
  refine (small_disk _).mono ?_
  rintro e w1 ⟨rfl, ht1⟩
  have HT := Lib.hid ht1; clear ht1
  go_wp2_with fail
  refine (few_acts a1 c1 l _ (H1.out.kept HT.out) (by unfold maxLen; omega)).mono ?_
  rintro e w2 ⟨rfl, rfl⟩
  rw [HL.out]
  go_wp2_with fail
  refine (played_any [] a1 c1 l _ ((Sep.start w).quiet HT.out) H1.out HL.out).mono ?_
  rintro e w2 ⟨b, rfl, hs2⟩
  generalize (playTo DS.new [] l l.length).1 = st0 at hs2
  generalize (playTo DS.new [] l l.length).2 = K0 at hs2
  have HS2 := Lib.hid (Sep.mach_more (C := 12400) [] [] hs2 (by omega) rfl rfl); clear hs2
  go_wp2_with fail
  refine (darm_sep [] [] 0 (.slice none 0 0) [] HS2.out ⟨none, 0, rfl, fun i hi => by simp at hi⟩ (by omega) (by simp)).mono ?_
  rintro e w3 ⟨rfl, hs3⟩
  have harm : ({ st0 with armed := max 0 0 } : DS).armed = 0 := rfl
  generalize ({ st0 with armed := max 0 0 } : DS) = st at hs3 harm
  have HS3 := Lib.hid hs3; clear hs3
  have HARM := Lib.hid harm; clear harm HS2
  have HI := Lib.hid (mach_inv [] [] HS3.out)
  go_wp2_with fail
  refine (ddown_sep [] [] HS3.out).mono ?_
  rintro e w4 ⟨rfl, rfl⟩
  by_cases hm : mayCode st f = 0
  · obtain ⟨m1, m2, m3⟩ := may_zero hm
    have k1 : decide (f < 0) = false := decide_eq_false (by omega)
    have k2 : decide (15 < f) = false := decide_eq_false (by omega)
    rw [m1]
    obtain ⟨q1, q2⟩ := reads_yes HI.out HARM.out hm n hn s hs []
    have HQ := Lib.hid (And.intro q1 q2)
    clear hm m1 m2 m3 q1 q2
    go_wp2_with fail
    refine (dwrite_sep [] [] f n s HS3.out hf (by omega) (by simp)).mono ?_
    rintro e w4 ⟨rfl, hs4⟩
    rw [HQ.out.1]
    have hwr := HQ.out.2
    generalize writeS st [] f n s = x at hs4 hwr
    have HS4 := Lib.hid hs4; clear hs4
    have HW := Lib.hid hwr; clear hwr HS3
    go_wp2_with fail
    refine (dread_sep [] [] f n s.size HS4.out hf).mono ?_
    rintro e w5 ⟨rfl, rfl⟩
    obtain ⟨r1, r2⟩ := read_part HW.out.may n s.size
    rw [r1, r2, HW.out.str]
    clear r1 r2
    go_wp2_with fail
    refine (dsize_sep [] [] f HS4.out hf).mono ?_
    rintro e w5 ⟨rfl, rfl⟩
    obtain ⟨N, hN⟩ : ∃ N, N = (x.F f).now := ⟨_, rfl⟩
    have hsz := HW.out.size
    rw [← hN] at hsz ⊢
    have HN := Lib.hid hN; clear hN
    go_wp2_with fail
    refine (dread_sep [] [] f 0 N.size HS4.out hf).mono ?_
    rintro e w5 ⟨rfl, rfl⟩
    obtain ⟨r1, r2⟩ := read_part HW.out.may 0 N.size
    rw [← HN.out, Nat.zero_add, extract_full] at r2
    rw [show ((0 : Nat) : Int) = 0 from rfl] at r1 r2
    rw [r1, r2]
    clear r1 r2
    go_wp2_with fail
    refine (dread_sep [] [] f n z HS4.out hf).mono ?_
    rintro e w5 ⟨rfl, rfl⟩
    obtain ⟨r1, r2⟩ := read_part HW.out.may n z
    rw [← HN.out] at r2
    rw [r1, r2]
    clear r1 r2
    go_wp2_with fail
    refine (dsize_sep [] [] f HS4.out hf).mono ?_
    rintro e w5 ⟨rfl, rfl⟩
    rw [← HN.out]
    by_cases hA : n ≤ N.size
    · have t1 : ¬ (N.size < n) := by omega
      by_cases hB : z ≤ N.size - n
      · have t2 : ¬ ((N.size : Int) - (n : Int) < (z : Int)) := by omega
        have hpart := part_of N n z (n) (z) (by omega) (by omega)
        rw [hpart]
        clear hpart
        have hsl : ∀ w', (Instr.slice 9 (.string N) (some (.int .i64 (n : Int))) (some (.int .i64 ((n : Int) + (z : Int)))) none).run Try.prog w' = .ok (.string (N.extract (n) (n + z))) w' := fun w' => by
          rw [run_slice_string (P := Try.prog) w' 9 N .i64 .i64 (n : Int) ((n : Int) + (z : Int)) Try.underlying9 (by omega) (by omega) (by omega), Int.toNat_natCast]
          congr 3 <;> omega
        have hsl2 : ∀ w', (Instr.slice 9 (.string N) none (some (.int .i64 (n : Int))) none).run Try.prog w' = .ok (.string (N.extract 0 (n))) w' := fun w' => slice_to N (n) (by omega) w'
        go_wp2_with fail
        refine (dtrunc_sep [] [] f (n : Int) HS4.out hf (by omega) (by simp)).mono ?_
        rintro e w6 ⟨rfl, hs6⟩
        obtain ⟨u1, u2, u3⟩ := reads_cut HW.out n (by rw [← HN.out]; omega) [] []
        rw [u1]
        rw [← HN.out] at u3
        have HS6 := Lib.hid hs6; clear hs6
        have HU := Lib.hid (And.intro u2 u3); clear u1 u2 u3
        go_wp2_with fail
        refine (dcrash_sep [] [] (.slice none 0 0) [] HS6.out ⟨none, 0, rfl, fun i hi => by simp at hi⟩ (by omega) (by simp)).mono ?_
        rintro e w7 ⟨rfl, hs7⟩
        have HS7 := Lib.hid hs7; clear hs7
        go_wp2_with fail
        refine (dstart_sep [] [] HS7.out).mono ?_
        rintro e w8 ⟨rfl, hs8⟩
        have HS8 := Lib.hid hs8; clear hs8
        go_wp2_with fail
        refine (dread_sep [] [] f 0 16777216 HS8.out hf).mono ?_
        rintro e w9 ⟨rfl, rfl⟩
        rw [HU.out.1, HU.out.2]
        go_wp2_with fail
        go_ret
        exact ⟨rfl, HS8.out.turns⟩
      · have t2 : (N.size : Int) - (n : Int) < (z : Int) := by omega
        have hpart := part_of N n z (n) (N.size - n) (by omega) (by omega)
        rw [hpart]
        clear hpart
        have hsl : ∀ w', (Instr.slice 9 (.string N) (some (.int .i64 (n : Int))) (some (.int .i64 ((n : Int) + ((N.size : Int) - (n : Int))))) none).run Try.prog w' = .ok (.string (N.extract (n) (n + (N.size - n)))) w' := fun w' => by
          rw [run_slice_string (P := Try.prog) w' 9 N .i64 .i64 (n : Int) ((n : Int) + ((N.size : Int) - (n : Int))) Try.underlying9 (by omega) (by omega) (by omega), Int.toNat_natCast]
          congr 3 <;> omega
        have hsl2 : ∀ w', (Instr.slice 9 (.string N) none (some (.int .i64 (n : Int))) none).run Try.prog w' = .ok (.string (N.extract 0 (n))) w' := fun w' => slice_to N (n) (by omega) w'
        go_wp2_with fail
        refine (dtrunc_sep [] [] f (n : Int) HS4.out hf (by omega) (by simp)).mono ?_
        rintro e w6 ⟨rfl, hs6⟩
        obtain ⟨u1, u2, u3⟩ := reads_cut HW.out n (by rw [← HN.out]; omega) [] []
        rw [u1]
        rw [← HN.out] at u3
        have HS6 := Lib.hid hs6; clear hs6
        have HU := Lib.hid (And.intro u2 u3); clear u1 u2 u3
        go_wp2_with fail
        refine (dcrash_sep [] [] (.slice none 0 0) [] HS6.out ⟨none, 0, rfl, fun i hi => by simp at hi⟩ (by omega) (by simp)).mono ?_
        rintro e w7 ⟨rfl, hs7⟩
        have HS7 := Lib.hid hs7; clear hs7
        go_wp2_with fail
        refine (dstart_sep [] [] HS7.out).mono ?_
        rintro e w8 ⟨rfl, hs8⟩
        have HS8 := Lib.hid hs8; clear hs8
        go_wp2_with fail
        refine (dread_sep [] [] f 0 16777216 HS8.out hf).mono ?_
        rintro e w9 ⟨rfl, rfl⟩
        rw [HU.out.1, HU.out.2]
        go_wp2_with fail
        go_ret
        exact ⟨rfl, HS8.out.turns⟩
    · have t1 : N.size < n := by omega
      by_cases hB : 0 < z
      · have t2 : (0 : Int) < (z : Int) := by omega
        have hpart := part_of N n z (N.size) (0) (by omega) (by omega)
        rw [hpart]
        clear hpart
        have hsl : ∀ w', (Instr.slice 9 (.string N) (some (.int .i64 (N.size : Int))) (some (.int .i64 ((N.size : Int)))) none).run Try.prog w' = .ok (.string (N.extract (N.size) (N.size + 0))) w' := fun w' => by
          rw [run_slice_string (P := Try.prog) w' 9 N .i64 .i64 (N.size : Int) ((N.size : Int)) Try.underlying9 (by omega) (by omega) (by omega), Int.toNat_natCast]
          congr 3 <;> omega
        have hsl2 : ∀ w', (Instr.slice 9 (.string N) none (some (.int .i64 (N.size : Int))) none).run Try.prog w' = .ok (.string (N.extract 0 (N.size))) w' := fun w' => slice_to N (N.size) (by omega) w'
        go_wp2_with fail
        refine (dtrunc_sep [] [] f (N.size : Int) HS4.out hf (by omega) (by simp)).mono ?_
        rintro e w6 ⟨rfl, hs6⟩
        obtain ⟨u1, u2, u3⟩ := reads_cut HW.out N.size (by rw [← HN.out]; omega) [] []
        rw [u1]
        rw [← HN.out] at u3
        have HS6 := Lib.hid hs6; clear hs6
        have HU := Lib.hid (And.intro u2 u3); clear u1 u2 u3
        go_wp2_with fail
        refine (dcrash_sep [] [] (.slice none 0 0) [] HS6.out ⟨none, 0, rfl, fun i hi => by simp at hi⟩ (by omega) (by simp)).mono ?_
        rintro e w7 ⟨rfl, hs7⟩
        have HS7 := Lib.hid hs7; clear hs7
        go_wp2_with fail
        refine (dstart_sep [] [] HS7.out).mono ?_
        rintro e w8 ⟨rfl, hs8⟩
        have HS8 := Lib.hid hs8; clear hs8
        go_wp2_with fail
        refine (dread_sep [] [] f 0 16777216 HS8.out hf).mono ?_
        rintro e w9 ⟨rfl, rfl⟩
        rw [HU.out.1, HU.out.2]
        go_wp2_with fail
        go_ret
        exact ⟨rfl, HS8.out.turns⟩
      · obtain rfl : z = 0 := by omega
        have hpart := part_of N n 0 (N.size) (0) (by omega) (by omega)
        rw [hpart]
        clear hpart
        have hsl : ∀ w', (Instr.slice 9 (.string N) (some (.int .i64 (N.size : Int))) (some (.int .i64 ((N.size : Int)))) none).run Try.prog w' = .ok (.string (N.extract (N.size) (N.size + 0))) w' := fun w' => by
          rw [run_slice_string (P := Try.prog) w' 9 N .i64 .i64 (N.size : Int) ((N.size : Int)) Try.underlying9 (by omega) (by omega) (by omega), Int.toNat_natCast]
          congr 3 <;> omega
        have hsl2 : ∀ w', (Instr.slice 9 (.string N) none (some (.int .i64 (N.size : Int))) none).run Try.prog w' = .ok (.string (N.extract 0 (N.size))) w' := fun w' => slice_to N (N.size) (by omega) w'
        go_wp2_with fail
        refine (dtrunc_sep [] [] f (N.size : Int) HS4.out hf (by omega) (by simp)).mono ?_
        rintro e w6 ⟨rfl, hs6⟩
        obtain ⟨u1, u2, u3⟩ := reads_cut HW.out N.size (by rw [← HN.out]; omega) [] []
        rw [u1]
        rw [← HN.out] at u3
        have HS6 := Lib.hid hs6; clear hs6
        have HU := Lib.hid (And.intro u2 u3); clear u1 u2 u3
        go_wp2_with fail
        refine (dcrash_sep [] [] (.slice none 0 0) [] HS6.out ⟨none, 0, rfl, fun i hi => by simp at hi⟩ (by omega) (by simp)).mono ?_
        rintro e w7 ⟨rfl, hs7⟩
        have HS7 := Lib.hid hs7; clear hs7
        go_wp2_with fail
        refine (dstart_sep [] [] HS7.out).mono ?_
        rintro e w8 ⟨rfl, hs8⟩
        have HS8 := Lib.hid hs8; clear hs8
        go_wp2_with fail
        refine (dread_sep [] [] f 0 16777216 HS8.out hf).mono ?_
        rintro e w9 ⟨rfl, rfl⟩
        rw [HU.out.1, HU.out.2]
        go_wp2_with fail
        go_ret
        exact ⟨rfl, HS8.out.turns⟩
  · have hwc := reads_no HARM.out hm (n : Int) s
    have hd := HARM.out
    have hc1 : (mayCode st f == 0) = false := by simpa using hm
    have hc2 : (mayCode st f != 0) = true := by simpa using hm
    have HWC := Lib.hid hwc
    clear hwc hd
    cases hdn : st.down
    · have hfr : f < 0 ∨ 15 < f := by
        unfold mayCode at hm
        rw [hdn, if_neg (by simp)] at hm
        by_cases h : f < 0 ∨ 16 ≤ f
        · omega
        · rw [if_neg h] at hm; exact absurd rfl hm
      have HD := Lib.hid hdn
      clear hdn hm
      by_cases h0 : f < 0
      · have k1 : decide (f < 0) = true := decide_eq_true h0
        clear hfr h0
        go_wp2_with fail
        refine (dwrite_sep [] [] f n s HS3.out hf (by omega) (by simp)).mono ?_
        rintro e w4 ⟨rfl, hs4⟩
        rw [HWC.out]
        have HS4 := Lib.hid hs4; clear hs4
        go_wp2_with fail
        go_ret
        exact ⟨rfl, HS4.out.turns⟩
      · have k1 : decide (f < 0) = false := decide_eq_false h0
        have k2 : decide (15 < f) = true := decide_eq_true (by omega)
        clear hfr h0
        go_wp2_with fail
        refine (dwrite_sep [] [] f n s HS3.out hf (by omega) (by simp)).mono ?_
        rintro e w4 ⟨rfl, hs4⟩
        rw [HWC.out]
        have HS4 := Lib.hid hs4; clear hs4
        go_wp2_with fail
        go_ret
        exact ⟨rfl, HS4.out.turns⟩
    · have HD := Lib.hid hdn
      clear hdn hm
      go_wp2_with fail
      refine (dwrite_sep [] [] f n s HS3.out hf (by omega) (by simp)).mono ?_
      rintro e w4 ⟨rfl, hs4⟩
      rw [HWC.out]
      have HS4 := Lib.hid hs4; clear hs4
      go_wp2_with fail
      go_ret
      exact ⟨rfl, HS4.out.turns⟩

theorem reads_row (a1 : Option Addr) (c1 : Nat) (l : List DAct) (f a : Int) (s : ByteArray) (z : Int) (w : World) (h1 : ActsIn w a1 l) (hf : (Lit.int .i64 f).wf = true) (_ : (Lit.int .i64 a).wf = true) (_ : s.size ≤ maxLen) (hz : (Lit.int .i64 z).wf = true) :
    Calls Try.prog 11 #[.slice a1 l.length c1, .int .i64 f, .int .i64 a, .string s, .int .i64 z] w fun e w' => e = .returned (.bool true) ∧ Below w.heap.size w w' := by
  by_cases h : fewD l = true ∧ s.size ≤ 300 ∧ 0 ≤ a ∧ a ≤ 3000 ∧ 0 ≤ z
  · obtain ⟨g1, g2, g3, g4, g5⟩ := h
    obtain ⟨n, rfl⟩ := Int.eq_ofNat_of_zero_le g3
    obtain ⟨y, rfl⟩ := Int.eq_ofNat_of_zero_le g5
    have e1 : IntKind.i64.max = 9223372036854775807 := by decide
    have hy : y ≤ 9223372036854775807 := by
      simp [Lit.wf, e1] at hz
      omega
    exact (reads_run a1 c1 l f n s y w h1.2 hf g1 g2 (by omega) hy).mono fun e w' ⟨e1, e2⟩ => ⟨e1, e2.below (Nat.le_refl _) (by simp)⟩
  · exact (reads_few a1 c1 l f a s z w h1.2 h1.1 h).mono fun e w' ⟨e1, e2⟩ => ⟨e1, e2.below (Nat.le_refl _) (by simp)⟩

end Go.Proofs.Ytmikjninonpejaa

/- Plain: what survives a crash. No program in sight. -/
namespace Go.Proofs.Ytmikjninonpejaa

def afterS (st : DS) (C : List Int) : DS := { crashS st C with down := false }
/-- The file behind a crash. -/
def afterB (st : DS) (f : Int) (C : List Int) : ByteArray := (crashTo C st.Q st.F st.Q.length f).last
theorem after_left {st : DS} (hI : DInv st) (f : Int) (C : List Int) : Left (st.F f) (crashTo C st.Q st.F st.Q.length f) (fun n => sv C st.Q f n st.Q.length) :=
  left_to C st.Q st.F f (fun p hp => (hI.secs p hp).2.2.1) _ (Nat.le_refl _)
theorem after_read {st : DS} (hI : DInv st) (hd : st.down = false) {f : Int} (hf : 0 ≤ f ∧ f < 16) (C : List Int) :
    readCode (afterS st C) f 0 16777216 = 0 ∧ readStr (afterS st C) f 0 16777216 = afterB st f C := by
  obtain ⟨r1, r2⟩ := read_whole (st := afterS st C) (f := f) (may_of rfl hf.1 hf.2)
  refine ⟨r1, ?_⟩
  rw [r2]
  have e : (afterS st C).F f = ⟨afterB st f C, afterB st f C⟩ := by simp [afterS, crashS, hd, lastF, afterB]
  rw [e]
  have h1 := (after_left hI f C).hi
  have h2 := hI.size f
  exact extract_most _ _ (by show (crashTo C st.Q st.F st.Q.length f).last.size ≤ _; omega)
theorem after_nil (st : DS) (f : Int) : afterB st f [] = (st.F f).last := by rw [afterB, crashTo_nil]
theorem after_all {st : DS} (hI : DInv st) (f : Int) : afterB st f [1] = (st.F f).now := by
  have h := after_left hI f [1]
  have h2 := hI.size f
  have hsv : ∀ n : Nat, (f, (n : Int)) ∈ st.Q → sv [1] st.Q f n st.Q.length = true := fun n hn => by
    obtain ⟨j, hj, e⟩ := List.getElem_of_mem hn
    exact sv_all surv_one (Nat.le_refl _) j hj (by rw [List.getElem?_eq_getElem hj, e])
  have hsz : (afterB st f [1]).size = (st.F f).now.size := by
    have h3 := h.hi
    have h4 := h.lo
    unfold afterB
    by_cases ht : (st.F f).last.size < (st.F f).now.size
    · have h5 := h.end' _ (hsv _ (hI.tail f ht)) (by omega)
      omega
    · omega
  refine bytes_ext hsz (fun i hi => ?_)
  unfold afterB
  rw [h.at' i]
  by_cases hs : sv [1] st.Q f (i / 64) st.Q.length = true
  · rw [if_pos ⟨hs, by omega⟩]
  · rw [if_neg (fun hh => hs hh.1)]
    rcases hI.cont f i (by omega) with h5 | h5
    · exact absurd (hsv _ h5) hs
    · exact h5
/-- What the statement asks of the file behind a crash. -/
structure Torn (N L R : ByteArray) : Prop where
  lo : L.size ≤ R.size
  hi : R.size ≤ N.size
  secs : ∀ n, (∀ i, i < R.size → i / 64 = n → byteA R i = byteA N i) ∨ (∀ i, i < R.size → i / 64 = n → byteA R i = byteA L i)
theorem after_torn {st : DS} (hI : DInv st) (f : Int) (C : List Int) : Torn (st.F f).now (st.F f).last (afterB st f C) := by
  have h := after_left hI f C
  have h2 := hI.size f
  refine ⟨h.lo, by have := h.hi; show (crashTo C st.Q st.F st.Q.length f).last.size ≤ _; omega, fun n => ?_⟩
  by_cases hs : sv C st.Q f n st.Q.length = true
  · left
    intro i hi hn
    have h3 : i < (st.F f).now.size := by
      have := h.hi
      have h4 : i < (crashTo C st.Q st.F st.Q.length f).last.size := hi
      omega
    show byteA (crashTo C st.Q st.F st.Q.length f).last i = _
    rw [h.at' i, hn, if_pos ⟨hs, h3⟩]
  · right
    intro i hi hn
    show byteA (crashTo C st.Q st.F st.Q.length f).last i = _
    rw [h.at' i, hn, if_neg (fun hh => hs hh.1)]
theorem byteA_get {s : ByteArray} {i : Nat} (h : i < s.size) : byteA s i = s[i] := by
  unfold byteA
  rw [Array.getElem?_eq_getElem h]
  rfl

end Go.Proofs.Ytmikjninonpejaa

/- Statements about the disk: after, byteAt. -/
namespace Go.Proofs.Ytmikjninonpejaa
open Go.RowKit Go.Proofs.YtmikjninonpejaaMem Go.Maps

set_option maxHeartbeats 400000 in
theorem byte_at (s : ByteArray) (i : Nat) (w : World) (hi : i ≤ 200000) : Calls Try.prog 46 #[.string s, .int .i64 i] w fun e w' => e = .returned (.int .u8 ((byteA s i).toNat : Int)) ∧ w = w' := by
  have d1 : decide ((i : Int) < 0) = false := decide_eq_false (by omega)
  by_cases h : i < s.size
  · have h2 : ¬ (s.size ≤ i) := by omega
    have hb := byteA_get h
    have HB := Lib.hid hb; clear hb
    go_enter Try.func46, Try.ntmps46
    go_wp2_with fail
    go_ret
    refine ⟨?_, rfl⟩
    rw [HB.out]
    rfl
  · have h2 : s.size ≤ i := by omega
    have hb := byteA_past h2
    have HB := Lib.hid hb; clear hb
    go_enter Try.func46, Try.ntmps46
    go_wp2_with fail
    go_ret
    refine ⟨?_, rfl⟩
    rw [HB.out]
    rfl

set_option maxHeartbeats 1600000 in
set_option maxRecDepth 100000 in
theorem after_raw {b B : Nat} {FP : List Nat} {st : DS} {kv v : Value} {K C : List Int} {w : World} (f : Int) (hD : DiskI w b FP B st kv) (hk : KeepV w kv K FP) (hv : IntsV w v C) (hf : (Lit.int .i64 f).wf = true) (hB : B ≤ 800000) (hC : C.length ≤ 1000000) :
    Calls Try.prog 45 #[.pointer (some ⟨b, 0, none⟩), .int .i64 f, v] w fun e w' => e = .returned (.tuple #[.string (readStr (afterS st C) f 0 16777216), .bool (readCode (afterS st C) f 0 16777216 == 0)]) ∧ Turns [] w w' := by
  have HD := Lib.hid hD; clear hD
  have HK := Lib.hid hk; clear hk
  have HV := Lib.hid hv
  obtain ⟨va, vc, rfl, -⟩ := hv
  go_enter Try.func45, Try.ntmps45
  go_wp2_with fail
  refine (copy_raw HD.out HK.out (by omega)).mono ?_
  rintro e w1 ⟨c, FP1, rfl, hD1, ht1, hge1⟩
  have H1 := Lib.hid (And.intro hD1 (And.intro ht1 hge1)); clear hD1 ht1 hge1
  go_wp2_with fail
  refine (crashI H1.out.1 (HV.out.old H1.out.2.1 H1.out.2.2) (by omega) hC).mono ?_
  rintro e w2 ⟨rfl, FP2, hD2, hev2⟩
  have H2 := Lib.hid (And.intro hD2 hev2); clear hD2 hev2
  go_wp2_with fail
  refine (startI H2.out.1).mono ?_
  rintro e w3 ⟨rfl, FP3, hD3, hev3⟩
  have hev := H2.out.2.trans hev3
  have H3 : Hid (DiskI w3 c FP3 B (afterS st C) kv ∧ Turns [] w w3) := ⟨hD3, H1.out.2.1.trans_new hev.1 (fun x hx => Or.inr (H1.out.2.2 x hx))⟩
  clear hD3 hev3 hev
  go_wp2_with fail
  refine (readI H3.out.1 f 0 16777216 hf).mono ?_
  rintro e w4 ⟨rfl, rfl⟩
  go_wp2_with fail
  go_ret2
  exact ⟨rfl, H3.out.2⟩

end Go.Proofs.Ytmikjninonpejaa

/- Statements about the disk: DiskSurvives, the walk. -/
namespace Go.Proofs.Ytmikjninonpejaa
open Go.RowKit Go.Proofs.YtmikjninonpejaaMem Go.Maps

theorem after_sep {w0 w : World} {b B : Nat} {st : DS} {K C : List Int} (pre post : List Thing) (f : Int) (v : Value) (h : Sep w0 w (pre ++ machThing b B st K :: post)) (hv : IntsV w v C) (hf : (Lit.int .i64 f).wf = true) (hd : st.down = false) (hf2 : 0 ≤ f ∧ f < 16) (hB : B ≤ 800000) (hC : C.length ≤ 1000000) :
    Calls Try.prog 45 #[.pointer (some ⟨b, 0, none⟩), .int .i64 f, v] w fun e w' => e = .returned (.tuple #[.string (afterB st f C), .bool true]) ∧ Turns [] w w' := by
  obtain ⟨kv, FP0, hD, hK0, hge, step⟩ := Sep.mach pre post h
  obtain ⟨r1, r2⟩ := after_read hD.1 hd hf2 C
  have := after_raw f hD hK0 hv hf hB hC
  rw [r1, r2] at this
  exact this

set_option maxHeartbeats 6400000 in
set_option maxRecDepth 100000 in
theorem survives_run (a1 : Option Addr) (c1 : Nat) (l : List DAct) (f : Int) (kv : Value) (C : List Int) (w : World) (h1 : ActsAt w a1 l) (hf : (Lit.int .i64 f).wf = true) (hk : IntsV w kv C)
    (hfl : fewD l = true) (hC : C.length ≤ 60) :
    Calls Try.prog 8 #[.slice a1 l.length c1, .int .i64 f, kv] w fun e w' => e = .returned (.bool true) ∧ Turns [] w w' := by
  have H1 := Lib.hid h1; clear h1
  have HKV := Lib.hid hk
  obtain ⟨ka, kc, rfl, -⟩ := hk
  have HL := Lib.hid hfl; clear hfl
  have hll := fewD_len HL.out
  have hd60 : decide ((60 : Int) < (C.length : Int)) = false := decide_eq_false (by omega)
  go_enter Try.func8, Try.ntmps8
  go_wp2_with fail
  refine (small_disk _).mono ?_
  rintro e w1 ⟨rfl, ht1⟩
  have HT := Lib.hid ht1; clear ht1
  go_wp2_with fail
  refine (few_acts a1 c1 l _ (H1.out.kept HT.out) (by unfold maxLen; omega)).mono ?_
  rintro e w2 ⟨rfl, rfl⟩
  rw [HL.out]
  go_wp2_with fail
  refine (played_any [] a1 c1 l _ ((Sep.start w).quiet HT.out) H1.out HL.out).mono ?_
  rintro e w2 ⟨b, rfl, hs2⟩
  generalize (playTo DS.new [] l l.length).1 = st at hs2
  generalize (playTo DS.new [] l l.length).2 = K at hs2
  have HS2 := Lib.hid (Sep.mach_more (C := 12400) [] [] hs2 (by omega) rfl rfl); clear hs2
  have HI := Lib.hid (mach_inv [] [] HS2.out)
  go_wp2_with fail
  refine (ddown_sep [] [] HS2.out).mono ?_
  rintro e w3 ⟨rfl, rfl⟩
  cases hdn : st.down
  · by_cases k1 : f < 0
    · have d1 : decide (f < 0) = true := decide_eq_true k1
      clear hdn k1
      go_wp2_with fail
      go_ret
      exact ⟨rfl, HS2.out.turns⟩
    by_cases k2 : 15 < f
    · have d1 : decide (f < 0) = false := decide_eq_false k1
      have d2 : decide (15 < f) = true := decide_eq_true k2
      clear hdn k1 k2
      go_wp2_with fail
      go_ret
      exact ⟨rfl, HS2.out.turns⟩
    have d1 : decide (f < 0) = false := decide_eq_false k1
    have d2 : decide (15 < f) = false := decide_eq_false k2
    have HDN := Lib.hid hdn
    have HF2 : Hid (0 ≤ f ∧ f < 16) := ⟨by omega, by omega⟩
    clear hdn k1 k2
    go_wp2_with fail
    refine (dsize_sep [] [] f HS2.out hf).mono ?_
    rintro e w3 ⟨rfl, rfl⟩
    have htorn := after_torn HI.out f C
    have hall := after_all HI.out f
    have hnil := after_nil st f
    obtain ⟨r1, r2⟩ := read_whole (st := st) (f := f) (may_of HDN.out HF2.out.1 HF2.out.2)
    have hz := HI.out.size f
    rw [extract_most _ _ hz.2] at r2
    by_cases k3 : (100000 : Int) < ((st.F f).now.size : Int)
    · have d3 : decide ((100000 : Int) < ((st.F f).now.size : Int)) = true := decide_eq_true k3
      clear k3 htorn hall hnil r1 r2 hz
      go_wp2_with fail
      go_ret
      exact ⟨rfl, HS2.out.turns⟩
    · have d3 : decide ((100000 : Int) < ((st.F f).now.size : Int)) = false := decide_eq_false k3
      obtain ⟨N, hN⟩ : ∃ N, N = (st.F f).now := ⟨_, rfl⟩
      obtain ⟨L, hL⟩ : ∃ L, L = (st.F f).last := ⟨_, rfl⟩
      obtain ⟨R, hR⟩ : ∃ R, R = afterB st f C := ⟨_, rfl⟩
      rw [← hN] at htorn hall r2 d3 k3 hz ⊢
      rw [← hL] at htorn hnil hz
      rw [← hR] at htorn
      have HX := Lib.hid (And.intro htorn (And.intro hall (And.intro hnil (And.intro r1 (And.intro r2 hR)))))
      have hR1 := htorn.lo
      have hR2 := htorn.hi
      clear htorn hall hnil r1 r2 hR hN hL
      go_wp2_with fail
      refine (dread_sep [] [] f 0 16777216 HS2.out hf).mono ?_
      rintro e w3 ⟨rfl, rfl⟩
      rw [HX.out.2.2.2.1, HX.out.2.2.2.2.1]
      go_wp2_with fail
      refine (after_sep [] [] f (.slice none 0 0) (C := []) HS2.out ⟨none, 0, rfl, fun i hi => by simp at hi⟩ hf HDN.out HF2.out (by omega) (by simp)).mono ?_
      rintro e w3 ⟨rfl, ht3⟩
      rw [HX.out.2.2.1]
      have HS3 := Lib.hid (HS2.out.quiet ht3); clear ht3
      go_wp2_with fail
      have hb3 : (w3.alloc (.cells #[.int .i64 1] 3)).cell? ⟨w3.heap.size, 0, none⟩ = some (.int .i64 1) := cell_at (heap_alloc_here w3 _) 0
      refine (after_sep [] [] f (.slice (some ⟨w3.heap.size, 0, none⟩) 1 1) (C := [1]) (HS3.out.quiet (Turns.alloc [] w3 _)) ⟨_, 1, rfl, fun i hi => ⟨w3.heap.size, 0, rfl, by
        have : i = 0 := by simp at hi; exact hi
        subst this; exact hb3⟩⟩ hf HDN.out HF2.out (by omega) (by simp)).mono ?_
      rintro e w4 ⟨rfl, ht4⟩
      rw [HX.out.2.1]
      have HS4 := Lib.hid ((HS3.out.quiet (Turns.alloc [] w3 (.cells #[.int .i64 1] 3))).quiet ht4); clear ht4 hb3
      go_wp2_with fail
      refine (after_sep [] [] f _ (C := C) HS4.out (HKV.out.kept HS4.out.turns (fun a n c e => by simp)) hf HDN.out HF2.out (by omega) (by omega)).mono ?_
      rintro e w5 ⟨rfl, ht5⟩
      rw [← HX.out.2.2.2.2.2]
      have HS5 := Lib.hid (HS4.out.quiet ht5); clear ht5
      have t1 : ¬ (R.size < L.size) := by omega
      have t2 : ¬ (N.size < R.size) := by omega
      go_wp2_with fail
      have hRs : R.size ≤ 100000 := by omega
      have hRN : R.size ≤ N.size := hR2
      have HSECS := Lib.hid HX.out.1.secs
      clear hR1 hR2 t1 t2 k3 hz
      go_loopw [17] (fun nv wr => ∃ k : Nat, nv = .int .i64 k ∧ k ≤ 2000 ∧ Hid (Turns [] w wr)) (fun nv _ => 2001 - (intOf nv).toNat)
      case atStart => exact ⟨0, rfl, by omega, HS5.out.turns⟩
      case round =>
        obtain ⟨k, rfl, hk, HW⟩ := hrel
        by_cases hlt : 64 * k < R.size
        · have hltI : 64 * (k : Int) < (R.size : Int) := by omega
          obtain ⟨wo, rfl⟩ : ∃ wo : World, wo = wr := ⟨_, rfl⟩
          rcases HSECS.out k with hA | hA
          · have HA := Lib.hid hA; clear hA
            go_wp2_with fail
            go_loopw [18, 19, 20] (fun nw od iv wr => ∃ (i : Nat) (o : Bool), 64 * k ≤ i ∧ i ≤ 64 * k + 64 ∧ i ≤ R.size ∧ iv = .int .i64 i ∧ nw = .bool true ∧ od = .bool o ∧ Hid (Turns [] w wr)) (fun _ _ iv _ => 64 * k + 64 - (intOf iv).toNat)
            case atStart => exact ⟨64 * k, true, by omega, by omega, by omega, by go_num, rfl, rfl, HW.out⟩
            case round =>
              obtain ⟨i, o, hi1, hi2, hi3, rfl, rfl, rfl, HW2⟩ := hrel
              by_cases hi : i < 64 * k + 64 ∧ i < R.size
              · obtain ⟨hj1, hj2⟩ := hi
                have hj3 : i < N.size := by omega
                have d1 : decide ((i : Int) < 64 * (k : Int) + 64) = true := decide_eq_true (by omega)
                have hRi := HA.out i hj2 (by omega)
                rw [byteA_get hj2, byteA_get hj3] at hRi
                have HRI := Lib.hid hRi; clear hRi
                have d2 : (i : Int) < (R.size : Int) := by omega
                have d3 : (i : Int) < (N.size : Int) := by omega
                have hq : ((R[i].toNat : Int) == (N[i].toNat : Int)) = true := by rw [HRI.out]; simp
                go_wp2_with fail
                go_quiet (fail)
                go_wp2_with fail
                have hwz : Hid (Turns [] w (wr.drewN nq)) := HW2.out.drewN nq
                generalize wr.drewN nq = wz at hwz ⊢
                clear hq
                cases o
                · go_quiet (fail)
                  go_wp2_with fail
                  go_roundw
                  case rel => exact ⟨i + 1, false, by omega, by omega, by omega, by go_num, rfl, rfl, hwz.out.drewN _⟩
                  case measure => simp [intOf]; omega
                · go_quiet ((go_at_call 46; exact quiet_id (byte_at L i _ (by omega))))
                  go_wp2_with fail
                  go_roundw
                  case rel => exact ⟨i + 1, _, by omega, by omega, by omega, by go_num, rfl, rfl, hwz.out.drewN _⟩
                  case measure => simp [intOf]; omega
              · by_cases hj1 : i < 64 * k + 64
                · have d1 : decide ((i : Int) < 64 * (k : Int) + 64) = true := decide_eq_true (by omega)
                  have d2 : ¬ (i < R.size) := by omega
                  clear hi
                  cases o
                  all_goals
                    go_wp2_with fail
                    go_roundw
                    case rel => exact ⟨k + 1, by go_num, by omega, HW2.out⟩
                    case measure => simp [intOf]; omega
                · have d1 : decide ((i : Int) < 64 * (k : Int) + 64) = false := decide_eq_false (by omega)
                  clear hi
                  cases o
                  all_goals
                    go_wp2_with fail
                    go_roundw
                    case rel => exact ⟨k + 1, by go_num, by omega, HW2.out⟩
                    case measure => simp [intOf]; omega
          · have HA := Lib.hid hA; clear hA
            go_wp2_with fail
            go_loopw [18, 19, 20] (fun nw od iv wr => ∃ (i : Nat) (o : Bool), 64 * k ≤ i ∧ i ≤ 64 * k + 64 ∧ i ≤ R.size ∧ iv = .int .i64 i ∧ nw = .bool o ∧ od = .bool true ∧ Hid (Turns [] w wr)) (fun _ _ iv _ => 64 * k + 64 - (intOf iv).toNat)
            case atStart => exact ⟨64 * k, true, by omega, by omega, by omega, by go_num, rfl, rfl, HW.out⟩
            case round =>
              obtain ⟨i, o, hi1, hi2, hi3, rfl, rfl, rfl, HW2⟩ := hrel
              by_cases hi : i < 64 * k + 64 ∧ i < R.size
              · obtain ⟨hj1, hj2⟩ := hi
                have hj3 : i < N.size := by omega
                have d1 : decide ((i : Int) < 64 * (k : Int) + 64) = true := decide_eq_true (by omega)
                have hRi := HA.out i hj2 (by omega)
                rw [byteA_get hj2] at hRi
                have HRI := Lib.hid hRi; clear hRi
                have d2 : (i : Int) < (R.size : Int) := by omega
                have d3 : (i : Int) < (N.size : Int) := by omega
                go_wp2_with fail
                cases o
                · go_quiet (fail)
                  go_wp2_with fail
                  have hwz : Hid (Turns [] w (wr.drewN nq)) := HW2.out.drewN nq
                  generalize wr.drewN nq = wz at hwz ⊢
                  have hq : ((R[i].toNat : Int) == ((byteA L i).toNat : Int)) = true := by rw [HRI.out]; simp
                  go_quiet ((go_at_call 46; exact quiet_id (byte_at L i _ (by omega))))
                  go_wp2_with fail
                  go_roundw
                  case rel => exact ⟨i + 1, false, by omega, by omega, by omega, by go_num, rfl, rfl, hwz.out.drewN _⟩
                  case measure => simp [intOf]; omega
                · go_quiet (fail)
                  go_wp2_with fail
                  have hwz : Hid (Turns [] w (wr.drewN nq)) := HW2.out.drewN nq
                  generalize wr.drewN nq = wz at hwz ⊢
                  have hq : ((R[i].toNat : Int) == ((byteA L i).toNat : Int)) = true := by rw [HRI.out]; simp
                  go_quiet ((go_at_call 46; exact quiet_id (byte_at L i _ (by omega))))
                  go_wp2_with fail
                  go_roundw
                  case rel => exact ⟨i + 1, _, by omega, by omega, by omega, by go_num, rfl, rfl, hwz.out.drewN _⟩
                  case measure => simp [intOf]; omega
              · by_cases hj1 : i < 64 * k + 64
                · have d1 : decide ((i : Int) < 64 * (k : Int) + 64) = true := decide_eq_true (by omega)
                  have d2 : ¬ (i < R.size) := by omega
                  clear hi
                  cases o
                  all_goals
                    go_wp2_with fail
                    go_roundw
                    case rel => exact ⟨k + 1, by go_num, by omega, HW2.out⟩
                    case measure => simp [intOf]; omega
                · have d1 : decide ((i : Int) < 64 * (k : Int) + 64) = false := decide_eq_false (by omega)
                  clear hi
                  cases o
                  all_goals
                    go_wp2_with fail
                    go_roundw
                    case rel => exact ⟨k + 1, by go_num, by omega, HW2.out⟩
                    case measure => simp [intOf]; omega
        · have hltI : decide (64 * (k : Int) < (R.size : Int)) = false := decide_eq_false (by omega)
          go_wp2_with fail
          go_ret
          exact ⟨rfl, HW.out⟩
  · clear hdn
    go_wp2_with fail
    go_ret
    exact ⟨rfl, HS2.out.turns⟩

set_option maxHeartbeats 3200000 in
set_option maxRecDepth 100000 in
theorem survives_few (a1 : Option Addr) (c1 : Nat) (l : List DAct) (f : Int) (kv : Value) (C : List Int) (w : World) (h1 : ActsAt w a1 l) (hl1 : l.length ≤ maxLen) (hk : IntsV w kv C) (hno : ¬ (fewD l = true ∧ C.length ≤ 60)) :
    Calls Try.prog 8 #[.slice a1 l.length c1, .int .i64 f, kv] w fun e w' => e = .returned (.bool true) ∧ Turns [] w w' := by
  have H1 := Lib.hid h1; clear h1
  obtain ⟨ka, kc, rfl, -⟩ := hk
  cases hfl : fewD l
  · have HL := Lib.hid hfl; clear hfl hno
    go_enter Try.func8, Try.ntmps8
    go_wp2_with fail
    refine (small_disk _).mono ?_
    rintro e w1 ⟨rfl, ht1⟩
    have HT := Lib.hid ht1; clear ht1
    go_wp2_with fail
    refine (few_acts a1 c1 l _ (H1.out.kept HT.out) hl1).mono ?_
    rintro e w2 ⟨rfl, rfl⟩
    rw [HL.out]
    go_wp2_with fail
    go_ret
    exact ⟨rfl, HT.out⟩
  · have hd60 : decide ((60 : Int) < (C.length : Int)) = true := decide_eq_true (by
      have : ¬ C.length ≤ 60 := fun h => hno ⟨hfl, h⟩
      omega)
    have HL := Lib.hid hfl; clear hfl hno
    go_enter Try.func8, Try.ntmps8
    go_wp2_with fail
    refine (small_disk _).mono ?_
    rintro e w1 ⟨rfl, ht1⟩
    have HT := Lib.hid ht1; clear ht1
    go_wp2_with fail
    refine (few_acts a1 c1 l _ (H1.out.kept HT.out) hl1).mono ?_
    rintro e w2 ⟨rfl, rfl⟩
    rw [HL.out]
    go_wp2_with fail
    go_ret
    exact ⟨rfl, HT.out⟩
theorem survives_row (a1 : Option Addr) (c1 : Nat) (l : List DAct) (f : Int) (ka : Option Addr) (kc : Nat) (C : List Int) (w : World) (h1 : ActsIn w a1 l) (hf : (Lit.int .i64 f).wf = true) (hk : IntsIn w ka C) :
    Calls Try.prog 8 #[.slice a1 l.length c1, .int .i64 f, .slice ka C.length kc] w fun e w' => e = .returned (.bool true) ∧ Below w.heap.size w w' := by
  have hkv : IntsV w (.slice ka C.length kc) C := ⟨ka, kc, rfl, hk.2⟩
  by_cases h : fewD l = true ∧ C.length ≤ 60
  · exact (survives_run a1 c1 l f _ C w h1.2 hf hkv h.1 h.2).mono fun e w' ⟨e1, e2⟩ => ⟨e1, e2.below (Nat.le_refl _) (by simp)⟩
  · exact (survives_few a1 c1 l f _ C w h1.2 h1.1 hkv h).mono fun e w' ⟨e1, e2⟩ => ⟨e1, e2.below (Nat.le_refl _) (by simp)⟩

end Go.Proofs.Ytmikjninonpejaa
