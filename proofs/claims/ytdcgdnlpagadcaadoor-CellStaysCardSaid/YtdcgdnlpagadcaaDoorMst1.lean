/- Contracts and lemmas (texts CelJ, CelK, joined by a program). -/
import Derived.Test.YtdcgdnlpagadcaaDoorMc12
/- Statements about cell: CellStays. -/
namespace Go.Proofs.YtdcgdnlpagadcaaDoor
open Go.RowKit Go.Proofs.YtdcgdnlpagadcaaDoorMem Go.Maps
open Go.Lib (byteCells byteCells_length byteCells_append)

/-- string(make([]byte, n)). -/
theorem long_runs (n : Nat) (hn : n ≤ 1000000) (w : World) : ∃ (r : Array Value) (t : ByteArray), t.size = n ∧ (Instr.makeSlice 54 (.int .i64 n) (.int .i64 n)).run Tryd.prog w = .ok (.slice (some ⟨w.heap.size, 0, none⟩) n n) (w.alloc (.cells r 5)) ∧
    (convert 54 9 (.slice (some ⟨w.heap.size, 0, none⟩) n n)).run Tryd.prog (w.alloc (.cells r 5)) = .ok (.string t) (w.alloc (.cells r 5)) := by
  obtain ⟨i0, hi, hz0, hz1, hz2⟩ := info_parts Tryd.info5
  have e0 : (madeCells (Value.cells (.int .u8 0)) (n * i0.size)).toList = byteCells (List.replicate n 0) := by
    rw [hz1]
    apply List.ext_getElem
    · simp [size_madeCells, byteCells_length]
    · intro j h1 h2
      simp [madeCells, byteCells, Value.cells, Nat.mod_one]
  refine ⟨(byteCells (List.replicate n 0)).toArray, ⟨(List.replicate n 0).toArray⟩, by simp [ByteArray.size], ?_, ?_⟩
  · have := run_make (P := Tryd.prog) w 54 5 i0 _ Tryd.underlying54 hi hz0 .i64 .i64 (n : Int) (n : Int) (by omega) (Int.le_refl _) (by rw [hz2]; omega) (by omega)
    rw [this]
    simp only [Int.toNat_natCast]
    rw [← e0]
  · have := run_convert_bytes_back (P := Tryd.prog) (w.alloc (.cells (byteCells (List.replicate n 0)).toArray 5)) 54 9 5 ⟨w.heap.size, 0, none⟩ n (List.replicate n 0) Tryd.underlying54 Tryd.underlying5 Tryd.underlying9 (fun j hj => by
      have e : ((⟨w.heap.size, 0, none⟩ : Addr).add j) = ⟨w.heap.size, j, none⟩ := by unfold Addr.add; split <;> simp_all
      rw [e, cell_at (heap_alloc_here _ _)]
      have hj2 : j < n := by simpa using hj
      simp [byteCells, hj2])
    rw [List.length_replicate] at this
    exact this
theorem set_behind {w0 w : World} {cb d B : Nat} {c : CS} {st : DS} {K : List Int} {may : List ByteArray} {nn : Bool} (mid post : List Thing) (s : ByteArray)
    (h : Sep w0 w (blockThing cb (cellObj d 3 c) :: (mid ++ machThing d B st K :: post))) (hO : Offs w0) (hB : B ≤ 600000) (hK : K.length ≤ 1000000) (hs : s.size ≤ 400) (hI : CInv may nn 3 c st) :
    Calls Tryd.prog 12 #[.pointer (some ⟨cb, 0, none⟩), .string s] w fun e w' => ∃ code c' st', e = .returned (.int .i64 code) ∧ Sep w0 w' (blockThing cb (cellObj d 3 c') :: (mid ++ machThing d (B + 424) st' K :: post)) ∧
      (code = 0 → CInv [s] false 3 c' st' ∧ c'.value = s ∧ 0 < c'.slot) ∧ (code ≠ 0 → CInv (may ++ [s]) nn 3 c' st') := by
  refine (set_any mid post s h hO wf3 hB hK (by omega)).mono fun e w' ⟨h1, h2⟩ => ?_
  have hbe := setR_inv (f := 3) (by omega) K (s := s) (by omega) hI
  exact ⟨_, _, _, h1, Sep.mach_more (_ :: mid) post h2 (by omega) rfl rfl, fun hz => ⟨(hbe.2.1 hz).1, (hbe.2.1 hz).2.2.2.2.1, (hbe.2.1 hz).2.2.2.2.2⟩, hbe.2.2⟩

/-- In the middle of CellStays' first loop. -/
def StaysMid (w wr : World) (cb d k : Nat) : Prop := ∃ c st may nn, CInv may nn 3 c st ∧ Sep w wr [blockThing cb (cellObj d 3 c), machThing d (k * 424) st []]
/-- In the second. -/
def StaysEnd (w wr : World) (cb d B : Nat) (s : ByteArray) : Prop := ∃ c st, CInv [s] false 3 c st ∧ c.value = s ∧ 0 < c.slot ∧ Sep w wr [blockThing cb (cellObj d 3 c), machThing d B st []]

set_option maxHeartbeats 20000000 in
set_option maxRecDepth 100000 in
theorem stays_run (a1 : Option Addr) (c1 : Nat) (l : List COp) (s : ByteArray) (a2 : Option Addr) (c2 : Nat) (C : List Int) (a3 : Option Addr) (c3 : Nat) (D : List Int) (w : World) (hO : Offs w) (h1 : COpsAt w a1 l) (h2 : IntsAt w a2 C) (h3 : IntsAt w a3 D)
    (hl : fewC l = true) (hl1 : l.length ≤ maxLen) (hs : s.size ≤ 400) (hC : C.length ≤ 100) (hD : D.length ≤ 100) :
    Calls Tryd.prog 6 #[.slice a1 l.length c1, .string s, .slice a2 C.length c2, .slice a3 D.length c3] w fun e w' => e = .returned (.bool true) ∧ Turns [] w w' := by
  have HC := Lib.hid (And.intro h2 h3); clear h2 h3
  have HL := Lib.hid h1; clear h1
  have HF := Lib.hid hl
  have hlen := fewC_len hl
  go_enter Tryd.func6, Tryd.ntmps6
  go_wp2_with fail
  refine (small_cell w hO).mono ?_
  rintro e w1 ⟨rfl, ht1⟩
  have H1 := Lib.hid ht1; clear ht1
  go_wp2_with fail
  refine (few_ops a1 c1 l _ (HL.out.kept H1.out) hl1).mono ?_
  rintro e w2 ⟨rfl, rfl⟩
  rw [hl]
  have hC0 : ¬ (400 : Int) < (s.size : Int) := by omega
  have hC1 : ¬ (100 : Int) < (C.length : Int) := by omega
  have hC2 : ¬ (100 : Int) < (D.length : Int) := by omega
  go_wp2_with fail
  refine (mach_new [] ((Sep.start w).quiet H1.out)).mono ?_
  rintro e w2 ⟨d, rfl, h2⟩
  have H2 := Lib.hid h2; clear h2
  go_wp2_with fail
  refine (open_sep [] [] H2.out wf3 hO).mono ?_
  rintro e w3 hp
  obtain ⟨cb, rfl, h3⟩ := hp.ok (open_new (by omega) (by omega)).1
  rw [(open_new (by omega) (by omega)).2] at h3
  have H3 : Hid (StaysMid w w3 cb d 0) := ⟨_, _, [], _, CInv.new 3, h3⟩
  clear h3 hp H2 H1
  go_wp2_with fail
  go_loopw [12, 14] (fun cv iv wr => ∃ (k cb : Nat), k ≤ l.length ∧ iv = .int .i64 k ∧ cv = .pointer (some ⟨cb, 0, none⟩) ∧ Hid (StaysMid w wr cb d k)) (fun _ iv _ => l.length - (intOf iv).toNat)
  case atStart => exact ⟨0, cb, by omega, rfl, rfl, H3.out⟩
  case round =>
    clear H3
    obtain ⟨k, ce, hk, rfl, rfl, c, st, may, nn, hI, hS⟩ := hrel
    have HI := Lib.hid hI; clear hI
    have HS := Lib.hid hS; clear hS
    by_cases hlt : k < l.length
    · obtain ⟨hn, b, off, kv, rfl, x0, x1, x2, x3, hkv⟩ := HL.out k hlt
      have hfew := fewC_op HF.out hlt
      obtain ⟨x, hx⟩ : ∃ x, x = l[k] := ⟨_, rfl⟩
      rw [← hx] at hn x0 x1 x2 hkv hfew
      have hltI : (k : Int) < (l.length : Int) := by omega
      have hkv' := hkv
      obtain ⟨ka, kc, rfl, -⟩ := hkv'
      have hb := World.block_lt_of_cell? _ _ x0
      have ht := YtdcgdnlpagadcaaDoorMem.Sep.turns HS.out
      have y0 := (ht.cell (a := ⟨b, off + k * 4, none⟩) hb (by simp)).trans x0
      have y1 := (ht.cell (a := ⟨b, off + k * 4 + 1, none⟩) hb (by simp)).trans x1
      have y2 := (ht.cell (a := ⟨b, off + k * 4 + 2, none⟩) hb (by simp)).trans x2
      have y3 := (ht.cell (a := ⟨b, off + k * 4 + 3, none⟩) hb (by simp)).trans x3
      have HX := Lib.hid (And.intro hx (And.intro hn (And.intro hkv hfew))); clear hx hn hkv hfew x0 x1 x2 x3 hb ht
      by_cases k0 : x.kind = 0
      · rw [k0] at y0
        go_wp2_with fail
        refine (set_behind [] [] x.s HS.out hO (by omega) (by decide) HX.out.2.2.2.1 HI.out).mono ?_
        rintro e W2 ⟨code, c', st', rfl, h2, h3, h4⟩
        have HW : Hid (StaysMid w W2 ce d (k + 1)) := by
          by_cases hz : code = 0
          · exact ⟨_, _, _, _, (h3 hz).1, Sep.mach_more [_] [] h2 (by omega) rfl rfl⟩
          · exact ⟨_, _, _, _, h4 hz, Sep.mach_more [_] [] h2 (by omega) rfl rfl⟩
        clear h2 h3 h4 y1 y2 y3 y0
        go_wp2_with fail
        go_roundw
        case rel => exact ⟨k + 1, ce, by omega, by go_num, rfl, HW.out⟩
        case measure => simp [intOf]; omega
      by_cases k1 : x.kind = 1
      · rw [k1] at y0
        go_wp2_with fail
        refine (dlose_sep [_] [] x.n HS.out HX.out.2.1).mono ?_
        rintro e W2 ⟨rfl, h2⟩
        have HW : Hid (StaysMid w W2 ce d (k + 1)) := ⟨_, _, _, _, HI.out.of (mach_inv [_] [] h2) rfl rfl, Sep.mach_more [_] [] h2 (by omega) rfl rfl⟩
        clear h2 y1 y2 y3 y0
        go_wp2_with fail
        go_roundw
        case rel => exact ⟨k + 1, ce, by omega, by go_num, rfl, HW.out⟩
        case measure => simp [intOf]; omega
      by_cases k3 : x.kind = 3
      · rw [k3] at y0
        go_wp2_with fail
        refine (again_sep [_] [] (.slice ka x.keep.length kc) x.keep HS.out HX.out.2.2.1 hO (by omega) (by have := HX.out.2.2.2.2; omega)).mono ?_
        rintro e W2 hp
        obtain ⟨ho, hv⟩ := again_inv (f := 3) (by omega) HI.out x.keep
        obtain ⟨cn, rfl, h2⟩ := hp.ok ho
        have h3 := YtdcgdnlpagadcaaDoorMem.Sep.drop (Sep.swap01 h2)
        have HW : Hid (StaysMid w W2 cn d (k + 1)) := by
          rcases hv with ⟨hv, hnn, hI2⟩ | ⟨kk, vv, hv, hk0, hmem, hI2⟩
          · rw [hv] at h3
            exact ⟨_, _, _, _, hI2, Sep.mach_more [_] [] h3 (by omega) rfl rfl⟩
          · rw [hv] at h3
            exact ⟨_, _, _, _, hI2, Sep.mach_more [_] [] h3 (by omega) rfl rfl⟩
        clear h2 h3 hp ho hv y1 y2 y3 y0
        go_wp2_with fail
        go_roundw
        case rel => exact ⟨k + 1, cn, by omega, by go_num, rfl, HW.out⟩
        case measure => simp [intOf]; omega
      have HW : Hid (StaysMid w wr ce d (k + 1)) := ⟨_, _, _, _, HI.out, Sep.mach_more [_] [] HS.out (by omega) rfl rfl⟩
      go_wp2_with fail
      go_roundw
      case rel => exact ⟨k + 1, ce, by omega, by go_num, rfl, HW.out⟩
      case measure => simp [intOf]; omega
    · have hltI : ¬ (k : Int) < (l.length : Int) := by omega
      go_wp2_with fail
      refine (set_behind [] [] s HS.out hO (by omega) (by decide) hs HI.out).mono ?_
      rintro e W2 ⟨code, c', st', rfl, h2, h3, h4⟩
      by_cases hz : code = 0
      rotate_left
      · have HT := Lib.hid (YtdcgdnlpagadcaaDoorMem.Sep.turns h2)
        clear h2 h3 h4
        go_wp2_with fail
        go_ret
        exact ⟨rfl, HT.out⟩
      subst hz
      have HE : Hid (StaysEnd w W2 ce d (k * 424 + 424) s) := ⟨_, _, (h3 rfl).1, (h3 rfl).2.1, (h3 rfl).2.2, h2⟩
      clear h2 h3 h4 HS HI
      obtain ⟨r, t, hts, r1, r2⟩ := long_runs 65537 (by omega) W2
      rw [show ((65537 : Nat) : Int) = 65537 from rfl] at r1
      go_wp2_with fail
      refine (set_long t _ (by omega)).mono ?_
      rintro e W3 ⟨rfl, rfl⟩
      have HE3 : Hid (StaysEnd w (W2.alloc (.cells r 5)) ce d (k * 424 + 424) s) := by
        obtain ⟨c, st, g1, g2, g3, g4⟩ := HE.out
        exact ⟨c, st, g1, g2, g3, YtdcgdnlpagadcaaDoorMem.Sep.quiet g4 (Turns.alloc [] W2 _)⟩
      clear r1 r2 hts HE
      generalize W2.alloc (.cells r 5) = W3 at *
      generalize hBB : k * 424 + 424 = BB at *
      have hB : BB ≤ 100000 := by omega
      go_wp2_with fail
      go_loopw [12, 16] (fun cv iv wr => ∃ (i cb : Nat), i ≤ 2 ∧ iv = .int .i64 i ∧ cv = .pointer (some ⟨cb, 0, none⟩) ∧ Hid (StaysEnd w wr cb d BB s)) (fun _ iv _ => 2 - (intOf iv).toNat)
      case atStart => exact ⟨0, ce, by omega, rfl, rfl, HE3.out⟩
      case round =>
        clear HE3
        obtain ⟨i, cz, hi, rfl, rfl, c, st, hI, hv, h0, hS⟩ := hrel
        have HS := Lib.hid hS; clear hS
        have HI := Lib.hid (And.intro hI (And.intro hv h0)); clear hI hv h0
        by_cases hi2 : i < 2
        · have hiI : (i : Int) < 2 := by omega
          have key : ∀ (v : Value) (E : List Int), IntsV w v E → E.length ≤ 100 → ∀ W, Sep w W [blockThing cz (cellObj d 3 c), machThing d BB st []] →
              Calls Tryd.prog 15 #[.pointer (some ⟨d, 0, none⟩), v] W fun e w' => ∃ cn, e = .returned (.tuple #[.pointer (some ⟨cn, 0, none⟩), .int .i64 0]) ∧ StaysEnd w w' cn d BB s := by
            intro v E hE hEl W hW
            refine (again_sep [_] [] v E hW hE hO (by omega) (by omega)).mono fun e w' hp => ?_
            obtain ⟨ho, hv⟩ := again_inv (f := 3) (by omega) HI.out.1 E
            obtain ⟨cn, he, h2⟩ := hp.ok ho
            have h3 := YtdcgdnlpagadcaaDoorMem.Sep.drop (Sep.swap01 h2)
            refine ⟨cn, he, ?_⟩
            rcases hv with ⟨hv, hnn, hI2⟩ | ⟨kk, vv, hv, hk0, hmem, hI2⟩
            · cases hnn
            · obtain rfl : vv = s := by simpa using hmem
              rw [hv] at h3
              exact ⟨_, _, hI2, rfl, hk0, h3⟩
          have HK := Lib.hid key; clear key
          go_wp2_with fail
          refine (cell_get cz d 3 c _ (cell_facts HS.out).2).mono ?_
          rintro e W4 ⟨rfl, ht⟩
          rw [HI.out.2.1, decide_eq_true HI.out.2.2]
          have HS4 := Lib.hid (YtdcgdnlpagadcaaDoorMem.Sep.quiet HS.out ht); clear ht HS
          by_cases i1 : i = 1
          · subst i1
            go_wp2_with fail
            refine (HK.out _ D ⟨_, _, rfl, HC.out.2⟩ hD _ HS4.out).mono ?_
            rintro e W5 ⟨cn, rfl, hE⟩
            have HE := Lib.hid hE; clear hE HS4 HK
            go_wp2_with fail
            go_roundw
            case rel => exact ⟨2, cn, by omega, by go_num, rfl, HE.out⟩
            case measure => simp [intOf]
          · obtain rfl : i = 0 := by omega
            go_wp2_with fail
            refine (HK.out _ C ⟨_, _, rfl, HC.out.1⟩ hC _ HS4.out).mono ?_
            rintro e W5 ⟨cn, rfl, hE⟩
            have HE := Lib.hid hE; clear hE HS4 HK
            go_wp2_with fail
            go_roundw
            case rel => exact ⟨1, cn, by omega, by go_num, rfl, HE.out⟩
            case measure => simp [intOf]
        · have hiI : ¬ (i : Int) < 2 := by omega
          go_wp2_with fail
          refine (cell_get cz d 3 c _ (cell_facts HS.out).2).mono ?_
          rintro e W4 ⟨rfl, ht⟩
          rw [HI.out.2.1, decide_eq_true HI.out.2.2]
          have HS4 := Lib.hid (YtdcgdnlpagadcaaDoorMem.Sep.quiet HS.out ht); clear ht HS
          go_wp2_with fail
          go_ret
          exact ⟨rfl, YtdcgdnlpagadcaaDoorMem.Sep.turns HS4.out⟩

end Go.Proofs.YtdcgdnlpagadcaaDoor

/- Statements about cell: CellStays, every input. -/
namespace Go.Proofs.YtdcgdnlpagadcaaDoor
open Go.RowKit Go.Proofs.YtdcgdnlpagadcaaDoorMem Go.Maps

set_option maxHeartbeats 6400000 in
set_option maxRecDepth 100000 in
theorem stays_row {Y : Prop} (a0 : Option Addr) (cap0 : Nat) (l0 : List COp) (s : ByteArray) (a2 : Option Addr) (cap2 : Nat) (C : List Int) (a3 : Option Addr) (cap3 : Nat) (D : List Int) (w : World) (hO : Offs w) (h0 : COpsIn w a0 l0) (_ : Y) (h2 : IntsIn w a2 C) (h3 : IntsIn w a3 D) :
    Calls Tryd.prog 6 #[.slice a0 l0.length cap0, .string s, .slice a2 C.length cap2, .slice a3 D.length cap3] w fun e w' => e = .returned (.bool true) ∧ Below w.heap.size w w' := by
  have fin : ∀ {w' : World}, Turns [] w w' → Below w.heap.size w w' := fun h => h.below (Nat.le_refl _) (by simp)
  by_cases hl : fewC l0 = true
  · by_cases hs : s.size ≤ 400
    · have g1 : ¬ (400 : Int) < (s.size : Int) := by omega
      by_cases hC : C.length ≤ 100
      · have g2 : ¬ (100 : Int) < (C.length : Int) := by omega
        by_cases hD : D.length ≤ 100
        · exact (stays_run a0 cap0 l0 s a2 cap2 C a3 cap3 D w hO h0.2 h2.2 h3.2 hl h0.1 hs hC hD).mono fun e w' ⟨e1, e2⟩ => ⟨e1, fin e2⟩
        · have g3 : (100 : Int) < (D.length : Int) := by omega
          go_enter Tryd.func6, Tryd.ntmps6
          go_wp2_with fail
          refine (small_cell w hO).mono ?_
          rintro e w1 ⟨rfl, ht1⟩
          have H1 := Lib.hid ht1; clear ht1
          go_wp2_with fail
          refine (few_ops a0 cap0 l0 _ (h0.2.kept H1.out) h0.1).mono ?_
          rintro e w2 ⟨rfl, rfl⟩
          rw [hl]
          go_wp2_with fail
          go_ret
          exact ⟨rfl, fin H1.out⟩
      · have g2 : (100 : Int) < (C.length : Int) := by omega
        go_enter Tryd.func6, Tryd.ntmps6
        go_wp2_with fail
        refine (small_cell w hO).mono ?_
        rintro e w1 ⟨rfl, ht1⟩
        have H1 := Lib.hid ht1; clear ht1
        go_wp2_with fail
        refine (few_ops a0 cap0 l0 _ (h0.2.kept H1.out) h0.1).mono ?_
        rintro e w2 ⟨rfl, rfl⟩
        rw [hl]
        go_wp2_with fail
        go_ret
        exact ⟨rfl, fin H1.out⟩
    · have g1 : (400 : Int) < (s.size : Int) := by omega
      go_enter Tryd.func6, Tryd.ntmps6
      go_wp2_with fail
      refine (small_cell w hO).mono ?_
      rintro e w1 ⟨rfl, ht1⟩
      have H1 := Lib.hid ht1; clear ht1
      go_wp2_with fail
      refine (few_ops a0 cap0 l0 _ (h0.2.kept H1.out) h0.1).mono ?_
      rintro e w2 ⟨rfl, rfl⟩
      rw [hl]
      go_wp2_with fail
      go_ret
      exact ⟨rfl, fin H1.out⟩
  · have hl : fewC l0 = false := by simpa using hl
    go_enter Tryd.func6, Tryd.ntmps6
    go_wp2_with fail
    refine (small_cell w hO).mono ?_
    rintro e w1 ⟨rfl, ht1⟩
    have H1 := Lib.hid ht1; clear ht1
    go_wp2_with fail
    refine (few_ops a0 cap0 l0 _ (h0.2.kept H1.out) h0.1).mono ?_
    rintro e w2 ⟨rfl, rfl⟩
    rw [hl]
    go_wp2_with fail
    go_ret
    exact ⟨rfl, fin H1.out⟩

end Go.Proofs.YtdcgdnlpagadcaaDoor
