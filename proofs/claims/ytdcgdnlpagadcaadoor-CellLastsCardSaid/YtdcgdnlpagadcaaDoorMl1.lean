/- Contracts and lemmas (texts CelG, CelI, joined by a program). -/
import Derived.Test.YtdcgdnlpagadcaaDoorMc12
/- Statements about cell: CellLasts. -/
namespace Go.Proofs.YtdcgdnlpagadcaaDoor
open Go.RowKit Go.Proofs.YtdcgdnlpagadcaaDoorMem Go.Maps

/-- In the middle of CellLasts. -/
def LastsMid (w wr : World) (cb d k : Nat) (mv : Value) (nn : Bool) : Prop :=
  ∃ c st K may, K.length ≤ 100 ∧ may.length ≤ k ∧ CInv may nn 3 c st ∧ Sep w wr [blockThing cb (cellObj d 3 c), strThing mv may, machThing d (k * 424) st K]

set_option maxHeartbeats 20000000 in
set_option maxRecDepth 100000 in
theorem lasts_run (a1 : Option Addr) (c1 : Nat) (l : List COp) (a2 : Option Addr) (c2 : Nat) (C : List Int) (w : World) (hO : Offs w) (h1 : COpsAt w a1 l) (h2 : IntsAt w a2 C) (hl : fewC l = true) (hl1 : l.length ≤ maxLen) (hC : C.length ≤ 100) :
    Calls Tryd.prog 3 #[.slice a1 l.length c1, .slice a2 C.length c2] w fun e w' => e = .returned (.bool true) ∧ Turns [] w w' := by
  obtain ⟨i0, hi, hz0, hz1, hz2⟩ := info_parts Tryd.info9
  have HC := Lib.hid h2; clear h2
  have HL := Lib.hid h1; clear h1
  have HF := Lib.hid hl
  go_enter Tryd.func3, Tryd.ntmps3
  go_wp2_with fail
  refine (small_cell w hO).mono ?_
  rintro e w1 ⟨rfl, ht1⟩
  have H1 := Lib.hid ht1; clear ht1
  go_wp2_with fail
  refine (few_ops a1 c1 l _ (HL.out.kept H1.out) hl1).mono ?_
  rintro e w2 ⟨rfl, rfl⟩
  rw [hl]
  have hC1 : ¬ (100 : Int) < (C.length : Int) := by omega
  go_wp2_with fail
  refine (mach_new [] ((Sep.start w).quiet H1.out)).mono ?_
  rintro e w2 ⟨d, rfl, h2⟩
  have H2 := Lib.hid h2; clear h2
  go_wp2_with fail
  refine (open_sep [] [] H2.out wf3 hO).mono ?_
  rintro e w3 hp
  obtain ⟨cb, rfl, h3⟩ := hp.ok (open_new (by omega) (by omega)).1
  rw [(open_new (by omega) (by omega)).2] at h3
  have H3 : Hid (LastsMid w w3 cb d 0 (.slice none 0 0) true) := ⟨_, _, [], [], by simp, by simp, CInv.new 3, Sep.swap01 (Sep.strs_start h3)⟩
  clear h3 hp H2 H1
  go_wp2_with fail
  go_loopw [8, 10, 11, 12] (fun cv mv nv iv wr => ∃ (k cb : Nat) (nn : Bool), k ≤ l.length + 1 ∧ iv = .int .i64 k ∧ cv = .pointer (some ⟨cb, 0, none⟩) ∧ nv = .bool nn ∧ Hid (LastsMid w wr cb d k mv nn)) (fun _ _ _ iv _ => l.length + 1 - (intOf iv).toNat)
  case atStart => exact ⟨0, cb, true, by omega, rfl, rfl, rfl, H3.out⟩
  case round =>
    clear H3
    obtain ⟨k, ce, nn, hk, rfl, rfl, rfl, c, st, K, may, hK, hmay, hI, hS⟩ := hrel
    have HI := Lib.hid (And.intro hK (And.intro hmay hI)); clear hK hmay hI
    have HS := Lib.hid hS; clear hS
    obtain ⟨ma, mc, rfl, -⟩ := Sep.strs (Sep.swap01 HS.out)
    by_cases hlt : k < l.length
    · obtain ⟨hn, b, off, kv, rfl, x0, x1, x2, x3, hkv⟩ := HL.out k hlt
      have hfew := fewC_op HF.out hlt
      have hlen := fewC_len HF.out
      obtain ⟨x, hx⟩ : ∃ x, x = l[k] := ⟨_, rfl⟩
      rw [← hx] at hn x0 x1 x2 hkv hfew
      have hltI : (k : Int) < (l.length : Int) := by omega
      have hleI : (k : Int) ≤ (l.length : Int) := by omega
      have hkv' := hkv
      obtain ⟨ka, kc, rfl, -⟩ := hkv'
      have ha : ∀ o, (wr.alloc o).cell? ⟨b, off + k * 4, none⟩ = some (.int .i64 x.kind) ∧ (wr.alloc o).cell? ⟨b, off + k * 4 + 1, none⟩ = some (.string x.s) ∧ (wr.alloc o).cell? ⟨b, off + k * 4 + 2, none⟩ = some (.int .i64 x.n) ∧ (wr.alloc o).cell? ⟨b, off + k * 4 + 3, none⟩ = some (.slice ka x.keep.length kc) := fun o => by
        have hb := World.block_lt_of_cell? _ _ x0
        have ht := (YtdcgdnlpagadcaaDoorMem.Sep.turns HS.out).trans (Turns.alloc [] wr o)
        exact ⟨(ht.cell (a := ⟨b, off + k * 4, none⟩) hb (by simp)).trans x0, (ht.cell (a := ⟨b, off + k * 4 + 1, none⟩) hb (by simp)).trans x1, (ht.cell (a := ⟨b, off + k * 4 + 2, none⟩) hb (by simp)).trans x2, (ht.cell (a := ⟨b, off + k * 4 + 3, none⟩) hb (by simp)).trans x3⟩
      have ha0 := fun o => (ha o).1
      have ha1 := fun o => (ha o).2.1
      have ha2 := fun o => (ha o).2.2.1
      have ha3 := fun o => (ha o).2.2.2
      have HX := Lib.hid (And.intro hx (And.intro hn (And.intro hkv hfew))); clear hx hn hkv hfew ha x0 x1 x2 x3
      by_cases k0 : x.kind = 0
      · rw [k0] at ha0
        go_wp2_with fail
        have HA : Hid (Sep w (wr.alloc (.cells #[.int .i64 0, .string x.s, .int .i64 x.n, .slice ka x.keep.length kc] 34)) (blockThing wr.heap.size (.cells #[.int .i64 0, .string x.s, .int .i64 x.n, .slice ka x.keep.length kc] 34 (0, 0)) :: _)) := Sep.alloc HS.out _
        generalize wr.alloc (.cells #[.int .i64 0, .string x.s, .int .i64 x.n, .slice ka x.keep.length kc] 34) = W1 at *
        generalize wr.heap.size = ob at *
        clear HS
        have HB := Lib.hid (Sep.swap01 HA.out); clear HA
        refine (set_any [_, _] [] x.s HB.out hO wf3 (by omega) (by have := HI.out.1; omega) (by have := HX.out.2.2.2.1; omega)).mono ?_
        rintro e W2 ⟨rfl, h2⟩
        have hbe := setR_inv (f := 3) (by omega) K (s := x.s) (by have := HX.out.2.2.2.1; omega) HI.out.2.2
        obtain ⟨R, hR⟩ : ∃ R, R = setR st K 3 c x.s := ⟨_, rfl⟩
        rw [← hR] at h2 hbe ⊢
        clear hR HB
        have y1 : W2.cell? ⟨ob, 1, none⟩ = some (.string x.s) := cell_at (Sep.block [_] _ h2) 1
        obtain ⟨rc, rcs, rst⟩ := R
        have HT := Lib.hid (Sep.up2 h2); clear h2
        by_cases hz : rc = 0
        · have HBE := Lib.hid (hbe.2.1 hz).1
          subst hz
          clear hbe
          replace HT := Lib.hid (Sep.strs_nil HT.out)
          have HT2 : Hid ((W2.alloc (.cells #[.string x.s] 9)).ownsRow 0 9 1 (.slice none 0 0) ([] : List ByteArray).length (strCells [])) := own_kept (Sep.strs_own HT.out).1 (Turns.alloc [] W2 _) (by simp)
          go_wp2_with (at_builtin; refine wpList_append_src _ rfl (.tmp 69) (.tmp 72) 32 rfl 9 i0 (.string ⟨#[]⟩) 1 16 Tryd.underlying32 hi hz0 hz1 hz2 rfl (by decide) (.slice none 0 0) ([] : List ByteArray).length (strCells []) rfl HT2.out (.slice (some ⟨W2.heap.size, 0, none⟩) 1 1) 1 [.string x.s] rfl (.inr ⟨_, _, rfl, new_cells W2 _ 9 _ rfl⟩) ?c1 ?c3 ?c4 ?c5 ?_)
          case c1 => rfl
          case c3 => intro u hu; simp at hu; rw [hu]; rfl
          case c4 =>
            have := HI.out.2.1
            try simp only [List.length_nil]
            unfold maxLen; omega
          case c5 =>
            have := HI.out.2.1
            try simp only [List.length_nil]
            omega
          intro v' w3 hown hgr hat
          have HW := Lib.hid (Sep.strs_grown HT.out x.s hown hgr hat)
          clear hown hgr hat y1 HT2 HT
          go_wp2_with fail
          go_roundw
          case rel => exact ⟨k + 1, ce, false, by omega, by go_num, rfl, rfl, _, _, K, _, HI.out.1, by have := HI.out.2.1; simp <;> omega, HBE.out, Sep.mach_more [_, _] [] (Sep.swap01 (YtdcgdnlpagadcaaDoorMem.Sep.drop (Sep.up2 HW.out))) (by have := HX.out.2.2.2.1; omega) rfl rfl⟩
          case measure => simp [intOf]; omega
        · have HBE := Lib.hid (hbe.2.2 hz)
          clear hbe
          have HT2 : Hid ((W2.alloc (.cells #[.string x.s] 9)).ownsRow 0 9 1 (.slice ma may.length mc) (may : List ByteArray).length (strCells may)) := own_kept (Sep.strs_own HT.out).1 (Turns.alloc [] W2 _) (by simp)
          go_wp2_with (at_builtin; refine wpList_append_src _ rfl (.tmp 69) (.tmp 72) 32 rfl 9 i0 (.string ⟨#[]⟩) 1 16 Tryd.underlying32 hi hz0 hz1 hz2 rfl (by decide) (.slice ma may.length mc) (may : List ByteArray).length (strCells may) rfl HT2.out (.slice (some ⟨W2.heap.size, 0, none⟩) 1 1) 1 [.string x.s] rfl (.inr ⟨_, _, rfl, new_cells W2 _ 9 _ rfl⟩) ?c1 ?c3 ?c4 ?c5 ?_)
          case c1 => rfl
          case c3 => intro u hu; simp at hu; rw [hu]; rfl
          case c4 =>
            have := HI.out.2.1
            try simp only [List.length_nil]
            unfold maxLen; omega
          case c5 =>
            have := HI.out.2.1
            try simp only [List.length_nil]
            omega
          intro v' w3 hown hgr hat
          have HW := Lib.hid (Sep.strs_grown HT.out x.s hown hgr hat)
          clear hown hgr hat y1 HT2 HT
          go_wp2_with fail
          go_roundw
          case rel => exact ⟨k + 1, ce, nn, by omega, by go_num, rfl, rfl, _, _, K, _, HI.out.1, by have := HI.out.2.1; simp <;> omega, HBE.out, Sep.mach_more [_, _] [] (Sep.swap01 (YtdcgdnlpagadcaaDoorMem.Sep.drop (Sep.up2 HW.out))) (by have := HX.out.2.2.2.1; omega) rfl rfl⟩
          case measure => simp [intOf]; omega
      by_cases k1 : x.kind = 1
      · rw [k1] at ha0
        go_wp2_with fail
        have HA : Hid (Sep w (wr.alloc (.cells #[.int .i64 1, .string x.s, .int .i64 x.n, .slice ka x.keep.length kc] 34)) (blockThing wr.heap.size (.cells #[.int .i64 1, .string x.s, .int .i64 x.n, .slice ka x.keep.length kc] 34 (0, 0)) :: _)) := Sep.alloc HS.out _
        generalize wr.alloc (.cells #[.int .i64 1, .string x.s, .int .i64 x.n, .slice ka x.keep.length kc] 34) = W1 at *
        generalize wr.heap.size = ob at *
        clear HS
        refine (dlose_sep [_, _, _] [] x.n HA.out HX.out.2.1).mono ?_
        rintro e W2 ⟨rfl, h2⟩
        have HW := Lib.hid h2; clear h2 HA
        go_wp2_with fail
        go_roundw
        case rel => exact ⟨k + 1, ce, nn, by omega, by go_num, rfl, rfl, _, _, K, may, HI.out.1, by have := HI.out.2.1; omega, HI.out.2.2.of (mach_inv [_, _, _] [] HW.out) rfl rfl, Sep.mach_more [_, _] [] (YtdcgdnlpagadcaaDoorMem.Sep.drop HW.out) (by omega) rfl rfl⟩
        case measure => simp [intOf]; omega
      by_cases k2 : x.kind = 2
      · rw [k2] at ha0
        go_wp2_with fail
        have HA : Hid (Sep w (wr.alloc (.cells #[.int .i64 2, .string x.s, .int .i64 x.n, .slice ka x.keep.length kc] 34)) (blockThing wr.heap.size (.cells #[.int .i64 2, .string x.s, .int .i64 x.n, .slice ka x.keep.length kc] 34 (0, 0)) :: _)) := Sep.alloc HS.out _
        generalize wr.alloc (.cells #[.int .i64 2, .string x.s, .int .i64 x.n, .slice ka x.keep.length kc] 34) = W1 at *
        generalize wr.heap.size = ob at *
        clear HS
        refine (darm_sep [_, _, _] [] x.n (.slice ka x.keep.length kc) x.keep HA.out HX.out.2.2.1 HX.out.2.1 (by have := HX.out.2.2.2.2; omega)).mono ?_
        rintro e W2 ⟨rfl, h2⟩
        have HW := Lib.hid h2; clear h2 HA
        go_wp2_with fail
        go_roundw
        case rel => exact ⟨k + 1, ce, nn, by omega, by go_num, rfl, rfl, _, _, x.keep, may, HX.out.2.2.2.2, by have := HI.out.2.1; omega, HI.out.2.2.of (mach_inv [_, _, _] [] HW.out) rfl rfl, Sep.mach_more [_, _] [] (YtdcgdnlpagadcaaDoorMem.Sep.drop HW.out) (by omega) rfl rfl⟩
        case measure => simp [intOf]; omega
      by_cases k3 : x.kind = 3
      · rw [k3] at ha0
        go_wp2_with fail
        have HA : Hid (Sep w (wr.alloc (.cells #[.int .i64 3, .string x.s, .int .i64 x.n, .slice ka x.keep.length kc] 34)) (blockThing wr.heap.size (.cells #[.int .i64 3, .string x.s, .int .i64 x.n, .slice ka x.keep.length kc] 34 (0, 0)) :: _)) := Sep.alloc HS.out _
        generalize wr.alloc (.cells #[.int .i64 3, .string x.s, .int .i64 x.n, .slice ka x.keep.length kc] 34) = W1 at *
        generalize wr.heap.size = ob at *
        clear HS
        refine (again_sep [_, _, _] [] (.slice ka x.keep.length kc) x.keep HA.out HX.out.2.2.1 hO (by omega) (by have := HX.out.2.2.2.2; omega)).mono ?_
        rintro e W2 hp
        obtain ⟨ho, hv⟩ := again_inv (f := 3) (by omega) HI.out.2.2 x.keep
        obtain ⟨cn, rfl, h2⟩ := hp.ok ho
        have h3 := YtdcgdnlpagadcaaDoorMem.Sep.drop (Sep.swap01 (YtdcgdnlpagadcaaDoorMem.Sep.drop (Sep.swap01 h2)))
        clear h2 hp HA ho
        rcases hv with ⟨hv, hnn, hI2⟩ | ⟨kk, vv, hv, hk0, hmem, hI2⟩
        · rw [hv] at h3
          have HT := Lib.hid h3; clear h3
          have HI2 := Lib.hid hI2; clear hI2 hv
          subst hnn
          go_wp2_with fail
          refine (cell_get cn d 3 _ _ (cell_facts HT.out).2).mono ?_
          rintro e W3 ⟨rfl, ht⟩
          have HT3 := Lib.hid (HT.out.quiet ht); clear ht HT
          rw [show decide ((0 : Int) < (⟨0, ⟨#[]⟩, false⟩ : CS).slot) = false from rfl]
          go_wp2_with fail
          go_roundw
          case rel => exact ⟨k + 1, cn, true, by omega, by go_num, rfl, rfl, _, _, K, [], HI.out.1, Nat.zero_le _, HI2.out, Sep.mach_more [_, _] [] (Sep.swap01 (Sep.strs_nil (Sep.swap01 HT3.out))) (by omega) rfl rfl⟩
          case measure => simp [intOf]; omega
        · rw [hv] at h3
          have HT := Lib.hid h3; clear h3
          have HI2 := Lib.hid hI2; clear hI2 hv
          go_wp2_with fail
          refine (cell_get cn d 3 _ _ (cell_facts HT.out).2).mono ?_
          rintro e W3 ⟨rfl, ht⟩
          have HT3 := Lib.hid (HT.out.quiet ht); clear ht HT
          rw [show decide ((0 : Int) < (⟨kk, vv, false⟩ : CS).slot) = true from decide_eq_true hk0]
          obtain ⟨ma2, mc2, he, hst⟩ := Sep.strs (Sep.swap01 HT3.out)
          obtain ⟨rfl, -, rfl⟩ := Value.slice.inj he
          have HST := Lib.hid (And.intro hst hmem); clear hst hmem he
          go_wp2_with fail
          refine (has_any _ _ may vv _ HST.out.1 (by have := HI.out.2.1; omega) HST.out.2).mono ?_
          rintro e W4 ⟨rfl, rfl⟩
          clear HST
          go_wp2_with fail
          go_roundw
          case rel => exact ⟨k + 1, cn, false, by omega, by go_num, rfl, rfl, _, _, K, [vv], HI.out.1, by simp, HI2.out, Sep.mach_more [_, _] [] (Sep.swap01 (Sep.strs_one (Sep.swap01 HT3.out) vv)) (by omega) rfl rfl⟩
          case measure => simp [intOf]; omega
      go_wp2_with fail
      have HA : Hid (Sep w (wr.alloc (.cells #[.int .i64 x.kind, .string x.s, .int .i64 x.n, .slice ka x.keep.length kc] 34)) (blockThing wr.heap.size (.cells #[.int .i64 x.kind, .string x.s, .int .i64 x.n, .slice ka x.keep.length kc] 34 (0, 0)) :: _)) := Sep.alloc HS.out _
      generalize wr.alloc (.cells #[.int .i64 x.kind, .string x.s, .int .i64 x.n, .slice ka x.keep.length kc] 34) = W1 at *
      generalize wr.heap.size = ob at *
      clear HS
      go_roundw
      case rel => exact ⟨k + 1, ce, nn, by omega, by go_num, rfl, rfl, _, _, K, may, HI.out.1, by have := HI.out.2.1; omega, HI.out.2.2, Sep.mach_more [_, _] [] (YtdcgdnlpagadcaaDoorMem.Sep.drop HA.out) (by omega) rfl rfl⟩
      case measure => simp [intOf]; omega
    · have hlen := fewC_len HF.out
      by_cases hle : k = l.length
      · have hltI : ¬ (k : Int) < (l.length : Int) := by omega
        have hleI : (k : Int) ≤ (l.length : Int) := by omega
        go_wp2_with fail
        have HA : Hid (Sep w (wr.alloc (.cells #[.int .i64 3, .string ⟨#[]⟩, .int .i64 0, .slice a2 C.length c2] 34)) (blockThing wr.heap.size (.cells #[.int .i64 3, .string ⟨#[]⟩, .int .i64 0, .slice a2 C.length c2] 34 (0, 0)) :: _)) := Sep.alloc HS.out _
        generalize wr.alloc (.cells #[.int .i64 3, .string ⟨#[]⟩, .int .i64 0, .slice a2 C.length c2] 34) = W1 at *
        generalize wr.heap.size = ob at *
        clear HS
        refine (again_sep [_, _, _] [] (.slice a2 C.length c2) C HA.out ⟨_, _, rfl, HC.out⟩ hO (by omega) (by have := hC; omega)).mono ?_
        rintro e W2 hp
        obtain ⟨ho, hv⟩ := again_inv (f := 3) (by omega) HI.out.2.2 C
        obtain ⟨cn, rfl, h2⟩ := hp.ok ho
        have h3 := YtdcgdnlpagadcaaDoorMem.Sep.drop (Sep.swap01 (YtdcgdnlpagadcaaDoorMem.Sep.drop (Sep.swap01 h2)))
        clear h2 hp HA ho
        rcases hv with ⟨hv, hnn, hI2⟩ | ⟨kk, vv, hv, hk0, hmem, hI2⟩
        · rw [hv] at h3
          have HT := Lib.hid h3; clear h3
          have HI2 := Lib.hid hI2; clear hI2 hv
          subst hnn
          go_wp2_with fail
          refine (cell_get cn d 3 _ _ (cell_facts HT.out).2).mono ?_
          rintro e W3 ⟨rfl, ht⟩
          have HT3 := Lib.hid (HT.out.quiet ht); clear ht HT
          rw [show decide ((0 : Int) < (⟨0, ⟨#[]⟩, false⟩ : CS).slot) = false from rfl]
          go_wp2_with fail
          go_roundw
          case rel => exact ⟨k + 1, cn, true, by omega, by go_num, rfl, rfl, _, _, K, [], HI.out.1, Nat.zero_le _, HI2.out, Sep.mach_more [_, _] [] (Sep.swap01 (Sep.strs_nil (Sep.swap01 HT3.out))) (by omega) rfl rfl⟩
          case measure => simp [intOf]; omega
        · rw [hv] at h3
          have HT := Lib.hid h3; clear h3
          have HI2 := Lib.hid hI2; clear hI2 hv
          go_wp2_with fail
          refine (cell_get cn d 3 _ _ (cell_facts HT.out).2).mono ?_
          rintro e W3 ⟨rfl, ht⟩
          have HT3 := Lib.hid (HT.out.quiet ht); clear ht HT
          rw [show decide ((0 : Int) < (⟨kk, vv, false⟩ : CS).slot) = true from decide_eq_true hk0]
          obtain ⟨ma2, mc2, he, hst⟩ := Sep.strs (Sep.swap01 HT3.out)
          obtain ⟨rfl, -, rfl⟩ := Value.slice.inj he
          have HST := Lib.hid (And.intro hst hmem); clear hst hmem he
          go_wp2_with fail
          refine (has_any _ _ may vv _ HST.out.1 (by have := HI.out.2.1; omega) HST.out.2).mono ?_
          rintro e W4 ⟨rfl, rfl⟩
          clear HST
          go_wp2_with fail
          go_roundw
          case rel => exact ⟨k + 1, cn, false, by omega, by go_num, rfl, rfl, _, _, K, [vv], HI.out.1, by simp, HI2.out, Sep.mach_more [_, _] [] (Sep.swap01 (Sep.strs_one (Sep.swap01 HT3.out) vv)) (by omega) rfl rfl⟩
          case measure => simp [intOf]; omega
      · have hleI : ¬ (k : Int) ≤ (l.length : Int) := by omega
        go_wp2_with fail
        go_ret
        exact ⟨rfl, YtdcgdnlpagadcaaDoorMem.Sep.turns HS.out⟩

end Go.Proofs.YtdcgdnlpagadcaaDoor

/- Statements about cell: CellLasts, every input. -/
namespace Go.Proofs.YtdcgdnlpagadcaaDoor
open Go.RowKit Go.Proofs.YtdcgdnlpagadcaaDoorMem Go.Maps

set_option maxHeartbeats 3200000 in
set_option maxRecDepth 100000 in
theorem lasts_row (a1 : Option Addr) (c1 : Nat) (l : List COp) (a2 : Option Addr) (c2 : Nat) (C : List Int) (w : World) (hO : Offs w) (h1 : COpsIn w a1 l) (h2 : IntsIn w a2 C) :
    Calls Tryd.prog 3 #[.slice a1 l.length c1, .slice a2 C.length c2] w fun e w' => e = .returned (.bool true) ∧ Below w.heap.size w w' := by
  have fin : ∀ {w' : World}, Turns [] w w' → Below w.heap.size w w' := fun h => h.below (Nat.le_refl _) (by simp)
  by_cases hl : fewC l = true
  · by_cases hC : C.length ≤ 100
    · exact (lasts_run a1 c1 l a2 c2 C w hO h1.2 h2.2 hl h1.1 hC).mono fun e w' ⟨e1, e2⟩ => ⟨e1, fin e2⟩
    · have hC1 : (100 : Int) < (C.length : Int) := by omega
      go_enter Tryd.func3, Tryd.ntmps3
      go_wp2_with fail
      refine (small_cell w hO).mono ?_
      rintro e w1 ⟨rfl, ht1⟩
      have H1 := Lib.hid ht1; clear ht1
      go_wp2_with fail
      refine (few_ops a1 c1 l _ (h1.2.kept H1.out) h1.1).mono ?_
      rintro e w2 ⟨rfl, rfl⟩
      rw [hl]
      go_wp2_with fail
      go_ret
      exact ⟨rfl, fin H1.out⟩
  · have hl' : fewC l = false := by simpa using hl
    go_enter Tryd.func3, Tryd.ntmps3
    go_wp2_with fail
    refine (small_cell w hO).mono ?_
    rintro e w1 ⟨rfl, ht1⟩
    have H1 := Lib.hid ht1; clear ht1
    go_wp2_with fail
    refine (few_ops a1 c1 l _ (h1.2.kept H1.out) h1.1).mono ?_
    rintro e w2 ⟨rfl, rfl⟩
    rw [hl']
    go_wp2_with fail
    go_ret
    exact ⟨rfl, fin H1.out⟩

end Go.Proofs.YtdcgdnlpagadcaaDoor
