/- Contracts and lemmas (texts RelD, RelF, joined by a program). -/
import Derived.Test.YtdcgdnlpagadcaaDoorMq5
/- Statements about cell: the program's disk and cell beside the reference's. -/
namespace Go.Proofs.YtdcgdnlpagadcaaDoor
open Go.RowKit Go.Proofs.YtdcgdnlpagadcaaDoorMem Go.Maps

theorem rnew_k {w0 w : World} {ts : List Thing} (h : Sep w0 w ts) :
    Calls Tryd.prog 18 #[] w fun e w' => ∃ b, e = .returned (.pointer (some ⟨b, 0, none⟩)) ∧ RefK w0 w' b DS.new [] ts := by
  refine (rnew_any h).mono fun e w' ⟨b, h1, fv, qv, L, hR, hs⟩ => ⟨b, h1, .slice none 0 0, fv, qv, L, hR, ?_⟩
  exact Sep.fromFront [_, _, _] _ (Sep.row_start hs 3 1)
theorem setR_slot {st : DS} {K : List Int} {f : Int} {c : CS} {s : ByteArray} (h : 0 ≤ c.slot) : 0 ≤ (setR st K f c s).2.1.slot := by
  have hw : ∀ (st : DS) (c : CS), 0 ≤ c.slot → 0 ≤ (setW st K f c s).2.1.slot := by
    intro st c h
    unfold setW
    split
    · exact h
    split
    · exact h
    split
    · exact h
    · rcases slotOf_is c.slot with e | e <;> (show 0 ≤ slotOf c.slot; omega)
  unfold setR
  split
  · exact h
  split
  · split
    · exact h
    · exact hw _ _ h
  · exact hw _ _ h
theorem openV_slot (st : DS) (f : Int) : 0 ≤ (openV st f).slot := by
  unfold openV
  split
  · exact Int.le_refl _
  · exact Int.natCast_nonneg _
theorem slot_same {k : Int} (h : 0 ≤ k) : decide (0 < k) = decide (k ≠ 0) := by
  by_cases h2 : k = 0
  · subst h2; rfl
  · rw [decide_eq_true (show 0 < k by omega), decide_eq_true h2]

section
variable {w0 w : World} {r d B : Nat} {sr st : DS} {Kr K : List Int}
/-- From a contract over things that lie apart to one beside the reference. -/
theorem rk_mach {mid post : List Thing} (h : RefK w0 w r sr Kr (mid ++ machThing d B st K :: post)) :
    ∃ pre, Sep w0 w (pre ++ machThing d B st K :: post) ∧ ∀ w' B' st' K', Sep w0 w' (pre ++ machThing d B' st' K' :: post) → RefK w0 w' r sr Kr (mid ++ machThing d B' st' K' :: post) := by
  obtain ⟨pre, hs, hback⟩ := h.split
  rw [← List.append_assoc] at hs
  exact ⟨pre ++ mid, hs, fun w' B' st' K' h' => hback w' _ (by rw [← List.append_assoc]; exact h')⟩
theorem rk_dwrite (mid post : List Thing) (f a : Int) (s : ByteArray) (h : RefK w0 w r sr Kr (mid ++ machThing d B st K :: post)) (hf : (Lit.int .i64 f).wf = true) (hB : B + s.size ≤ 800000) (hK : K.length ≤ 1000000) :
    Calls Tryd.prog 32 #[.pointer (some ⟨d, 0, none⟩), .int .i64 f, .int .i64 a, .string s] w fun e w' => e = .returned (.int .i64 (writeCode st f a s)) ∧ RefK w0 w' r sr Kr (mid ++ machThing d (B + 8 + s.size) (writeS st K f a s) K :: post) := by
  obtain ⟨pre, hs, hback⟩ := rk_mach h
  exact (dwrite_sep pre post f a s hs hf hB hK).mono fun e w' ⟨h1, h2⟩ => ⟨h1, hback _ _ _ _ h2⟩
theorem rk_dread (mid post : List Thing) (f a z : Int) (h : RefK w0 w r sr Kr (mid ++ machThing d B st K :: post)) (hf : (Lit.int .i64 f).wf = true) :
    Calls Tryd.prog 29 #[.pointer (some ⟨d, 0, none⟩), .int .i64 f, .int .i64 a, .int .i64 z] w fun e w' => e = .returned (.tuple #[.string (readStr st f a z), .int .i64 (readCode st f a z)]) ∧ w = w' := by
  obtain ⟨pre, hs, hback⟩ := rk_mach h
  exact dread_sep pre post f a z hs hf
theorem rk_dsize (mid post : List Thing) (f : Int) (h : RefK w0 w r sr Kr (mid ++ machThing d B st K :: post)) (hf : (Lit.int .i64 f).wf = true) :
    Calls Tryd.prog 28 #[.pointer (some ⟨d, 0, none⟩), .int .i64 f] w fun e w' => e = .returned (.int .i64 (st.F f).now.size) ∧ w = w' := by
  obtain ⟨pre, hs, hback⟩ := rk_mach h
  exact dsize_sep pre post f hs hf
theorem rk_dlose (mid post : List Thing) (n : Int) (h : RefK w0 w r sr Kr (mid ++ machThing d B st K :: post)) (hn : n ≤ 9223372036854775807) :
    Calls Tryd.prog 13 #[.pointer (some ⟨d, 0, none⟩), .int .i64 n] w fun e w' => e = .returned (.tuple #[]) ∧ RefK w0 w' r sr Kr (mid ++ machThing d B { st with lost := max n 0 } K :: post) := by
  obtain ⟨pre, hs, hback⟩ := rk_mach h
  exact (dlose_sep pre post n hs hn).mono fun e w' ⟨h1, h2⟩ => ⟨h1, hback _ _ _ _ h2⟩
theorem rk_darm (mid post : List Thing) (n : Int) (v : Value) (C : List Int) (h : RefK w0 w r sr Kr (mid ++ machThing d B st K :: post)) (hv : IntsV w0 v C) (hn : n ≤ 9223372036854775807) (hC : C.length ≤ 1000000) :
    Calls Tryd.prog 14 #[.pointer (some ⟨d, 0, none⟩), .int .i64 n, v] w fun e w' => e = .returned (.tuple #[]) ∧ RefK w0 w' r sr Kr (mid ++ machThing d B { st with armed := max n 0 } C :: post) := by
  obtain ⟨pre, hs, hback⟩ := rk_mach h
  exact (darm_sep pre post n v C hs hv hn hC).mono fun e w' ⟨h1, h2⟩ => ⟨h1, hback _ _ _ _ h2⟩
theorem rk_dcrash (mid post : List Thing) (v : Value) (C : List Int) (h : RefK w0 w r sr Kr (mid ++ machThing d B st K :: post)) (hv : IntsV w0 v C) (hB : B ≤ 900000) (hC : C.length ≤ 1000000) :
    Calls Tryd.prog 26 #[.pointer (some ⟨d, 0, none⟩), v] w fun e w' => e = .returned (.tuple #[]) ∧ RefK w0 w' r sr Kr (mid ++ machThing d B (crashS st C) K :: post) := by
  obtain ⟨pre, hs, hback⟩ := rk_mach h
  exact (dcrash_sep pre post v C hs hv hB hC).mono fun e w' ⟨h1, h2⟩ => ⟨h1, hback _ _ _ _ h2⟩
theorem rk_dstart (mid post : List Thing) (h : RefK w0 w r sr Kr (mid ++ machThing d B st K :: post)) :
    Calls Tryd.prog 27 #[.pointer (some ⟨d, 0, none⟩)] w fun e w' => e = .returned (.tuple #[]) ∧ RefK w0 w' r sr Kr (mid ++ machThing d B { st with down := false } K :: post) := by
  obtain ⟨pre, hs, hback⟩ := rk_mach h
  exact (dstart_sep pre post hs).mono fun e w' ⟨h1, h2⟩ => ⟨h1, hback _ _ _ _ h2⟩
theorem rk_fine {mid post : List Thing} {n : Nat} (h : RefK w0 w r sr Kr (mid ++ machThing d B st K :: post)) (hn : B ≤ n) : Fine st n := by
  obtain ⟨pre, hs, hback⟩ := rk_mach h
  obtain ⟨kv, FP0, ⟨hI, N, hN, _⟩, _⟩ := Sep.mach pre post hs
  exact ⟨hI, by omega⟩
theorem rk_more {mid post : List Thing} {C : Nat} (h : RefK w0 w r sr Kr (mid ++ machThing d B st K :: post)) (hm : B ≤ C) : RefK w0 w r sr Kr (mid ++ machThing d C st K :: post) := by
  obtain ⟨pre, hs, hback⟩ := rk_mach h
  exact hback _ _ _ _ (Sep.mach_more pre post hs hm rfl rfl)
/-- What Open leaves beside the reference. -/
def KOpen (w0 : World) (r : Nat) (sr : DS) (Kr : List Int) (d : Nat) (f : Int) (st : DS) (post : List Thing) (e : Ending) (w' : World) : Prop :=
  (openC st f ≠ 0 ∧ e = .returned (.tuple #[.pointer none, .int .i64 (openC st f)]) ∧ RefK w0 w' r sr Kr post) ∨
  (openC st f = 0 ∧ ∃ cb, e = .returned (.tuple #[.pointer (some ⟨cb, 0, none⟩), .int .i64 0]) ∧ RefK w0 w' r sr Kr (blockThing cb (cellObj d f (openV st f)) :: post))
theorem KOpen.of {f : Int} {mid post pre : List Thing} {e : Ending} {w' : World} (hback : ∀ w' post', Sep w0 w' (pre ++ post') → RefK w0 w' r sr Kr post') (hp : OpenPost w0 d B f st K (pre ++ mid) post e w') :
    KOpen w0 r sr Kr d f st (mid ++ machThing d B st K :: post) e w' := by
  rcases hp with ⟨h1, h2, h3⟩ | ⟨h1, cb, h2, h3⟩
  · exact Or.inl ⟨h1, h2, hback _ _ (by rw [← List.append_assoc]; exact h3)⟩
  · refine Or.inr ⟨h1, cb, h2, hback _ _ (Sep.fromFront pre _ ?_)⟩
    rw [← List.append_assoc]; exact h3
theorem rk_open (mid post : List Thing) {f : Int} (h : RefK w0 w r sr Kr (mid ++ machThing d B st K :: post)) (hf : (Lit.int .i64 f).wf = true) (hO : Offs w0) :
    Calls Tryd.prog 11 #[.pointer (some ⟨d, 0, none⟩), .int .i64 f] w (KOpen w0 r sr Kr d f st (mid ++ machThing d B st K :: post)) := by
  obtain ⟨pre, hs, hback⟩ := h.split
  rw [← List.append_assoc] at hs
  exact (open_sep (pre ++ mid) post hs hf hO).mono fun _ _ hp => KOpen.of hback hp
theorem rk_again (mid post : List Thing) (v : Value) (C : List Int) (h : RefK w0 w r sr Kr (mid ++ machThing d B st K :: post)) (hv : IntsV w0 v C) (hO : Offs w0) (hB : B ≤ 900000) (hC : C.length ≤ 1000000) :
    Calls Tryd.prog 15 #[.pointer (some ⟨d, 0, none⟩), v] w (KOpen w0 r sr Kr d 3 (afterS st C) (mid ++ machThing d B (afterS st C) K :: post)) := by
  obtain ⟨pre, hs, hback⟩ := h.split
  rw [← List.append_assoc] at hs
  exact (again_sep (pre ++ mid) post v C hs hv hO hB hC).mono fun _ _ hp => KOpen.of hback hp
theorem rk_set {cb : Nat} {c : CS} {f : Int} (mid post : List Thing) (s : ByteArray) (h : RefK w0 w r sr Kr (blockThing cb (cellObj d f c) :: (mid ++ machThing d B st K :: post))) (hO : Offs w0) (hf : (Lit.int .i64 f).wf = true) (hB : B ≤ 600000) (hK : K.length ≤ 1000000) (hs : s.size ≤ 65536) :
    Calls Tryd.prog 12 #[.pointer (some ⟨cb, 0, none⟩), .string s] w fun e w' => e = .returned (.int .i64 (setR st K f c s).1) ∧
      RefK w0 w' r sr Kr (blockThing cb (cellObj d f (setR st K f c s).2.1) :: (mid ++ machThing d (B + 24 + s.size) (setR st K f c s).2.2 K :: post)) := by
  obtain ⟨pre, h0, hback⟩ := h.split
  have h1 := Sep.toFront pre _ h0
  rw [← List.append_assoc] at h1
  exact (set_any (pre ++ mid) post s h1 hO hf hB hK hs).mono fun e w' ⟨h2, h3⟩ => ⟨h2, hback _ _ (Sep.fromFront pre _ (by rw [← List.append_assoc]; exact h3))⟩
theorem rk_get {cb : Nat} {c : CS} {f : Int} {post : List Thing} (h : RefK w0 w r sr Kr (blockThing cb (cellObj d f c) :: post)) :
    Calls Tryd.prog 16 #[.pointer (some ⟨cb, 0, none⟩)] w fun e w' => e = .returned (.tuple #[.string c.value, .bool (decide (0 < c.slot))]) ∧ RefK w0 w' r sr Kr (blockThing cb (cellObj d f c) :: post) :=
  (cell_get cb d f c w (RefK.block h)).mono fun _ _ ⟨h1, h2⟩ => ⟨h1, h.quiet h2⟩
theorem rk_rget {rb : Nat} {c : CS} {f : Int} {post : List Thing} (h : RefK w0 w r sr Kr (blockThing rb (rcellObj r f c) :: post)) (hc : 0 ≤ c.slot) :
    Calls Tryd.prog 25 #[.pointer (some ⟨rb, 0, none⟩)] w fun e w' => e = .returned (.tuple #[.string c.value, .bool (decide (0 < c.slot))]) ∧ RefK w0 w' r sr Kr (blockThing rb (rcellObj r f c) :: post) := by
  rw [slot_same hc]
  exact (rcell_get rb r f c w (RefK.block h)).mono fun e w' ⟨h1, h2⟩ => ⟨h1, h.quiet h2⟩
theorem rk_rlose {post : List Thing} (n : Int) (h : RefK w0 w r sr Kr post) :
    Calls Tryd.prog 21 #[.pointer (some ⟨r, 0, none⟩), .int .i64 n] w fun e w' => e = .returned (.tuple #[]) ∧ RefK w0 w' r { sr with lost := max n 0 } Kr post := by
  obtain ⟨kv, h⟩ := h
  exact (rlose_any n h).mono fun e w' ⟨h1, h2⟩ => ⟨h1, kv, h2⟩
theorem rk_rarm {post : List Thing} (n : Int) (v : Value) {C : List Int} (h : RefK w0 w r sr Kr post) (hv : IntsV w0 v C) (hC : C.length ≤ 1000000) :
    Calls Tryd.prog 22 #[.pointer (some ⟨r, 0, none⟩), .int .i64 n, v] w fun e w' => e = .returned (.tuple #[]) ∧ RefK w0 w' r { sr with armed := max n 0 } C post := by
  obtain ⟨kv, h⟩ := h
  exact rarm_any n v h hv hC
theorem rk_rcrash {post : List Thing} {n : Nat} (v : Value) (C : List Int) (h : RefK w0 w r sr Kr post) (hF : Fine sr n) (hn : n ≤ 900000) (hC : C.length ≤ 1000000) (hv : IntsV w0 v C) :
    Calls Tryd.prog 23 #[.pointer (some ⟨r, 0, none⟩), v] w fun e w' => e = .returned (.tuple #[]) ∧ RefK w0 w' r (crashS sr C) Kr post :=
  rcrash_any v C h hF.1 (Nat.le_trans hF.2 hn) hC hv
theorem rk_rstart {post : List Thing} (h : RefK w0 w r sr Kr post) :
    Calls Tryd.prog 24 #[.pointer (some ⟨r, 0, none⟩)] w fun e w' => e = .returned (.tuple #[]) ∧ RefK w0 w' r { sr with down := false } Kr post := by
  obtain ⟨kv, h⟩ := h
  exact (rstart_any h).mono fun e w' ⟨h1, h2⟩ => ⟨h1, kv, h2⟩
theorem rk_rsize {post : List Thing} (f : Int) (h : RefK w0 w r sr Kr post) :
    Calls Tryd.prog 31 #[.pointer (some ⟨r, 0, none⟩), .int .i64 f] w fun e w' => e = .returned (.int .i64 ((sr.F f).now.size : Int)) ∧ RefK w0 w' r sr Kr post := by
  obtain ⟨kv, h⟩ := h
  exact (rsize_any f h).mono fun e w' ⟨h1, h2⟩ => ⟨h1, kv, h.quiet h2⟩
end
end Go.Proofs.YtdcgdnlpagadcaaDoor

/- Statements about cell: CellTells. -/
namespace Go.Proofs.YtdcgdnlpagadcaaDoor
open Go.RowKit Go.Proofs.YtdcgdnlpagadcaaDoorMem Go.Maps

/-- In the middle of CellTells. -/
def TMid (w wr : World) (d r cb rb k : Nat) : Prop :=
  ∃ c st K may nn, K.length ≤ 100 ∧ CInv may nn 3 c st ∧ 0 ≤ c.slot ∧ RefK w wr r st K [blockThing rb (rcellObj r 3 c), blockThing cb (cellObj d 3 c), machThing d (k * 424) st K]
theorem setR_keeps {may : List ByteArray} {nn : Bool} {c : CS} {st : DS} (K : List Int) {s : ByteArray} (hs : s.size ≤ 400) (hI : CInv may nn 3 c st) : ∃ may' nn', CInv may' nn' 3 (setR st K 3 c s).2.1 (setR st K 3 c s).2.2 := by
  have hbe := setR_inv (f := 3) (by omega) K (s := s) (by omega) hI
  by_cases hz : (setR st K 3 c s).1 = 0
  · exact ⟨_, _, (hbe.2.1 hz).1⟩
  · exact ⟨_, _, hbe.2.2 hz⟩
theorem again_keeps {may : List ByteArray} {nn : Bool} {c : CS} {st : DS} (hI : CInv may nn 3 c st) (C : List Int) : openC (afterS st C) 3 = 0 ∧ ∃ may' nn', CInv may' nn' 3 (openV (afterS st C) 3) (afterS st C) := by
  obtain ⟨ho, hv⟩ := again_inv (f := 3) (by omega) hI C
  refine ⟨ho, ?_⟩
  rcases hv with ⟨hv, _, hI2⟩ | ⟨kk, vv, hv, _, _, hI2⟩
  · rw [hv]; exact ⟨_, _, hI2⟩
  · rw [hv]; exact ⟨_, _, hI2⟩

set_option maxHeartbeats 20000000 in
set_option maxRecDepth 100000 in
theorem ctells_run (a1 : Option Addr) (c1 : Nat) (l : List COp) (w : World) (hO : Offs w) (h1 : COpsAt w a1 l) (hl : fewC l = true) (hl1 : l.length ≤ maxLen) :
    Calls Tryd.prog 4 #[.slice a1 l.length c1] w fun e w' => e = .returned (.bool true) ∧ Turns [] w w' := by
  have HL := Lib.hid h1; clear h1
  have HF := Lib.hid hl
  have hlen := fewC_len HF.out
  go_enter Tryd.func4, Tryd.ntmps4
  go_wp2_with fail
  refine (small_cell w hO).mono ?_
  rintro e w1 ⟨rfl, ht1⟩
  have H1 := Lib.hid ht1; clear ht1
  go_wp2_with fail
  refine (few_ops a1 c1 l _ (HL.out.kept H1.out) hl1).mono ?_
  rintro e w2 ⟨rfl, rfl⟩
  rw [hl]
  go_wp2_with fail
  refine (mach_new [] ((Sep.start w).quiet H1.out)).mono ?_
  rintro e w2 ⟨d, rfl, h2⟩
  have H2 := Lib.hid h2; clear h2
  go_wp2_with fail
  refine (rnew_k H2.out).mono ?_
  rintro e w3 ⟨r, rfl, h3⟩
  have H3 : Hid (RefK w w3 r DS.new [] ([] ++ machThing d 0 DS.new [] :: [])) := h3
  clear h3 H2 H1
  have ho := (open_new (f := 3) (by omega) (by omega)).1
  have hv := (open_new (f := 3) (by omega) (by omega)).2
  have HOV := Lib.hid (And.intro ho hv); clear ho hv
  go_wp2_with fail
  refine (rk_open [] [] H3.out wf3 hO).mono ?_
  rintro e w4 hp
  rcases hp with ⟨h0, -⟩ | ⟨-, cb, rfl, h4⟩
  · exact absurd HOV.out.1 h0
  have H4 := Lib.hid h4; clear h4 H3
  go_wp2_with fail
  refine (ropen_any H4.out DInv.new).mono ?_
  rintro e w5 hq
  rcases hq with ⟨h0, -⟩ | ⟨-, rb, rfl, h5⟩
  · exact absurd HOV.out.1 h0
  rw [HOV.out.2] at h5
  have H5 : Hid (TMid w w5 d r cb rb 0) := ⟨_, _, [], [], _, by simp, CInv.new 3, by decide, h5⟩
  clear h5 H4 HOV
  go_wp2_with fail
  go_loopw [7, 8, 9, 10, 11] (fun av ev bv fv iv wr => ∃ (k cb rb : Nat) (ea ef : Value), k ≤ l.length ∧ iv = .int .i64 k ∧ av = .pointer (some ⟨cb, 0, none⟩) ∧ bv = .pointer (some ⟨rb, 0, none⟩) ∧ ev = ea ∧ fv = ef ∧ Hid (TMid w wr d r cb rb k)) (fun _ _ _ _ iv _ => l.length - (intOf iv).toNat)
  case atStart => exact ⟨0, cb, rb, _, _, by omega, rfl, rfl, rfl, rfl, rfl, H5.out⟩
  case round =>
    clear H5
    obtain ⟨k, cb, rb, ea, ef, hk, rfl, rfl, rfl, rfl, rfl, c, st, K, may, nn, hK, hI, hsl, hS⟩ := hrel
    have HI := Lib.hid (And.intro hK (And.intro hI hsl)); clear hK hI hsl
    have HS := Lib.hid hS; clear hS
    by_cases hlt : k < l.length
    · obtain ⟨hn, b, off, kv, rfl, x0, x1, x2, x3, hkv⟩ := HL.out k hlt
      have hfew := fewC_op HF.out hlt
      obtain ⟨x, hx⟩ : ∃ x, x = l[k] := ⟨_, rfl⟩
      rw [← hx] at hn x0 x1 x2 hkv hfew
      have hltI : (k : Int) < (l.length : Int) := by omega
      have hkv' := hkv
      obtain ⟨ka, kc, rfl, -⟩ := hkv'
      have ha : ∀ o, (wr.alloc o).cell? ⟨b, off + k * 4, none⟩ = some (.int .i64 x.kind) ∧ (wr.alloc o).cell? ⟨b, off + k * 4 + 1, none⟩ = some (.string x.s) ∧ (wr.alloc o).cell? ⟨b, off + k * 4 + 2, none⟩ = some (.int .i64 x.n) ∧ (wr.alloc o).cell? ⟨b, off + k * 4 + 3, none⟩ = some (.slice ka x.keep.length kc) := fun o => by
        have hb := World.block_lt_of_cell? _ _ x0
        have ht := (RefK.turns HS.out).trans (Turns.alloc [] wr o)
        exact ⟨(ht.cell (a := ⟨b, off + k * 4, none⟩) hb (by simp)).trans x0, (ht.cell (a := ⟨b, off + k * 4 + 1, none⟩) hb (by simp)).trans x1, (ht.cell (a := ⟨b, off + k * 4 + 2, none⟩) hb (by simp)).trans x2, (ht.cell (a := ⟨b, off + k * 4 + 3, none⟩) hb (by simp)).trans x3⟩
      have hb := World.block_lt_of_cell? _ _ x0
      have ht := RefK.turns HS.out
      have hw0 := (ht.cell (a := ⟨b, off + k * 4, none⟩) hb (by simp)).trans x0
      have hw1 := (ht.cell (a := ⟨b, off + k * 4 + 1, none⟩) hb (by simp)).trans x1
      have hw2 := (ht.cell (a := ⟨b, off + k * 4 + 2, none⟩) hb (by simp)).trans x2
      have hw3 := (ht.cell (a := ⟨b, off + k * 4 + 3, none⟩) hb (by simp)).trans x3
      clear hb ht
      have ha0 := fun o => (ha o).1
      have ha1 := fun o => (ha o).2.1
      have ha2 := fun o => (ha o).2.2.1
      have ha3 := fun o => (ha o).2.2.2
      have HX := Lib.hid (And.intro hx (And.intro hn (And.intro hkv hfew))); clear hx hn hkv hfew ha x0 x1 x2 x3
      by_cases k0 : x.kind = 0
      · rw [k0] at ha0 hw0
        go_wp2_with fail
        have HA : Hid (RefK w (wr.alloc (.cells #[.int .i64 0, .string x.s, .int .i64 x.n, .slice ka x.keep.length kc] 34)) r st K (blockThing wr.heap.size (.cells #[.int .i64 0, .string x.s, .int .i64 x.n, .slice ka x.keep.length kc] 34 (0, 0)) :: [blockThing rb (rcellObj r 3 c), blockThing cb (cellObj d 3 c), machThing d (k * 424) st K])) := RefK.alloc HS.out _ _
        generalize wr.alloc (.cells #[.int .i64 0, .string x.s, .int .i64 x.n, .slice ka x.keep.length kc] 34) = W1 at *
        generalize wr.heap.size = ob at *
        clear HS
        have HAd := Lib.hid (RefK.quiet HA.out (Turns.refl [] W1).drew); clear HA
        have hob := RefK.block HAd.out
        have y1 : W1.drew.cell? ⟨ob, 1, none⟩ = some (.string x.s) := cell_at hob 1
        clear hob
        refine wp_region_N (fun _ => True) (fun W => W.cell? ⟨ob, 1, none⟩ = some (.string x.s)) (fun _ => false) (by kernel_rfl) ?_
        generalize W1.drew = Wd at *
        have hs2 := y1
        refine wpAnyN_take2 (some 72) (i := 0) (v := ?_) rfl rfl (by kernel_rfl) (by kernel_rfl) (by kernel_rfl) (by kernel_rfl) rfl (fun _ _ _ h => h) (Or.inl ⟨by rfl, ?_⟩) hs2 ?_
        rotate_left
        · intro w' hSw; have p0 := hSw; go_simp; try (with_reducible rfl)
        simp only [Act.put, List.setIfInBounds_toArray, List.set_cons_zero, List.set_cons_succ]
        refine wpAnyN_take2 (some 73) (i := 1) (v := ?_) rfl rfl (by kernel_rfl) (by kernel_rfl) (by kernel_rfl) (by kernel_rfl) rfl (fun _ _ _ h => h) (Or.inl ⟨by rfl, ?_⟩) hs2 ?_
        rotate_left
        · intro w' hSw; have p0 := hSw; go_simp; try (with_reducible rfl)
        simp only [Act.put, List.setIfInBounds_toArray, List.set_cons_zero, List.set_cons_succ]
        refine wpAnyN_take2 (some 74) (i := 2) (v := ?_) rfl rfl (by kernel_rfl) (by kernel_rfl) (by kernel_rfl) (by kernel_rfl) rfl (fun _ _ _ h => h) (Or.inl ⟨by rfl, ?_⟩) hs2 ?_
        rotate_left
        · intro w' hSw; have p0 := hSw; go_simp; try (with_reducible rfl)
        simp only [Act.put, List.setIfInBounds_toArray, List.set_cons_zero, List.set_cons_succ]
        refine wpAnyN_take2 (some 76) (i := 4) (v := ?_) rfl rfl (by kernel_rfl) (by kernel_rfl) (by kernel_rfl) (by kernel_rfl) rfl (fun _ _ _ h => h) (Or.inl ⟨by rfl, ?_⟩) hs2 ?_
        rotate_left
        · intro w' hSw; have p0 := hSw; go_simp; try (with_reducible rfl)
        simp only [Act.put, List.setIfInBounds_toArray, List.set_cons_zero, List.set_cons_succ]
        refine wpAnyN_take2 (some 77) (i := 5) (v := ?_) rfl rfl (by kernel_rfl) (by kernel_rfl) (by kernel_rfl) (by kernel_rfl) rfl (fun _ _ _ h => h) (Or.inl ⟨by rfl, ?_⟩) hs2 ?_
        rotate_left
        · intro w' hSw; have p0 := hSw; go_simp; try (with_reducible rfl)
        simp only [Act.put, List.setIfInBounds_toArray, List.set_cons_zero, List.set_cons_succ]
        refine wpAnyN_take2 (some 78) (i := 6) (v := ?_) rfl rfl (by kernel_rfl) (by kernel_rfl) (by kernel_rfl) (by kernel_rfl) rfl (fun _ _ _ h => h) (Or.inl ⟨by rfl, ?_⟩) hs2 ?_
        rotate_left
        · intro w' hSw; have p0 := hSw; go_simp; try (with_reducible rfl)
        simp only [Act.put, List.setIfInBounds_toArray, List.set_cons_zero, List.set_cons_succ]
        refine wpAnyN_one (i := 3) (by kernel_rfl) rfl fun K1 hK1 => ?_
        go_simp
        refine (rk_set [blockThing ob (.cells #[.int .i64 0, .string x.s, .int .i64 x.n, .slice ka x.keep.length kc] 34 (0, 0)), blockThing rb (rcellObj r 3 c)] [] x.s (RefK.perm HAd.out (List.perm_middle (l₁ := [_, _]) (l₂ := [_]))) hO wf3 (by omega) (by have := HI.out.1; omega) (by have := HX.out.2.2.2.1; omega)).mono ?_
        rintro e W2 ⟨rfl, h2⟩
        go_simp
        have HF := Lib.hid (rk_fine (mid := [_, _, _]) HAd.out (show k * 424 ≤ 200000 by omega))
        clear HAd y1 hs2
        have H2 := Lib.hid (RefK.perm h2 ((List.Perm.swap _ _ _).trans ((List.Perm.swap _ _ _).cons _))); clear h2
        have y1 : W2.cell? ⟨ob, 1, none⟩ = some (.string x.s) := cell_at (RefK.block H2.out) 1
        refine hK1.out _ _ y1 (fun h => absurd h (by decide)) ?_
        clear hK1 K1
        try (simp only [Act.put, List.setIfInBounds_toArray, List.set_cons_zero, List.set_cons_succ])
        refine wpAnyN_one (i := 7) (by kernel_rfl) rfl fun K1 hK1 => ?_
        go_simp
        refine (rset_any x.s (RefK.perm H2.out (List.Perm.swap _ _ _)) HF.out (by have := HI.out.1; omega) (by have := HX.out.2.2.2.1; omega) HI.out.2.2).mono ?_
        rintro e W3 ⟨rfl, h3⟩
        go_simp
        clear H2 y1 HF
        have H3 := Lib.hid (RefK.perm h3 (List.Perm.swap _ _ _)); clear h3
        have y1 : W3.cell? ⟨ob, 1, none⟩ = some (.string x.s) := cell_at (RefK.block H3.out) 1
        obtain ⟨R, hR⟩ : ∃ R, R = setR st K 3 c x.s := ⟨_, rfl⟩
        have HI2 : Hid ((∃ may' nn', CInv may' nn' 3 R.2.1 R.2.2) ∧ 0 ≤ R.2.1.slot) := by
          rw [hR]
          exact ⟨setR_keeps K HX.out.2.2.2.1 HI.out.2.1, setR_slot HI.out.2.2⟩
        rw [← hR] at H3 ⊢
        clear hR
        obtain ⟨rc, c2, st2⟩ := R
        have HT := Lib.hid (RefK.drop H3.out); clear H3
        refine hK1.out _ _ y1 (fun h => absurd h (by decide)) ?_
        clear hK1 K1
        refine wpAnyN_one (i := 8) (by kernel_rfl) rfl fun K1 hK1 => ?_
        go_simp
        refine hK1.out _ _ y1 (fun h => absurd h (by decide)) ?_
        clear hK1 K1
        refine wpAnyN_done (by kernel_rfl) ?_ _
        clear y1
        obtain ⟨may2, nn2, hI2⟩ := HI2.out.1
        have HI3 := Lib.hid (And.intro hI2 HI2.out.2); clear hI2 HI2
        go_wp2_with fail
        refine (rk_get (RefK.perm HT.out (List.Perm.swap _ _ _))).mono ?_
        rintro e Wg ⟨rfl, hg⟩
        have HG := Lib.hid (RefK.perm hg (List.Perm.swap _ _ _)); clear hg HT
        go_wp2_with fail
        refine (rk_rget HG.out HI3.out.2).mono ?_
        rintro e Wh ⟨rfl, hh⟩
        have HW : Hid (TMid w Wh d r cb rb (k + 1)) := ⟨_, _, _, _, _, HI.out.1, HI3.out.1, HI3.out.2, rk_more (mid := [_, _]) hh (by have := HX.out.2.2.2.1; omega)⟩
        clear hh HG HI3
        dsimp only
        have e1 : (c2.value.toList == c2.value.toList) = true := beq_self_eq_true _
        have e2 : (c2.value.toList != c2.value.toList) = false := by rw [bne_eq_false_iff_eq]
        generalize c2.value = cv at *
        generalize decide (0 < c2.slot) = cs at *
        go_wp2_with fail
        go_roundw
        case rel => exact ⟨k + 1, cb, rb, _, _, by omega, by go_num, rfl, rfl, rfl, rfl, HW.out⟩
        case measure => simp [intOf]; omega
      by_cases k1 : x.kind = 1
      · rw [k1] at ha0 hw0
        go_wp2_with fail
        have HA : Hid (RefK w (wr.alloc (.cells #[.int .i64 1, .string x.s, .int .i64 x.n, .slice ka x.keep.length kc] 34)) r st K (blockThing wr.heap.size (.cells #[.int .i64 1, .string x.s, .int .i64 x.n, .slice ka x.keep.length kc] 34 (0, 0)) :: [blockThing rb (rcellObj r 3 c), blockThing cb (cellObj d 3 c), machThing d (k * 424) st K])) := RefK.alloc HS.out _ _
        generalize wr.alloc (.cells #[.int .i64 1, .string x.s, .int .i64 x.n, .slice ka x.keep.length kc] 34) = W1 at *
        generalize wr.heap.size = ob at *
        clear HS
        refine (rk_dlose [_, _, _] [] x.n HA.out HX.out.2.1).mono ?_
        rintro e W2 ⟨rfl, h2⟩
        have H2 := Lib.hid h2; clear h2 HA
        have y2 : W2.cell? ⟨ob, 2, none⟩ = some (.int .i64 x.n) := cell_at (RefK.block H2.out) 2
        go_wp2_with fail
        refine (rk_rlose x.n H2.out).mono ?_
        rintro e W3 ⟨rfl, h3⟩
        have HJ := Lib.hid (rk_fine (mid := [_, _, _]) h3 (Nat.le_refl _)).1
        have H3 := Lib.hid (RefK.drop h3); clear h3 H2 y2
        go_wp2_with fail
        refine (rk_get (RefK.perm H3.out (List.Perm.swap _ _ _))).mono ?_
        rintro e Wg ⟨rfl, hg⟩
        have HG := Lib.hid (RefK.perm hg (List.Perm.swap _ _ _)); clear hg H3
        go_wp2_with fail
        refine (rk_rget HG.out HI.out.2.2).mono ?_
        rintro e Wh ⟨rfl, hh⟩
        have HW : Hid (TMid w Wh d r cb rb (k + 1)) := ⟨_, _, _, _, _, HI.out.1, HI.out.2.1.of HJ.out rfl rfl, HI.out.2.2, rk_more (mid := [_, _]) hh (by omega)⟩
        clear hh HG
        have e1 : (c.value.toList == c.value.toList) = true := beq_self_eq_true _
        have e2 : (c.value.toList != c.value.toList) = false := by rw [bne_eq_false_iff_eq]
        generalize c.value = cv at *
        generalize decide (0 < c.slot) = cs at *
        go_wp2_with fail
        go_roundw
        case rel => exact ⟨k + 1, cb, rb, _, _, by omega, by go_num, rfl, rfl, rfl, rfl, HW.out⟩
        case measure => simp [intOf]; omega
      by_cases k2 : x.kind = 2
      · rw [k2] at ha0 hw0
        go_wp2_with fail
        have HA : Hid (RefK w (wr.alloc (.cells #[.int .i64 2, .string x.s, .int .i64 x.n, .slice ka x.keep.length kc] 34)) r st K (blockThing wr.heap.size (.cells #[.int .i64 2, .string x.s, .int .i64 x.n, .slice ka x.keep.length kc] 34 (0, 0)) :: [blockThing rb (rcellObj r 3 c), blockThing cb (cellObj d 3 c), machThing d (k * 424) st K])) := RefK.alloc HS.out _ _
        generalize wr.alloc (.cells #[.int .i64 2, .string x.s, .int .i64 x.n, .slice ka x.keep.length kc] 34) = W1 at *
        generalize wr.heap.size = ob at *
        clear HS
        refine (rk_darm [_, _, _] [] x.n (.slice ka x.keep.length kc) x.keep HA.out HX.out.2.2.1 HX.out.2.1 (by have := HX.out.2.2.2.2; omega)).mono ?_
        rintro e W2 ⟨rfl, h2⟩
        have H2 := Lib.hid h2; clear h2 HA
        have y2 : W2.cell? ⟨ob, 2, none⟩ = some (.int .i64 x.n) := cell_at (RefK.block H2.out) 2
        have y3 : W2.cell? ⟨ob, 3, none⟩ = some (.slice ka x.keep.length kc) := cell_at (RefK.block H2.out) 3
        go_wp2_with fail
        refine (rk_rarm x.n _ H2.out HX.out.2.2.1 (by have := HX.out.2.2.2.2; omega)).mono ?_
        rintro e W3 ⟨rfl, h3⟩
        have HJ := Lib.hid (rk_fine (mid := [_, _, _]) h3 (Nat.le_refl _)).1
        have H3 := Lib.hid (RefK.drop h3); clear h3 H2 y2 y3
        go_wp2_with fail
        refine (rk_get (RefK.perm H3.out (List.Perm.swap _ _ _))).mono ?_
        rintro e Wg ⟨rfl, hg⟩
        have HG := Lib.hid (RefK.perm hg (List.Perm.swap _ _ _)); clear hg H3
        go_wp2_with fail
        refine (rk_rget HG.out HI.out.2.2).mono ?_
        rintro e Wh ⟨rfl, hh⟩
        have HW : Hid (TMid w Wh d r cb rb (k + 1)) := ⟨_, _, _, _, _, HX.out.2.2.2.2, HI.out.2.1.of HJ.out rfl rfl, HI.out.2.2, rk_more (mid := [_, _]) hh (by omega)⟩
        clear hh HG
        have e1 : (c.value.toList == c.value.toList) = true := beq_self_eq_true _
        have e2 : (c.value.toList != c.value.toList) = false := by rw [bne_eq_false_iff_eq]
        generalize c.value = cv at *
        generalize decide (0 < c.slot) = cs at *
        go_wp2_with fail
        go_roundw
        case rel => exact ⟨k + 1, cb, rb, _, _, by omega, by go_num, rfl, rfl, rfl, rfl, HW.out⟩
        case measure => simp [intOf]; omega
      by_cases k3 : x.kind = 3
      · rw [k3] at ha0 hw0
        go_wp2_with fail
        have HA : Hid (RefK w (wr.alloc (.cells #[.int .i64 3, .string x.s, .int .i64 x.n, .slice ka x.keep.length kc] 34)) r st K (blockThing wr.heap.size (.cells #[.int .i64 3, .string x.s, .int .i64 x.n, .slice ka x.keep.length kc] 34 (0, 0)) :: [blockThing rb (rcellObj r 3 c), blockThing cb (cellObj d 3 c), machThing d (k * 424) st K])) := RefK.alloc HS.out _ _
        generalize wr.alloc (.cells #[.int .i64 3, .string x.s, .int .i64 x.n, .slice ka x.keep.length kc] 34) = W1 at *
        generalize wr.heap.size = ob at *
        clear HS
        obtain ⟨ho, may2, nn2, hI2⟩ := again_keeps HI.out.2.1 x.keep
        have HI2 := Lib.hid (And.intro hI2 (openV_slot (afterS st x.keep) 3)); clear hI2
        have HF := Lib.hid (rk_fine (mid := [_, _, _]) HA.out (Nat.le_refl _))
        refine (rk_again [_, _, _] [] (.slice ka x.keep.length kc) x.keep HA.out HX.out.2.2.1 hO (by omega) (by have := HX.out.2.2.2.2; omega)).mono ?_
        rintro e W2 hp
        rcases hp with ⟨h0, -⟩ | ⟨-, cn, rfl, h2⟩
        · exact absurd ho h0
        have H2 := Lib.hid h2; clear h2 HA
        have y3 : W2.cell? ⟨ob, 3, none⟩ = some (.slice ka x.keep.length kc) := cell_at (RefK.block (RefK.perm H2.out (List.Perm.swap _ _ _))) 3
        have HO3 := Lib.hid ho; clear ho
        go_wp2_with fail
        refine (rk_rcrash _ x.keep H2.out HF.out (by omega) (by have := HX.out.2.2.2.2; omega) HX.out.2.2.1).mono ?_
        rintro e W3 ⟨rfl, h3⟩
        have H3 := Lib.hid h3; clear h3 H2 y3
        go_wp2_with fail
        refine (rk_rstart H3.out).mono ?_
        rintro e W4 ⟨rfl, h4⟩
        have H4 : Hid (RefK w W4 r (afterS st x.keep) K [blockThing cn (cellObj d 3 (openV (afterS st x.keep) 3)), blockThing ob (.cells #[.int .i64 3, .string x.s, .int .i64 x.n, .slice ka x.keep.length kc] 34 (0, 0)), blockThing rb (rcellObj r 3 c), blockThing cb (cellObj d 3 c), machThing d (k * 424) (afterS st x.keep) K]) := h4
        clear h4 H3 HF
        go_wp2_with fail
        have HF := Lib.hid (rk_fine (mid := [_, _, _, _]) H4.out (Nat.le_refl _)).1
        refine (ropen_any H4.out HF.out).mono ?_
        rintro e W5 hq
        rcases hq with ⟨h0, -⟩ | ⟨-, rn, rfl, h5⟩
        · exact absurd HO3.out h0
        have H5 : Hid (RefK w W5 r (afterS st x.keep) K [blockThing rn (rcellObj r 3 (openV (afterS st x.keep) 3)), blockThing cn (cellObj d 3 (openV (afterS st x.keep) 3)), machThing d (k * 424) (afterS st x.keep) K]) := by
          have h6 := RefK.perm h5 (List.perm_append_comm (l₁ := [_, _]) (l₂ := [_, _, _, _]))
          have h7 := RefK.drop (RefK.drop (RefK.drop h6))
          exact RefK.perm h7 (List.perm_append_comm (l₁ := [_]) (l₂ := [_, _]))
        clear h5 H4 HF HO3
        obtain ⟨c2, hc2⟩ : ∃ x2, x2 = openV (afterS st x.keep) 3 := ⟨_, rfl⟩
        rw [← hc2] at H5 HI2
        obtain ⟨st2, hst2⟩ : ∃ x2, x2 = afterS st x.keep := ⟨_, rfl⟩
        rw [← hst2] at H5 HI2
        clear hc2 hst2
        go_wp2_with fail
        refine (rk_get (RefK.perm H5.out (List.Perm.swap _ _ _))).mono ?_
        rintro e Wg ⟨rfl, hg⟩
        have HG := Lib.hid (RefK.perm hg (List.Perm.swap _ _ _)); clear hg H5
        go_wp2_with fail
        refine (rk_rget HG.out HI2.out.2).mono ?_
        rintro e Wh ⟨rfl, hh⟩
        have HW : Hid (TMid w Wh d r cn rn (k + 1)) := ⟨_, _, _, _, _, HI.out.1, HI2.out.1, HI2.out.2, rk_more (mid := [_, _]) hh (by omega)⟩
        clear hh HG
        have e1 : (c2.value.toList == c2.value.toList) = true := beq_self_eq_true _
        have e2 : (c2.value.toList != c2.value.toList) = false := by rw [bne_eq_false_iff_eq]
        generalize c2.value = cv at *
        generalize decide (0 < c2.slot) = cs at *
        go_wp2_with fail
        go_roundw
        case rel => exact ⟨k + 1, cn, rn, _, _, by omega, by go_num, rfl, rfl, rfl, rfl, HW.out⟩
        case measure => simp [intOf]; omega
      go_wp2_with fail
      have HA : Hid (RefK w (wr.alloc (.cells #[.int .i64 x.kind, .string x.s, .int .i64 x.n, .slice ka x.keep.length kc] 34)) r st K (blockThing wr.heap.size (.cells #[.int .i64 x.kind, .string x.s, .int .i64 x.n, .slice ka x.keep.length kc] 34 (0, 0)) :: [blockThing rb (rcellObj r 3 c), blockThing cb (cellObj d 3 c), machThing d (k * 424) st K])) := RefK.alloc HS.out _ _
      generalize wr.alloc (.cells #[.int .i64 x.kind, .string x.s, .int .i64 x.n, .slice ka x.keep.length kc] 34) = W1 at *
      generalize wr.heap.size = ob at *
      clear HS
      have H3 := Lib.hid (RefK.drop HA.out); clear HA
      go_wp2_with fail
      refine (rk_get (RefK.perm H3.out (List.Perm.swap _ _ _))).mono ?_
      rintro e Wg ⟨rfl, hg⟩
      have HG := Lib.hid (RefK.perm hg (List.Perm.swap _ _ _)); clear hg H3
      go_wp2_with fail
      refine (rk_rget HG.out HI.out.2.2).mono ?_
      rintro e Wh ⟨rfl, hh⟩
      have HW : Hid (TMid w Wh d r cb rb (k + 1)) := ⟨_, _, _, _, _, HI.out.1, HI.out.2.1, HI.out.2.2, rk_more (mid := [_, _]) hh (by omega)⟩
      clear hh HG
      have e1 : (c.value.toList == c.value.toList) = true := beq_self_eq_true _
      have e2 : (c.value.toList != c.value.toList) = false := by rw [bne_eq_false_iff_eq]
      generalize c.value = cv at *
      generalize decide (0 < c.slot) = cs at *
      go_wp2_with fail
      go_roundw
      case rel => exact ⟨k + 1, cb, rb, _, _, by omega, by go_num, rfl, rfl, rfl, rfl, HW.out⟩
      case measure => simp [intOf]; omega
    · obtain rfl : k = l.length := by omega
      have hltI : decide ((l.length : Int) < (l.length : Int)) = false := decide_eq_false (by omega)
      have HN : Hid (IntsV w (.slice none 0 0) []) := ⟨none, 0, rfl, fun i hi => by simp at hi⟩
      have HF0 := Lib.hid (rk_fine (mid := [_, _]) HS.out (Nat.le_refl _))
      go_wp2_with fail
      refine (rk_dcrash [_, _] [] _ [] HS.out HN.out (by omega) (by simp)).mono ?_
      rintro e W1 ⟨rfl, h1⟩
      have H1 := Lib.hid h1; clear h1 HS
      go_wp2_with fail
      refine (rk_dstart [_, _] [] H1.out).mono ?_
      rintro e W2 ⟨rfl, h2⟩
      have H2 := Lib.hid h2; clear h2 H1
      go_wp2_with fail
      refine (rk_rcrash _ [] H2.out HF0.out (by omega) (by simp) HN.out).mono ?_
      rintro e W3 ⟨rfl, h3⟩
      have H3 := Lib.hid h3; clear h3 H2
      go_wp2_with fail
      refine (rk_rstart H3.out).mono ?_
      rintro e W4 ⟨rfl, h4⟩
      have H4 : Hid (RefK w W4 r (afterS st []) K ([blockThing rb (rcellObj r 3 c), blockThing cb (cellObj d 3 c)] ++ machThing d (l.length * 424) (afterS st []) K :: [])) := h4
      clear h4 H3 HF0
      have HF1 := Lib.hid (rk_fine H4.out (Nat.le_refl _)).1
      generalize afterS st [] = st2 at *
      go_wp2_with fail
      refine (rk_dsize [_, _] [] 3 H4.out wf3).mono ?_
      rintro e W5 ⟨rfl, rfl⟩
      have hz := (HF1.out.size 3).2
      obtain ⟨z, hzz⟩ : ∃ z, z = (st2.F 3).now.size := ⟨_, rfl⟩
      rw [← hzz] at hz ⊢
      have HZZ := Lib.hid hzz; clear hzz
      go_wp2_with fail
      refine (rk_dread [_, _] [] 3 0 z H4.out wf3).mono ?_
      rintro e W5 ⟨rfl, rfl⟩
      go_wp2_with fail
      refine (rk_rread 3 0 z H4.out HF1.out (by omega) (by omega)).mono ?_
      rintro e W5 ⟨rfl, h5⟩
      have H5 := Lib.hid h5; clear h5 H4
      generalize readStr st2 3 0 (z : Int) = rs at *
      generalize readCode st2 3 0 (z : Int) = rcd at *
      have e1 : (rs.toList == rs.toList) = true := beq_self_eq_true _
      go_wp2_with fail
      refine (rk_rsize 3 H5.out).mono ?_
      rintro e W6 ⟨rfl, h6⟩
      have H6 := Lib.hid h6; clear h6 H5
      rw [← HZZ.out]
      go_wp2_with fail
      go_ret
      exact ⟨rfl, RefK.turns H6.out⟩

set_option maxHeartbeats 1600000 in
set_option maxRecDepth 100000 in
theorem celltells_row (a1 : Option Addr) (c1 : Nat) (l : List COp) (w : World) (hO : Offs w) (h1 : COpsIn w a1 l) :
    Calls Tryd.prog 4 #[.slice a1 l.length c1] w fun e w' => e = .returned (.bool true) ∧ Below w.heap.size w w' := by
  have fin : ∀ {w' : World}, Turns [] w w' → Below w.heap.size w w' := fun h => h.below (Nat.le_refl _) (by simp)
  cases hl : fewC l
  · go_enter Tryd.func4, Tryd.ntmps4
    go_wp2_with fail
    refine (small_cell w hO).mono ?_
    rintro e w1 ⟨rfl, ht1⟩
    have H1 := Lib.hid ht1; clear ht1
    go_wp2_with fail
    refine (few_ops a1 c1 l _ (h1.2.kept H1.out) h1.1).mono ?_
    rintro e w2 ⟨rfl, rfl⟩
    rw [hl]
    go_wp2_with fail
    go_ret
    exact ⟨rfl, fin H1.out⟩
  · exact (ctells_run a1 c1 l w hO h1.2 hl h1.1).mono fun e w' ⟨e1, e2⟩ => ⟨e1, fin e2⟩
end Go.Proofs.YtdcgdnlpagadcaaDoor
