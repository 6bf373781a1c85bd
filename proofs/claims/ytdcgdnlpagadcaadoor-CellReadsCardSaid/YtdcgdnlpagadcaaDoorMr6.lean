/- Contracts and lemmas (texts RelD, RelE, joined by a program). -/
import Derived.Test.YtdcgdnlpagadcaaDoorMr5
/- Statements about cell: the program's disk and cell beside the reference's. -/
namespace Go.Proofs.YtdcgdnlpagadcaaDoor
open Go.RowKit Go.Proofs.YtdcgdnlpagadcaaDoorMem Go.Maps

theorem rnew_k {w0 w : World} {ts : List Thing} (h : Sep w0 w ts) :
    Calls Tryd.prog 18 #[] w fun e w' => ∃ b, e = .returned (.pointer (some ⟨b, 0, none⟩)) ∧ RefK w0 w' b DS.new [] ts := by
  refine (rnew_any h).mono fun e w' ⟨b, h1, fv, qv, L, hR, hs⟩ => ⟨b, h1, .slice none 0 0, fv, qv, L, hR, ?_⟩
  exact Sep.fromFront [_, _, _] _ (Sep.row_start hs 3 1)
theorem setR_slot {st : DS} {K : List Int} {f : Int} {c : CS} {s : ByteArray} (h : 0 ≤ c.slot) : 0 ≤ (setR st K f c s).2.1.slot := by
  have hw : ∀ (st : DS) (c : CS), 0 ≤ c.slot → 0 ≤ (setW st K f c s).2.1.slot := by
    intro st c h
    unfold setW
    split
    · exact h
    split
    · exact h
    split
    · exact h
    · rcases slotOf_is c.slot with e | e <;> (show 0 ≤ slotOf c.slot; omega)
  unfold setR
  split
  · exact h
  split
  · split
    · exact h
    · exact hw _ _ h
  · exact hw _ _ h
theorem openV_slot (st : DS) (f : Int) : 0 ≤ (openV st f).slot := by
  unfold openV
  split
  · exact Int.le_refl _
  · exact Int.natCast_nonneg _
theorem slot_same {k : Int} (h : 0 ≤ k) : decide (0 < k) = decide (k ≠ 0) := by
  by_cases h2 : k = 0
  · subst h2; rfl
  · rw [decide_eq_true (show 0 < k by omega), decide_eq_true h2]

section
variable {w0 w : World} {r d B : Nat} {sr st : DS} {Kr K : List Int}
/-- From a contract over things that lie apart to one beside the reference. -/
theorem rk_mach {mid post : List Thing} (h : RefK w0 w r sr Kr (mid ++ machThing d B st K :: post)) :
    ∃ pre, Sep w0 w (pre ++ machThing d B st K :: post) ∧ ∀ w' B' st' K', Sep w0 w' (pre ++ machThing d B' st' K' :: post) → RefK w0 w' r sr Kr (mid ++ machThing d B' st' K' :: post) := by
  obtain ⟨pre, hs, hback⟩ := h.split
  rw [← List.append_assoc] at hs
  exact ⟨pre ++ mid, hs, fun w' B' st' K' h' => hback w' _ (by rw [← List.append_assoc]; exact h')⟩
theorem rk_dwrite (mid post : List Thing) (f a : Int) (s : ByteArray) (h : RefK w0 w r sr Kr (mid ++ machThing d B st K :: post)) (hf : (Lit.int .i64 f).wf = true) (hB : B + s.size ≤ 800000) (hK : K.length ≤ 1000000) :
    Calls Tryd.prog 32 #[.pointer (some ⟨d, 0, none⟩), .int .i64 f, .int .i64 a, .string s] w fun e w' => e = .returned (.int .i64 (writeCode st f a s)) ∧ RefK w0 w' r sr Kr (mid ++ machThing d (B + 8 + s.size) (writeS st K f a s) K :: post) := by
  obtain ⟨pre, hs, hback⟩ := rk_mach h
  exact (dwrite_sep pre post f a s hs hf hB hK).mono fun e w' ⟨h1, h2⟩ => ⟨h1, hback _ _ _ _ h2⟩
theorem rk_dread (mid post : List Thing) (f a z : Int) (h : RefK w0 w r sr Kr (mid ++ machThing d B st K :: post)) (hf : (Lit.int .i64 f).wf = true) :
    Calls Tryd.prog 29 #[.pointer (some ⟨d, 0, none⟩), .int .i64 f, .int .i64 a, .int .i64 z] w fun e w' => e = .returned (.tuple #[.string (readStr st f a z), .int .i64 (readCode st f a z)]) ∧ w = w' := by
  obtain ⟨pre, hs, hback⟩ := rk_mach h
  exact dread_sep pre post f a z hs hf
theorem rk_dsize (mid post : List Thing) (f : Int) (h : RefK w0 w r sr Kr (mid ++ machThing d B st K :: post)) (hf : (Lit.int .i64 f).wf = true) :
    Calls Tryd.prog 28 #[.pointer (some ⟨d, 0, none⟩), .int .i64 f] w fun e w' => e = .returned (.int .i64 (st.F f).now.size) ∧ w = w' := by
  obtain ⟨pre, hs, hback⟩ := rk_mach h
  exact dsize_sep pre post f hs hf
theorem rk_dlose (mid post : List Thing) (n : Int) (h : RefK w0 w r sr Kr (mid ++ machThing d B st K :: post)) (hn : n ≤ 9223372036854775807) :
    Calls Tryd.prog 13 #[.pointer (some ⟨d, 0, none⟩), .int .i64 n] w fun e w' => e = .returned (.tuple #[]) ∧ RefK w0 w' r sr Kr (mid ++ machThing d B { st with lost := max n 0 } K :: post) := by
  obtain ⟨pre, hs, hback⟩ := rk_mach h
  exact (dlose_sep pre post n hs hn).mono fun e w' ⟨h1, h2⟩ => ⟨h1, hback _ _ _ _ h2⟩
theorem rk_darm (mid post : List Thing) (n : Int) (v : Value) (C : List Int) (h : RefK w0 w r sr Kr (mid ++ machThing d B st K :: post)) (hv : IntsV w0 v C) (hn : n ≤ 9223372036854775807) (hC : C.length ≤ 1000000) :
    Calls Tryd.prog 14 #[.pointer (some ⟨d, 0, none⟩), .int .i64 n, v] w fun e w' => e = .returned (.tuple #[]) ∧ RefK w0 w' r sr Kr (mid ++ machThing d B { st with armed := max n 0 } C :: post) := by
  obtain ⟨pre, hs, hback⟩ := rk_mach h
  exact (darm_sep pre post n v C hs hv hn hC).mono fun e w' ⟨h1, h2⟩ => ⟨h1, hback _ _ _ _ h2⟩
theorem rk_dcrash (mid post : List Thing) (v : Value) (C : List Int) (h : RefK w0 w r sr Kr (mid ++ machThing d B st K :: post)) (hv : IntsV w0 v C) (hB : B ≤ 900000) (hC : C.length ≤ 1000000) :
    Calls Tryd.prog 26 #[.pointer (some ⟨d, 0, none⟩), v] w fun e w' => e = .returned (.tuple #[]) ∧ RefK w0 w' r sr Kr (mid ++ machThing d B (crashS st C) K :: post) := by
  obtain ⟨pre, hs, hback⟩ := rk_mach h
  exact (dcrash_sep pre post v C hs hv hB hC).mono fun e w' ⟨h1, h2⟩ => ⟨h1, hback _ _ _ _ h2⟩
theorem rk_dstart (mid post : List Thing) (h : RefK w0 w r sr Kr (mid ++ machThing d B st K :: post)) :
    Calls Tryd.prog 27 #[.pointer (some ⟨d, 0, none⟩)] w fun e w' => e = .returned (.tuple #[]) ∧ RefK w0 w' r sr Kr (mid ++ machThing d B { st with down := false } K :: post) := by
  obtain ⟨pre, hs, hback⟩ := rk_mach h
  exact (dstart_sep pre post hs).mono fun e w' ⟨h1, h2⟩ => ⟨h1, hback _ _ _ _ h2⟩
theorem rk_fine {mid post : List Thing} {n : Nat} (h : RefK w0 w r sr Kr (mid ++ machThing d B st K :: post)) (hn : B ≤ n) : Fine st n := by
  obtain ⟨pre, hs, hback⟩ := rk_mach h
  obtain ⟨kv, FP0, ⟨hI, N, hN, _⟩, _⟩ := Sep.mach pre post hs
  exact ⟨hI, by omega⟩
theorem rk_more {mid post : List Thing} {C : Nat} (h : RefK w0 w r sr Kr (mid ++ machThing d B st K :: post)) (hm : B ≤ C) : RefK w0 w r sr Kr (mid ++ machThing d C st K :: post) := by
  obtain ⟨pre, hs, hback⟩ := rk_mach h
  exact hback _ _ _ _ (Sep.mach_more pre post hs hm rfl rfl)
/-- What Open leaves beside the reference. -/
def KOpen (w0 : World) (r : Nat) (sr : DS) (Kr : List Int) (d : Nat) (f : Int) (st : DS) (post : List Thing) (e : Ending) (w' : World) : Prop :=
  (openC st f ≠ 0 ∧ e = .returned (.tuple #[.pointer none, .int .i64 (openC st f)]) ∧ RefK w0 w' r sr Kr post) ∨
  (openC st f = 0 ∧ ∃ cb, e = .returned (.tuple #[.pointer (some ⟨cb, 0, none⟩), .int .i64 0]) ∧ RefK w0 w' r sr Kr (blockThing cb (cellObj d f (openV st f)) :: post))
theorem KOpen.of {f : Int} {mid post pre : List Thing} {e : Ending} {w' : World} (hback : ∀ w' post', Sep w0 w' (pre ++ post') → RefK w0 w' r sr Kr post') (hp : OpenPost w0 d B f st K (pre ++ mid) post e w') :
    KOpen w0 r sr Kr d f st (mid ++ machThing d B st K :: post) e w' := by
  rcases hp with ⟨h1, h2, h3⟩ | ⟨h1, cb, h2, h3⟩
  · exact Or.inl ⟨h1, h2, hback _ _ (by rw [← List.append_assoc]; exact h3)⟩
  · refine Or.inr ⟨h1, cb, h2, hback _ _ (Sep.fromFront pre _ ?_)⟩
    rw [← List.append_assoc]; exact h3
theorem rk_open (mid post : List Thing) {f : Int} (h : RefK w0 w r sr Kr (mid ++ machThing d B st K :: post)) (hf : (Lit.int .i64 f).wf = true) (hO : Offs w0) :
    Calls Tryd.prog 11 #[.pointer (some ⟨d, 0, none⟩), .int .i64 f] w (KOpen w0 r sr Kr d f st (mid ++ machThing d B st K :: post)) := by
  obtain ⟨pre, hs, hback⟩ := h.split
  rw [← List.append_assoc] at hs
  exact (open_sep (pre ++ mid) post hs hf hO).mono fun _ _ hp => KOpen.of hback hp
theorem rk_again (mid post : List Thing) (v : Value) (C : List Int) (h : RefK w0 w r sr Kr (mid ++ machThing d B st K :: post)) (hv : IntsV w0 v C) (hO : Offs w0) (hB : B ≤ 900000) (hC : C.length ≤ 1000000) :
    Calls Tryd.prog 15 #[.pointer (some ⟨d, 0, none⟩), v] w (KOpen w0 r sr Kr d 3 (afterS st C) (mid ++ machThing d B (afterS st C) K :: post)) := by
  obtain ⟨pre, hs, hback⟩ := h.split
  rw [← List.append_assoc] at hs
  exact (again_sep (pre ++ mid) post v C hs hv hO hB hC).mono fun _ _ hp => KOpen.of hback hp
theorem rk_set {cb : Nat} {c : CS} {f : Int} (mid post : List Thing) (s : ByteArray) (h : RefK w0 w r sr Kr (blockThing cb (cellObj d f c) :: (mid ++ machThing d B st K :: post))) (hO : Offs w0) (hf : (Lit.int .i64 f).wf = true) (hB : B ≤ 600000) (hK : K.length ≤ 1000000) (hs : s.size ≤ 65536) :
    Calls Tryd.prog 12 #[.pointer (some ⟨cb, 0, none⟩), .string s] w fun e w' => e = .returned (.int .i64 (setR st K f c s).1) ∧
      RefK w0 w' r sr Kr (blockThing cb (cellObj d f (setR st K f c s).2.1) :: (mid ++ machThing d (B + 24 + s.size) (setR st K f c s).2.2 K :: post)) := by
  obtain ⟨pre, h0, hback⟩ := h.split
  have h1 := Sep.toFront pre _ h0
  rw [← List.append_assoc] at h1
  exact (set_any (pre ++ mid) post s h1 hO hf hB hK hs).mono fun e w' ⟨h2, h3⟩ => ⟨h2, hback _ _ (Sep.fromFront pre _ (by rw [← List.append_assoc]; exact h3))⟩
theorem rk_get {cb : Nat} {c : CS} {f : Int} {post : List Thing} (h : RefK w0 w r sr Kr (blockThing cb (cellObj d f c) :: post)) :
    Calls Tryd.prog 16 #[.pointer (some ⟨cb, 0, none⟩)] w fun e w' => e = .returned (.tuple #[.string c.value, .bool (decide (0 < c.slot))]) ∧ RefK w0 w' r sr Kr (blockThing cb (cellObj d f c) :: post) :=
  (cell_get cb d f c w (RefK.block h)).mono fun _ _ ⟨h1, h2⟩ => ⟨h1, h.quiet h2⟩
theorem rk_rget {rb : Nat} {c : CS} {f : Int} {post : List Thing} (h : RefK w0 w r sr Kr (blockThing rb (rcellObj r f c) :: post)) (hc : 0 ≤ c.slot) :
    Calls Tryd.prog 25 #[.pointer (some ⟨rb, 0, none⟩)] w fun e w' => e = .returned (.tuple #[.string c.value, .bool (decide (0 < c.slot))]) ∧ RefK w0 w' r sr Kr (blockThing rb (rcellObj r f c) :: post) := by
  rw [slot_same hc]
  exact (rcell_get rb r f c w (RefK.block h)).mono fun e w' ⟨h1, h2⟩ => ⟨h1, h.quiet h2⟩
theorem rk_rlose {post : List Thing} (n : Int) (h : RefK w0 w r sr Kr post) :
    Calls Tryd.prog 21 #[.pointer (some ⟨r, 0, none⟩), .int .i64 n] w fun e w' => e = .returned (.tuple #[]) ∧ RefK w0 w' r { sr with lost := max n 0 } Kr post := by
  obtain ⟨kv, h⟩ := h
  exact (rlose_any n h).mono fun e w' ⟨h1, h2⟩ => ⟨h1, kv, h2⟩
theorem rk_rarm {post : List Thing} (n : Int) (v : Value) {C : List Int} (h : RefK w0 w r sr Kr post) (hv : IntsV w0 v C) (hC : C.length ≤ 1000000) :
    Calls Tryd.prog 22 #[.pointer (some ⟨r, 0, none⟩), .int .i64 n, v] w fun e w' => e = .returned (.tuple #[]) ∧ RefK w0 w' r { sr with armed := max n 0 } C post := by
  obtain ⟨kv, h⟩ := h
  exact rarm_any n v h hv hC
theorem rk_rcrash {post : List Thing} {n : Nat} (v : Value) (C : List Int) (h : RefK w0 w r sr Kr post) (hF : Fine sr n) (hn : n ≤ 900000) (hC : C.length ≤ 1000000) (hv : IntsV w0 v C) :
    Calls Tryd.prog 23 #[.pointer (some ⟨r, 0, none⟩), v] w fun e w' => e = .returned (.tuple #[]) ∧ RefK w0 w' r (crashS sr C) Kr post :=
  rcrash_any v C h hF.1 (Nat.le_trans hF.2 hn) hC hv
theorem rk_rstart {post : List Thing} (h : RefK w0 w r sr Kr post) :
    Calls Tryd.prog 24 #[.pointer (some ⟨r, 0, none⟩)] w fun e w' => e = .returned (.tuple #[]) ∧ RefK w0 w' r { sr with down := false } Kr post := by
  obtain ⟨kv, h⟩ := h
  exact (rstart_any h).mono fun e w' ⟨h1, h2⟩ => ⟨h1, kv, h2⟩
theorem rk_rsize {post : List Thing} (f : Int) (h : RefK w0 w r sr Kr post) :
    Calls Tryd.prog 31 #[.pointer (some ⟨r, 0, none⟩), .int .i64 f] w fun e w' => e = .returned (.int .i64 ((sr.F f).now.size : Int)) ∧ RefK w0 w' r sr Kr post := by
  obtain ⟨kv, h⟩ := h
  exact (rsize_any f h).mono fun e w' ⟨h1, h2⟩ => ⟨h1, kv, h.quiet h2⟩
end
end Go.Proofs.YtdcgdnlpagadcaaDoor

/- Statements about cell: CellReads. -/
namespace Go.Proofs.YtdcgdnlpagadcaaDoor
open Go.RowKit Go.Proofs.YtdcgdnlpagadcaaDoorMem Go.Maps

set_option maxHeartbeats 6400000 in
set_option maxRecDepth 100000 in
theorem cellreads_run (s t : ByteArray) (f : Int) (w : World) (hO : Offs w) (hf : (Lit.int .i64 f).wf = true) (hs : s.size ≤ 300) (ht : t.size ≤ 300) :
    Calls Tryd.prog 5 #[.string s, .string t, .int .i64 f] w fun e w' => e = .returned (.bool true) ∧ Turns [] w w' := by
  have hs1 : decide ((300 : Int) < (s.size : Int)) = false := decide_eq_false (by omega)
  have ht1 : decide ((300 : Int) < (t.size : Int)) = false := decide_eq_false (by omega)
  have HZ := Lib.hid (And.intro hs ht); clear hs ht
  go_enter Tryd.func5, Tryd.ntmps5
  go_wp2_with fail
  refine (small_cell w hO).mono ?_
  rintro e w1 ⟨rfl, htt⟩
  have H1 := Lib.hid htt; clear htt
  go_wp2_with fail
  refine (mach_new [] ((Sep.start w).quiet H1.out)).mono ?_
  rintro e w2 ⟨d, rfl, h2⟩
  have H2 := Lib.hid h2; clear h2 H1
  go_wp2_with fail
  refine (rnew_k H2.out).mono ?_
  rintro e w3 ⟨r, rfl, h3⟩
  have H3 : Hid (RefK w w3 r DS.new [] ([] ++ machThing d 0 DS.new [] :: [])) := h3
  clear h3 H2
  have F3 := Lib.hid (rk_fine (mid := []) H3.out (Nat.zero_le 0))
  go_wp2_with fail
  refine (rk_dwrite [] [] f 0 s H3.out hf (by have := HZ.out.1; omega) (by simp)).mono ?_
  rintro e w4 ⟨rfl, h4⟩
  have H4 := Lib.hid h4; clear h4 H3
  go_wp2_with fail
  refine (rk_write f 0 s H4.out F3.out (by omega) (by simp) (by have := HZ.out.1; omega)).mono ?_
  rintro e w5 ⟨rfl, h5⟩
  have H5 := Lib.hid h5; clear h5 H4
  have F5 := Lib.hid (F3.out.write [] f 0 s); clear F3
  generalize writeCode DS.new f 0 s = cd1 at *
  generalize writeS DS.new [] f 0 s = st1 at *
  go_wp2_with fail
  refine (rk_dwrite [] [] f 131072 t H5.out hf (by have := HZ.out; omega) (by simp)).mono ?_
  rintro e w6 ⟨rfl, h6⟩
  have H6 := Lib.hid h6; clear h6 H5
  go_wp2_with fail
  refine (rk_write f 131072 t H6.out F5.out (by have := HZ.out; omega) (by simp) (by have := HZ.out; omega)).mono ?_
  rintro e w7 ⟨rfl, h7⟩
  have H7 := Lib.hid h7; clear h7 H6
  have F7 := Lib.hid (F5.out.write [] f 131072 t); clear F5
  generalize writeCode st1 f 131072 t = cd2 at *
  generalize writeS st1 [] f 131072 t = st2 at *
  generalize 0 + 8 + s.size + 8 + t.size = B at *
  go_wp2_with fail
  refine (rk_open [] [] H7.out hf hO).mono ?_
  rintro e w8 hp
  have hV := openV_slot st2 f
  rcases hp with ⟨h1, rfl, h8⟩ | ⟨h1, cb, rfl, h8⟩
  · have H8 := Lib.hid h8; clear h8 H7
    go_wp2_with fail
    refine (ropen_any H8.out F7.out.1).mono ?_
    rintro e w9 hq
    rcases hq with ⟨-, rfl, h9⟩ | ⟨h0, -⟩
    rotate_left
    · exact absurd h0 h1
    have H9 := Lib.hid h9; clear h9 H8
    generalize openC st2 f = oc at *
    clear h1 hV
    go_wp2_with fail
    go_ret
    exact ⟨rfl, RefK.turns H9.out⟩
  · have H8 := Lib.hid h8; clear h8 H7
    go_wp2_with fail
    refine (ropen_any H8.out F7.out.1).mono ?_
    rintro e w9 hq
    rcases hq with ⟨h0, -⟩ | ⟨-, rb, rfl, h9⟩
    · exact absurd h1 h0
    have H9 := Lib.hid h9; clear h9 H8 h1
    obtain ⟨c, hc⟩ : ∃ c, c = openV st2 f := ⟨_, rfl⟩
    rw [← hc] at H9 hV
    have HV := Lib.hid hV; clear hc hV
    go_wp2_with fail
    refine (rk_get (RefK.perm H9.out (List.Perm.swap _ _ _))).mono ?_
    rintro e wa ⟨rfl, ha⟩
    have HA := Lib.hid (RefK.perm ha (List.Perm.swap _ _ _)); clear ha H9
    go_wp2_with fail
    refine (rk_rget HA.out HV.out).mono ?_
    rintro e wb ⟨rfl, hb⟩
    have HB := Lib.hid hb; clear hb HA
    have e1 : (c.value.toList == c.value.toList) = true := beq_self_eq_true _
    generalize c.value = cv at *
    generalize decide (0 < c.slot) = cs at *
    go_wp2_with fail
    go_ret
    exact ⟨rfl, RefK.turns HB.out⟩

set_option maxHeartbeats 1600000 in
set_option maxRecDepth 100000 in
theorem cellreads_row {Y Z : Prop} (s t : ByteArray) (f : Int) (w : World) (hO : Offs w) (_ : Y) (_ : Z) (hf : (Lit.int .i64 f).wf = true) :
    Calls Tryd.prog 5 #[.string s, .string t, .int .i64 f] w fun e w' => e = .returned (.bool true) ∧ Below w.heap.size w w' := by
  have fin : ∀ {w' : World}, Turns [] w w' → Below w.heap.size w w' := fun h => h.below (Nat.le_refl _) (by simp)
  by_cases hs : s.size ≤ 300
  · by_cases ht : t.size ≤ 300
    · exact (cellreads_run s t f w hO hf hs ht).mono fun e w' ⟨e1, e2⟩ => ⟨e1, fin e2⟩
    · have hs1 : decide ((300 : Int) < (s.size : Int)) = false := decide_eq_false (by omega)
      have ht1 : decide ((300 : Int) < (t.size : Int)) = true := decide_eq_true (by omega)
      clear hs ht
      go_enter Tryd.func5, Tryd.ntmps5
      go_wp2_with fail
      refine (small_cell w hO).mono ?_
      rintro e w1 ⟨rfl, htt⟩
      have H1 := Lib.hid htt; clear htt
      go_wp2_with fail
      go_ret
      exact ⟨rfl, fin H1.out⟩
  · have hs1 : decide ((300 : Int) < (s.size : Int)) = true := decide_eq_true (by omega)
    clear hs
    go_enter Tryd.func5, Tryd.ntmps5
    go_wp2_with fail
    refine (small_cell w hO).mono ?_
    rintro e w1 ⟨rfl, htt⟩
    have H1 := Lib.hid htt; clear htt
    go_wp2_with fail
    go_ret
    exact ⟨rfl, fin H1.out⟩
end Go.Proofs.YtdcgdnlpagadcaaDoor
