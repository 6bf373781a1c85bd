/- Contracts and lemmas (texts DoA, DoB, DoC, DoD, DoE, joined by a program). -/
import Derived.Test.YtmikjninonpejaaMb11
/- Statements about the disk: do, at a disk. -/
namespace Go.Proofs.Ytmikjninonpejaa
open Go.RowKit Go.Proofs.YtmikjninonpejaaMem Go.Maps

theorem armI {b B : Nat} {FP : List Nat} {st : DS} {kv v : Value} {K : List Int} {w : World} (n : Int) (h : DiskI w b FP B st kv) (hv : IntsV w v K) (hn : n ≤ 9223372036854775807) (hK : K.length ≤ 1000000) :
    Calls Try.prog 49 #[.pointer (some ⟨b, 0, none⟩), .int .i64 n, v] w fun e w' => e = .returned (.tuple #[]) ∧ ∃ kv', DiskI w' b FP B { st with armed := max n 0 } kv' ∧ KeepV w' kv' K FP ∧ Turns FP w w' ∧ OwnInts w' w.heap.size kv' K := by
  obtain ⟨hI, N, hN, hD⟩ := h
  refine (disk_arm b N FP st kv v n K w hD hv hK).mono fun _ w' ⟨e1, kv', hk, hD', ht⟩ => ⟨e1, kv', ⟨hI.setArmed _ (by omega) (by omega), N, hN, hD'⟩, ?_, ht, hk⟩
  obtain ⟨a, c, rfl, hi⟩ := hk.intsV
  refine ⟨a, c, rfl, fun i h => ?_⟩
  obtain ⟨kb, off, rfl, hc⟩ := hi i h
  refine ⟨kb, off, rfl, fun hx => ?_, hc⟩
  have h1 := hD.lt kb hx
  rcases hk.2 with ⟨e, _⟩ | ⟨g, cap, cur, e, hg, _⟩
  · simp at e
  · simp only [Value.slice.injEq, Option.some.injEq, Addr.mk.injEq] at e
    have := e.1.1
    omega

/-- Behind do. -/
def DoPost (w : World) (b : Nat) (FP : List Nat) (B : Nat) (st : DS) (kv : Value) (K : List Int) (w' : World) : Prop :=
  ∃ FP' kv', DiskI w' b FP' B st kv' ∧ KeepV w' kv' K FP' ∧ Evolves FP FP' w w' ∧ (kv' = kv ∨ OwnInts w' w.heap.size kv' K)
theorem DoPost.of {w w' : World} {b B C : Nat} {FP : List Nat} {st : DS} {kv : Value} {K : List Int} (h : DiskIPost w b FP B st kv w') (hk : KeepV w kv K FP) (hm : B ≤ C) : DoPost w b FP C st kv K w' := by
  obtain ⟨FP', hD, hev⟩ := h
  exact ⟨FP', kv, hD.more hm, hk.evolves hev, hev, Or.inl rfl⟩
theorem DoPost.before {w w1 w' : World} {b B : Nat} {FP : List Nat} {st : DS} {kv : Value} {K : List Int} (ht : Turns [] w w1) (h : DoPost w1 b FP B st kv K w') : DoPost w b FP B st kv K w' := by
  obtain ⟨FP', kv', hD, hk, hev, ho⟩ := h
  refine ⟨FP', kv', hD, hk, (Evolves.of_same (ht.mono (by simp))).trans hev, ho.imp id fun h => own_above (own_base h (Nat.zero_le _)) (fun x hx => Nat.le_trans ht.size (h.lt x (by simpa using hx)).1)⟩
theorem KeepV.kept {w w' : World} {kv : Value} {K : List Int} {FP : List Nat} (h : KeepV w kv K FP) (ht : Turns [] w w') : KeepV w' kv K FP := h.evolves (Evolves.of_same (ht.mono (by simp)))

set_option maxHeartbeats 3200000 in
set_option maxRecDepth 100000 in
theorem do_sync {b B : Nat} {FP : List Nat} {st : DS} {kv av : Value} {K : List Int} {w : World} (a : DAct) (h : DiskI w b FP B st kv) (hk : KeepV w kv K FP) (ha : KeepV w av a.keep FP) (hf : (Lit.int .i64 a.f).wf = true) (hn : a.n ≤ 9223372036854775807)
    (hB : B + a.s.size ≤ 700000) (hK : K.length ≤ 1000000) (hK2 : a.keep.length ≤ 1000000) (h7 : a.doo % 8 = 2) :
    Calls Try.prog 34 #[.pointer (some ⟨b, 0, none⟩), .agg #[.int .i64 a.doo, .int .i64 a.f, .int .i64 a.n, .string a.s, av]] w fun e w' => e = .returned (.int .i64 (doC st K a)) ∧ DoPost w b FP (B + 8 + a.s.size) (doS st K a) kv (doK K a) w' := by
  have e1 : doC st K a = syncCode st K a.f := by simp [doC, h7]
  have e2 : doS st K a = syncS st K a.f := by simp [doS, h7]
  have e3 : doK K a = K := by simp [doK, h7]
  rw [e1, e2, e3]
  clear e1 e2 e3
  have hand : bits .and .i64 a.doo 7 = 2 := by rw [and7, h7]
  have HV : Hid (Turns [] w (w.alloc (.cells #[.int .i64 a.doo, .int .i64 a.f, .int .i64 a.n, .string a.s, av] 63))) := Turns.alloc [] w _
  have HD := Lib.hid (h.kept HV.out (by simp))
  have HK := Lib.hid (hk.kept HV.out)
  have HA := Lib.hid (ha.kept HV.out)
  have HX := Lib.hid (And.intro hf (And.intro hn (And.intro hB (And.intro hK hK2))))
  obtain ⟨ka, kc, rfl⟩ := ha.shape
  clear h hk ha h7 hf hn hB hK hK2
  go_enter Try.func34, Try.ntmps34
  go_wp2_with fail
  obtain ⟨hf, hn, hB, hK, hK2⟩ := HX.out
  refine (syncI HD.out HK.out a.f hf (by omega) hK).mono ?_
  rintro e w1 ⟨rfl, hP⟩
  have HP := Lib.hid (DoPost.before HV.out (DoPost.of hP HK.out (show B + 1 ≤ B + 8 + a.s.size by omega))); clear hP
  go_wp2_with fail
  go_ret
  exact ⟨rfl, HP.out⟩

set_option maxHeartbeats 3200000 in
set_option maxRecDepth 100000 in
theorem do_trunc {b B : Nat} {FP : List Nat} {st : DS} {kv av : Value} {K : List Int} {w : World} (a : DAct) (h : DiskI w b FP B st kv) (hk : KeepV w kv K FP) (ha : KeepV w av a.keep FP) (hf : (Lit.int .i64 a.f).wf = true) (hn : a.n ≤ 9223372036854775807)
    (hB : B + a.s.size ≤ 700000) (hK : K.length ≤ 1000000) (hK2 : a.keep.length ≤ 1000000) (h7 : a.doo % 8 = 3) :
    Calls Try.prog 34 #[.pointer (some ⟨b, 0, none⟩), .agg #[.int .i64 a.doo, .int .i64 a.f, .int .i64 a.n, .string a.s, av]] w fun e w' => e = .returned (.int .i64 (doC st K a)) ∧ DoPost w b FP (B + 8 + a.s.size) (doS st K a) kv (doK K a) w' := by
  have e1 : doC st K a = truncCode st K a.f a.n := by simp [doC, h7]
  have e2 : doS st K a = truncS st K a.f a.n := by simp [doS, h7]
  have e3 : doK K a = K := by simp [doK, h7]
  rw [e1, e2, e3]
  clear e1 e2 e3
  have hand : bits .and .i64 a.doo 7 = 3 := by rw [and7, h7]
  have HV : Hid (Turns [] w (w.alloc (.cells #[.int .i64 a.doo, .int .i64 a.f, .int .i64 a.n, .string a.s, av] 63))) := Turns.alloc [] w _
  have HD := Lib.hid (h.kept HV.out (by simp))
  have HK := Lib.hid (hk.kept HV.out)
  have HA := Lib.hid (ha.kept HV.out)
  have HX := Lib.hid (And.intro hf (And.intro hn (And.intro hB (And.intro hK hK2))))
  obtain ⟨ka, kc, rfl⟩ := ha.shape
  clear h hk ha h7 hf hn hB hK hK2
  go_enter Try.func34, Try.ntmps34
  go_wp2_with fail
  obtain ⟨hf, hn, hB, hK, hK2⟩ := HX.out
  refine (truncI HD.out HK.out a.f a.n hf (by omega) hK).mono ?_
  rintro e w1 ⟨rfl, hP⟩
  have HP := Lib.hid (DoPost.before HV.out (DoPost.of hP HK.out (show B + 1 ≤ B + 8 + a.s.size by omega))); clear hP
  go_wp2_with fail
  go_ret
  exact ⟨rfl, HP.out⟩

set_option maxHeartbeats 3200000 in
set_option maxRecDepth 100000 in
theorem do_lose {b B : Nat} {FP : List Nat} {st : DS} {kv av : Value} {K : List Int} {w : World} (a : DAct) (h : DiskI w b FP B st kv) (hk : KeepV w kv K FP) (ha : KeepV w av a.keep FP) (hf : (Lit.int .i64 a.f).wf = true) (hn : a.n ≤ 9223372036854775807)
    (hB : B + a.s.size ≤ 700000) (hK : K.length ≤ 1000000) (hK2 : a.keep.length ≤ 1000000) (h7 : a.doo % 8 = 4) :
    Calls Try.prog 34 #[.pointer (some ⟨b, 0, none⟩), .agg #[.int .i64 a.doo, .int .i64 a.f, .int .i64 a.n, .string a.s, av]] w fun e w' => e = .returned (.int .i64 (doC st K a)) ∧ DoPost w b FP (B + 8 + a.s.size) (doS st K a) kv (doK K a) w' := by
  have e1 : doC st K a = 0 := by simp [doC, h7]
  have e2 : doS st K a = { st with lost := max (a.n % 4) 0 } := by simp [doS, h7]
  have e3 : doK K a = K := by simp [doK, h7]
  rw [e1, e2, e3]
  clear e1 e2 e3
  have hand : bits .and .i64 a.doo 7 = 4 := by rw [and7, h7]
  have hand2 := and3 a.n
  have HV : Hid (Turns [] w (w.alloc (.cells #[.int .i64 a.doo, .int .i64 a.f, .int .i64 a.n, .string a.s, av] 63))) := Turns.alloc [] w _
  have HD := Lib.hid (h.kept HV.out (by simp))
  have HK := Lib.hid (hk.kept HV.out)
  have HA := Lib.hid (ha.kept HV.out)
  have HX := Lib.hid (And.intro hf (And.intro hn (And.intro hB (And.intro hK hK2))))
  obtain ⟨ka, kc, rfl⟩ := ha.shape
  clear h hk ha h7 hf hn hB hK hK2
  go_enter Try.func34, Try.ntmps34
  go_wp2_with fail
  obtain ⟨hf, hn, hB, hK, hK2⟩ := HX.out
  refine (loseI HD.out (a.n % 4) (by omega)).mono ?_
  rintro e w1 ⟨rfl, hP⟩
  have HP := Lib.hid (DoPost.before HV.out (DoPost.of hP HK.out (show B ≤ B + 8 + a.s.size by omega))); clear hP
  go_wp2_with fail
  go_ret
  exact ⟨rfl, HP.out⟩

set_option maxHeartbeats 3200000 in
set_option maxRecDepth 100000 in
theorem do_arm {b B : Nat} {FP : List Nat} {st : DS} {kv av : Value} {K : List Int} {w : World} (a : DAct) (h : DiskI w b FP B st kv) (hk : KeepV w kv K FP) (ha : KeepV w av a.keep FP) (hf : (Lit.int .i64 a.f).wf = true) (hn : a.n ≤ 9223372036854775807)
    (hB : B + a.s.size ≤ 700000) (hK : K.length ≤ 1000000) (hK2 : a.keep.length ≤ 1000000) (h7 : a.doo % 8 = 5) :
    Calls Try.prog 34 #[.pointer (some ⟨b, 0, none⟩), .agg #[.int .i64 a.doo, .int .i64 a.f, .int .i64 a.n, .string a.s, av]] w fun e w' => e = .returned (.int .i64 (doC st K a)) ∧ DoPost w b FP (B + 8 + a.s.size) (doS st K a) kv (doK K a) w' := by
  have e1 : doC st K a = 0 := by simp [doC, h7]
  have e2 : doS st K a = { st with armed := max a.n 0 } := by simp [doS, h7]
  have e3 : doK K a = a.keep := by simp [doK, h7]
  rw [e1, e2, e3]
  clear e1 e2 e3
  have hand : bits .and .i64 a.doo 7 = 5 := by rw [and7, h7]
  have HV : Hid (Turns [] w (w.alloc (.cells #[.int .i64 a.doo, .int .i64 a.f, .int .i64 a.n, .string a.s, av] 63))) := Turns.alloc [] w _
  have HD := Lib.hid (h.kept HV.out (by simp))
  have HK := Lib.hid (hk.kept HV.out)
  have HA := Lib.hid (ha.kept HV.out)
  have HX := Lib.hid (And.intro hf (And.intro hn (And.intro hB (And.intro hK hK2))))
  obtain ⟨ka, kc, rfl⟩ := ha.shape
  clear h hk ha h7 hf hn hB hK hK2
  go_enter Try.func34, Try.ntmps34
  go_wp2_with fail
  obtain ⟨hf, hn, hB, hK, hK2⟩ := HX.out
  refine (armI a.n HD.out HA.out.ints.1 hn hK2).mono ?_
  rintro e w1 ⟨rfl, kv', hD1, hk1, ht1, ho1⟩
  have hP : DoPost (w.alloc (.cells #[.int .i64 a.doo, .int .i64 a.f, .int .i64 a.n, .string a.s, .slice ka a.keep.length kc] 63)) b FP (B + 8 + a.s.size) { st with armed := max a.n 0 } kv a.keep w1 := ⟨FP, kv', hD1.more (by omega), hk1, Evolves.of_same ht1, Or.inr ho1⟩
  clear hD1 hk1 ht1 ho1
  have HP := Lib.hid (DoPost.before HV.out hP); clear hP
  go_wp2_with fail
  go_ret
  exact ⟨rfl, HP.out⟩

set_option maxHeartbeats 3200000 in
set_option maxRecDepth 100000 in
theorem do_crash {b B : Nat} {FP : List Nat} {st : DS} {kv av : Value} {K : List Int} {w : World} (a : DAct) (h : DiskI w b FP B st kv) (hk : KeepV w kv K FP) (ha : KeepV w av a.keep FP) (hf : (Lit.int .i64 a.f).wf = true) (hn : a.n ≤ 9223372036854775807)
    (hB : B + a.s.size ≤ 700000) (hK : K.length ≤ 1000000) (hK2 : a.keep.length ≤ 1000000) (h7 : a.doo % 8 = 6) :
    Calls Try.prog 34 #[.pointer (some ⟨b, 0, none⟩), .agg #[.int .i64 a.doo, .int .i64 a.f, .int .i64 a.n, .string a.s, av]] w fun e w' => e = .returned (.int .i64 (doC st K a)) ∧ DoPost w b FP (B + 8 + a.s.size) (doS st K a) kv (doK K a) w' := by
  have e1 : doC st K a = 0 := by simp [doC, h7]
  have e2 : doS st K a = crashS st a.keep := by simp [doS, h7]
  have e3 : doK K a = K := by simp [doK, h7]
  rw [e1, e2, e3]
  clear e1 e2 e3
  have hand : bits .and .i64 a.doo 7 = 6 := by rw [and7, h7]
  have HV : Hid (Turns [] w (w.alloc (.cells #[.int .i64 a.doo, .int .i64 a.f, .int .i64 a.n, .string a.s, av] 63))) := Turns.alloc [] w _
  have HD := Lib.hid (h.kept HV.out (by simp))
  have HK := Lib.hid (hk.kept HV.out)
  have HA := Lib.hid (ha.kept HV.out)
  have HX := Lib.hid (And.intro hf (And.intro hn (And.intro hB (And.intro hK hK2))))
  obtain ⟨ka, kc, rfl⟩ := ha.shape
  clear h hk ha h7 hf hn hB hK hK2
  go_enter Try.func34, Try.ntmps34
  go_wp2_with fail
  obtain ⟨hf, hn, hB, hK, hK2⟩ := HX.out
  refine (crashI HD.out HA.out (by omega) hK2).mono ?_
  rintro e w1 ⟨rfl, hP⟩
  have HP := Lib.hid (DoPost.before HV.out (DoPost.of hP HK.out (show B ≤ B + 8 + a.s.size by omega))); clear hP
  go_wp2_with fail
  go_ret
  exact ⟨rfl, HP.out⟩

set_option maxHeartbeats 3200000 in
set_option maxRecDepth 100000 in
theorem do_start {b B : Nat} {FP : List Nat} {st : DS} {kv av : Value} {K : List Int} {w : World} (a : DAct) (h : DiskI w b FP B st kv) (hk : KeepV w kv K FP) (ha : KeepV w av a.keep FP) (hf : (Lit.int .i64 a.f).wf = true) (hn : a.n ≤ 9223372036854775807)
    (hB : B + a.s.size ≤ 700000) (hK : K.length ≤ 1000000) (hK2 : a.keep.length ≤ 1000000) (h7 : a.doo % 8 = 7) :
    Calls Try.prog 34 #[.pointer (some ⟨b, 0, none⟩), .agg #[.int .i64 a.doo, .int .i64 a.f, .int .i64 a.n, .string a.s, av]] w fun e w' => e = .returned (.int .i64 (doC st K a)) ∧ DoPost w b FP (B + 8 + a.s.size) (doS st K a) kv (doK K a) w' := by
  have e1 : doC st K a = 0 := by simp [doC, h7]
  have e2 : doS st K a = { st with down := false } := by simp [doS, h7]
  have e3 : doK K a = K := by simp [doK, h7]
  rw [e1, e2, e3]
  clear e1 e2 e3
  have hand : bits .and .i64 a.doo 7 = 7 := by rw [and7, h7]
  have HV : Hid (Turns [] w (w.alloc (.cells #[.int .i64 a.doo, .int .i64 a.f, .int .i64 a.n, .string a.s, av] 63))) := Turns.alloc [] w _
  have HD := Lib.hid (h.kept HV.out (by simp))
  have HK := Lib.hid (hk.kept HV.out)
  have HA := Lib.hid (ha.kept HV.out)
  have HX := Lib.hid (And.intro hf (And.intro hn (And.intro hB (And.intro hK hK2))))
  obtain ⟨ka, kc, rfl⟩ := ha.shape
  clear h hk ha h7 hf hn hB hK hK2
  go_enter Try.func34, Try.ntmps34
  go_wp2_with fail
  obtain ⟨hf, hn, hB, hK, hK2⟩ := HX.out
  refine (startI HD.out).mono ?_
  rintro e w1 ⟨rfl, hP⟩
  have HP := Lib.hid (DoPost.before HV.out (DoPost.of hP HK.out (show B ≤ B + 8 + a.s.size by omega))); clear hP
  go_wp2_with fail
  go_ret
  exact ⟨rfl, HP.out⟩

set_option maxHeartbeats 3200000 in
set_option maxRecDepth 100000 in
theorem do_write0 {b B : Nat} {FP : List Nat} {st : DS} {kv av : Value} {K : List Int} {w : World} (a : DAct) (h : DiskI w b FP B st kv) (hk : KeepV w kv K FP) (ha : KeepV w av a.keep FP) (hf : (Lit.int .i64 a.f).wf = true) (hn : a.n ≤ 9223372036854775807)
    (hB : B + a.s.size ≤ 700000) (hK : K.length ≤ 1000000) (hK2 : a.keep.length ≤ 1000000) (h7 : a.doo % 8 = 0) :
    Calls Try.prog 34 #[.pointer (some ⟨b, 0, none⟩), .agg #[.int .i64 a.doo, .int .i64 a.f, .int .i64 a.n, .string a.s, av]] w fun e w' => e = .returned (.int .i64 (doC st K a)) ∧ DoPost w b FP (B + 8 + a.s.size) (doS st K a) kv (doK K a) w' := by
  have e1 : doC st K a = writeCode st a.f a.n a.s := by simp [doC, h7]
  have e2 : doS st K a = writeS st K a.f a.n a.s := by simp [doS, h7]
  have e3 : doK K a = K := by simp [doK, h7]
  rw [e1, e2, e3]
  clear e1 e2 e3
  have hand : bits .and .i64 a.doo 7 = 0 := by rw [and7, h7]
  have HV : Hid (Turns [] w (w.alloc (.cells #[.int .i64 a.doo, .int .i64 a.f, .int .i64 a.n, .string a.s, av] 63))) := Turns.alloc [] w _
  have HD := Lib.hid (h.kept HV.out (by simp))
  have HK := Lib.hid (hk.kept HV.out)
  have HA := Lib.hid (ha.kept HV.out)
  have HX := Lib.hid (And.intro hf (And.intro hn (And.intro hB (And.intro hK hK2))))
  obtain ⟨ka, kc, rfl⟩ := ha.shape
  clear h hk ha h7 hf hn hB hK hK2
  go_enter Try.func34, Try.ntmps34
  go_wp2_with fail
  obtain ⟨hf, hn, hB, hK, hK2⟩ := HX.out
  refine (writeI HD.out HK.out a.f a.n a.s hf (by omega) hK).mono ?_
  rintro e w1 ⟨rfl, hP⟩
  have HP := Lib.hid (DoPost.before HV.out (DoPost.of hP HK.out (show B + 8 + a.s.size ≤ B + 8 + a.s.size by omega))); clear hP
  go_wp2_with fail
  go_ret
  exact ⟨rfl, HP.out⟩

set_option maxHeartbeats 3200000 in
set_option maxRecDepth 100000 in
theorem do_write1 {b B : Nat} {FP : List Nat} {st : DS} {kv av : Value} {K : List Int} {w : World} (a : DAct) (h : DiskI w b FP B st kv) (hk : KeepV w kv K FP) (ha : KeepV w av a.keep FP) (hf : (Lit.int .i64 a.f).wf = true) (hn : a.n ≤ 9223372036854775807)
    (hB : B + a.s.size ≤ 700000) (hK : K.length ≤ 1000000) (hK2 : a.keep.length ≤ 1000000) (h7 : a.doo % 8 = 1) :
    Calls Try.prog 34 #[.pointer (some ⟨b, 0, none⟩), .agg #[.int .i64 a.doo, .int .i64 a.f, .int .i64 a.n, .string a.s, av]] w fun e w' => e = .returned (.int .i64 (doC st K a)) ∧ DoPost w b FP (B + 8 + a.s.size) (doS st K a) kv (doK K a) w' := by
  have e1 : doC st K a = writeCode st a.f a.n a.s := by simp [doC, h7]
  have e2 : doS st K a = writeS st K a.f a.n a.s := by simp [doS, h7]
  have e3 : doK K a = K := by simp [doK, h7]
  rw [e1, e2, e3]
  clear e1 e2 e3
  have hand : bits .and .i64 a.doo 7 = 1 := by rw [and7, h7]
  have HV : Hid (Turns [] w (w.alloc (.cells #[.int .i64 a.doo, .int .i64 a.f, .int .i64 a.n, .string a.s, av] 63))) := Turns.alloc [] w _
  have HD := Lib.hid (h.kept HV.out (by simp))
  have HK := Lib.hid (hk.kept HV.out)
  have HA := Lib.hid (ha.kept HV.out)
  have HX := Lib.hid (And.intro hf (And.intro hn (And.intro hB (And.intro hK hK2))))
  obtain ⟨ka, kc, rfl⟩ := ha.shape
  clear h hk ha h7 hf hn hB hK hK2
  go_enter Try.func34, Try.ntmps34
  go_wp2_with fail
  obtain ⟨hf, hn, hB, hK, hK2⟩ := HX.out
  refine (writeI HD.out HK.out a.f a.n a.s hf (by omega) hK).mono ?_
  rintro e w1 ⟨rfl, hP⟩
  have HP := Lib.hid (DoPost.before HV.out (DoPost.of hP HK.out (show B + 8 + a.s.size ≤ B + 8 + a.s.size by omega))); clear hP
  go_wp2_with fail
  go_ret
  exact ⟨rfl, HP.out⟩

theorem do_raw {b B : Nat} {FP : List Nat} {st : DS} {kv av : Value} {K : List Int} {w : World} (a : DAct) (h : DiskI w b FP B st kv) (hk : KeepV w kv K FP) (ha : KeepV w av a.keep FP) (hf : (Lit.int .i64 a.f).wf = true) (hn : a.n ≤ 9223372036854775807)
    (hB : B + a.s.size ≤ 700000) (hK : K.length ≤ 1000000) (hK2 : a.keep.length ≤ 1000000) :
    Calls Try.prog 34 #[.pointer (some ⟨b, 0, none⟩), .agg #[.int .i64 a.doo, .int .i64 a.f, .int .i64 a.n, .string a.s, av]] w fun e w' => e = .returned (.int .i64 (doC st K a)) ∧ DoPost w b FP (B + 8 + a.s.size) (doS st K a) kv (doK K a) w' := by
  rcases (by omega : a.doo % 8 = 0 ∨ a.doo % 8 = 1 ∨ a.doo % 8 = 2 ∨ a.doo % 8 = 3 ∨ a.doo % 8 = 4 ∨ a.doo % 8 = 5 ∨ a.doo % 8 = 6 ∨ a.doo % 8 = 7) with e | e | e | e | e | e | e | e
  · exact do_write0 a h hk ha hf hn hB hK hK2 e
  · exact do_write1 a h hk ha hf hn hB hK hK2 e
  · exact do_sync a h hk ha hf hn hB hK hK2 e
  · exact do_trunc a h hk ha hf hn hB hK hK2 e
  · exact do_lose a h hk ha hf hn hB hK hK2 e
  · exact do_arm a h hk ha hf hn hB hK hK2 e
  · exact do_crash a h hk ha hf hn hB hK hK2 e
  · exact do_start a h hk ha hf hn hB hK hK2 e

end Go.Proofs.Ytmikjninonpejaa

/- Statements about the disk: the acts in memory, few, played. -/
namespace Go.Proofs.Ytmikjninonpejaa
open Go.RowKit Go.Proofs.YtmikjninonpejaaMem Go.Maps

def DAct.wf (a : DAct) : Prop := (Lit.int .i64 a.f).wf = true ∧ a.n ≤ 9223372036854775807
/-- The acts lie in memory as a slice's elements. -/
def ActsAt (w : World) (a : Option Addr) (l : List DAct) : Prop :=
  ∀ i (h : i < l.length), l[i].wf ∧ ∃ b off kv, a = some ⟨b, off, none⟩ ∧ w.cell? ⟨b, off + i * 5, none⟩ = some (.int .i64 l[i].doo) ∧ w.cell? ⟨b, off + i * 5 + 1, none⟩ = some (.int .i64 l[i].f) ∧
    w.cell? ⟨b, off + i * 5 + 2, none⟩ = some (.int .i64 l[i].n) ∧ w.cell? ⟨b, off + i * 5 + 3, none⟩ = some (.string l[i].s) ∧ w.cell? ⟨b, off + i * 5 + 4, none⟩ = some kv ∧ IntsV w kv l[i].keep
theorem IntsV.old {w w' : World} {v : Value} {K : List Int} (h : IntsV w v K) (ht : Turns [] w w') {FP : List Nat} (hFP : ∀ x ∈ FP, w.heap.size ≤ x) : KeepV w' v K FP := by
  obtain ⟨a, c, rfl, hi⟩ := h
  refine ⟨a, c, rfl, fun i hi' => ?_⟩
  obtain ⟨b, off, rfl, hc⟩ := hi i hi'
  have hlt := World.block_lt_of_cell? _ _ hc
  refine ⟨b, off, rfl, fun hx => ?_, (ht.cell (a := ⟨b, off + i, none⟩) hlt (by simp)).trans hc⟩
  have := hFP b hx
  exact absurd hlt (by simpa using this)
theorem ActsAt.kept {w w' : World} {a : Option Addr} {l : List DAct} (h : ActsAt w a l) (ht : Turns [] w w') : ActsAt w' a l := by
  intro i hi
  obtain ⟨hw, b, off, kv, rfl, h0, h1, h2, h3, h4, hk⟩ := h i hi
  have hlt := World.block_lt_of_cell? w _ h0
  refine ⟨hw, b, off, kv, rfl, (ht.cell (a := ⟨b, off + i * 5, none⟩) hlt (by simp)).trans h0, (ht.cell (a := ⟨b, off + i * 5 + 1, none⟩) hlt (by simp)).trans h1, (ht.cell (a := ⟨b, off + i * 5 + 2, none⟩) hlt (by simp)).trans h2,
    (ht.cell (a := ⟨b, off + i * 5 + 3, none⟩) hlt (by simp)).trans h3, (ht.cell (a := ⟨b, off + i * 5 + 4, none⟩) hlt (by simp)).trans h4, hk.kept ht (fun a n c e => by simp)⟩
theorem ActsAt.same {w : World} {a : Option Addr} {l : List DAct} (h : ActsAt w a l) {i : Nat} (hi : i < l.length) {b off : Nat} (e : a = some ⟨b, off, none⟩) : ∃ kv, w.cell? ⟨b, off + i * 5, none⟩ = some (.int .i64 l[i].doo) ∧ w.cell? ⟨b, off + i * 5 + 1, none⟩ = some (.int .i64 l[i].f) ∧
    w.cell? ⟨b, off + i * 5 + 2, none⟩ = some (.int .i64 l[i].n) ∧ w.cell? ⟨b, off + i * 5 + 3, none⟩ = some (.string l[i].s) ∧ w.cell? ⟨b, off + i * 5 + 4, none⟩ = some kv ∧ IntsV w kv l[i].keep := by
  obtain ⟨hw, b', off', kv, e', h⟩ := h i hi
  rw [e] at e'
  simp only [Option.some.injEq, Addr.mk.injEq] at e'
  obtain ⟨rfl, rfl, _⟩ := e'
  exact ⟨kv, h⟩

theorem fewD_no {l : List DAct} {i : Nat} (hi : i < l.length) (h : fewAct l[i] = false) : fewD l = false := by
  have : l.all fewAct = false := by
    rw [Bool.eq_false_iff]
    intro h2
    have := List.all_eq_true.1 h2 _ (List.getElem_mem hi)
    rw [h] at this; cases this
  simp [fewD, this]
theorem fewD_end {l : List DAct} (h : ∀ i (hi : i < l.length), fewAct l[i] = true) : fewD l = decide ((l.length : Int) ≤ 40) := by
  have : l.all fewAct = true := by
    rw [List.all_eq_true]
    intro x hx
    obtain ⟨i, hi, rfl⟩ := List.getElem_of_mem hx
    exact h i hi
  simp [fewD, this]

set_option maxHeartbeats 1600000 in
set_option maxRecDepth 100000 in
theorem few_acts (a : Option Addr) (cap : Nat) (l : List DAct) (w : World) (h : ActsAt w a l) (hl : l.length ≤ maxLen) :
    Calls Try.prog 31 #[.slice a l.length cap] w fun e w' => e = .returned (.bool (fewD l)) ∧ w = w' := by
  unfold maxLen at hl
  have HO := Lib.hid h; clear h
  go_enter Try.func31, Try.ntmps31
  go_wp2_with fail
  go_loop [3] (fun i => ∃ k : Nat, k ≤ l.length ∧ i = .int .i64 k ∧ Hid (∀ j (h : j < k) (h2 : j < l.length), fewAct l[j] = true)) (fun i => l.length - (intOf i).toNat)
  case atStart => exact ⟨0, Nat.zero_le _, rfl, fun j h => by omega⟩
  case round =>
    obtain ⟨k, hk, rfl, hall⟩ := hrel
    by_cases hlt : k < l.length
    · obtain ⟨-, b, off, kv, rfl, -, -, h2, h3, h4, hkv⟩ := HO.out k hlt
      obtain ⟨ka, kc, rfl, -⟩ := hkv
      have hltI : (k : Int) < (l.length : Int) := by omega
      obtain ⟨x, hx⟩ : ∃ x, x = l[k] := ⟨_, rfl⟩
      rw [← hx] at h2 h3 h4
      have HX := Lib.hid hx; clear hx
      by_cases c1 : x.s.size ≤ 300
      · have d1 : decide ((300 : Int) < (x.s.size : Int)) = false := decide_eq_false (by omega)
        by_cases c2 : x.keep.length ≤ 60
        · have d2 : decide ((60 : Int) < (x.keep.length : Int)) = false := decide_eq_false (by omega)
          by_cases c3 : 3000 < x.n
          · have d3 : decide ((3000 : Int) < x.n) = true := decide_eq_true c3
            by_cases c4 : x.n < 16776916
            · have d4 : decide (x.n < (16776916 : Int)) = true := decide_eq_true c4
              have HF : Hid (fewD l = false) := fewD_no hlt (by rw [← HX.out]; simp [fewAct, c3, c4])
              clear c1 c2 c3 c4
              go_wp2_with fail
              go_ret
              exact ⟨by rw [HF.out]; rfl, rfl⟩
            · have d4 : decide (x.n < (16776916 : Int)) = false := decide_eq_false c4
              have HF : Hid (fewAct x = true) := by show fewAct x = true; simp [fewAct, c1, c2, c4]
              clear c1 c2 c3 c4
              go_wp2_with fail
              go_round
              case rel => exact ⟨k + 1, by omega, by go_num, fun j hj h2 => by
                by_cases e : j = k
                · subst e; rw [← HX.out]; exact HF.out
                · exact hall.out j (by omega) h2⟩
              case measure => simp [intOf]; omega
          · have d3 : decide ((3000 : Int) < x.n) = false := decide_eq_false c3
            have HF : Hid (fewAct x = true) := by show fewAct x = true; simp [fewAct, c1, c2, c3]
            clear c1 c2 c3
            go_wp2_with fail
            go_round
            case rel => exact ⟨k + 1, by omega, by go_num, fun j hj h2 => by
              by_cases e : j = k
              · subst e; rw [← HX.out]; exact HF.out
              · exact hall.out j (by omega) h2⟩
            case measure => simp [intOf]; omega
        · have d2 : decide ((60 : Int) < (x.keep.length : Int)) = true := decide_eq_true (by omega)
          have HF : Hid (fewD l = false) := fewD_no hlt (by rw [← HX.out]; simp [fewAct, c2])
          clear c1 c2
          go_wp2_with fail
          go_ret
          exact ⟨by rw [HF.out]; rfl, rfl⟩
      · have d1 : decide ((300 : Int) < (x.s.size : Int)) = true := decide_eq_true (by omega)
        have HF : Hid (fewD l = false) := fewD_no hlt (by rw [← HX.out]; simp [fewAct, c1])
        clear c1
        go_wp2_with fail
        go_ret
        exact ⟨by rw [HF.out]; rfl, rfl⟩
    · have hltI : decide ((k : Int) < (l.length : Int)) = false := decide_eq_false (by omega)
      have HF : Hid (fewD l = decide ((l.length : Int) ≤ 40)) := fewD_end (fun i hi => hall.out i (by omega) hi)
      go_wp2_with fail
      go_ret
      exact ⟨by rw [HF.out]; rfl, rfl⟩

end Go.Proofs.Ytmikjninonpejaa

/- Statements about the disk: a disk with its own Keep, among other things. -/
namespace Go.Proofs.Ytmikjninonpejaa
open Go.RowKit Go.Proofs.YtmikjninonpejaaMem Go.Maps

/-- A disk and the row of its Keep. -/
def Mach (w : World) (b : Nat) (FP : List Nat) (B : Nat) (st : DS) (K : List Int) : Prop :=
  ∃ kv FP0, DiskI w b FP0 B st kv ∧ OwnInts w 0 kv K ∧ (∀ x ∈ kv.ownBlock.toList, x ∉ FP0) ∧ FP = FP0 ++ kv.ownBlock.toList
theorem Mach.lt {w : World} {b B : Nat} {FP : List Nat} {st : DS} {K : List Int} (h : Mach w b FP B st K) : ∀ x ∈ FP, x < w.heap.size := by
  obtain ⟨kv, FP0, hD, ho, _, rfl⟩ := h
  intro x hx
  rcases List.mem_append.1 hx with hx | hx
  · exact hD.lt x hx
  · exact own_lt ho x hx
theorem Mach.kept {w w' : World} {b B : Nat} {FP S : List Nat} {st : DS} {K : List Int} (h : Mach w b FP B st K) (ht : Turns S w w') (hd : ∀ x ∈ FP, x ∉ S) : Mach w' b FP B st K := by
  obtain ⟨kv, FP0, hD, ho, h1, rfl⟩ := h
  exact ⟨kv, FP0, hD.kept ht (fun x hx => hd x (by simp [hx])), own_kept ho ht (fun x hx => hd x (List.mem_append.2 (Or.inr hx))), h1, rfl⟩
def machThing (b B : Nat) (st : DS) (K : List Int) : Thing :=
  ⟨fun w FP => Mach w b FP B st K, fun _ _ h => h.lt, fun _ _ _ _ h ht hd => h.kept ht hd⟩
theorem own_keep {w : World} {kv : Value} {K : List Int} {FP : List Nat} (h : OwnInts w 0 kv K) (hd : ∀ x ∈ kv.ownBlock.toList, x ∉ FP) : KeepV w kv K FP := by
  obtain ⟨a, c, rfl, hi⟩ := h.intsV
  refine ⟨a, c, rfl, fun i hi' => ?_⟩
  obtain ⟨b, off, rfl, hc⟩ := hi i hi'
  rcases h.2 with ⟨e, _⟩ | ⟨g, cap, cur, e, hg, _⟩
  · simp at e
  · simp only [Value.slice.injEq, Option.some.injEq, Addr.mk.injEq] at e
    obtain ⟨⟨rfl, rfl, -⟩, -⟩ := e
    exact ⟨b, 0, rfl, hd b (by simp [Value.ownBlock]), hc⟩
theorem keep_unique {w : World} {kv : Value} {K K' : List Int} {FP : List Nat} (h : OwnInts w 0 kv K) (h' : KeepV w kv K' FP) : K' = K := by
  obtain ⟨a, c, rfl, hi⟩ := h.intsV
  obtain ⟨a', c', e, hi'⟩ := h'
  simp only [Value.slice.injEq] at e
  obtain ⟨rfl, hl, rfl⟩ := e
  apply List.ext_getElem hl.symm
  intro i h1 h2
  obtain ⟨b, off, rfl, hc⟩ := hi i h2
  obtain ⟨b', off', e, _, hc'⟩ := hi' i h1
  simp only [Option.some.injEq, Addr.mk.injEq] at e
  obtain ⟨rfl, rfl, _⟩ := e
  rw [hc] at hc'
  simpa using hc'.symm

theorem Mach.open {w : World} {b B : Nat} {FP : List Nat} {st : DS} {K : List Int} (h : Mach w b FP B st K) :
    ∃ kv FP0, DiskI w b FP0 B st kv ∧ KeepV w kv K FP0 ∧ (∀ x ∈ FP0, x ∈ FP) ∧ ∀ {B' : Nat} {st' : DS} {K' : List Int} {w' : World}, DoPost w b FP0 B' st' kv K' w' → ∃ FP', Mach w' b FP' B' st' K' ∧ Evolves FP FP' w w' := by
  obtain ⟨kv, FP0, hD, ho, hd, rfl⟩ := h
  refine ⟨kv, FP0, hD, own_keep ho hd, fun x hx => by simp [hx], fun {B' st' K' w'} hP => ?_⟩
  obtain ⟨FP', kv', hD', hk', hev, hor⟩ := hP
  rcases hor with rfl | ho'
  · have ho2 := own_kept ho hev.1 hd
    obtain rfl := keep_unique ho2 hk'
    refine ⟨FP' ++ kv'.ownBlock.toList, ⟨kv', FP', hD', ho2, fun x hx hx' => ?_, rfl⟩, hev.1.mono (by intro x hx; simp [hx]), fun x hx => ?_⟩
    · rcases hev.2 x hx' with h1 | h1
      · exact hd x hx h1
      · have := own_lt ho x hx; omega
    · rcases List.mem_append.1 hx with hx | hx
      · exact (hev.2 x hx).imp (fun h => by simp [h]) id
      · exact Or.inl (List.mem_append.2 (Or.inr hx))
  · have hge : ∀ x ∈ kv'.ownBlock.toList, w.heap.size ≤ x := fun x hx => (ho'.lt x (by simpa using hx)).1
    have ho0 : OwnInts w' 0 kv' K' := own_base ho' (Nat.zero_le _)
    refine ⟨FP' ++ kv'.ownBlock.toList, ⟨kv', FP', hD', ho0, fun x hx hx' => ?_, rfl⟩, hev.1.mono (by intro x hx; simp [hx]), fun x hx => ?_⟩
    · obtain ⟨a, c, e, hi⟩ := hk'
      rcases ho'.2 with ⟨e2, _⟩ | ⟨g, cap, cur, e2, hg, hcur, _⟩
      · rw [e2] at hx; simp [Value.ownBlock] at hx
      · rw [e2] at hx
        simp [Value.ownBlock] at hx
        subst hx
        by_cases h0 : 0 < K'.length
        · obtain ⟨kb, off, e3, hn, _⟩ := hi 0 h0
          rw [e2, e3] at e
          simp only [Value.slice.injEq, Option.some.injEq, Addr.mk.injEq] at e
          obtain ⟨⟨rfl, _⟩, _⟩ := e
          exact hn hx'
        · obtain ⟨_, N, _, hobj⟩ := hD'
          obtain ⟨fb, sb, qv, hb, hF, hS, hQ, hne, hFP⟩ := hobj
          rw [hFP] at hx'
          simp only [List.mem_cons] at hx'
          rcases hx' with rfl | rfl | rfl | hx'
          · rw [hb] at hcur; simp at hcur
          · exact hF.not_own ho0 (by rw [e2]; simp [Value.ownBlock])
          · exact hS.not_own ho0 (by rw [e2]; simp [Value.ownBlock])
          · exact own_ne hQ hcur (by decide) hx'
    · rcases List.mem_append.1 hx with hx | hx
      · exact (hev.2 x hx).imp (fun h => by simp [h]) id
      · exact Or.inr (hge x hx)

end Go.Proofs.Ytmikjninonpejaa

/- Statements about the disk: contracts among other things. -/
namespace Go.Proofs.Ytmikjninonpejaa
open Go.RowKit Go.Proofs.YtmikjninonpejaaMem Go.Maps

/-- A disk whose Keep is nil. -/
def iThing (b B : Nat) (st : DS) : Thing :=
  ⟨fun w FP => DiskI w b FP B st (.slice none 0 0), fun _ _ h => h.lt, fun _ _ _ _ h ht hd => h.kept ht hd⟩
theorem keep_nil (w : World) (FP : List Nat) : KeepV w (.slice none 0 0) [] FP := ⟨none, 0, rfl, fun i h => by simp at h⟩

section
variable {w0 w : World} {b B : Nat} {st : DS}

theorem inew_sep (ts : List Thing) (h : Sep w0 w ts) : Calls Try.prog 32 #[] w fun e w' => ∃ b, e = .returned (.pointer (some ⟨b, 0, none⟩)) ∧ Sep w0 w' (iThing b 0 DS.new :: ts) :=
  (disk_new w).mono fun e w' ⟨b, FP, h1, h2, h3, h4⟩ => ⟨b, h1, h.add (t := iThing b 0 DS.new) h3 ⟨DInv.new, 0, by simp [DS.new], h2⟩ h4⟩
theorem iwrite_sep (pre post : List Thing) (f a : Int) (s : ByteArray) (h : Sep w0 w (pre ++ iThing b B st :: post)) (hf : (Lit.int .i64 f).wf = true) (hB : B + s.size ≤ 800000) :
    Calls Try.prog 51 #[.pointer (some ⟨b, 0, none⟩), .int .i64 f, .int .i64 a, .string s] w fun e w' => e = .returned (.int .i64 (writeCode st f a s)) ∧ Sep w0 w' (pre ++ iThing b (B + 8 + s.size) (writeS st [] f a s) :: post) := by
  obtain ⟨FP, hD, _, step⟩ := h.pick pre _ post
  exact (writeI hD (keep_nil _ _) f a s hf hB (by simp)).mono fun e w' ⟨h1, FP', h2, h3⟩ => ⟨h1, step w' FP' (iThing b (B + 8 + s.size) (writeS st [] f a s)) h3 h2⟩
theorem isync_sep (pre post : List Thing) (f : Int) (h : Sep w0 w (pre ++ iThing b B st :: post)) (hf : (Lit.int .i64 f).wf = true) (hB : B ≤ 800000) :
    Calls Try.prog 41 #[.pointer (some ⟨b, 0, none⟩), .int .i64 f] w fun e w' => e = .returned (.int .i64 (syncCode st [] f)) ∧ Sep w0 w' (pre ++ iThing b (B + 1) (syncS st [] f) :: post) := by
  obtain ⟨FP, hD, _, step⟩ := h.pick pre _ post
  exact (syncI hD (keep_nil _ _) f hf hB (by simp)).mono fun e w' ⟨h1, FP', h2, h3⟩ => ⟨h1, step w' FP' (iThing b (B + 1) (syncS st [] f)) h3 h2⟩
theorem istart_sep (pre post : List Thing) (h : Sep w0 w (pre ++ iThing b B st :: post)) :
    Calls Try.prog 48 #[.pointer (some ⟨b, 0, none⟩)] w fun e w' => e = .returned (.tuple #[]) ∧ Sep w0 w' (pre ++ iThing b B { st with down := false } :: post) := by
  obtain ⟨FP, hD, _, step⟩ := h.pick pre _ post
  exact (startI hD).mono fun e w' ⟨h1, FP', h2, h3⟩ => ⟨h1, step w' FP' (iThing b B { st with down := false }) h3 h2⟩
theorem keep_new {w : World} {FP : List Nat} (h : ∀ x ∈ FP, x < w.heap.size) (K : List Int) (cs : Array Value) (hcs : cs.toList = intCells K) (c : Nat) : KeepV (w.alloc (.cells cs 3)) (.slice (some ⟨w.heap.size, 0, none⟩) K.length c) K FP := by
  refine ⟨_, c, rfl, fun i hi => ⟨w.heap.size, 0, rfl, fun hx => absurd (h _ hx) (Nat.lt_irrefl _), ?_⟩⟩
  rw [cell_at (heap_alloc_here w _)]
  have : cs.toList[0 + i]? = some (.int .i64 K[i]) := by rw [hcs]; simp [intCells, hi]
  simpa using this
/-- Crash with a list that was built for the call. -/
theorem icrash_new (pre post : List Thing) (K : List Int) (cs : Array Value) (c : Nat) (h : Sep w0 w (pre ++ iThing b B st :: post)) (hcs : cs.toList = intCells K) (hB : B ≤ 900000) (hK : K.length ≤ 1000000) :
    Calls Try.prog 47 #[.pointer (some ⟨b, 0, none⟩), .slice (some ⟨w.heap.size, 0, none⟩) K.length c] (w.alloc (.cells cs 3)) fun e w' => e = .returned (.tuple #[]) ∧ Sep w0 w' (pre ++ iThing b B (crashS st K) :: post) := by
  obtain ⟨FP, hD, hge, step⟩ := h.pick pre _ post
  have hlt := hD.lt
  have ht := Turns.alloc [] w (.cells cs 3)
  exact (crashI (hD.kept ht (by simp)) (keep_new hlt K cs hcs c) hB hK).mono fun e w' ⟨h1, FP', h2, h3⟩ =>
    ⟨h1, step w' FP' (iThing b B (crashS st K)) ((Evolves.of_same (ht.mono (by simp))).trans h3) h2⟩
theorem iread_sep (pre post : List Thing) (f a z : Int) (h : Sep w0 w (pre ++ iThing b B st :: post)) (hf : (Lit.int .i64 f).wf = true) :
    Calls Try.prog 42 #[.pointer (some ⟨b, 0, none⟩), .int .i64 f, .int .i64 a, .int .i64 z] w fun e w' => e = .returned (.tuple #[.string (readStr st f a z), .int .i64 (readCode st f a z)]) ∧ w = w' := by
  obtain ⟨FP, hD, _, _⟩ := h.pick pre _ post
  exact readI hD f a z hf
theorem isize_sep (pre post : List Thing) (f : Int) (h : Sep w0 w (pre ++ iThing b B st :: post)) (hf : (Lit.int .i64 f).wf = true) :
    Calls Try.prog 38 #[.pointer (some ⟨b, 0, none⟩), .int .i64 f] w fun e w' => e = .returned (.int .i64 (st.F f).now.size) ∧ w = w' := by
  obtain ⟨FP, hD, _, _⟩ := h.pick pre _ post
  exact sizeI hD f hf
theorem idown_sep (pre post : List Thing) (h : Sep w0 w (pre ++ iThing b B st :: post)) :
    Calls Try.prog 36 #[.pointer (some ⟨b, 0, none⟩)] w fun e w' => e = .returned (.bool st.down) ∧ w = w' := by
  obtain ⟨FP, hD, _, _⟩ := h.pick pre _ post
  exact downI hD
theorem copy_raw {w : World} {FP : List Nat} {kv : Value} {K : List Int} (hD : DiskI w b FP B st kv) (hk : KeepV w kv K FP) (hB : B ≤ 900000) :
    Calls Try.prog 40 #[.pointer (some ⟨b, 0, none⟩)] w fun e w' => ∃ b' FP', e = .returned (.pointer (some ⟨b', 0, none⟩)) ∧ DiskI w' b' FP' B st kv ∧ Turns [] w w' ∧ ∀ x ∈ FP', w.heap.size ≤ x := by
  obtain ⟨hI, N, hN, hD⟩ := hD
  obtain ⟨ka, kc, hkv⟩ := hk.shape
  exact (disk_copy b N FP st kv ka K.length kc w hkv hD (by omega)).mono fun e w' ⟨b', FP', h1, h2, h3, h4⟩ => ⟨b', FP', h1, ⟨hI, N, hN, h2⟩, h3, h4⟩
theorem icopy_sep (pre post : List Thing) (h : Sep w0 w (pre ++ iThing b B st :: post)) (hB : B ≤ 900000) :
    Calls Try.prog 40 #[.pointer (some ⟨b, 0, none⟩)] w fun e w' => ∃ b', e = .returned (.pointer (some ⟨b', 0, none⟩)) ∧ Sep w0 w' (iThing b' B st :: (pre ++ iThing b B st :: post)) := by
  obtain ⟨FP, hD, _, _⟩ := h.pick pre _ post
  exact (copy_raw hD (keep_nil _ _) hB).mono fun e w' ⟨b', FP', h1, h2, h3, h4⟩ => ⟨b', h1, h.add (t := iThing b' B st) h3 h2 h4⟩
end

end Go.Proofs.Ytmikjninonpejaa

/- Statements about the disk: the documented examples (small). -/
namespace Go.Proofs.Ytmikjninonpejaa
open Go.RowKit Go.Proofs.YtmikjninonpejaaMem Go.Maps

def tABC : ByteArray := ⟨#[97, 98, 99]⟩
def tXY : ByteArray := ⟨#[88, 89]⟩
def tABCD : ByteArray := ⟨#[97, 98, 99, 100]⟩
def e1 : DS := writeS DS.new [] 0 0 tABC
def e2 : DS := syncS e1 [] 0
def e3 : DS := writeS e2 [] 0 1 tXY
def e4 : DS := crashS e3 [1]
def e5 : DS := { e4 with down := false }
def g1 : DS := crashS e3 [0]
def g2 : DS := { g1 with down := false }
def g3 : DS := writeS g2 [] 1 62 tABCD
def g4 : DS := crashS g3 [0, 1]
def g5 : DS := { g4 with down := false }
def g6 : DS := writeS g5 [] 16 0 ⟨#[]⟩

theorem z0 : writeCode DS.new 0 0 tABC = 0 := by kernel_rfl
theorem z1 : syncCode e1 [] 0 = 0 := by kernel_rfl
theorem z2 : e4.down = true := by kernel_rfl
theorem z3 : readCode e4 0 0 9 = 9 ∧ readStr e4 0 0 9 = ⟨#[]⟩ := ⟨by kernel_rfl, by kernel_rfl⟩
theorem z4 : readCode e5 0 0 9 = 0 ∧ readStr e5 0 0 9 = ⟨#[97, 88, 89]⟩ := ⟨by kernel_rfl, by kernel_rfl⟩
theorem z5 : readCode g2 0 1 9 = 0 ∧ readStr g2 0 1 9 = ⟨#[98, 99]⟩ := ⟨by kernel_rfl, by kernel_rfl⟩
theorem z6 : writeCode g2 1 62 tABCD = 0 := by kernel_rfl
theorem z7 : readCode g5 1 60 100 = 0 ∧ readStr g5 1 60 100 = ⟨#[0, 0, 0, 0, 99, 100]⟩ := ⟨by kernel_rfl, by kernel_rfl⟩
theorem z8 : (g5.F 1).now.size = 66 := by kernel_rfl
theorem z9 : writeCode g5 16 0 ⟨#[]⟩ = 1 := by kernel_rfl
theorem z10 : writeCode g6 1 16777216 ⟨#[97]⟩ = 6 := by kernel_rfl

theorem wfl (n : Int) (h : (0 ≤ n ∧ n ≤ 100)) : (Lit.int .i64 n).wf = true := wf64 (by omega) (by omega)
set_option maxHeartbeats 3200000 in
set_option maxRecDepth 100000 in
theorem small_disk (w : World) : Calls Try.prog 30 #[] w fun e w' => e = .returned (.bool true) ∧ Turns [] w w' := by
  go_enter Try.func30, Try.ntmps30
  go_wp2_with fail
  refine (inew_sep [] (Sep.start w)).mono ?_
  rintro e w1 ⟨d, rfl, h1⟩
  go_wp2_with fail
  refine (iwrite_sep [] [] 0 0 tABC h1 (wfl 0 (by omega)) (by decide)).mono ?_
  rintro e w2 ⟨rfl, h2⟩
  rw [z0]
  replace h2 : Sep w w2 [iThing d 11 e1] := h2
  clear h1
  go_wp2_with fail
  refine (isync_sep [] [] 0 h2 (wfl 0 (by omega)) (by decide)).mono ?_
  rintro e w3 ⟨rfl, h3⟩
  rw [z1]
  replace h3 : Sep w w3 [iThing d 12 e2] := h3
  clear h2
  go_wp2_with fail
  refine (iwrite_sep [] [] 0 1 tXY h3 (wfl 0 (by omega)) (by decide)).mono ?_
  rintro e w4 ⟨rfl, h4⟩
  replace h4 : Sep w w4 [iThing d 22 e3] := h4
  clear h3
  go_wp2_with fail
  refine (icopy_sep [] [] h4 (by decide)).mono ?_
  rintro e w5 ⟨c, rfl, h5⟩
  replace h5 : Sep w w5 [iThing c 22 e3, iThing d 22 e3] := h5
  clear h4
  go_wp2_with fail
  refine (icrash_new [iThing c 22 e3] [] [1] #[.int .i64 1] 1 h5 rfl (by decide) (by decide)).mono ?_
  rintro e w6 ⟨rfl, h6⟩
  replace h6 : Sep w w6 [iThing c 22 e3, iThing d 22 e4] := h6
  clear h5
  go_wp2_with fail
  refine (idown_sep [iThing c 22 e3] [] h6).mono ?_
  rintro e wx ⟨rfl, rfl⟩
  rw [z2]
  go_wp2_with fail
  refine (iread_sep [iThing c 22 e3] [] 0 0 9 h6 (wfl 0 (by omega))).mono ?_
  rintro e wx ⟨rfl, rfl⟩
  rw [z3.1, z3.2]
  go_wp2_with fail
  refine (istart_sep [iThing c 22 e3] [] h6).mono ?_
  rintro e w7 ⟨rfl, h7⟩
  replace h7 : Sep w w7 [iThing c 22 e3, iThing d 22 e5] := h7
  clear h6
  go_wp2_with fail
  refine (iread_sep [iThing c 22 e3] [] 0 0 9 h7 (wfl 0 (by omega))).mono ?_
  rintro e wx ⟨rfl, rfl⟩
  rw [z4.1, z4.2]
  go_wp2_with fail
  refine (icrash_new [] [iThing d 22 e5] [0] #[.int .i64 0] 1 h7 rfl (by decide) (by decide)).mono ?_
  rintro e w8 ⟨rfl, h8⟩
  replace h8 : Sep w w8 [iThing c 22 g1, iThing d 22 e5] := h8
  clear h7
  go_wp2_with fail
  refine (istart_sep [] [iThing d 22 e5] h8).mono ?_
  rintro e w9 ⟨rfl, h9⟩
  replace h9 : Sep w w9 [iThing c 22 g2, iThing d 22 e5] := h9
  clear h8
  go_wp2_with fail
  refine (iread_sep [] [iThing d 22 e5] 0 1 9 h9 (wfl 0 (by omega))).mono ?_
  rintro e wx ⟨rfl, rfl⟩
  rw [z5.1, z5.2]
  go_wp2_with fail
  refine (iwrite_sep [] [iThing d 22 e5] 1 62 tABCD h9 (wfl 1 (by omega)) (by decide)).mono ?_
  rintro e w10 ⟨rfl, h10⟩
  rw [z6]
  replace h10 : Sep w w10 [iThing c 34 g3, iThing d 22 e5] := h10
  clear h9
  go_wp2_with fail
  refine (icrash_new [] [iThing d 22 e5] [0, 1] #[.int .i64 0, .int .i64 1] 2 h10 rfl (by decide) (by decide)).mono ?_
  rintro e w11 ⟨rfl, h11⟩
  replace h11 : Sep w w11 [iThing c 34 g4, iThing d 22 e5] := h11
  clear h10
  go_wp2_with fail
  refine (istart_sep [] [iThing d 22 e5] h11).mono ?_
  rintro e w12 ⟨rfl, h12⟩
  replace h12 : Sep w w12 [iThing c 34 g5, iThing d 22 e5] := h12
  clear h11
  go_wp2_with fail
  refine (iread_sep [] [iThing d 22 e5] 1 60 100 h12 (wfl 1 (by omega))).mono ?_
  rintro e wx ⟨rfl, rfl⟩
  rw [z7.1, z7.2]
  go_wp2_with fail
  refine (isize_sep [] [iThing d 22 e5] 1 h12 (wfl 1 (by omega))).mono ?_
  rintro e wx ⟨rfl, rfl⟩
  rw [z8]
  go_wp2_with fail
  refine (iwrite_sep [] [iThing d 22 e5] 16 0 ⟨#[]⟩ h12 (wfl 16 (by omega)) (by decide)).mono ?_
  rintro e w13 ⟨rfl, h13⟩
  rw [z9]
  replace h13 : Sep w w13 [iThing c 42 g6, iThing d 22 e5] := h13
  clear h12
  go_wp2_with fail
  refine (iwrite_sep [] [iThing d 22 e5] 1 16777216 ⟨#[97]⟩ h13 (wfl 1 (by omega)) (by decide)).mono ?_
  rintro e w14 ⟨rfl, h14⟩
  rw [z10]
  go_wp2_with fail
  go_ret
  exact ⟨rfl, h14.turns⟩

end Go.Proofs.Ytmikjninonpejaa
