/- Contracts and lemmas (texts DiskY, DiskZ, SetA, SetB, SetC, SetD, joined by a program). -/
import Derived.Test.YtdcgdnlpagadcaaDoorMc5
/- Contracts of package disk: write whole; the disk with its bounds. -/
namespace Go.Proofs.YtdcgdnlpagadcaaDoor
open Go.RowKit Go.Proofs.YtdcgdnlpagadcaaDoorMem Go.Maps

set_option maxHeartbeats 3200000 in
set_option maxRecDepth 100000 in
theorem write_neg (b N : Nat) (FP : List Nat) (st : DS) (kv : Value) (f a : Int) (s : ByteArray) (w : World) (h : DiskObj w b FP N st kv) (hm : mayCode st f = 0) (ha : a < 0) :
    Calls Tryd.prog 45 #[.pointer (some ⟨b, 0, none⟩), .int .i64 f, .int .i64 a, .string s] w fun e w' => e = .returned (.int .i64 1) ∧ w = w' := by
  have HN := Lib.hid h; clear h
  have HM := Lib.hid hm; clear hm
  have d1 : decide (a < 0) = true := decide_eq_true ha
  clear ha
  go_enter Tryd.func45, Tryd.ntmps45
  go_wp2_with fail
  refine (disk_may b N FP st kv f _ HN.out).mono ?_
  rintro e w' ⟨rfl, rfl⟩
  rw [HM.out]
  go_wp2_with fail
  go_ret
  exact ⟨rfl, rfl⟩
set_option maxHeartbeats 3200000 in
set_option maxRecDepth 100000 in
theorem write_full (b N : Nat) (FP : List Nat) (st : DS) (kv : Value) (f a : Int) (s : ByteArray) (w : World) (h : DiskObj w b FP N st kv) (hm : mayCode st f = 0) (ha : 0 ≤ a) (hc : 16777216 < a ∨ 16777216 - a < (s.size : Int)) :
    Calls Tryd.prog 45 #[.pointer (some ⟨b, 0, none⟩), .int .i64 f, .int .i64 a, .string s] w fun e w' => e = .returned (.int .i64 6) ∧ w = w' := by
  have HN := Lib.hid h; clear h
  have HM := Lib.hid hm; clear hm
  have d1 : decide (a < 0) = false := decide_eq_false (by omega)
  by_cases h1 : 16777216 < a
  · have d2 : decide (16777216 < a) = true := decide_eq_true h1
    clear hc h1
    go_enter Tryd.func45, Tryd.ntmps45
    go_wp2_with fail
    refine (disk_may b N FP st kv f _ HN.out).mono ?_
    rintro e w' ⟨rfl, rfl⟩
    rw [HM.out]
    go_wp2_with fail
    go_ret
    exact ⟨rfl, rfl⟩
  · have d2 : decide (16777216 < a) = false := decide_eq_false h1
    have hsub : IntKind.i64.wrap (16777216 - a) = 16777216 - a := by rw [IntKind.wrap_i64]; omega
    have d3 : decide (16777216 - a < (s.size : Int)) = true := decide_eq_true (by omega)
    have hle : a ≤ 16777216 := by omega
    clear hc h1
    go_enter Tryd.func45, Tryd.ntmps45
    go_wp2_with fail
    refine (disk_may b N FP st kv f _ HN.out).mono ?_
    rintro e w' ⟨rfl, rfl⟩
    rw [HM.out]
    go_wp2_with fail
    go_ret
    exact ⟨rfl, rfl⟩
set_option maxHeartbeats 3200000 in
set_option maxRecDepth 100000 in
theorem write_none (b N : Nat) (FP : List Nat) (st : DS) (kv : Value) (f a : Int) (w : World) (h : DiskObj w b FP N st kv) (hm : mayCode st f = 0) (ha : 0 ≤ a) (hle : a ≤ 16777216) :
    Calls Tryd.prog 45 #[.pointer (some ⟨b, 0, none⟩), .int .i64 f, .int .i64 a, .string ⟨#[]⟩] w fun e w' => e = .returned (.int .i64 0) ∧ w = w' := by
  have HN := Lib.hid h; clear h
  have HM := Lib.hid hm; clear hm
  have d1 : decide (a < 0) = false := decide_eq_false (by omega)
  have d2 : decide (16777216 < a) = false := decide_eq_false (by omega)
  have hsub : IntKind.i64.wrap (16777216 - a) = 16777216 - a := by rw [IntKind.wrap_i64]; omega
  have d3 : decide (16777216 - a < 0) = false := decide_eq_false (by omega)
  go_enter Tryd.func45, Tryd.ntmps45
  go_wp2_with fail
  refine (disk_may b N FP st kv f _ HN.out).mono ?_
  rintro e w' ⟨rfl, rfl⟩
  rw [HM.out]
  go_wp2_with fail
  go_ret
  exact ⟨rfl, rfl⟩

theorem wr_len (st : DS) (f a : Int) (s : ByteArray) : (wrS st f a s).Q.length ≤ st.Q.length + (s.size / 64 + 2) := by
  unfold wrS
  split
  · have := addSecs_length st.Q f ((a.toNat / 64 : Nat) : Int) ((a.toNat + s.size - 1) / 64 - a.toNat / 64 + 1)
    simp only
    omega
  · omega
theorem disk_write (b N : Nat) (FP : List Nat) (st : DS) (kv : Value) (f a : Int) (s : ByteArray) (w : World) (h : DiskObj w b FP N st kv) (hI : DInv st) (hf : (Lit.int .i64 f).wf = true)
    (hQl : st.Q.length ≤ 1000000) (hN : N + s.size / 64 + 20 < maxLen) :
    Calls Tryd.prog 45 #[.pointer (some ⟨b, 0, none⟩), .int .i64 f, .int .i64 a, .string s] w fun e w' => e = .returned (.int .i64 (wrCode st f a s)) ∧ DiskPost w b FP (N + 3 + s.size / 64) (wrS st f a s) kv w' := by
  have same : wrS st f a s = st → DiskPost w b FP (N + 3 + s.size / 64) (wrS st f a s) kv w := fun e => ⟨FP, by rw [e]; exact h.more (by omega), Evolves.of_same (Turns.refl _ _)⟩
  by_cases hm : mayCode st f = 0
  · by_cases ha : a < 0
    · have e1 : wrCode st f a s = 1 := by simp [wrCode, hm, ha]
      have e2 : wrS st f a s = st := by simp [wrS, e1]
      rw [e1]
      exact (write_neg b N FP st kv f a s w h hm ha).mono fun _ _ ⟨h1, h2⟩ => ⟨h1, h2 ▸ same e2⟩
    · by_cases hc : 16777216 < a ∨ 16777216 - a < (s.size : Int)
      · have e1 : wrCode st f a s = 6 := by rw [wrCode, if_neg (by simp [hm]), if_neg ha, if_pos hc]
        have e2 : wrS st f a s = st := by simp [wrS, e1]
        rw [e1]
        exact (write_full b N FP st kv f a s w h hm (by omega) hc).mono fun _ _ ⟨h1, h2⟩ => ⟨h1, h2 ▸ same e2⟩
      · have e1 : wrCode st f a s = 0 := by rw [wrCode, if_neg (by simp [hm]), if_neg ha, if_neg hc]
        rw [e1]
        by_cases hs : s.size = 0
        · have e2 : wrS st f a s = st := by rw [wrS, if_neg (by omega)]
          have : s = ⟨#[]⟩ := by
            obtain ⟨d⟩ := s
            have : d.size = 0 := hs
            rw [Array.size_eq_zero_iff.1 this]
          have hx := same e2
          rw [this] at hx ⊢
          exact (write_none b N FP st kv f a w h hm (by omega) (by omega)).mono fun _ _ ⟨h1, h2⟩ => ⟨h1, h2 ▸ hx⟩
        · have e2 : wrS st f a s = { st with F := updF st.F f { st.F f with now := putB (st.F f).now a.toNat s }, Q := addSecs st.Q f ((a.toNat / 64 : Nat) : Int) ((a.toNat + s.size - 1) / 64 - a.toNat / 64 + 1) } := by
            rw [wrS, if_pos ⟨e1, by omega⟩]
          obtain ⟨n, rfl⟩ := Int.eq_ofNat_of_zero_le (show 0 ≤ a by omega)
          rw [e2]
          simp only [Int.toNat_natCast]
          have hz := (hI.size f).2
          refine (write_some b N FP st kv f n s ((n + s.size - 1) / 64 - n / 64 + 1) _ w h hm hf (by omega) (by omega) hz (by omega) hQl rfl rfl).mono fun _ _ ⟨h1, h2⟩ => ⟨h1, ?_⟩
          have e3 : ((n / 64 : Nat) : Int) = (n : Int) / 64 := by omega
          rw [e3]
          exact h2.more (by omega)
  · have e1 : wrCode st f a s = mayCode st f := by rw [wrCode, if_pos hm]
    have e2 : wrS st f a s = st := by rw [wrS, e1, if_neg (by simp [hm])]
    rw [e1]
    exact (write_err b N FP st kv f a s w h hm).mono fun _ _ ⟨h1, h2⟩ => ⟨h1, h2 ▸ same e2⟩

/-- A disk with what is always so, and a bound on what it holds. -/
def DiskI (w : World) (b : Nat) (FP : List Nat) (B : Nat) (st : DS) (kv : Value) : Prop := DInv st ∧ ∃ N, N + st.Q.length ≤ B ∧ DiskObj w b FP N st kv
def DiskIPost (w : World) (b : Nat) (FP : List Nat) (B : Nat) (st : DS) (kv : Value) (w' : World) : Prop := ∃ FP', DiskI w' b FP' B st kv ∧ Evolves FP FP' w w'
/-- The numbers of Keep, in a row that is none of the disk's blocks. -/
def KeepV (w : World) (kv : Value) (K : List Int) (FP : List Nat) : Prop :=
  ∃ a c, kv = .slice a K.length c ∧ ∀ i (h : i < K.length), ∃ kb off, a = some ⟨kb, off, none⟩ ∧ kb ∉ FP ∧ w.cell? ⟨kb, off + i, none⟩ = some (.int .i64 K[i])
theorem KeepV.evolves {w w' : World} {kv : Value} {K : List Int} {FP FP' : List Nat} (h : KeepV w kv K FP) (he : Evolves FP FP' w w') : KeepV w' kv K FP' := by
  obtain ⟨a, c, rfl, hi⟩ := h
  refine ⟨a, c, rfl, fun i h => ?_⟩
  obtain ⟨kb, off, rfl, hn, hc⟩ := hi i h
  have hlt := World.block_lt_of_cell? _ _ hc
  refine ⟨kb, off, rfl, fun hx => ?_, (he.1.cell (a := ⟨kb, off + i, none⟩) hlt hn).trans hc⟩
  rcases he.2 kb hx with h1 | h1
  · exact hn h1
  · exact absurd hlt (by simpa using h1)
theorem KeepV.ints {w : World} {kv : Value} {K : List Int} {FP : List Nat} (h : KeepV w kv K FP) : IntsV w kv K ∧ (0 < K.length → apartV kv FP) := by
  obtain ⟨a, c, rfl, hi⟩ := h
  refine ⟨⟨a, c, rfl, fun i h => ?_⟩, fun h0 a' n c' e => ?_⟩
  · obtain ⟨kb, off, rfl, hn, hc⟩ := hi i h
    exact ⟨kb, off, rfl, hc⟩
  · obtain ⟨kb, off, rfl, hn, hc⟩ := hi 0 h0
    simp at e
    rw [← e.1]; exact hn
theorem KeepV.shape {w : World} {kv : Value} {K : List Int} {FP : List Nat} (h : KeepV w kv K FP) : ∃ a c, kv = .slice a K.length c := by
  obtain ⟨a, c, rfl, _⟩ := h; exact ⟨a, c, rfl⟩
theorem DiskI.post {w w' : World} {b B N : Nat} {FP : List Nat} {st : DS} {kv : Value} (hI : DInv st) (h : DiskPost w b FP N st kv w') (hB : N + st.Q.length ≤ B) : DiskIPost w b FP B st kv w' := by
  obtain ⟨FP', hD, hev⟩ := h
  exact ⟨FP', ⟨hI, N, hB, hD⟩, hev⟩
theorem DiskIPost.trans {a b c : World} {o B : Nat} {X Y : List Nat} {st : DS} {kv : Value} (h : Evolves X Y a b) (k : DiskIPost b o Y B st kv c) : DiskIPost a o X B st kv c := by
  obtain ⟨FP', hD, hev⟩ := k
  exact ⟨FP', hD, h.trans hev⟩
theorem DiskI.lt {w : World} {b B : Nat} {FP : List Nat} {st : DS} {kv : Value} (h : DiskI w b FP B st kv) : ∀ x ∈ FP, x < w.heap.size := by
  obtain ⟨_, N, _, hD⟩ := h; exact hD.lt
theorem DiskI.kept {w w' : World} {b B : Nat} {FP S : List Nat} {st : DS} {kv : Value} (h : DiskI w b FP B st kv) (ht : Turns S w w') (hd : ∀ x ∈ FP, x ∉ S) : DiskI w' b FP B st kv := by
  obtain ⟨hI, N, hB, hD⟩ := h; exact ⟨hI, N, hB, hD.kept ht hd⟩
theorem DiskI.more {w : World} {b B C : Nat} {FP : List Nat} {st : DS} {kv : Value} (h : DiskI w b FP B st kv) (hm : B ≤ C) : DiskI w b FP C st kv := by
  obtain ⟨hI, N, hB, hD⟩ := h; exact ⟨hI, N, by omega, hD⟩

end Go.Proofs.YtdcgdnlpagadcaaDoor

/- Contracts of package disk: Write. -/
namespace Go.Proofs.YtdcgdnlpagadcaaDoor
open Go.RowKit Go.Proofs.YtdcgdnlpagadcaaDoorMem Go.Maps

theorem crashI {b B : Nat} {FP : List Nat} {st : DS} {kv v : Value} {K : List Int} {w : World} (h : DiskI w b FP B st kv) (hv : KeepV w v K FP) (hB : B ≤ 900000) (hK : K.length ≤ 1000000) :
    Calls Tryd.prog 26 #[.pointer (some ⟨b, 0, none⟩), v] w fun e w' => e = .returned (.tuple #[]) ∧ DiskIPost w b FP B (crashS st K) kv w' := by
  obtain ⟨hI, N, hN, hD⟩ := h
  obtain ⟨h1, h2⟩ := hv.ints
  cases hd : st.down
  · refine (crash_up b N FP st kv v K w hD hd hI h1 h2 (by omega) (by unfold maxLen; omega) hK).mono fun _ _ ⟨e1, e2⟩ => ⟨e1, DiskI.post (hI.crash K) e2 ?_⟩
    have : (crashS st K).Q = [] := by simp [crashS, hd]
    rw [this]; simpa using hN
  · refine (crash_down b N FP st kv v K w hD hd).mono fun _ _ ⟨e1, e2⟩ => ⟨e1, DiskI.post (hI.crash K) e2 ?_⟩
    have : crashS st K = st := by simp [crashS, hd]
    rw [this]; exact hN
theorem endsS_Q (st : DS) : (endsS st).Q = st.Q := by unfold endsS; split <;> rfl
theorem endsI {b B : Nat} {FP : List Nat} {st : DS} {kv : Value} {w : World} (h : DiskI w b FP B st kv) :
    Calls Tryd.prog 44 #[.pointer (some ⟨b, 0, none⟩)] w fun e w' => e = .returned (.bool (endsB st)) ∧ DiskIPost w b FP B (endsS st) kv w' := by
  obtain ⟨hI, N, hN, hD⟩ := h
  exact (disk_ends b N FP st kv w hD hI.armed.1 hI.armed.2).mono fun _ _ ⟨e1, e2⟩ => ⟨e1, DiskI.post hI.ends e2 (by rw [endsS_Q]; exact hN)⟩
theorem mayI {b B : Nat} {FP : List Nat} {st : DS} {kv : Value} {w : World} (h : DiskI w b FP B st kv) (f : Int) :
    Calls Tryd.prog 41 #[.pointer (some ⟨b, 0, none⟩), .int .i64 f] w fun e w' => e = .returned (.int .i64 (mayCode st f)) ∧ w = w' := by
  obtain ⟨hI, N, hN, hD⟩ := h
  exact disk_may b N FP st kv f w hD
theorem wrI {b B : Nat} {FP : List Nat} {st : DS} {kv : Value} {w : World} (h : DiskI w b FP B st kv) (f a : Int) (s : ByteArray) (hf : (Lit.int .i64 f).wf = true) (hB : B ≤ 900000) (hs : s.size ≤ 16777217) :
    Calls Tryd.prog 45 #[.pointer (some ⟨b, 0, none⟩), .int .i64 f, .int .i64 a, .string s] w fun e w' => e = .returned (.int .i64 (wrCode st f a s)) ∧ DiskIPost w b FP (B + 8 + s.size) (wrS st f a s) kv w' := by
  obtain ⟨hI, N, hN, hD⟩ := h
  refine (disk_write b N FP st kv f a s w hD hI hf (by omega) (by unfold maxLen; omega)).mono fun _ _ ⟨e1, e2⟩ => ⟨e1, DiskI.post (hI.wr f a s) e2 ?_⟩
  have := wr_len st f a s
  omega

set_option maxHeartbeats 1600000 in
set_option maxRecDepth 100000 in
theorem writeI {b B : Nat} {FP : List Nat} {st : DS} {kv : Value} {K : List Int} {w : World} (h : DiskI w b FP B st kv) (hk : KeepV w kv K FP) (f a : Int) (s : ByteArray) (hf : (Lit.int .i64 f).wf = true)
    (hB : B + s.size ≤ 800000) (hK : K.length ≤ 1000000) :
    Calls Tryd.prog 32 #[.pointer (some ⟨b, 0, none⟩), .int .i64 f, .int .i64 a, .string s] w fun e w' => e = .returned (.int .i64 (writeCode st f a s)) ∧ DiskIPost w b FP (B + 8 + s.size) (writeS st K f a s) kv w' := by
  have HD := Lib.hid h; clear h
  have HK := Lib.hid hk; clear hk
  cases hE : endsB st
  · rw [writeCode, writeS, hE]
    simp only [Bool.false_eq_true, if_false]
    have HE := Lib.hid hE; clear hE
    go_enter Tryd.func32, Tryd.ntmps32
    go_wp2_with fail
    refine (endsI HD.out).mono ?_
    rintro e w1 ⟨rfl, FP1, hD1, hev1⟩
    rw [HE.out]
    have HD1 := Lib.hid (And.intro hD1 hev1); clear hD1 hev1
    go_wp2_with fail
    refine (wrI HD1.out.1 f a s hf (by omega) (by omega)).mono ?_
    rintro e w2 ⟨rfl, hP⟩
    have HP := Lib.hid hP; clear hP
    go_wp2_with fail
    go_ret
    exact ⟨rfl, HP.out.trans HD1.out.2⟩
  · rw [writeCode, writeS, hE]
    simp only [if_true]
    have HE := Lib.hid hE; clear hE
    go_enter Tryd.func32, Tryd.ntmps32
    go_wp2_with fail
    refine (endsI HD.out).mono ?_
    rintro e w1 ⟨rfl, FP1, hD1, hev1⟩
    rw [HE.out]
    have HD1 := Lib.hid (And.intro hD1 hev1); clear hD1 hev1
    go_wp2_with fail
    refine (wrI HD1.out.1 f a s hf (by omega) (by omega)).mono ?_
    rintro e w2 ⟨rfl, FP2, hD2, hev2⟩
    have hk2 := (HK.out.evolves HD1.out.2).evolves hev2
    have c6 : w2.cell? ⟨b, 6, none⟩ = some kv := by
      obtain ⟨_, N, _, fb, sb, qv, hb, _⟩ := hD2
      exact cell_at hb 6
    have HD2 := Lib.hid (And.intro hD2 (And.intro hev2 hk2)); clear hD2 hev2 hk2
    obtain ⟨ka, kc, rfl⟩ := HK.out.shape
    go_wp2_with fail
    refine (crashI HD2.out.1 HD2.out.2.2 (by omega) hK).mono ?_
    rintro e w3 ⟨rfl, hP⟩
    have HP := Lib.hid hP; clear hP
    go_wp2_with fail
    go_ret
    exact ⟨rfl, (HP.out.trans HD2.out.2.1).trans HD1.out.2⟩

end Go.Proofs.YtdcgdnlpagadcaaDoor

/- Contracts of package disk: settle's closures, slices.IndexFunc. -/
namespace Go.Proofs.YtdcgdnlpagadcaaDoor
open Go.RowKit Go.Proofs.YtdcgdnlpagadcaaDoorMem Go.Maps

set_option maxHeartbeats 400000 in
set_option maxRecDepth 100000 in
theorem closure91 (g m f : Int) (c : Nat) (w : World) (hc : w.cell? ⟨c, 0, none⟩ = some (.int .i64 f)) :
    Calls Tryd.prog 55 #[.agg #[.int .i64 g, .int .i64 m], .pointer (some ⟨c, 0, none⟩)] w fun e w' => e = .returned (.bool (g == f)) ∧ Turns [] w w' := by
  have hcs := World.block_lt_of_cell? w _ hc
  have ca : ∀ o, (w.alloc o).cell? ⟨c, 0, none⟩ = some (.int .i64 f) := fun o => by rw [World.cell?_alloc_past _ _ _ hcs]; exact hc
  go_enter Tryd.func55, Tryd.ntmps55
  go_wp2
  go_ret
  exact ⟨rfl, Turns.alloc [] w _⟩
set_option maxHeartbeats 400000 in
set_option maxRecDepth 100000 in
theorem closure93 (g m f : Int) (x : Bool) (c : Nat) (w : World) (hc : w.cell? ⟨c, 0, none⟩ = some (.int .i64 f)) :
    Calls Tryd.prog 57 #[.agg #[.int .i64 g, .int .i64 m], .bool x, .pointer (some ⟨c, 0, none⟩)] w fun e w' => e = .returned (.bool (g == f)) ∧ Turns [] w w' := by
  have hcs := World.block_lt_of_cell? w _ hc
  have ca : ∀ o, (w.alloc o).cell? ⟨c, 0, none⟩ = some (.int .i64 f) := fun o => by rw [World.cell?_alloc_past _ _ _ hcs]; exact hc
  go_enter Tryd.func57, Tryd.ntmps57
  go_wp2
  go_ret
  exact ⟨rfl, Turns.alloc [] w _⟩

/-- The sectors of a row. -/
def SecsAt (w : World) (a : Option Addr) (Q : List (Int × Int)) : Prop :=
  ∀ i (h : i < Q.length), ∃ g, a = some ⟨g, 0, none⟩ ∧ w.cell? ⟨g, i * 2, none⟩ = some (.int .i64 Q[i].1) ∧ w.cell? ⟨g, i * 2 + 1, none⟩ = some (.int .i64 Q[i].2)
theorem SecsAt.kept {w w' : World} {a : Option Addr} {Q : List (Int × Int)} (h : SecsAt w a Q) (ht : Turns [] w w') : SecsAt w' a Q := by
  intro i hi
  obtain ⟨g, rfl, h0, h1⟩ := h i hi
  exact ⟨g, rfl, (ht.cell (World.block_lt_of_cell? _ _ h0) (by simp)).trans h0, (ht.cell (World.block_lt_of_cell? _ _ h1) (by simp)).trans h1⟩

/-- The first of the sectors of file f, or -1. -/
def firstOf (Q : List (Int × Int)) (f : Int) : Int := match Q.findIdx? (fun p => p.1 == f) with | some i => i | none => -1
theorem firstOf_at {Q : List (Int × Int)} {f : Int} {k : Nat} (hk : k < Q.length) (h1 : ∀ j (h : j < k), (Q[j].1 == f) = false) (h2 : (Q[k].1 == f) = true) : firstOf Q f = k := by
  have : Q.findIdx? (fun p => p.1 == f) = some k := by
    rw [List.findIdx?_eq_some_iff_getElem]
    exact ⟨hk, h2, fun j hj => by simpa using h1 j hj⟩
  simp [firstOf, this]
theorem firstOf_none {Q : List (Int × Int)} {f : Int} (h1 : ∀ j (h : j < Q.length), (Q[j].1 == f) = false) : firstOf Q f = -1 := by
  have : Q.findIdx? (fun p => p.1 == f) = none := by
    rw [List.findIdx?_eq_none_iff]
    intro x hx
    obtain ⟨i, hi, rfl⟩ := List.getElem_of_mem hx
    exact h1 i hi
  simp [firstOf, this]

set_option maxHeartbeats 800000 in
set_option maxRecDepth 100000 in
theorem index_secs (a : Option Addr) (cap : Nat) (Q : List (Int × Int)) (f : Int) (c : Nat) (w : World) (h : SecsAt w a Q) (hc : w.cell? ⟨c, 0, none⟩ = some (.int .i64 f)) (hl : Q.length ≤ 1000000) :
    Calls Tryd.prog 58 #[.slice a Q.length cap, .func (.func 55) #[] #[.pointer (some ⟨c, 0, none⟩)]] w fun e w' => e = .returned (.int .i64 (firstOf Q f)) ∧ Turns [] w w' := by
  have HS := Lib.hid h; clear h
  have HC := Lib.hid hc; clear hc
  go_enter Tryd.func58, Tryd.ntmps58
  go_wp2_with fail
  go_loopw [8] (fun i wr => ∃ k : Nat, k ≤ Q.length ∧ i = .int .i64 k ∧ Hid (∀ j (h : j < k) (h2 : j < Q.length), (Q[j].1 == f) = false) ∧ Hid (Turns [] w wr)) (fun i _ => Q.length - (intOf i).toNat)
  case atStart => exact ⟨0, Nat.zero_le _, rfl, fun j h => by omega, Turns.refl _ _⟩
  case round =>
    obtain ⟨k, hk, rfl, hno, hT⟩ := hrel
    by_cases hlt : k < Q.length
    · obtain ⟨g, rfl, q0, q1⟩ := HS.out.kept hT.out k hlt
      obtain ⟨p, hp⟩ : ∃ p, p = Q[k] := ⟨_, rfl⟩
      rw [← hp] at q0 q1
      have HP := Lib.hid hp; clear hp
      have hltI : (k : Int) < (Q.length : Int) := by omega
      have hcw : wr.cell? ⟨c, 0, none⟩ = some (.int .i64 f) := (hT.out.cell (World.block_lt_of_cell? _ _ HC.out) (by simp)).trans HC.out
      have HCW := Lib.hid hcw; clear hcw
      go_wp2_with fail
      refine (closure91 p.1 p.2 f c _ HCW.out).mono ?_
      rintro e w1 ⟨rfl, ht1⟩
      have HT1 := Lib.hid ht1; clear ht1
      cases hb : (p.1 == f)
      · have HB := Lib.hid hb; clear hb
        go_wp2_with fail
        go_roundw
        case rel => exact ⟨k + 1, by omega, by go_num, fun j hj h2 => by
          by_cases e : j = k
          · subst e; rw [← HP.out]; exact HB.out
          · exact hno.out j (by omega) h2, hT.out.trans HT1.out⟩
        case measure => simp [intOf]; omega
      · have HB := Lib.hid hb; clear hb
        go_wp2_with fail
        go_ret
        refine ⟨?_, hT.out.trans HT1.out⟩
        rw [firstOf_at hlt (fun j hj => hno.out j hj (by omega)) (by rw [← HP.out]; exact HB.out)]; rfl
    · have hltI : decide ((k : Int) < (Q.length : Int)) = false := decide_eq_false (by omega)
      have hkq : Q.length ≤ k := by omega
      have HF : Hid (firstOf Q f = -1) := firstOf_none (fun j hj => hno.out j (by omega) hj)
      go_wp2_with fail
      go_ret
      exact ⟨by rw [HF.out]; rfl, hT.out⟩

end Go.Proofs.YtdcgdnlpagadcaaDoor

/- Contracts of package disk: slices.DeleteFunc of the queue. -/
namespace Go.Proofs.YtdcgdnlpagadcaaDoor
open Go.RowKit Go.Proofs.YtdcgdnlpagadcaaDoorMem Go.Maps

def keepF (f : Int) (p : Int × Int) : Bool := p.1 != f
/-- In the middle of the deletion: i are kept, j are looked at; the row holds L. -/
def DelMid (Q : List (Int × Int)) (f : Int) (i j : Nat) (L : List (Int × Int)) : Prop :=
  L.length = Q.length ∧ i ≤ j ∧ L.take i = (Q.take j).filter (keepF f) ∧ L.drop j = Q.drop j
theorem DelMid.at_j {Q L : List (Int × Int)} {f : Int} {i j : Nat} (h : DelMid Q f i j L) (hj : j < Q.length) (hj2 : j < L.length) : L[j] = Q[j] := by
  have h1 := h.2.2.2
  rw [List.drop_eq_getElem_cons hj, List.drop_eq_getElem_cons hj2] at h1
  exact (List.cons.inj h1).1
theorem DelMid.drop {Q L : List (Int × Int)} {f : Int} {i j : Nat} (h : DelMid Q f i j L) (hj : j < Q.length) (hk : keepF f Q[j] = false) : DelMid Q f i (j + 1) L := by
  obtain ⟨h1, h2, h3, h4⟩ := h
  refine ⟨h1, by omega, ?_, ?_⟩
  · rw [h3, List.take_succ_eq_append_getElem hj, List.filter_append]
    simp [hk]
  · have := congrArg (List.drop 1) h4
    simpa [List.drop_drop, Nat.add_comm] using this
theorem DelMid.keep {Q L : List (Int × Int)} {f : Int} {i j : Nat} (h : DelMid Q f i j L) (hj : j < Q.length) (hij : i < j) (hk : keepF f Q[j] = true) : DelMid Q f (i + 1) (j + 1) (L.set i Q[j]) := by
  obtain ⟨h1, h2, h3, h4⟩ := h
  refine ⟨by simpa using h1, by omega, ?_, ?_⟩
  · have hi : i < (L.set i Q[j]).length := by simp; omega
    rw [List.take_succ_eq_append_getElem hi, List.getElem_set_self, List.take_set_of_le (Nat.le_refl i), h3, List.take_succ_eq_append_getElem hj, List.filter_append]
    simp [hk]
  · rw [List.drop_set_of_lt (by omega)]
    have := congrArg (List.drop 1) h4
    simpa [List.drop_drop, Nat.add_comm] using this
theorem DelMid.start {Q : List (Int × Int)} {f : Int} {k : Nat} (hk : k < Q.length) (h : firstOf Q f = k) : DelMid Q f k (k + 1) Q := by
  unfold firstOf at h
  split at h
  · rename_i i hi
    obtain rfl : i = k := by omega
    rw [List.findIdx?_eq_some_iff_getElem] at hi
    obtain ⟨_, h1, h2⟩ := hi
    refine ⟨rfl, by omega, ?_, rfl⟩
    rw [List.take_succ_eq_append_getElem hk, List.filter_append]
    have e1 : (Q.take i).filter (keepF f) = Q.take i := by
      rw [List.filter_eq_self]
      intro p hp
      obtain ⟨j, hj, rfl⟩ := List.getElem_of_mem hp
      have hji : j < i := by simp at hj; omega
      have := h2 j hji
      simp only [List.getElem_take, keepF]
      simpa using this
    have e2 : keepF f Q[i] = false := by simpa [keepF] using h1
    rw [e1]
    simp [e2]
  · omega
theorem firstOf_cases (Q : List (Int × Int)) (f : Int) : (firstOf Q f = -1 ∧ Q.filter (keepF f) = Q) ∨ ∃ k : Nat, k < Q.length ∧ firstOf Q f = k := by
  unfold firstOf
  cases h : Q.findIdx? (fun p => p.1 == f) with
  | none =>
    left
    refine ⟨rfl, ?_⟩
    rw [List.filter_eq_self]
    intro p hp
    rw [List.findIdx?_eq_none_iff] at h
    have := h p hp
    simpa [keepF] using this
  | some i =>
    right
    rw [List.findIdx?_eq_some_iff_getElem] at h
    exact ⟨i, h.1, rfl⟩

theorem secCells_take (Q : List (Int × Int)) (i : Nat) : (secCells Q).take (i * 2) = secCells (Q.take i) := by
  induction Q generalizing i with
  | nil => simp [secCells]
  | cons a l ih =>
    cases i with
    | zero => simp [secCells]
    | succ i =>
      have := ih i
      simp only [secCells, List.flatMap_cons, List.take_succ_cons] at *
      rw [show (i + 1) * 2 = [Value.int .i64 a.1, Value.int .i64 a.2].length + i * 2 by simp; omega, List.take_length_add_append, this]
theorem secCells_set (L : List (Int × Int)) (i : Nat) (p : Int × Int) : ((secCells L).set (i * 2) (.int .i64 p.1)).set (i * 2 + 1) (.int .i64 p.2) = secCells (L.set i p) := by
  induction L generalizing i with
  | nil => simp [secCells]
  | cons a l ih =>
    cases i with
    | zero => simp [secCells]
    | succ i =>
      have := ih i
      simp only [secCells, List.flatMap_cons, List.set_cons_succ, List.cons_append, List.nil_append] at *
      rw [show (i + 1) * 2 + 1 = (i * 2 + 1) + 1 + 1 by omega, show (i + 1) * 2 = (i * 2) + 1 + 1 by omega]
      simp only [List.set_cons_succ]
      rw [this]

/-- Row g holds the sectors L. -/
def RowL (w : World) (g cap : Nat) (L : List (Int × Int)) : Prop :=
  ∃ cur : Array Value, w.heap[g]? = some (.cells cur 81 (0, 0)) ∧ L.length ≤ cap ∧ cap ≤ maxLen ∧ cur.size = cap * 2 ∧ cur.toList.take (L.length * 2) = secCells L
theorem RowL.kept {w w' : World} {g cap : Nat} {L : List (Int × Int)} (h : RowL w g cap L) (ht : Turns [] w w') : RowL w' g cap L := by
  obtain ⟨cur, hg, r⟩ := h
  exact ⟨cur, (ht.block g (lt_of_at hg) (by simp)).trans hg, r⟩
theorem RowL.own {w : World} {g cap : Nat} {L : List (Int × Int)} (h : RowL w g cap L) : w.ownsRow 0 81 2 (.slice (some ⟨g, 0, none⟩) L.length cap) L.length (secCells L) := by
  obtain ⟨cur, hg, h1, h2, h3, h4⟩ := h
  exact ⟨secCells_length L, .inr ⟨g, cap, cur, rfl, Nat.zero_le _, hg, h1, h2, h3, h4⟩⟩
theorem RowL.of_own {w : World} {g cap : Nat} {L : List (Int × Int)} (h : w.ownsRow 0 81 2 (.slice (some ⟨g, 0, none⟩) L.length cap) L.length (secCells L)) : RowL w g cap L := by
  rcases h.2 with ⟨h1, _⟩ | ⟨g', cap', cur, h1, _, hg, h2, h3, h4, h5⟩
  · simp at h1
  · simp at h1
    obtain ⟨rfl, rfl⟩ := h1
    exact ⟨cur, hg, h2, h3, h4, h5⟩
theorem RowL.set {w : World} {g cap : Nat} {L : List (Int × Int)} (h : RowL w g cap L) (i : Nat) (p : Int × Int) : RowL ((w.setCell ⟨g, i * 2, none⟩ (.int .i64 p.1)).setCell ⟨g, i * 2 + 1, none⟩ (.int .i64 p.2)) g cap (L.set i p) := by
  obtain ⟨cur, hg, h1, h2, h3, h4⟩ := h
  refine ⟨_, heap_setCell_at (heap_setCell_at hg _ _) _ _, by simpa using h1, h2, by simpa using h3, ?_⟩
  rw [← secCells_set, ← h4]
  simp only [Array.toList_setIfInBounds, List.length_set]
  rw [List.take_set, List.take_set]
theorem RowL.cells {w : World} {g cap : Nat} {L : List (Int × Int)} (h : RowL w g cap L) (i : Nat) (hi : i < L.length) :
    w.cell? ⟨g, i * 2, none⟩ = some (.int .i64 L[i].1) ∧ w.cell? ⟨g, i * 2 + 1, none⟩ = some (.int .i64 L[i].2) ∧ w.frozen? ⟨g, i * 2, none⟩ = false ∧ w.frozen? ⟨g, i * 2 + 1, none⟩ = false := by
  obtain ⟨cur, hg, h1, h2, h3, h4⟩ := h
  obtain ⟨a, b⟩ := sec_cell hg h4 i hi
  exact ⟨a, b, free_at hg _, free_at hg _⟩
theorem RowL.lt {w : World} {g cap : Nat} {L : List (Int × Int)} (h : RowL w g cap L) : g < w.heap.size := by
  obtain ⟨cur, hg, _⟩ := h; exact lt_of_at hg

end Go.Proofs.YtdcgdnlpagadcaaDoor

/- Contracts of package disk: slices.DeleteFunc of the queue, the walk. -/
namespace Go.Proofs.YtdcgdnlpagadcaaDoor
open Go.RowKit Go.Proofs.YtdcgdnlpagadcaaDoorMem Go.Maps

theorem zeros_one (n : Nat) : ∀ u ∈ (Builtin.zeroCells #[.int .i64 0, .int .i64 0] n).toList, u.oneCell' = true := by
  intro u hu
  simp only [Builtin.zeroCells, Array.mem_toList_iff, Array.mem_map] at hu
  obtain ⟨i, _, rfl⟩ := hu
  show (#[Value.int .i64 0, .int .i64 0][i % 2]!).oneCell' = true
  rcases (by omega : i % 2 = 0 ∨ i % 2 = 1) with h | h <;> rw [h] <;> rfl
theorem Tryd.zero81 (w : World) : (zeroValue 81).run Tryd.prog w = .ok (.agg #[.int .i64 0, .int .i64 0]) w := by kernel_rfl

set_option maxHeartbeats 1600000 in
set_option maxRecDepth 100000 in
theorem delete_secs (g cap : Nat) (f : Int) (c : Nat) (Q : List (Int × Int)) (w : World) (hR : RowL w g cap Q) (hc : w.cell? ⟨c, 0, none⟩ = some (.int .i64 f)) (hcg : c ≠ g) (hl : Q.length ≤ 1000000) :
    Calls Tryd.prog 54 #[.slice (some ⟨g, 0, none⟩) Q.length cap, .func (.func 55) #[] #[.pointer (some ⟨c, 0, none⟩)]] w fun e w' => e = .returned (.slice (some ⟨g, 0, none⟩) (Q.filter (keepF f)).length cap) ∧
      w'.ownsRow 0 81 2 (.slice (some ⟨g, 0, none⟩) (Q.filter (keepF f)).length cap) (Q.filter (keepF f)).length (secCells (Q.filter (keepF f))) ∧ Turns [g] w w' := by
  have HR := Lib.hid hR; clear hR
  have HC := Lib.hid hc; clear hc
  have hS : SecsAt w (some ⟨g, 0, none⟩) Q := fun i hi => ⟨g, rfl, (HR.out.cells i hi).1, (HR.out.cells i hi).2.1⟩
  have HS := Lib.hid hS; clear hS
  rcases firstOf_cases Q f with ⟨h1, h2⟩ | ⟨k, hk, hfk⟩
  · rw [h2]
    have H1 := Lib.hid h1; clear h1
    have H2 := Lib.hid h2; clear h2
    go_enter Tryd.func54, Tryd.ntmps54
    go_wp2_with fail
    refine (index_secs _ cap Q f c _ HS.out HC.out hl).mono ?_
    rintro e w1 ⟨rfl, ht1⟩
    rw [H1.out]
    have HT := Lib.hid ht1; clear ht1
    go_wp2_with fail
    go_ret
    exact ⟨rfl, (HR.out.kept HT.out).own, HT.out.mono (by simp)⟩
  · have HFK := Lib.hid hfk
    have hst := Lib.hid (DelMid.start hk hfk); clear hfk
    have hkm : ((k : Int) == -1) = false := by simp
    go_enter Tryd.func54, Tryd.ntmps54
    go_wp2_with fail
    refine (index_secs _ cap Q f c _ HS.out HC.out hl).mono ?_
    rintro e w1 ⟨rfl, ht1⟩
    rw [HFK.out]
    have HT := Lib.hid ht1; clear ht1
    go_wp2_with fail
    go_loopw [5, 6] (fun iv jv wr => ∃ (i j : Nat) (L : List (Int × Int)), iv = .int .i64 i ∧ jv = .int .i64 j ∧ j ≤ Q.length ∧ i < j ∧ Hid (DelMid Q f i j L) ∧ Hid (RowL wr g cap L) ∧ Hid (Turns [g] w wr)) (fun _ jv _ => Q.length - (intOf jv).toNat)
    case atStart => exact ⟨k, k + 1, Q, rfl, by go_num, by omega, by omega, hst.out, HR.out.kept HT.out, HT.out.mono (by simp)⟩
    case round =>
      obtain ⟨i, j, L, rfl, rfl, hj, hij, HM, HRL, HTW⟩ := hrel
      by_cases hlt : j < Q.length
      · have hjL : j < L.length := by rw [HM.out.1]; exact hlt
        have hLj := HM.out.at_j hlt hjL
        obtain ⟨q0, q1, -⟩ := HRL.out.cells j hjL
        rw [hLj] at q0 q1
        obtain ⟨p, hp⟩ : ∃ p, p = Q[j] := ⟨_, rfl⟩
        rw [← hp] at q0 q1
        have HP := Lib.hid hp; clear hp hLj
        have hltI : (j : Int) < (Q.length : Int) := by omega
        have hcw : wr.cell? ⟨c, 0, none⟩ = some (.int .i64 f) := (HTW.out.cell (World.block_lt_of_cell? _ _ HC.out) (by simpa using hcg)).trans HC.out
        have HCW := Lib.hid hcw; clear hcw
        have hVB : (wr.alloc (.cells #[.int .i64 p.1, .int .i64 p.2] 81)).heap[wr.heap.size]? = some (.cells #[.int .i64 p.1, .int .i64 p.2] 81 (0, 0)) := heap_alloc_here wr _
        have HVB := Lib.hid hVB; clear hVB
        have hgs := HRL.out.lt
        go_wp2_with fail
        refine (closure91 p.1 p.2 f c _ (((Turns.alloc [] wr _).cell (World.block_lt_of_cell? _ _ HCW.out) (by simp)).trans HCW.out)).mono ?_
        rintro e w2 ⟨rfl, ht2⟩
        have hbx := (ht2.block wr.heap.size (by simp) (by simp)).trans HVB.out
        have HT2 := Lib.hid ((Turns.alloc [] wr (.cells #[.int .i64 p.1, .int .i64 p.2] 81)).trans ht2); clear ht2
        have b0 : w2.cell? ⟨wr.heap.size, 0, none⟩ = some (.int .i64 p.1) := cell_at hbx 0
        have b1 : w2.cell? ⟨wr.heap.size, 1, none⟩ = some (.int .i64 p.2) := cell_at hbx 1
        clear hbx
        cases hb : (p.1 == f)
        · have hkp : keepF f Q[j] = true := by rw [← HP.out]; show (!(p.1 == f)) = true; rw [hb]; rfl
          have HB := Lib.hid (HM.out.keep hlt hij hkp); clear hb hkp
          obtain ⟨-, -, f0, f1⟩ := (HRL.out.kept HT2.out).cells i (by rw [HM.out.1]; omega)
          obtain ⟨y0, y1, -, -⟩ := (HRL.out.kept HT2.out).cells i (by rw [HM.out.1]; omega)
          have HRW := Lib.hid (((HRL.out.kept HT2.out).set i p)); 
          have hiI : (i : Int) < (Q.length : Int) := by omega
          generalize wr.heap.size = B0 at *
          go_wp2_with fail
          go_roundw
          case rel =>
            refine ⟨i + 1, j + 1, L.set i p, by go_num, by go_num, by omega, by omega, ?_, HRW.out, ?_⟩
            · have := HB.out; rw [← HP.out] at this; exact this
            · exact HTW.out.trans ((HT2.out.mono (by simp)).trans ((Turns.setCell _ _ _ (by simp)).trans (Turns.setCell _ _ _ (by simp))))
          case measure => simp [intOf]; omega
        · have hkp : keepF f Q[j] = false := by rw [← HP.out]; show (!(p.1 == f)) = false; rw [hb]; rfl
          have HB := Lib.hid (HM.out.drop hlt hkp); clear hb hkp
          generalize wr.heap.size = B0 at *
          go_wp2_with fail
          go_roundw
          case rel => exact ⟨i, j + 1, L, rfl, by go_num, by omega, by omega, HB.out, HRL.out.kept HT2.out, HTW.out.trans (HT2.out.mono (by simp))⟩
          case measure => simp [intOf]; omega
      · obtain rfl : j = Q.length := by omega
        obtain ⟨cur, hg, l1, l2, l3, l4⟩ := HRL.out
        have hiL : i < L.length := by rw [HM.out.1]; exact hij
        have hlL : L.length = Q.length := HM.out.1
        have hzl : (Builtin.zeroCells (Value.cells (.agg #[.int .i64 0, .int .i64 0])) (Q.length - i)).toList.length = (Q.length - i) * 2 := by
          rw [Array.length_toList, size_zeroCells]; rfl
        have hcl := fun ty => run_clear_row (P := Tryd.prog) wr 59 81 ty _ Tryd.underlying59 Tryd.zero81 g (i * 2) (Q.length - i) (cap - i) cur 81 hg (by omega) (zeros_one _) (by rw [hzl]; omega)
        have hfl : (Q.filter (keepF f)).length = i := by
          have h1 := HM.out.2.2.1
          rw [List.take_of_length_le (Nat.le_refl _)] at h1
          rw [← h1]; simp; omega
        have HFIN : Hid (∀ cur2 : Array Value, cur2.toList = cur.toList.take (i * 2) ++ (Builtin.zeroCells (Value.cells (.agg #[.int .i64 0, .int .i64 0])) (Q.length - i)).toList ++ cur.toList.drop (i * 2 + (Builtin.zeroCells (Value.cells (.agg #[.int .i64 0, .int .i64 0])) (Q.length - i)).toList.length) →
          (wr.setRow g cur2).ownsRow 0 81 2 (.slice (some ⟨g, 0, none⟩) (Q.filter (keepF f)).length cap) (Q.filter (keepF f)).length (secCells (Q.filter (keepF f))) ∧ Turns [g] w (wr.setRow g cur2)) := by
          intro cur2 h2
          refine ⟨⟨secCells_length _, .inr ⟨g, cap, cur2, rfl, Nat.zero_le _, setRow_heap wr g cur cur2 81 (0, 0) hg, by omega, l2, ?_, ?_⟩⟩, HTW.out.trans (Turns.setRow _ g _ (by simp))⟩
          · have := congrArg List.length h2
            simp only [Array.length_toList, List.length_append, List.length_take, List.length_drop, hzl] at this
            omega
          · rw [h2, List.append_assoc, hfl, List.take_append_of_le_length (by simp; omega), List.take_take, Nat.min_self]
            have h1 := HM.out.2.2.1
            rw [List.take_of_length_le (Nat.le_refl _)] at h1
            rw [← h1, ← secCells_take, ← l4, List.take_take, Nat.min_eq_left (by omega)]
        have HFL := Lib.hid hfl
        have hic : ¬ cap = i := by omega
        have hic2 : i ≤ cap := by omega
        clear hg l1 l2 l3 l4 hfl hzl hlL hiL
        go_wp2_with fail
        go_ret
        refine ⟨by rw [HFL.out]; rfl, HFIN.out _ ?_⟩
        simp
        rfl

end Go.Proofs.YtdcgdnlpagadcaaDoor

/- Contracts of package disk: maps.DeleteFunc of the set of sectors. -/
namespace Go.Proofs.YtdcgdnlpagadcaaDoor
open Go.RowKit Go.Proofs.YtdcgdnlpagadcaaDoorMem Go.Maps

set_option maxRecDepth 100000 in
theorem int_lits_inv {d : Nat} {v : Value} {ls : List Lit} (h : Tryd.prog.keyLits (d + 1) 3 [v] = some ls) : ∃ a : Int, v = .int .i64 a ∧ (Lit.int .i64 a).wf = true := by
  unfold Program.keyLits at h
  rw [Tryd.underlying3] at h
  cases v <;> simp at h
  obtain ⟨⟨rfl, hw⟩, _⟩ := h
  exact ⟨_, rfl, hw⟩
set_option maxRecDepth 100000 in
theorem sec_key_inv {key : Value} {kl : Lit} (h : keyOf Tryd.prog 81 key = some kl) : ∃ g m : Int, key = secVal g m ∧ (Lit.int .i64 g).wf = true ∧ (Lit.int .i64 m).wf = true := by
  obtain ⟨d, hd⟩ := Tryd.types2
  simp only [keyOf, Tryd.underlying81, Tryd.keyType81, hd, Bool.true_and] at h
  split at h
  · rename_i hf
    cases key <;> simp only [Value.formed, Tryd.underlying81, Tryd.cells81, Bool.false_eq_true] at hf
    rename_i cs
    have hsz : cs.size = 2 := by simpa using hf
    obtain ⟨a, b, rfl⟩ : ∃ a b, cs = #[a, b] := ⟨cs[0], cs[1], by
      apply Array.ext
      · simpa using hsz
      · intro i h1 h2
        have h3 : i < 2 := by omega
        rcases (by omega : i = 0 ∨ i = 1) with rfl | rfl <;> rfl⟩
    cases hk : Tryd.prog.keyLits (d + 2) 81 (Value.agg #[a, b]).cells.toList with
    | none => rw [hk] at h; simp at h
    | some ls =>
      unfold Program.keyLits at hk
      simp only [Tryd.underlying81, Value.cells, Tryd.cells81] at hk
      split at hk
      · cases h0 : Tryd.prog.keyLits (d + 1) 3 [a] with
        | none => simp [Tryd.cells3, h0] at hk
        | some l0 =>
          cases h1 : Tryd.prog.keyLits (d + 1) 3 [b] with
          | none => simp [Tryd.cells3, h0, h1] at hk
          | some l1 =>
            obtain ⟨g, rfl, hg⟩ := int_lits_inv h0
            obtain ⟨m, rfl, hm⟩ := int_lits_inv h1
            exact ⟨g, m, rfl, hg, hm⟩
      · simp at hk
  · simp at h
set_option maxRecDepth 100000 in
theorem bool_elem_inv {v : Value} {y : DataW Unit × List MemPlace} (h : plainElem (H := Unit) Tryd.prog 4 v = some y) : ∃ x, v = .bool x := by
  unfold plainElem at h
  rw [Tryd.underlying4] at h
  cases v <;> simp at h
  exact ⟨_, rfl⟩

/-- In the middle of the deletion from the set b, by the iterator r. -/
def SetMid (w : World) (b r n : Nat) (S : Int → Int → Bool) (f : Int) (cnt : Nat) : Prop :=
  ∃ (D : DataW Unit) (lf : Lit → Bool), w.ranges Tryd.prog 81 (plainElem Tryd.prog 4) b r n D lf cnt ∧ IsMap D ∧
    ∀ (g m : Int) (kl : Lit), keyOf Tryd.prog 81 (secVal g m) = some kl → D.atKey kl (.lit (.bool false)) = .lit (.bool (S g m && (!(g == f) || lf kl)))
theorem SetAt.range {w : World} {b n : Nat} {S : Int → Int → Bool} (h : SetAt w b n S) (f : Int) :
    ∃ w' cnt, (Instr.range 58 (.map (some b))).run Tryd.prog w = .ok (.pointer (some ⟨w.heap.size, 0, none⟩)) w' ∧ SetMid w' b w.heap.size n S f cnt ∧ Turns [] w w' := by
  obtain ⟨D, ho, hm, hD⟩ := h
  obtain ⟨w', hr, hra, hg, -⟩ := ho.range Tryd.keyed81 Tryd.underlying58
  refine ⟨w', _, hr, ⟨D, _, hra, hm, fun g m kl hk => ?_⟩, Turns.of_grown hg (by simp)⟩
  have h1 := hD g m kl hk
  cases hh : Maps.has D kl
  · rw [atKey_of_not_has hh] at h1
    have : S g m = false := by simpa using h1.symm
    rw [atKey_of_not_has hh, this]; rfl
  · rw [h1]; simp
theorem SetMid.left_eq {w : World} {b r n : Nat} {S : Int → Int → Bool} {f : Int} {cnt : Nat} (h : SetMid w b r n S f cnt) : w.rangeLeft b r = cnt := by
  obtain ⟨D, lf, hr, _⟩ := h
  exact hr.left_eq
theorem SetMid.ne {w : World} {b r n : Nat} {S : Int → Int → Bool} {f : Int} {cnt : Nat} (h : SetMid w b r n S f cnt) : r ≠ b ∧ r < w.heap.size ∧ b < w.heap.size := by
  obtain ⟨D, lf, hr, _⟩ := h
  exact ⟨hr.ne, hr.lt, hr.owns.lt⟩

theorem sec_same {g m g' m' : Int} {kl kl' : Lit} (h : keyOf Tryd.prog 81 (secVal g m) = some kl) (h' : keyOf Tryd.prog 81 (secVal g' m') = some kl') : kl'.sameKey kl = (g' == g && m' == m) := by
  by_cases e : kl' = kl
  · subst e
    have := Tryd.keyed81.inj h' h
    simp [secVal] at this
    obtain ⟨rfl, rfl⟩ := this
    rw [WideAt.sameKey_self (Tryd.keyed81.key h)]; simp
  · rw [sameKey_ne e]
    symm
    rw [Bool.eq_false_iff]
    intro h2
    simp at h2
    obtain ⟨rfl, rfl⟩ := h2
    rw [h] at h'
    exact e (Option.some.inj h').symm

/-- The next of the entries: none, or one that is struck where it is of file f. -/
theorem SetMid.next {w : World} {b r n : Nat} {S : Int → Int → Bool} {f : Int} {cnt : Nat} (h : SetMid w b r n S f cnt) :
    ((Instr.next (.pointer (some ⟨r, 0, none⟩)) false 0).run Tryd.prog w = .ok (.tuple #[.bool false]) w ∧ SetAt w b n (fun g m => S g m && !(g == f))) ∨
    ∃ (g m : Int) (x : Bool) (w1 : World) (cnt1 : Nat), cnt1 < cnt ∧ (Instr.next (.pointer (some ⟨r, 0, none⟩)) false 0).run Tryd.prog w = .ok (.tuple #[.bool true, secVal g m, .bool x]) w1 ∧ Turns [r] w w1 ∧
      (Instr.entry (.pointer (some ⟨r, 0, none⟩))).run Tryd.prog w1 = .ok (.tuple #[secVal g m, .bool x]) w1 ∧ w1.rangeLeft b r = cnt1 ∧
      ((g == f) = false → ∀ w2, Turns [] w1 w2 → SetMid w2 b r n S f cnt1) ∧
      ((g == f) = true → ∀ w2, Turns [] w1 w2 → ∃ w3 cnt3, (Builtin.delete_ #[58, 81] 0 #[.map (some b), secVal g m]).run Tryd.prog w2 = .ok (.tuple #[]) w3 ∧ SetMid w3 b r n S f cnt3 ∧ cnt3 ≤ cnt1 ∧ Turns [b] w2 w3) := by
  obtain ⟨D, lf, hr, hm, hD⟩ := h
  rcases hr.next Tryd.keyed81 0 with ⟨_, h1, h2⟩ | ⟨key, v, kl, y, w1, cnt1, hk, hlk, hv, hat, hrun, hra, hlt, hg, hsz, hent⟩
  · refine Or.inl ⟨h2, D, hr.owns, hm, fun g m kl hk => ?_⟩
    rw [hD g m kl hk, h1 kl]; simp
  · obtain ⟨g, m, rfl, hgw, hmw⟩ := sec_key_inv hk
    obtain ⟨x, rfl⟩ := bool_elem_inv hv
    have kept : ∀ {w2 : World} {D' : DataW Unit} {lf' : Lit → Bool} {c : Nat}, w1.ranges Tryd.prog 81 (plainElem Tryd.prog 4) b r n D' lf' c → Turns [] w1 w2 → w2.ranges Tryd.prog 81 (plainElem Tryd.prog 4) b r n D' lf' c := by
      intro w2 D' lf' c hra ht
      have l1 := hra.owns.lt
      have l2 := hra.lt
      obtain ⟨es, clock, since, seen, c0, hb1, F', hs, rfl, hr1, r2⟩ := hra
      exact ⟨es, clock, since, seen, c0, (ht.block b l1 (by simp)).trans hb1, F', hs, rfl, (ht.block r l2 (by simp)).trans hr1, r2⟩
    refine Or.inr ⟨g, m, x, w1, cnt1, hlt, hrun, Turns.of_grown hg (by simp), hent, hra.left_eq, fun hgf w2 ht => ?_, fun hgf w2 ht => ?_⟩
    · refine ⟨D, _, kept hra ht, hm, fun g' m' kl' hk' => ?_⟩
      rw [hD g' m' kl' hk', sec_same hk hk']
      by_cases e : g' = g
      · subst e; simp [hgf]
      · have e2 : (g' == g) = false := by simpa using e
        simp [e2]
    · have hr2 := kept hra ht
      obtain ⟨w3, cnt3, hrun3, hra3, hle, hturn⟩ := hr2.drop Tryd.keyed81 Tryd.underlying58 hk 0
      refine ⟨w3, cnt3, hrun3, ⟨_, _, hra3, hm.del _, fun g' m' kl' hk' => ?_⟩, hle, Turns.of_grown hturn.grown (by simp)⟩
      by_cases e : kl' = kl
      · have hs := sec_same hk hk'
        subst e
        rw [WideAt.sameKey_self (Tryd.keyed81.key hk)] at hs
        have hg' : g' = g ∧ m' = m := by simpa using hs.symm
        rw [atKey_del_same, hg'.1, hgf, WideAt.sameKey_self (Tryd.keyed81.key hk)]
        simp
      · rw [atKey_del_other e, hD g' m' kl' hk', sameKey_ne e]
        simp

end Go.Proofs.YtdcgdnlpagadcaaDoor
