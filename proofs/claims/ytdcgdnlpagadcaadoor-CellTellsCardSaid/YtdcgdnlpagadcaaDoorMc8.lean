/- Contracts and lemmas (texts PureE, PureF, CellP, CellQ, CellR, joined by a program). -/
import Derived.Test.YtdcgdnlpagadcaaDoorMc7
/- Plain: what is written is read again. No program in sight. -/
namespace Go.Proofs.YtdcgdnlpagadcaaDoor

theorem read_part {st : DS} {f : Int} (h : mayCode st f = 0) (a z : Nat) : readCode st f (a : Int) (z : Int) = 0 ∧ readStr st f (a : Int) (z : Int) = (st.F f).now.extract a (a + z) := by
  have e : readCode st f (a : Int) (z : Int) = 0 := by rw [readCode, if_pos h, if_neg (by omega)]
  refine ⟨e, ?_⟩
  rw [readStr, if_pos e]
  simp
theorem extract_full (s : ByteArray) : s.extract 0 s.size = s := bytes_ext (by rw [extract_size]; omega) (fun i hi => by
  rw [extract_size] at hi
  rw [extract_at, if_pos (by omega)]; congr 1; omega)
theorem extract_most (s : ByteArray) (z : Nat) (h : s.size ≤ z) : s.extract 0 z = s := bytes_ext (by rw [extract_size]; omega) (fun i hi => by
  rw [extract_size] at hi
  rw [extract_at, if_pos (by omega)]; congr 1; omega)
theorem put_read (s : ByteArray) (a : Nat) (t : ByteArray) (ht : 0 < t.size) : (putB s a t).extract a (a + t.size) = t := by
  have hs := putB_size s a t
  rw [if_neg (by omega)] at hs
  refine bytes_ext (by rw [extract_size, hs]; omega) (fun i hi => ?_)
  rw [extract_size, hs] at hi
  rw [extract_at, if_pos (by omega), putB_at, if_pos (by omega)]
  congr 1
  omega
theorem part_of (s : ByteArray) (a z fr m : Nat) (h1 : fr = min a s.size) (h2 : m = min z (s.size - fr)) : s.extract a (a + z) = s.extract fr (fr + m) := by
  refine bytes_ext (by rw [extract_size, extract_size]; omega) (fun i hi => ?_)
  rw [extract_size] at hi
  rw [extract_at, extract_at, if_pos (by omega), if_pos (by omega)]
  congr 1
  omega

/-- A disk that is not armed. -/
theorem idle_ends {st : DS} (h : st.armed = 0) : endsB st = false ∧ endsS st = st := by simp [endsB, endsS, h]
theorem idle_write {st : DS} (h : st.armed = 0) (K : List Int) (f a : Int) (s : ByteArray) : writeCode st f a s = wrCode st f a s ∧ writeS st K f a s = wrS st f a s := by
  obtain ⟨h1, h2⟩ := idle_ends h
  simp [writeCode, writeS, h1, h2]
theorem reads_no {st : DS} (h : st.armed = 0) {f : Int} (hm : mayCode st f ≠ 0) (a : Int) (s : ByteArray) : writeCode st f a s = mayCode st f := by
  rw [(idle_write h [] f a s).1, wrCode, if_pos hm]
/-- Behind the write. -/
structure Wrote (x : DS) (f : Int) (n : Nat) (s : ByteArray) : Prop where
  may : mayCode x f = 0
  armed : x.armed = 0
  size : (x.F f).now.size ≤ 16777216
  str : (x.F f).now.extract n (n + s.size) = s
theorem reads_yes {st : DS} (hI : DInv st) (h : st.armed = 0) {f : Int} (hm : mayCode st f = 0) (n : Nat) (hn : n ≤ 3000) (s : ByteArray) (hs : s.size ≤ 300) (K : List Int) :
    writeCode st f n s = 0 ∧ Wrote (writeS st K f n s) f n s := by
  have e1 : wrCode st f (n : Int) s = 0 := by rw [wrCode, if_neg (by simp [hm]), if_neg (by omega), if_neg (by omega)]
  rw [(idle_write h K f n s).1, (idle_write h K f n s).2]
  refine ⟨e1, ?_, ?_, ((hI.wr f n s).size f).2, ?_⟩
  · unfold wrS; split <;> exact hm
  · unfold wrS; split <;> exact h
  · by_cases h0 : 0 < s.size
    · rw [wrS, if_pos ⟨e1, h0⟩]
      simp only [updF_same, Int.toNat_natCast]
      exact put_read _ _ _ h0
    · rw [wrS, if_neg (by omega)]
      exact bytes_ext (by rw [extract_size]; omega) (fun i hi => by rw [extract_size] at hi; omega)
theorem reads_cut {x : DS} {f : Int} {n : Nat} {s : ByteArray} (h : Wrote x f n s) (fr : Nat) (hfr : fr ≤ (x.F f).now.size) (K C : List Int) :
    truncCode x K f fr = 0 ∧ readCode { crashS (truncS x K f fr) C with down := false } f 0 16777216 = 0 ∧ readStr { crashS (truncS x K f fr) C with down := false } f 0 16777216 = (x.F f).now.extract 0 fr := by
  obtain ⟨h1, h2⟩ := idle_ends h.armed
  have he : endS x K = x := by simp [endS, h1, h2]
  have hz := h.size
  obtain ⟨hd, f0, f1⟩ := may_zero h.may
  have hc : truncCode x K f fr = 0 := by rw [truncCode, he, if_neg (by simp [h.may]), if_neg (by omega)]
  have ht : truncS x K f fr = settleS x f ((x.F f).now.extract 0 fr) := by
    unfold truncS
    simp only [he]
    rw [if_neg (by simp [h.may]), if_neg (by omega)]
    simp
  have hq : Quiet (truncS x K f fr) f ((x.F f).now.extract 0 fr) := by
    rw [ht]
    refine ⟨by simp only [settleS]; rw [updF_same], fun p hp => ?_⟩
    have := (List.mem_filter.1 hp).2
    simpa using this
  have hq2 := hq.crash C
  obtain ⟨r1, r2⟩ := read_whole (st := { crashS (truncS x K f fr) C with down := false }) (f := f) (may_of rfl f0 f1)
  refine ⟨hc, r1, ?_⟩
  rw [r2]
  show ((crashS (truncS x K f fr) C).F f).now.extract 0 16777216 = _
  rw [hq2.1]
  exact extract_most _ _ (by rw [extract_size]; omega)

end Go.Proofs.YtdcgdnlpagadcaaDoor

/- Plain: what survives a crash. No program in sight. -/
namespace Go.Proofs.YtdcgdnlpagadcaaDoor

def afterS (st : DS) (C : List Int) : DS := { crashS st C with down := false }
/-- The file behind a crash. -/
def afterB (st : DS) (f : Int) (C : List Int) : ByteArray := (crashTo C st.Q st.F st.Q.length f).last
theorem after_left {st : DS} (hI : DInv st) (f : Int) (C : List Int) : Left (st.F f) (crashTo C st.Q st.F st.Q.length f) (fun n => sv C st.Q f n st.Q.length) :=
  left_to C st.Q st.F f (fun p hp => (hI.secs p hp).2.2.1) _ (Nat.le_refl _)
theorem after_read {st : DS} (hI : DInv st) (hd : st.down = false) {f : Int} (hf : 0 ≤ f ∧ f < 16) (C : List Int) :
    readCode (afterS st C) f 0 16777216 = 0 ∧ readStr (afterS st C) f 0 16777216 = afterB st f C := by
  obtain ⟨r1, r2⟩ := read_whole (st := afterS st C) (f := f) (may_of rfl hf.1 hf.2)
  refine ⟨r1, ?_⟩
  rw [r2]
  have e : (afterS st C).F f = ⟨afterB st f C, afterB st f C⟩ := by simp [afterS, crashS, hd, lastF, afterB]
  rw [e]
  have h1 := (after_left hI f C).hi
  have h2 := hI.size f
  exact extract_most _ _ (by show (crashTo C st.Q st.F st.Q.length f).last.size ≤ _; omega)
theorem after_nil (st : DS) (f : Int) : afterB st f [] = (st.F f).last := by rw [afterB, crashTo_nil]
theorem after_all {st : DS} (hI : DInv st) (f : Int) : afterB st f [1] = (st.F f).now := by
  have h := after_left hI f [1]
  have h2 := hI.size f
  have hsv : ∀ n : Nat, (f, (n : Int)) ∈ st.Q → sv [1] st.Q f n st.Q.length = true := fun n hn => by
    obtain ⟨j, hj, e⟩ := List.getElem_of_mem hn
    exact sv_all surv_one (Nat.le_refl _) j hj (by rw [List.getElem?_eq_getElem hj, e])
  have hsz : (afterB st f [1]).size = (st.F f).now.size := by
    have h3 := h.hi
    have h4 := h.lo
    unfold afterB
    by_cases ht : (st.F f).last.size < (st.F f).now.size
    · have h5 := h.end' _ (hsv _ (hI.tail f ht)) (by omega)
      omega
    · omega
  refine bytes_ext hsz (fun i hi => ?_)
  unfold afterB
  rw [h.at' i]
  by_cases hs : sv [1] st.Q f (i / 64) st.Q.length = true
  · rw [if_pos ⟨hs, by omega⟩]
  · rw [if_neg (fun hh => hs hh.1)]
    rcases hI.cont f i (by omega) with h5 | h5
    · exact absurd (hsv _ h5) hs
    · exact h5
/-- What the statement asks of the file behind a crash. -/
structure Torn (N L R : ByteArray) : Prop where
  lo : L.size ≤ R.size
  hi : R.size ≤ N.size
  secs : ∀ n, (∀ i, i < R.size → i / 64 = n → byteA R i = byteA N i) ∨ (∀ i, i < R.size → i / 64 = n → byteA R i = byteA L i)
theorem after_torn {st : DS} (hI : DInv st) (f : Int) (C : List Int) : Torn (st.F f).now (st.F f).last (afterB st f C) := by
  have h := after_left hI f C
  have h2 := hI.size f
  refine ⟨h.lo, by have := h.hi; show (crashTo C st.Q st.F st.Q.length f).last.size ≤ _; omega, fun n => ?_⟩
  by_cases hs : sv C st.Q f n st.Q.length = true
  · left
    intro i hi hn
    have h3 : i < (st.F f).now.size := by
      have := h.hi
      have h4 : i < (crashTo C st.Q st.F st.Q.length f).last.size := hi
      omega
    show byteA (crashTo C st.Q st.F st.Q.length f).last i = _
    rw [h.at' i, hn, if_pos ⟨hs, h3⟩]
  · right
    intro i hi hn
    show byteA (crashTo C st.Q st.F st.Q.length f).last i = _
    rw [h.at' i, hn, if_neg (fun hh => hs hh.1)]
theorem byteA_get {s : ByteArray} {i : Nat} (h : i < s.size) : byteA s i = s[i] := by
  unfold byteA
  rw [Array.getElem?_eq_getElem h]
  rfl

end Go.Proofs.YtdcgdnlpagadcaaDoor

/- Plain: what a cell's file holds, and what a crash leaves of it. No program in sight. -/
namespace Go.Proofs.YtdcgdnlpagadcaaDoor

/-- The offset of a slot. -/
def off (k : Int) : Nat := if k = 1 then 64 else 131072
def hdrB (k : Int) (s : ByteArray) : ByteArray :=
  ⟨#[UInt8.ofNat k.toNat, UInt8.ofNat s.size, UInt8.ofNat (s.size / 256), UInt8.ofNat (s.size / 65536), UInt8.ofNat (s.size / 16777216)]⟩
theorem hdrB_size (k : Int) (s : ByteArray) : (hdrB k s).size = 5 := rfl
def Zero (x : ByteArray) : Prop := byteA x 0 = 0
def Head (x : ByteArray) (k : Int) (s : ByteArray) : Prop := (k = 1 ∨ k = 2) ∧ s.size ≤ 65536 ∧ 5 ≤ x.size ∧ ∀ i, i < 5 → byteA x i = byteA (hdrB k s) i
def Data (x : ByteArray) (k : Int) (s : ByteArray) : Prop := (s.size = 0 ∨ off k + s.size ≤ x.size) ∧ ∀ i, i < s.size → byteA x (off k + i) = byteA s i
def Holds (x : ByteArray) (k : Int) (s : ByteArray) : Prop := Head x k s ∧ Data x k s

/-- What is read of a cell's file. -/
structure CS where
  slot : Int
  value : ByteArray
  sure : Bool
def hN (h : ByteArray) : Nat := (byteA h 1).toNat + 256 * (byteA h 2).toNat + 65536 * (byteA h 3).toNat + 16777216 * (byteA h 4).toNat
def openC (st : DS) (f : Int) : Int :=
  if readCode st f 0 5 ≠ 0 then readCode st f 0 5
  else if (readStr st f 0 5).size = 0 ∨ byteA (readStr st f 0 5) 0 = 0 then 0
  else if (readStr st f 0 5).size < 5 ∨ ¬ (byteA (readStr st f 0 5) 0 = 1 ∨ byteA (readStr st f 0 5) 0 = 2) then 2
  else if 65536 < hN (readStr st f 0 5) then 2
  else if (readStr st f (off (byteA (readStr st f 0 5) 0).toNat : Nat) (hN (readStr st f 0 5))).size < hN (readStr st f 0 5) then 2 else 0
def openV (st : DS) (f : Int) : CS :=
  if (readStr st f 0 5).size = 0 ∨ byteA (readStr st f 0 5) 0 = 0 then ⟨0, ⟨#[]⟩, false⟩
  else ⟨(byteA (readStr st f 0 5) 0).toNat, readStr st f (off (byteA (readStr st f 0 5) 0).toNat : Nat) (hN (readStr st f 0 5)), false⟩

theorem read_five {st : DS} {f : Int} (h : mayCode st f = 0) : readCode st f 0 5 = 0 ∧ readStr st f 0 5 = (st.F f).now.extract 0 5 := by
  have := read_part h 0 5
  exact this
theorem open_zero {st : DS} {f : Int} (h : mayCode st f = 0) (hz : Zero (st.F f).now) : openC st f = 0 ∧ openV st f = ⟨0, ⟨#[]⟩, false⟩ := by
  obtain ⟨r1, r2⟩ := read_five h
  have hb : (readStr st f 0 5).size = 0 ∨ byteA (readStr st f 0 5) 0 = 0 := by
    right
    rw [r2, extract_at, if_pos (by omega)]
    exact hz
  refine ⟨?_, ?_⟩
  · rw [openC, if_neg (by simp [r1]), if_pos hb]
  · rw [openV, if_pos hb]
theorem hN_hdr (k : Int) (s : ByteArray) (hs : s.size ≤ 65536) : hN (hdrB k s) = s.size := by
  have e1 : byteA (hdrB k s) 1 = UInt8.ofNat s.size := rfl
  have e2 : byteA (hdrB k s) 2 = UInt8.ofNat (s.size / 256) := rfl
  have e3 : byteA (hdrB k s) 3 = UInt8.ofNat (s.size / 65536) := rfl
  have e4 : byteA (hdrB k s) 4 = UInt8.ofNat (s.size / 16777216) := rfl
  rw [hN, e1, e2, e3, e4]
  simp only [UInt8.toNat_ofNat']
  omega
theorem hN_congr {h g : ByteArray} (e : ∀ i, i < 5 → byteA h i = byteA g i) : hN h = hN g := by
  rw [hN, hN, e 1 (by omega), e 2 (by omega), e 3 (by omega), e 4 (by omega)]
theorem open_holds {st : DS} {f : Int} (h : mayCode st f = 0) {k : Int} {s : ByteArray} (hh : Holds (st.F f).now k s) : openC st f = 0 ∧ openV st f = ⟨k, s, false⟩ := by
  obtain ⟨r1, r2⟩ := read_five h
  obtain ⟨⟨hk, hs, hsz, hb⟩, hd1, hd2⟩ := hh
  obtain ⟨x, hx⟩ : ∃ x, x = readStr st f 0 5 := ⟨_, rfl⟩
  rw [← hx] at r2
  have hx5 : x.size = 5 := by rw [r2, extract_size]; omega
  have hxb : ∀ i, i < 5 → byteA x i = byteA (hdrB k s) i := fun i hi => by
    rw [r2, extract_at, if_pos (by omega), Nat.zero_add]; exact hb i hi
  have h0 : byteA x 0 = UInt8.ofNat k.toNat := (hxb 0 (by omega)).trans rfl
  have hn : hN x = s.size := (hN_congr hxb).trans (hN_hdr k s hs)
  have hkk : ((byteA x 0).toNat : Int) = k := by rw [h0]; rcases hk with rfl | rfl <;> rfl
  have hne : byteA x 0 ≠ 0 := by rw [h0]; rcases hk with rfl | rfl <;> decide
  have h12 : byteA x 0 = 1 ∨ byteA x 0 = 2 := by
    rw [h0]
    rcases hk with rfl | rfl
    · exact Or.inl rfl
    · exact Or.inr rfl
  obtain ⟨q1, q2⟩ := read_part h (off k) s.size
  have hv : readStr st f (off (byteA x 0).toNat : Nat) (hN x) = s := by
    rw [hkk, hn, q2]
    refine bytes_ext (by rw [extract_size]; omega) (fun i hi => ?_)
    rw [extract_size] at hi
    rw [extract_at, if_pos (by omega)]
    exact hd2 i (by omega)
  refine ⟨?_, ?_⟩
  · rw [openC, if_neg (by simp [r1]), ← hx, if_neg (fun h => h.elim (fun h => by omega) (fun h => hne h)), if_neg (fun h => h.elim (fun h => by omega) (fun h => h h12)), if_neg (by rw [hn]; omega), hv, hn, if_neg (by omega)]
  · rw [openV, ← hx, if_neg (fun h => h.elim (fun h => by omega) (fun h => hne h)), hv, hkk]

end Go.Proofs.YtdcgdnlpagadcaaDoor

/- Plain: a cell's file behind writes, syncs and crashes. No program in sight. -/
namespace Go.Proofs.YtdcgdnlpagadcaaDoor

theorem putB_zero (s : ByteArray) (a : Nat) (t : ByteArray) (h : t.size = 0) : putB s a t = s := by rw [putB, if_pos h]
theorem putB_le (s : ByteArray) (a : Nat) (t : ByteArray) : s.size ≤ (putB s a t).size := by
  rw [putB_size]; split <;> omega
theorem zero_put {x : ByteArray} (h : Zero x) (a : Nat) (ha : 0 < a) (t : ByteArray) : Zero (putB x a t) := by
  unfold Zero
  rw [putB_at, if_neg (by omega)]
  exact h
theorem head_put {x : ByteArray} {k : Int} {s : ByteArray} (h : Head x k s) (a : Nat) (ha : 5 ≤ a) (t : ByteArray) : Head (putB x a t) k s := by
  obtain ⟨h1, h2, h3, h4⟩ := h
  refine ⟨h1, h2, Nat.le_trans h3 (putB_le _ _ _), fun i hi => ?_⟩
  rw [putB_at, if_neg (by omega)]
  exact h4 i hi
theorem off_cases (k : Int) : off k = 64 ∨ off k = 131072 := by
  unfold off; split
  · exact Or.inl rfl
  · exact Or.inr rfl
theorem data_put {x : ByteArray} {k : Int} {s : ByteArray} (h : Data x k s) (a : Nat) (t : ByteArray) (hd : a + t.size ≤ off k ∨ off k + s.size ≤ a) : Data (putB x a t) k s := by
  obtain ⟨h1, h2⟩ := h
  refine ⟨h1.imp id (fun h => Nat.le_trans h (putB_le _ _ _)), fun i hi => ?_⟩
  rw [putB_at, if_neg (by omega)]
  exact h2 i hi
theorem data_new (x : ByteArray) (k : Int) (s : ByteArray) : Data (putB x (off k) s) k s := by
  refine ⟨?_, fun i hi => ?_⟩
  · rw [putB_size]
    by_cases h : s.size = 0
    · exact Or.inl h
    · rw [if_neg h]; right; omega
  · rw [putB_at, if_pos (by omega)]
    congr 1
    omega
theorem head_new (x : ByteArray) {k : Int} (hk : k = 1 ∨ k = 2) {s : ByteArray} (hs : s.size ≤ 65536) : Head (putB x 0 (hdrB k s)) k s := by
  refine ⟨hk, hs, ?_, fun i hi => ?_⟩
  · rw [putB_size, if_neg (by rw [hdrB_size]; omega), hdrB_size]; omega
  · rw [putB_at, if_pos (by rw [hdrB_size]; omega)]
    rfl
/-- The two slots lie apart. -/
theorem slots_apart {k j : Int} (hk : k = 1 ∨ k = 2) (hj : j = 1 ∨ j = 2) (hne : k ≠ j) {s t : ByteArray} (hs : s.size ≤ 65536) (ht : t.size ≤ 65536) : off j + t.size ≤ off k ∨ off k + s.size ≤ off j := by
  rcases hk with rfl | rfl <;> rcases hj with rfl | rfl
  · exact absurd rfl hne
  · right; show 64 + s.size ≤ 131072; omega
  · left; show 64 + t.size ≤ 131072; omega
  · exact absurd rfl hne

section
variable {st : DS} (hI : DInv st) (f : Int) (C : List Int)
include hI
theorem after_same {i : Nat} (h : byteA (st.F f).now i = byteA (st.F f).last i) : byteA (afterB st f C) i = byteA (st.F f).last i := by
  have hl := after_left hI f C
  show byteA (crashTo C st.Q st.F st.Q.length f).last i = _
  rw [hl.at' i]
  split
  · exact h
  · rfl
theorem after_size : (st.F f).last.size ≤ (afterB st f C).size := (after_left hI f C).lo
theorem after_zero (h1 : Zero (st.F f).now) (h2 : Zero (st.F f).last) : Zero (afterB st f C) := by
  unfold Zero
  rw [after_same hI f C (h1.trans h2.symm)]
  exact h2
theorem after_data {k : Int} {s : ByteArray} (h1 : Data (st.F f).now k s) (h2 : Data (st.F f).last k s) : Data (afterB st f C) k s := by
  have hsz := after_size hI f C
  refine ⟨h2.1.imp id (fun h => Nat.le_trans h hsz), fun i hi => ?_⟩
  rw [after_same hI f C ((h1.2 i hi).trans (h2.2 i hi).symm)]
  exact h2.2 i hi
theorem after_holds {k : Int} {s : ByteArray} (h1 : Holds (st.F f).now k s) (h2 : Holds (st.F f).last k s) : Holds (afterB st f C) k s := by
  have hsz := after_size hI f C
  refine ⟨⟨h2.1.1, h2.1.2.1, Nat.le_trans h2.1.2.2.1 hsz, fun i hi => ?_⟩, after_data hI f C h1.2 h2.2⟩
  rw [after_same hI f C ((h1.1.2.2.2 i hi).trans (h2.1.2.2.2 i hi).symm)]
  exact h2.1.2.2.2 i hi
/-- A header that was written and not synced: it survives whole, or not at all. -/
theorem after_mid {k : Int} {v : ByteArray} (h1 : Head (st.F f).now k v) (h2 : Data (st.F f).now k v) (h3 : Data (st.F f).last k v) :
    Holds (afterB st f C) k v ∨ ((Zero (st.F f).last → Zero (afterB st f C)) ∧ ∀ k0 v0, Holds (st.F f).last k0 v0 → Data (st.F f).now k0 v0 → Holds (afterB st f C) k0 v0) := by
  have hl := after_left hI f C
  have hsz := after_size hI f C
  by_cases hs : sv C st.Q f 0 st.Q.length = true
  · left
    refine ⟨⟨h1.1, h1.2.1, ?_, fun i hi => ?_⟩, after_data hI f C h2 h3⟩
    · have h5 := h1.2.2.1
      have := hl.end' 0 hs (by omega)
      show 5 ≤ (crashTo C st.Q st.F st.Q.length f).last.size
      omega
    · show byteA (crashTo C st.Q st.F st.Q.length f).last i = _
      have h5 := h1.2.2.1
      rw [hl.at' i, show i / 64 = 0 by omega, if_pos ⟨hs, by omega⟩]
      exact h1.2.2.2 i hi
  · right
    have hlow : ∀ i, i < 64 → byteA (afterB st f C) i = byteA (st.F f).last i := fun i hi => by
      show byteA (crashTo C st.Q st.F st.Q.length f).last i = _
      rw [hl.at' i, show i / 64 = 0 by omega, if_neg (fun h => hs h.1)]
    refine ⟨fun hz => (hlow 0 (by omega)).trans hz, fun k0 v0 hh hd => ⟨⟨hh.1.1, hh.1.2.1, Nat.le_trans hh.1.2.2.1 hsz, fun i hi => ?_⟩, after_data hI f C hd hh.2⟩⟩
    rw [hlow i (by omega)]
    exact hh.1.2.2.2 i hi
end

/-- One call on the disk. -/
theorem write_step {st : DS} (hI : DInv st) (K : List Int) {f : Int} (hf : 0 ≤ f ∧ f < 16) (a : Nat) (s : ByteArray) (ha : a + s.size ≤ 16777216) :
    (st.down = true → writeCode st f a s = 9 ∧ writeS st K f a s = st) ∧
    (st.down = false → (writeCode st f a s = 0 ∧ (writeS st K f a s).down = false ∧ (writeS st K f a s).F f = ⟨putB (st.F f).now a s, (st.F f).last⟩) ∨
      (writeCode st f a s = 9 ∧ (writeS st K f a s).down = true ∧ ∃ y C, DInv y ∧ y.F f = ⟨putB (st.F f).now a s, (st.F f).last⟩ ∧ (writeS st K f a s).F f = ⟨afterB y f C, afterB y f C⟩)) := by
  refine ⟨fun hd => ?_, fun hd => ?_⟩
  · have i1 : endsB st = false := by simp [endsB, hd]
    have i2 : endsS st = st := by simp [endsS, hd]
    have hm : mayCode st f = 9 := by simp [mayCode, hd]
    have hc : wrCode st f (a : Int) s = 9 := by rw [wrCode, if_pos (by rw [hm]; simp), hm]
    have hs : wrS st f (a : Int) s = st := by rw [wrS, if_neg (by rw [hc]; simp)]
    exact ⟨by rw [writeCode, i1, i2, hc]; simp, by rw [writeS, i1, i2, hs]; simp⟩
  · have hd2 : (endsS st).down = false := by unfold endsS; split <;> exact hd
    have hF : (endsS st).F = st.F := by unfold endsS; split <;> rfl
    have hm : mayCode (endsS st) f = 0 := may_of hd2 hf.1 hf.2
    have hc : wrCode (endsS st) f (a : Int) s = 0 := by rw [wrCode, if_neg (by simp [hm]), if_neg (by omega), if_neg (by omega)]
    have hw : (wrS (endsS st) f (a : Int) s).F f = ⟨putB (st.F f).now a s, (st.F f).last⟩ := by
      unfold wrS
      rw [hF]
      split
      · simp only [updF_same, Int.toNat_natCast]
      · rename_i hn
        have h0 : s.size = 0 := by
          rcases Nat.eq_zero_or_pos s.size with h | h
          · exact h
          · exact absurd ⟨hc, h⟩ hn
        simp only [hF, putB_zero _ _ _ h0]
    have hwd : (wrS (endsS st) f (a : Int) s).down = false := by unfold wrS; split <;> exact hd2
    cases hE : endsB st
    · left
      rw [writeCode, writeS, hE]
      simp only [Bool.false_eq_true, if_false]
      exact ⟨hc, hwd, hw⟩
    · right
      rw [writeCode, writeS, hE]
      simp only [if_true]
      refine ⟨trivial, by simp [crashS, hwd], wrS (endsS st) f a s, K, hI.ends.wr f a s, hw, ?_⟩
      simp only [crashS, hwd, Bool.false_eq_true, if_false, lastF]
      rfl
theorem sync_step {st : DS} (hI : DInv st) (K : List Int) {f : Int} (hf : 0 ≤ f ∧ f < 16) :
    (st.down = true → syncCode st K f = 9 ∧ syncS st K f = st) ∧
    (st.down = false → (syncCode st K f = 0 ∧ (syncS st K f).down = false ∧ (syncS st K f).F f = ⟨(st.F f).now, (st.F f).now⟩) ∨
      (syncCode st K f = 10 ∧ (syncS st K f).down = false ∧ (syncS st K f).F f = st.F f) ∨
      (syncCode st K f = 9 ∧ (syncS st K f).down = true ∧ ∃ y C, DInv y ∧ y.F f = st.F f ∧ (syncS st K f).F f = ⟨afterB y f C, afterB y f C⟩)) := by
  refine ⟨fun hd => ?_, fun hd => ?_⟩
  · have i1 : endsB st = false := by simp [endsB, hd]
    have i2 : endsS st = st := by simp [endsS, hd]
    have hE : endS st K = st := by simp [endS, i1, i2]
    have hm : mayCode st f = 9 := by simp [mayCode, hd]
    unfold syncCode syncS
    simp only [hE, hm]
    exact ⟨by simp, by simp⟩
  · have hd2 : (endsS st).down = false := by unfold endsS; split <;> exact hd
    have hF : (endsS st).F = st.F := by unfold endsS; split <;> rfl
    have hl : (endsS st).lost = st.lost := by unfold endsS; split <;> rfl
    cases hE : endsB st
    · have hx : endS st K = endsS st := by simp [endS, hE]
      have hm : mayCode (endsS st) f = 0 := may_of hd2 hf.1 hf.2
      unfold syncCode syncS
      simp only [hx, hm, hl]
      by_cases h0 : 0 < st.lost
      · right; left
        refine ⟨by simp [h0], by simp [h0, hd2], by simp [h0, hF]⟩
      · left
        refine ⟨by simp [h0], by simp [h0, settleS, hd2], by simp [h0, settleS, hF, updF_same]⟩
    · right; right
      have hx : endS st K = crashS (endsS st) K := by simp [endS, hE]
      have hdc : (crashS (endsS st) K).down = true := by simp [crashS, hd2]
      have hm : mayCode (crashS (endsS st) K) f = 9 := by simp [mayCode, hdc]
      unfold syncCode syncS
      simp only [hx, hm]
      refine ⟨by simp, by simpa using hdc, endsS st, K, hI.ends, by rw [hF], ?_⟩
      simp [crashS, hd2, lastF, afterB]

end Go.Proofs.YtdcgdnlpagadcaaDoor

/- Plain: a set of a cell. No program in sight. -/
namespace Go.Proofs.YtdcgdnlpagadcaaDoor

def slotOf (k : Int) : Int := if k = 1 then 2 else 1
/-- Set: the code, the cell and the disk behind it. -/
def setW (st : DS) (K : List Int) (f : Int) (c : CS) (s : ByteArray) : Int × CS × DS :=
  if writeCode st f (off (slotOf c.slot) : Nat) s ≠ 0 then (writeCode st f (off (slotOf c.slot) : Nat) s, c, writeS st K f (off (slotOf c.slot) : Nat) s)
  else if syncCode (writeS st K f (off (slotOf c.slot) : Nat) s) K f ≠ 0 then (syncCode (writeS st K f (off (slotOf c.slot) : Nat) s) K f, c, syncS (writeS st K f (off (slotOf c.slot) : Nat) s) K f)
  else if writeCode (syncS (writeS st K f (off (slotOf c.slot) : Nat) s) K f) f 0 (hdrB (slotOf c.slot) s) ≠ 0 then
    (writeCode (syncS (writeS st K f (off (slotOf c.slot) : Nat) s) K f) f 0 (hdrB (slotOf c.slot) s), c, writeS (syncS (writeS st K f (off (slotOf c.slot) : Nat) s) K f) K f 0 (hdrB (slotOf c.slot) s))
  else (syncCode (writeS (syncS (writeS st K f (off (slotOf c.slot) : Nat) s) K f) K f 0 (hdrB (slotOf c.slot) s)) K f,
    ⟨slotOf c.slot, s, syncCode (writeS (syncS (writeS st K f (off (slotOf c.slot) : Nat) s) K f) K f 0 (hdrB (slotOf c.slot) s)) K f == 0⟩,
    syncS (writeS (syncS (writeS st K f (off (slotOf c.slot) : Nat) s) K f) K f 0 (hdrB (slotOf c.slot) s)) K f)
def setR (st : DS) (K : List Int) (f : Int) (c : CS) (s : ByteArray) : Int × CS × DS :=
  if 65536 < s.size then (6, c, st)
  else if c.sure = false ∧ 0 < c.slot then
    if syncCode st K f ≠ 0 then (syncCode st K f, c, syncS st K f) else setW (syncS st K f) K f ⟨c.slot, c.value, true⟩ s
  else setW st K f c s

/-- What may be found in the file. -/
def Good (may : List ByteArray) (none : Bool) (x : ByteArray) : Prop := (none = true ∧ Zero x) ∨ ∃ k v, Holds x k v ∧ v ∈ may
def Settled (may : List ByteArray) (none : Bool) (c : CS) (N L : ByteArray) : Prop :=
  (c.slot = 0 ∧ none = true ∧ Zero N ∧ Zero L) ∨ (Holds N c.slot c.value ∧ Holds L c.slot c.value ∧ c.value ∈ may)
def HalfWay (may : List ByteArray) (none : Bool) (k : Int) (v N L : ByteArray) : Prop :=
  Head N k v ∧ Data N k v ∧ Data L k v ∧ v ∈ may ∧ ((none = true ∧ Zero L) ∨ ∃ k0 v0, k0 ≠ k ∧ Holds L k0 v0 ∧ Data N k0 v0 ∧ v0 ∈ may)
def CInv (may : List ByteArray) (none : Bool) (f : Int) (c : CS) (st : DS) : Prop :=
  DInv st ∧ ((st.down = true ∧ ∃ x, st.F f = ⟨x, x⟩ ∧ Good may none x) ∨
    (st.down = false ∧ (Settled may none c (st.F f).now (st.F f).last ∨ (c.sure = false ∧ HalfWay may none c.slot c.value (st.F f).now (st.F f).last))))

theorem Good.more {may : List ByteArray} {none : Bool} {x : ByteArray} (h : Good may none x) (s : ByteArray) : Good (may ++ [s]) none x :=
  h.imp id fun ⟨k, v, h1, h2⟩ => ⟨k, v, h1, by simp [h2]⟩
theorem Settled.more {may : List ByteArray} {none : Bool} {c : CS} {N L : ByteArray} (h : Settled may none c N L) (s : ByteArray) : Settled (may ++ [s]) none c N L :=
  h.imp id fun ⟨h1, h2, h3⟩ => ⟨h1, h2, by simp [h3]⟩
theorem HalfWay.more {may : List ByteArray} {none : Bool} {k : Int} {v N L : ByteArray} (h : HalfWay may none k v N L) (s : ByteArray) : HalfWay (may ++ [s]) none k v N L :=
  ⟨h.1, h.2.1, h.2.2.1, by simp [h.2.2.2.1], h.2.2.2.2.imp id fun ⟨k0, v0, h1, h2, h3, h4⟩ => ⟨k0, v0, h1, h2, h3, by simp [h4]⟩⟩
theorem Settled.after {st : DS} (hI : DInv st) {f : Int} {may : List ByteArray} {none : Bool} {c : CS} (h : Settled may none c (st.F f).now (st.F f).last) (C : List Int) : Good may none (afterB st f C) := by
  rcases h with ⟨_, h1, h2, h3⟩ | ⟨h1, h2, h3⟩
  · exact Or.inl ⟨h1, after_zero hI f C h2 h3⟩
  · exact Or.inr ⟨_, _, after_holds hI f C h1 h2, h3⟩
theorem HalfWay.after {st : DS} (hI : DInv st) {f : Int} {may : List ByteArray} {none : Bool} {k : Int} {v : ByteArray} (h : HalfWay may none k v (st.F f).now (st.F f).last) (C : List Int) : Good may none (afterB st f C) := by
  obtain ⟨h1, h2, h3, h4, h5⟩ := h
  rcases after_mid hI f C h1 h2 h3 with h6 | ⟨h6, h7⟩
  · exact Or.inr ⟨_, _, h6, h4⟩
  · rcases h5 with ⟨h5, h8⟩ | ⟨k0, v0, _, h8, h9, h10⟩
    · exact Or.inl ⟨h5, h6 h8⟩
    · exact Or.inr ⟨k0, v0, h7 k0 v0 h8 h9, h10⟩
theorem slotOf_is (k : Int) : slotOf k = 1 ∨ slotOf k = 2 := by
  unfold slotOf; split
  · exact Or.inr rfl
  · exact Or.inl rfl
theorem slotOf_ne {k : Int} : slotOf k ≠ k := by unfold slotOf; split <;> omega
/-- A write of the other slot. -/
theorem Settled.write {may : List ByteArray} {none : Bool} {c : CS} {N L : ByteArray} (h : Settled may none c N L) (s : ByteArray) (hs : s.size ≤ 65536) : Settled may none c (putB N (off (slotOf c.slot)) s) L := by
  rcases h with ⟨h0, h1, h2, h3⟩ | ⟨h1, h2, h3⟩
  · refine Or.inl ⟨h0, h1, zero_put h2 _ ?_ s, h3⟩
    rcases off_cases (slotOf c.slot) with h | h <;> omega
  · refine Or.inr ⟨⟨head_put h1.1 _ ?_ s, data_put h1.2 _ s (slots_apart h1.1.1 (slotOf_is _) (fun e => slotOf_ne e.symm) h1.1.2.1 hs)⟩, h2, h3⟩
    rcases off_cases (slotOf c.slot) with h | h <;> omega
/-- The header's write. -/
theorem Settled.header {may : List ByteArray} {none : Bool} {c : CS} {N : ByteArray} (h : Settled may none c N N) {s : ByteArray} (hs : s.size ≤ 65536) (hd : Data N (slotOf c.slot) s) :
    HalfWay (may ++ [s]) none (slotOf c.slot) s (putB N 0 (hdrB (slotOf c.slot) s)) N := by
  have hoff : 0 + (hdrB (slotOf c.slot) s).size ≤ off (slotOf c.slot) := by
    rw [hdrB_size]
    rcases off_cases (slotOf c.slot) with h | h <;> omega
  refine ⟨head_new N (slotOf_is _) hs, data_put hd 0 _ (Or.inl hoff), hd, by simp, ?_⟩
  rcases h with ⟨h0, h1, h2, h3⟩ | ⟨h1, h2, h3⟩
  · exact Or.inl ⟨h1, h2⟩
  · refine Or.inr ⟨c.slot, c.value, fun e => slotOf_ne e.symm, h1, data_put h1.2 0 _ (Or.inl ?_), by simp [h3]⟩
    rw [hdrB_size]
    rcases off_cases c.slot with h | h <;> omega

/-- What a set leaves. -/
def Behind (may : List ByteArray) (none : Bool) (f : Int) (s : ByteArray) (r : Int × CS × DS) : Prop :=
  DInv r.2.2 ∧ (r.1 = 0 → CInv [s] false f r.2.1 r.2.2 ∧ r.2.2.down = false ∧ Holds (r.2.2.F f).now r.2.1.slot s ∧ r.2.2.F f = ⟨(r.2.2.F f).now, (r.2.2.F f).now⟩ ∧ r.2.1.value = s ∧ 0 < r.2.1.slot) ∧ (r.1 ≠ 0 → CInv (may ++ [s]) none f r.2.1 r.2.2)

theorem setW_inv {may : List ByteArray} {none : Bool} {f : Int} (hf : 0 ≤ f ∧ f < 16) {c : CS} {st : DS} (K : List Int) {s : ByteArray} (hs : s.size ≤ 65536) (hI : DInv st) (hd : st.down = false)
    (h : Settled may none c (st.F f).now (st.F f).last) : Behind may none f s (setW st K f c s) := by
  have hoff : off (slotOf c.slot) ≤ 131072 := by rcases off_cases (slotOf c.slot) with h | h <;> omega
  unfold setW
  obtain ⟨x1, hx1⟩ : ∃ x, x = writeS st K f (off (slotOf c.slot) : Nat) s := ⟨_, rfl⟩
  have i1 : DInv x1 := hx1 ▸ hI.write K f _ s
  obtain ⟨-, w1⟩ := write_step hI K hf (off (slotOf c.slot)) s (by omega)
  have w1 := w1 hd
  rw [← hx1] at w1
  rw [← hx1]
  rcases w1 with ⟨e1, d1, F1⟩ | ⟨e1, d1, y, C, hy, yF, F1⟩
  rotate_left
  · rw [if_pos (by rw [e1]; simp), e1]
    refine ⟨i1, fun h => absurd h (by simp), fun _ => ⟨i1, Or.inl ⟨d1, _, F1, ?_⟩⟩⟩
    have h1 := h.write s hs
    have h2 : Settled may none c (y.F f).now (y.F f).last := by rw [yF]; exact h1
    exact (h2.after hy C).more s
  rw [if_neg (by rw [e1]; simp)]
  have s1 : Settled may none c (x1.F f).now (x1.F f).last := by rw [F1]; exact h.write s hs
  have hdat : Data (x1.F f).now (slotOf c.slot) s := by rw [F1]; exact data_new _ _ _
  obtain ⟨x2, hx2⟩ : ∃ x, x = syncS x1 K f := ⟨_, rfl⟩
  have i2 : DInv x2 := hx2 ▸ i1.sync K f
  have w2 := (sync_step i1 K hf).2 d1
  rw [← hx2] at w2
  rw [← hx2]
  rcases w2 with ⟨e2, d2, F2⟩ | ⟨e2, d2, F2⟩ | ⟨e2, d2, y, C, hy, yF, F2⟩
  rotate_left
  · rw [if_pos (by rw [e2]; simp), e2]
    refine ⟨i2, fun h => absurd h (by simp), fun _ => ⟨i2, Or.inr ⟨d2, Or.inl ?_⟩⟩⟩
    rw [F2]
    exact s1.more s
  · rw [if_pos (by rw [e2]; simp), e2]
    refine ⟨i2, fun h => absurd h (by simp), fun _ => ⟨i2, Or.inl ⟨d2, _, F2, ?_⟩⟩⟩
    have h2 : Settled may none c (y.F f).now (y.F f).last := by rw [yF]; exact s1
    exact (h2.after hy C).more s
  rw [if_neg (by rw [e2]; simp)]
  have s2 : Settled may none c (x2.F f).now (x2.F f).now := by
    rw [F2]
    show Settled may none c (x1.F f).now (x1.F f).now
    rcases s1 with ⟨h0, h1, h2, h3⟩ | ⟨h1, h2, h3⟩
    · exact Or.inl ⟨h0, h1, h2, h2⟩
    · exact Or.inr ⟨h1, h1, h3⟩
  have hdat2 : Data (x2.F f).now (slotOf c.slot) s := by rw [F2]; exact hdat
  have hlast2 : (x2.F f).last = (x2.F f).now := by rw [F2]
  have hhalf := s2.header hs hdat2
  obtain ⟨x3, hx3⟩ : ∃ x, x = writeS x2 K f 0 (hdrB (slotOf c.slot) s) := ⟨_, rfl⟩
  have i3 : DInv x3 := hx3 ▸ i2.write K f _ _
  have w3 := (write_step i2 K hf 0 (hdrB (slotOf c.slot) s) (by rw [hdrB_size]; omega)).2 d2
  rw [show ((0 : Nat) : Int) = 0 from rfl, ← hx3] at w3
  rw [← hx3]
  rcases w3 with ⟨e3, d3, F3⟩ | ⟨e3, d3, y, C, hy, yF, F3⟩
  rotate_left
  · rw [if_pos (by rw [e3]; simp), e3]
    refine ⟨i3, fun h => absurd h (by simp), fun _ => ⟨i3, Or.inl ⟨d3, _, F3, ?_⟩⟩⟩
    have h2 : HalfWay (may ++ [s]) none (slotOf c.slot) s (y.F f).now (y.F f).last := by rw [yF, hlast2]; exact hhalf
    exact h2.after hy C
  rw [if_neg (by rw [e3]; simp)]
  have h3 : HalfWay (may ++ [s]) none (slotOf c.slot) s (x3.F f).now (x3.F f).last := by rw [F3, hlast2]; exact hhalf
  have i4 : DInv (syncS x3 K f) := i3.sync K f
  rcases (sync_step i3 K hf).2 d3 with ⟨e4, d4, F4⟩ | ⟨e4, d4, F4⟩ | ⟨e4, d4, y, C, hy, yF, F4⟩
  · have hh : Holds ((syncS x3 K f).F f).now (slotOf c.slot) s := by rw [F4]; exact ⟨h3.1, h3.2.1⟩
    have hl : ((syncS x3 K f).F f).last = ((syncS x3 K f).F f).now := by rw [F4]
    refine ⟨i4, fun _ => ⟨⟨i4, Or.inr ⟨d4, Or.inl (Or.inr ⟨hh, by rw [hl]; exact hh, by simp⟩)⟩⟩, d4, hh, ?_, rfl, ?_⟩, fun h => absurd e4 h⟩
    · rw [F4]
    · show 0 < slotOf c.slot
      rcases slotOf_is c.slot with h | h <;> rw [h] <;> decide
  · refine ⟨i4, fun h => absurd (h.symm.trans e4) (by simp), fun _ => ⟨i4, Or.inr ⟨d4, Or.inr ⟨by simp [e4], ?_⟩⟩⟩⟩
    show HalfWay _ _ _ _ ((syncS x3 K f).F f).now ((syncS x3 K f).F f).last
    rw [F4]
    exact h3
  · refine ⟨i4, fun h => absurd (h.symm.trans e4) (by simp), fun _ => ⟨i4, Or.inl ⟨d4, _, F4, ?_⟩⟩⟩
    have h2 : HalfWay (may ++ [s]) none (slotOf c.slot) s (y.F f).now (y.F f).last := by rw [yF]; exact h3
    exact h2.after hy C

theorem setW_down {f : Int} (hf : 0 ≤ f ∧ f < 16) (c : CS) {st : DS} (K : List Int) {s : ByteArray} (hs : s.size ≤ 65536) (hI : DInv st) (hd : st.down = true) : setW st K f c s = (9, c, st) := by
  have hoff : off (slotOf c.slot) ≤ 131072 := by rcases off_cases (slotOf c.slot) with h | h <;> omega
  obtain ⟨e1, e2⟩ := (write_step hI K hf (off (slotOf c.slot)) s (by omega)).1 hd
  unfold setW
  rw [e1, e2, if_pos (by simp)]
theorem setR_inv {may : List ByteArray} {none : Bool} {f : Int} (hf : 0 ≤ f ∧ f < 16) {c : CS} {st : DS} (K : List Int) {s : ByteArray} (hs : s.size ≤ 65536) (h : CInv may none f c st) : Behind may none f s (setR st K f c s) := by
  obtain ⟨hI, h⟩ := h
  unfold setR
  rw [if_neg (by omega)]
  rcases h with ⟨hd, x, hF, hG⟩ | ⟨hd, h⟩
  · have e : (if c.sure = false ∧ 0 < c.slot then if syncCode st K f ≠ 0 then (syncCode st K f, c, syncS st K f) else setW (syncS st K f) K f ⟨c.slot, c.value, true⟩ s else setW st K f c s) = (9, c, st) := by
      split
      · obtain ⟨e1, e2⟩ := (sync_step hI K hf).1 hd
        rw [e1, e2, if_pos (by simp)]
      · exact setW_down hf c K hs hI hd
    rw [e]
    exact ⟨hI, fun h => absurd h (by simp), fun _ => ⟨hI, Or.inl ⟨hd, x, hF, hG.more s⟩⟩⟩
  · split
    · rename_i hcs
      have i1 : DInv (syncS st K f) := hI.sync K f
      rcases (sync_step hI K hf).2 hd with ⟨e1, d1, F1⟩ | ⟨e1, d1, F1⟩ | ⟨e1, d1, y, C, hy, yF, F1⟩
      · rw [if_neg (by rw [e1]; simp)]
        refine setW_inv hf K hs i1 d1 ?_
        rw [F1]
        show Settled may none ⟨c.slot, c.value, true⟩ (st.F f).now (st.F f).now
        rcases h with (⟨h0, h1, h2, h3⟩ | ⟨h1, h2, h3⟩) | ⟨_, h1, h2, h3, h4, h5⟩
        · omega
        · exact Or.inr ⟨h1, h1, h3⟩
        · exact Or.inr ⟨⟨h1, h2⟩, ⟨h1, h2⟩, h4⟩
      · rw [if_pos (by rw [e1]; simp), e1]
        refine ⟨i1, fun h => absurd h (by simp), fun _ => ⟨i1, Or.inr ⟨d1, ?_⟩⟩⟩
        rw [F1]
        exact h.imp (fun h => h.more s) (fun h => ⟨h.1, h.2.more s⟩)
      · rw [if_pos (by rw [e1]; simp), e1]
        refine ⟨i1, fun h => absurd h (by simp), fun _ => ⟨i1, Or.inl ⟨d1, _, F1, ?_⟩⟩⟩
        rcases h with h | ⟨_, h⟩
        · have h2 : Settled may none c (y.F f).now (y.F f).last := by rw [yF]; exact h
          exact (h2.after hy C).more s
        · have h2 : HalfWay may none c.slot c.value (y.F f).now (y.F f).last := by rw [yF]; exact h
          exact (h2.after hy C).more s
    · rename_i hcs
      refine setW_inv hf K hs hI hd ?_
      rcases h with h | ⟨h0, h1, h2⟩
      · exact h
      · exfalso
        apply hcs
        refine ⟨h0, ?_⟩
        rcases h1.1 with h | h <;> omega

/-- A restart: what is found. -/
theorem again_inv {may : List ByteArray} {none : Bool} {f : Int} (hf : 0 ≤ f ∧ f < 16) {c : CS} {st : DS} (h : CInv may none f c st) (C : List Int) :
    openC (afterS st C) f = 0 ∧ ((openV (afterS st C) f = ⟨0, ⟨#[]⟩, false⟩ ∧ none = true ∧ CInv [] none f ⟨0, ⟨#[]⟩, false⟩ (afterS st C)) ∨
      ∃ k v, openV (afterS st C) f = ⟨k, v, false⟩ ∧ 0 < k ∧ v ∈ may ∧ CInv [v] false f ⟨k, v, false⟩ (afterS st C)) := by
  obtain ⟨hI, h⟩ := h
  have hx : ∃ x, (afterS st C).F f = ⟨x, x⟩ ∧ Good may none x := by
    rcases h with ⟨hd, x, hF, hG⟩ | ⟨hd, h⟩
    · refine ⟨x, ?_, hG⟩
      simp [afterS, crashS, hd, hF]
    · refine ⟨afterB st f C, by simp [afterS, crashS, hd, lastF, afterB], ?_⟩
      rcases h with h | ⟨_, h⟩
      · exact h.after hI C
      · exact h.after hI C
  obtain ⟨x, hF, hG⟩ := hx
  have hm : mayCode (afterS st C) f = 0 := may_of rfl hf.1 hf.2
  have hIA : DInv (afterS st C) := (hI.crash C).setDown false
  rcases hG with ⟨h1, h2⟩ | ⟨k, v, h1, h2⟩
  · obtain ⟨e1, e2⟩ := open_zero hm (by rw [hF]; exact h2)
    exact ⟨e1, Or.inl ⟨e2, h1, hIA, Or.inr ⟨rfl, Or.inl (Or.inl ⟨rfl, h1, by rw [hF]; exact h2, by rw [hF]; exact h2⟩)⟩⟩⟩
  · obtain ⟨e1, e2⟩ := open_holds hm (k := k) (s := v) (by rw [hF]; exact h1)
    refine ⟨e1, Or.inr ⟨k, v, e2, by rcases h1.1.1 with h | h <;> omega, h2, hIA, Or.inr ⟨rfl, Or.inl (Or.inr ⟨by rw [hF]; exact h1, by rw [hF]; exact h1, by simp⟩)⟩⟩⟩

end Go.Proofs.YtdcgdnlpagadcaaDoor
