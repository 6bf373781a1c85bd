/- Contracts and lemmas (texts CellS, CelA, joined by a program). -/
import Derived.Test.YtdcgdnlpagadcaaDoorMc8
/- Plain: a cell on a calm disk; the documented example. No program in sight. -/
namespace Go.Proofs.YtdcgdnlpagadcaaDoor

/-- Nothing is armed, lost or down. -/
def Calm (st : DS) : Prop := st.down = false ∧ st.armed = 0 ∧ st.lost = 0
theorem calm_write {st : DS} (h : Calm st) (K : List Int) {f : Int} (hf : 0 ≤ f ∧ f < 16) (a : Nat) (s : ByteArray) (ha : a + s.size ≤ 16777216) :
    writeCode st f a s = 0 ∧ Calm (writeS st K f a s) ∧ (writeS st K f a s).F f = ⟨putB (st.F f).now a s, (st.F f).last⟩ ∧ ∀ g, g ≠ f → (writeS st K f a s).F g = st.F g := by
  obtain ⟨h1, h2, h3⟩ := h
  have hb : endsB st = false := by simp [endsB, h2]
  have hs : endsS st = st := by simp [endsS, h2]
  have hm : mayCode st f = 0 := may_of h1 hf.1 hf.2
  have hc : wrCode st f (a : Int) s = 0 := by rw [wrCode, if_neg (by simp [hm]), if_neg (by omega), if_neg (by omega)]
  rw [writeCode, writeS, hb, hs]
  simp only [Bool.false_eq_true, if_false]
  refine ⟨hc, ?_, ?_, ?_⟩
  · unfold wrS Calm; split <;> exact ⟨h1, h2, h3⟩
  · unfold wrS
    split
    · simp only [updF_same, Int.toNat_natCast]
    · rename_i hn
      have h0 : s.size = 0 := by
        rcases Nat.eq_zero_or_pos s.size with h | h
        · exact h
        · exact absurd ⟨hc, h⟩ hn
      rw [putB_zero _ _ _ h0]
  · intro g hg
    unfold wrS
    split
    · simp only [updF, if_neg hg]
    · rfl
theorem calm_sync {st : DS} (h : Calm st) (K : List Int) {f : Int} (hf : 0 ≤ f ∧ f < 16) :
    syncCode st K f = 0 ∧ Calm (syncS st K f) ∧ (syncS st K f).F f = ⟨(st.F f).now, (st.F f).now⟩ ∧ ∀ g, g ≠ f → (syncS st K f).F g = st.F g := by
  obtain ⟨h1, h2, h3⟩ := h
  have he : endS st K = st := by simp [endS, endsB, endsS, h2]
  have hm : mayCode st f = 0 := may_of h1 hf.1 hf.2
  have hS : syncS st K f = settleS st f (st.F f).now := by simp only [syncS, he]; rw [if_neg (by simp [hm]), if_neg (by omega)]
  rw [hS]
  refine ⟨by rw [syncCode, he, if_neg (by simp [hm]), if_neg (by omega)], ⟨h1, h2, h3⟩, by simp [settleS, updF_same], fun g hg => by simp only [settleS, updF, if_neg hg]⟩
/-- The file that a set leaves on a calm disk. -/
def setNow (x : ByteArray) (k : Int) (s : ByteArray) : ByteArray := putB (putB x (off k) s) 0 (hdrB k s)
theorem calm_setW {st : DS} (h : Calm st) (K : List Int) {f : Int} (hf : 0 ≤ f ∧ f < 16) (c : CS) (s : ByteArray) (hs : s.size ≤ 65536) :
    (setW st K f c s).1 = 0 ∧ (setW st K f c s).2.1 = ⟨slotOf c.slot, s, true⟩ ∧ Calm (setW st K f c s).2.2 ∧
      (setW st K f c s).2.2.F f = ⟨setNow (st.F f).now (slotOf c.slot) s, setNow (st.F f).now (slotOf c.slot) s⟩ ∧ ∀ g, g ≠ f → (setW st K f c s).2.2.F g = st.F g := by
  have hoff : off (slotOf c.slot) ≤ 131072 := by rcases off_cases (slotOf c.slot) with h | h <;> omega
  obtain ⟨a1, a2, a3, a4⟩ := calm_write h K hf (off (slotOf c.slot)) s (by omega)
  obtain ⟨b1, b2, b3, b4⟩ := calm_sync a2 K hf
  obtain ⟨c1, c2, c3, c4⟩ := calm_write b2 K hf 0 (hdrB (slotOf c.slot) s) (by rw [hdrB_size]; omega)
  obtain ⟨d1, d2, d3, d4⟩ := calm_sync c2 K hf
  simp only [show ((0 : Nat) : Int) = 0 from rfl] at c1 c2 c3 c4 d1 d2 d3 d4
  have e : setW st K f c s = (0, ⟨slotOf c.slot, s, true⟩, syncS (writeS (syncS (writeS st K f (off (slotOf c.slot) : Nat) s) K f) K f 0 (hdrB (slotOf c.slot) s)) K f) := by
    rw [setW, if_neg (by simp [a1]), if_neg (by simp [b1]), if_neg (by simp [c1]), d1]
    rfl
  rw [e]
  refine ⟨rfl, rfl, d2, ?_, fun g hg => ?_⟩
  · show (syncS _ K f).F f = _
    rw [d3, c3, b3, a3]; rfl
  · show (syncS _ K f).F g = _
    rw [d4 g hg, c4 g hg, b4 g hg, a4 g hg]
theorem calm_new : Calm DS.new := ⟨rfl, rfl, rfl⟩

def sA : ByteArray := ⟨#[97]⟩
def sBC : ByteArray := ⟨#[98, 99]⟩
def c0S : CS := ⟨0, ⟨#[]⟩, false⟩
def c1S : CS := ⟨1, sA, true⟩
def c2S : CS := ⟨2, sBC, true⟩
def s1S : DS := (setR DS.new [] 3 c0S sA).2.2
def s2S : DS := (setR s1S [] 3 c1S sBC).2.2
theorem s1_is : (setR DS.new [] 3 c0S sA).1 = 0 ∧ (setR DS.new [] 3 c0S sA).2.1 = c1S ∧ Calm s1S ∧ (s1S.F 3).now = setNow ⟨#[]⟩ 1 sA := by
  have e : setR DS.new [] 3 c0S sA = setW DS.new [] 3 c0S sA := by rw [setR, if_neg (by decide), if_neg (by decide)]
  obtain ⟨h1, h2, h3, h4, -⟩ := calm_setW calm_new [] (f := 3) (by omega) c0S sA (by decide)
  unfold s1S
  rw [e]
  exact ⟨h1, h2, h3, by rw [h4]; rfl⟩
theorem s2_is : (setR s1S [] 3 c1S sBC).1 = 0 ∧ (setR s1S [] 3 c1S sBC).2.1 = c2S ∧ Calm s2S ∧ (s2S.F 3).now = setNow (setNow ⟨#[]⟩ 1 sA) 2 sBC := by
  obtain ⟨-, -, k3, k4⟩ := s1_is
  have e : setR s1S [] 3 c1S sBC = setW s1S [] 3 c1S sBC := by rw [setR, if_neg (by decide), if_neg (by decide)]
  obtain ⟨h1, h2, h3, h4, -⟩ := calm_setW k3 [] (f := 3) (by omega) c1S sBC (by decide)
  unfold s2S
  rw [e]
  exact ⟨h1, h2, h3, by rw [h4, k4]; rfl⟩
theorem s2_size : (s2S.F 3).now.size = 131074 := by
  rw [s2_is.2.2.2]
  unfold setNow
  simp only [putB_size, hdrB_size]
  decide
theorem s2_read (a z : Nat) (t : ByteArray) (h1 : t.size = min (a + z) 131074 - a) (h2 : ∀ i, i < t.size → byteA (s2S.F 3).now (a + i) = byteA t i) : readCode s2S 3 a z = 0 ∧ readStr s2S 3 a z = t := by
  have hm : mayCode s2S 3 = 0 := may_of s2_is.2.2.1.1 (by omega) (by omega)
  obtain ⟨r1, r2⟩ := read_part hm a z
  refine ⟨r1, ?_⟩
  rw [r2]
  refine bytes_ext (by rw [extract_size, s2_size, h1]) (fun i hi => ?_)
  rw [extract_size, s2_size] at hi
  rw [extract_at, if_pos (by omega)]
  exact h2 i (by omega)
theorem s2_byte (i : Nat) : byteA (s2S.F 3).now i = if i < 5 then byteA (hdrB 2 sBC) i else if 131072 ≤ i ∧ i < 131074 then byteA sBC (i - 131072) else if i = 64 then byteA sA 0 else 0 := by
  rw [s2_is.2.2.2]
  unfold setNow
  simp only [putB_at, hdrB_size, show off 1 = 64 from rfl, show off 2 = 131072 from rfl, show sA.size = 1 from rfl, show sBC.size = 2 from rfl]
  by_cases c1 : i < 5
  · rw [if_pos (by omega), if_pos c1]; rfl
  · rw [if_neg (by omega), if_neg c1]
    by_cases c2 : 131072 ≤ i ∧ i < 131074
    · rw [if_pos (by omega), if_pos c2]
    · rw [if_neg (by omega), if_neg c2, if_neg (by omega)]
      by_cases c3 : i = 64
      · rw [if_pos (by omega), if_pos c3, c3]
      · rw [if_neg (by omega), if_neg c3]
        exact byteA_past (Nat.zero_le _)
theorem s2_head : readCode s2S 3 0 6 = 0 ∧ readStr s2S 3 0 6 = ⟨#[2, 2, 0, 0, 0, 0]⟩ := by
  refine s2_read 0 6 ⟨#[2, 2, 0, 0, 0, 0]⟩ (by show 6 = _; omega) (fun i hi => ?_)
  have h6 : i < 6 := hi
  rw [s2_byte]
  match i, h6 with
  | 0, _ => rfl
  | 1, _ => rfl
  | 2, _ => rfl
  | 3, _ => rfl
  | 4, _ => rfl
  | 5, _ => rfl
theorem s2_a : readCode s2S 3 64 1 = 0 ∧ readStr s2S 3 64 1 = sA := by
  refine s2_read 64 1 sA (by show 1 = _; omega) (fun i hi => ?_)
  have h1 : i < 1 := hi
  rw [s2_byte]
  match i, h1 with
  | 0, _ => rfl
theorem s2_b : readCode s2S 3 131072 9 = 0 ∧ readStr s2S 3 131072 9 = sBC := by
  refine s2_read 131072 9 sBC (by show 2 = _; omega) (fun i hi => ?_)
  have h2 : i < 2 := hi
  rw [s2_byte, if_neg (by omega), if_pos (by omega), Nat.add_sub_cancel_left]
theorem s0_open : openC DS.new 3 = 0 ∧ openV DS.new 3 = c0S := open_zero (may_of rfl (by omega) (by omega)) rfl

end Go.Proofs.YtdcgdnlpagadcaaDoor

/- Contracts of package cell: Get, header. -/
namespace Go.Proofs.YtdcgdnlpagadcaaDoor
open Go.RowKit Go.Proofs.YtdcgdnlpagadcaaDoorMem Go.Maps
open Go.Lib (byteCells byteCells_length byteCells_append)

/-- The table of the slots' offsets. -/
def Offs (w : World) : Prop := w.cell? ⟨0, 0, none⟩ = some (.int .i64 0) ∧ w.cell? ⟨0, 1, none⟩ = some (.int .i64 64) ∧ w.cell? ⟨0, 2, none⟩ = some (.int .i64 131072)
theorem Offs.lt {w : World} (h : Offs w) : 0 < w.heap.size := World.block_lt_of_cell? w _ h.1
theorem Offs.kept {w w' : World} (h : Offs w) (ht : Turns [] w w') : Offs w' :=
  ⟨(ht.cell (a := ⟨0, 0, none⟩) h.lt (by simp)).trans h.1, (ht.cell (a := ⟨0, 1, none⟩) h.lt (by simp)).trans h.2.1, (ht.cell (a := ⟨0, 2, none⟩) h.lt (by simp)).trans h.2.2⟩
def cellObj (d : Nat) (f : Int) (c : CS) : Obj := .cells #[.pointer (some ⟨d, 0, none⟩), .int .i64 f, .int .i64 c.slot, .string c.value, .bool c.sure] 63 (0, 0)

theorem cell_get (b d : Nat) (f : Int) (c : CS) (w : World) (h : w.heap[b]? = some (cellObj d f c)) :
    Calls Tryd.prog 16 #[.pointer (some ⟨b, 0, none⟩)] w fun e w' => e = .returned (.tuple #[.string c.value, .bool (decide (0 < c.slot))]) ∧ Turns [] w w' := by
  have c2 : w.cell? ⟨b, 2, none⟩ = some (.int .i64 c.slot) := cell_at h 2
  have c3 : w.cell? ⟨b, 3, none⟩ = some (.string c.value) := cell_at h 3
  clear h
  go_enter Tryd.func16, Tryd.ntmps16
  go_wp2_with fail
  go_region
  go_wp2_with fail
  go_ret2
  exact ⟨rfl, (Turns.refl _ _).drew⟩

theorem own_ge {w : World} {base : Nat} {e : TypeId} {size : Nat} {v : Value} {n : Nat} {xs : List Value} (h : w.ownsRow base e size v n xs) : ∀ x ∈ v.ownBlock.toList, base ≤ x := by
  rcases h.2 with ⟨rfl, _⟩ | ⟨g, cap, cur, rfl, hg, _⟩
  · intro x hx; simp [Value.ownBlock] at hx
  · intro x hx; simp [Value.ownBlock] at hx; omega
def lenV (v : Value) : Nat := match v with | .slice _ n _ => n | _ => 0
def hdrL (k : Int) (n : Nat) : List UInt8 := [UInt8.ofNat k.toNat, UInt8.ofNat n, UInt8.ofNat (n / 256), UInt8.ofNat (n / 65536), UInt8.ofNat (n / 16777216)]
theorem hdrL_zero {k : Int} (hk : k = 1 ∨ k = 2) (n : Nat) : byteCells ((hdrL k n).take 1) = [.int .u8 k] := by
  rcases hk with rfl | rfl <;> rfl
theorem hdrL_next (k : Int) (n m : Nat) (hm : m < 4) : byteCells ((hdrL k n).take (m + 1)) ++ [.int .u8 (((n / 256 ^ m : Nat) : Int) % 256)] = byteCells ((hdrL k n).take (m + 1 + 1)) := by
  have e : ∀ x : Nat, Value.int .u8 ((UInt8.ofNat x).toNat : Nat) = .int .u8 ((x : Int) % 256) := fun x => by
    rw [UInt8.toNat_ofNat']; congr 1
  have h : m = 0 ∨ m = 1 ∨ m = 2 ∨ m = 3 := by omega
  rcases h with rfl | rfl | rfl | rfl
  · simp only [hdrL, byteCells, List.take, List.map]; rw [← e, Nat.pow_zero, Nat.div_one]; rfl
  · simp only [hdrL, byteCells, List.take, List.map]; rw [← e]; rfl
  · simp only [hdrL, byteCells, List.take, List.map]; rw [← e]; rfl
  · simp only [hdrL, byteCells, List.take, List.map]; rw [← e]; rfl

set_option maxHeartbeats 800000 in
set_option maxRecDepth 100000 in
theorem header_any (k : Int) (s : ByteArray) (w : World) (hk : k = 1 ∨ k = 2) (hs : s.size ≤ 65536) :
    Calls Tryd.prog 35 #[.int .i64 k, .string s] w fun e w' => e = .returned (.string (hdrB k s)) ∧ Turns [] w w' := by
  obtain ⟨i0, hi, hz0, hz1, hz2⟩ := info_parts Tryd.info5
  go_enter Tryd.func35, Tryd.ntmps35
  go_wp2_with fail
  go_loopw [5, 6] (fun v nv wr => ∃ m : Nat, m ≤ 4 ∧ nv = .int .i64 ((s.size / 256 ^ m : Nat) : Int) ∧ Hid (wr.ownsRow w.heap.size 5 1 v (m + 1) (byteCells ((hdrL k s.size).take (m + 1)))) ∧ Hid (Turns [] w wr)) (fun v _ _ => 5 - lenV v)
  case atStart =>
    refine ⟨0, by omega, by simp, ?_, Turns.alloc _ _ _⟩
    rw [hdrL_zero hk]
    exact ⟨rfl, .inr ⟨w.heap.size, 1, #[.int .u8 k], rfl, Nat.le_refl _, heap_alloc_here _ _, Nat.le_refl _, by unfold maxLen; omega, rfl, rfl⟩⟩
  case round =>
    obtain ⟨m, hm, rfl, hO, hT⟩ := hrel
    obtain ⟨a, cp, rfl, hc1, hc2⟩ := own_shape (own_base hO.out (Nat.zero_le _))
    obtain ⟨n, hn⟩ : ∃ n : Nat, n = s.size / 256 ^ m := ⟨_, rfl⟩
    rw [← hn]
    have hnb : n ≤ 65536 := by rw [hn]; exact Nat.le_trans (Nat.div_le_self _ _) hs
    have HN := Lib.hid hn; clear hn
    by_cases hlt : m < 4
    · have hltI : (m : Int) + 1 < 5 := by omega
      go_wp2_with (at_builtin; refine wpList_append_src _ rfl (.tmp 17) (.tmp 20) 54 rfl 5 i0 (.int .u8 0) 1 1 Tryd.underlying54 hi hz0 hz1 hz2 rfl (by decide) (.slice a (m + 1) cp) (m + 1) (byteCells ((hdrL k s.size).take (m + 1))) rfl (own_base (own_kept hO.out (Turns.alloc [] wr _) (by simp)) (Nat.zero_le _)) (.slice (some ⟨wr.heap.size, 0, none⟩) 1 1) 1 [.int .u8 ((n : Int) % 256)] rfl (.inr ⟨_, _, rfl, new_cells wr _ 5 _ rfl⟩) ?c1 ?c3 ?c4 ?c5 ?_)
      case c1 => rfl
      case c3 => intro u hu; simp at hu; rw [hu]; rfl
      case c4 => unfold maxLen; omega
      case c5 => omega
      intro v' w1 hown hgr hat
      have HB : Hid (w1.ownsRow w.heap.size 5 1 v' (m + 1 + 1) (byteCells ((hdrL k s.size).take (m + 1 + 1))) ∧ Turns [] w w1) := by
        have hge : ∀ x ∈ v'.ownBlock.toList, w.heap.size ≤ x := fun x hx => by
          rcases hat with h | h
          · rw [h] at hx; exact own_ge hO.out x hx
          · rw [h] at hx; simp at hx; have := hT.out.size; have e : (wr.alloc (.cells #[.int .u8 ((n : Int) % 256)] 5)).heap.size = wr.heap.size + 1 := by show (wr.heap.push _).size = _; exact Array.size_push _
            omega
        refine ⟨?_, hT.out.trans_new ((Turns.alloc _ wr _).trans (Turns.of_grown (S := (Value.slice a (m + 1) cp).ownBlock.toList) hgr (fun x hx => Or.inl (by simp [hx])))) (fun x hx => Or.inr (own_ge hO.out x hx))⟩
        rw [← hdrL_next k s.size m hlt, ← HN.out]
        exact own_above hown hge
      clear hown hgr hat
      go_wp2_with fail
      go_roundw
      case rel =>
        refine ⟨m + 1, by omega, ?_, HB.out.1, HB.out.2⟩
        have e : s.size / 256 ^ (m + 1) = n / 256 := by rw [HN.out, Nat.pow_succ, Nat.div_div_eq_div_mul]
        rw [e]
        show Value.int IntKind.i64 ((n : Int) / 256) = Value.int IntKind.i64 ((n / 256 : Nat) : Int)
        rfl
      case measure =>
        obtain ⟨a', c', rfl, -, -⟩ := own_shape (own_base HB.out.1 (Nat.zero_le _))
        simp [lenV]; omega
    · have hltI : ¬ (m : Int) + 1 < 5 := by omega
      obtain rfl : m = 4 := by omega
      have hcv : (convert 54 9 (Value.slice a 5 cp)).run Tryd.prog wr = .ok (.string (hdrB k s)) wr := by
        rcases id hO.out.2 with ⟨_, h0⟩ | ⟨g, cap, cur, hv, _, hg, hcap, hmax, hsz, htake⟩
        · simp at h0
        · obtain ⟨rfl, -, rfl⟩ := Value.slice.inj hv
          have := run_convert_bytes_back (P := Tryd.prog) wr 54 9 5 ⟨g, 0, none⟩ cp (hdrL k s.size) Tryd.underlying54 Tryd.underlying5 Tryd.underlying9 (fun j hj => by
            refine hO.out.cells (g := g) rfl j _ ?_
            show (byteCells (hdrL k s.size))[j]? = _
            simp only [byteCells, List.getElem?_map, List.getElem?_eq_getElem hj]
            rfl)
          exact this
      go_wp2_with fail
      go_ret
      exact ⟨rfl, hT.out⟩

end Go.Proofs.YtdcgdnlpagadcaaDoor
