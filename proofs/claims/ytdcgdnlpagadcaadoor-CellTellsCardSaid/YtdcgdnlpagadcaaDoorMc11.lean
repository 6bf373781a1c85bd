/- Contracts and lemmas (texts CelC, CelD, CelE, CelF, joined by a program). -/
import Derived.Test.YtdcgdnlpagadcaaDoorMc10
/- Contract of package cell: Open. -/
namespace Go.Proofs.YtdcgdnlpagadcaaDoor
open Go.RowKit Go.Proofs.YtdcgdnlpagadcaaDoorMem Go.Maps

/-- What Open leaves. -/
def OpenPost (w0 : World) (d B : Nat) (f : Int) (st : DS) (K : List Int) (pre post : List Thing) (e : Ending) (w' : World) : Prop :=
  (openC st f ≠ 0 ∧ e = .returned (.tuple #[.pointer none, .int .i64 (openC st f)]) ∧ Sep w0 w' (pre ++ machThing d B st K :: post)) ∨
  (openC st f = 0 ∧ ∃ cb, e = .returned (.tuple #[.pointer (some ⟨cb, 0, none⟩), .int .i64 0]) ∧ Sep w0 w' (blockThing cb (cellObj d f (openV st f)) :: (pre ++ machThing d B st K :: post)))
theorem emptyB {s : ByteArray} (h : s.size = 0) : s = ⟨#[]⟩ := by
  obtain ⟨d⟩ := s
  have : d.size = 0 := h
  rw [Array.size_eq_zero_iff.1 this]
theorem notEmptyB {s : ByteArray} (h : 0 < s.size) : s.toList.isEmpty = false := by
  rw [ByteArray.toList_eq]
  cases e : s.data.toList
  · have : s.data.toList.length = s.size := by simp
    rw [e] at this; simp at this; omega
  · rfl
theorem index_byte (s : ByteArray) (i : Nat) (h : i < s.size) (w : World) : (Instr.index 9 (.string s) (.int .i64 (i : Int))).run Tryd.prog w = .ok (.int .u8 ((byteA s i).toNat : Int)) w := by
  rw [run_index_string (P := Tryd.prog) w 9 s .i64 i Tryd.underlying9]
  rw [dif_pos ⟨by omega, by omega⟩, byteA_get h]
  rfl
theorem byte_num {b : UInt8} {n : Nat} (hn : n < 256) (h : (b.toNat : Int) = n) : b = UInt8.ofNat n := by
  apply UInt8.toNat_inj.1
  rw [UInt8.toNat_ofNat']
  omega
/-- The number that the header's last bytes give, byte by byte. -/
def hT (h : ByteArray) : Nat → Nat
  | 0 => 0
  | m + 1 => hT h m * 256 + (byteA h (4 - m)).toNat
theorem hT_lt (h : ByteArray) : ∀ m, hT h m < 256 ^ m
  | 0 => by simp [hT]
  | m + 1 => by
    have := hT_lt h m
    have h2 : (byteA h (4 - m)).toNat < 256 := (byteA h (4 - m)).toNat_lt
    rw [hT, Nat.pow_succ]
    omega
theorem hT_four (h : ByteArray) : hT h 4 = hN h := by
  show (((0 * 256 + (byteA h 4).toNat) * 256 + (byteA h 3).toNat) * 256 + (byteA h 2).toNat) * 256 + (byteA h 1).toNat = _
  unfold hN
  omega
theorem or_bytes (n : Nat) (b : UInt8) (hn : n < 16777216) : bits .or .i64 (wrap64 ((n : Int) * 256)) (wrap64 (b.toNat : Int)) = ((n * 256 + b.toNat : Nat) : Int) := by
  have hb := b.toNat_lt
  have e1 : wrap64 ((n : Int) * 256) = ((n * 256 : Nat) : Int) := by unfold wrap64; omega
  have e2 : wrap64 (b.toNat : Int) = ((b.toNat : Nat) : Int) := by unfold wrap64; omega
  rw [e1, e2]
  have key : (BitVec.ofInt 64 ((n * 256 : Nat) : Int) ||| BitVec.ofInt 64 (b.toNat : Int)).toNat = n * 256 + b.toNat := by
    rw [BitVec.toNat_or, BitVec.toNat_ofInt, BitVec.toNat_ofInt]
    have x1 : ((((n * 256 : Nat) : Int)) % ((2 ^ 64 : Nat) : Int)).toNat = n <<< 8 := by rw [Nat.shiftLeft_eq]; omega
    have x2 : (((b.toNat : Nat) : Int) % ((2 ^ 64 : Nat) : Int)).toNat = b.toNat := by omega
    rw [x1, x2, ← Nat.shiftLeft_add_eq_or_of_lt (by simpa using hb), Nat.shiftLeft_eq]
  show IntKind.i64.wrap ((BitVec.ofInt 64 ((n * 256 : Nat) : Int) ||| BitVec.ofInt 64 (b.toNat : Int)).toNat : Nat) = _
  rw [key, IntKind.wrap_i64]
  omega
theorem read_may {st : DS} {f : Int} (h : readCode st f 0 5 = 0) : mayCode st f = 0 := by
  unfold readCode at h
  split at h
  · assumption
  · exact h
section
variable {w0 w : World} {d B : Nat} {f : Int} {st : DS} {K : List Int}

set_option maxHeartbeats 3200000 in
set_option maxRecDepth 100000 in
theorem open_bad (pre post : List Thing) (h : Sep w0 w (pre ++ machThing d B st K :: post)) (hf : (Lit.int .i64 f).wf = true) (h0 : readCode st f 0 5 ≠ 0) :
    Calls Tryd.prog 11 #[.pointer (some ⟨d, 0, none⟩), .int .i64 f] w (OpenPost w0 d B f st K pre post) := by
  have e1 : openC st f = readCode st f 0 5 := by rw [openC, if_pos h0]
  go_enter Tryd.func11, Tryd.ntmps11
  go_wp2_with fail
  have HA : Hid (Sep w0 (w.alloc (.cells #[.pointer (some ⟨d, 0, none⟩), .int .i64 f, .int .i64 0, .string ⟨#[]⟩, .bool false] 63)) (blockThing w.heap.size (cellObj d f ⟨0, ⟨#[]⟩, false⟩) :: (pre ++ machThing d B st K :: post))) := Sep.alloc h (cellObj d f ⟨0, ⟨#[]⟩, false⟩)
  generalize w.alloc (.cells #[.pointer (some ⟨d, 0, none⟩), .int .i64 f, .int .i64 0, .string ⟨#[]⟩, .bool false] 63) = W at *
  generalize w.heap.size = cb at *
  clear h
  refine (dread_sep (_ :: pre) post f 0 5 HA.out hf).mono ?_
  rintro e w2 ⟨rfl, rfl⟩
  generalize readCode st f 0 5 = x at *
  generalize readStr st f 0 5 = hd at *
  go_wp2_with fail
  go_ret2
  exact Or.inl ⟨by rw [e1]; exact h0, by rw [e1]; rfl, HA.out.drop⟩

set_option maxHeartbeats 3200000 in
set_option maxRecDepth 100000 in
theorem open_none0 (pre post : List Thing) (h : Sep w0 w (pre ++ machThing d B st K :: post)) (hf : (Lit.int .i64 f).wf = true) (h0 : readCode st f 0 5 = 0) (h1 : (readStr st f 0 5).size = 0) :
    Calls Tryd.prog 11 #[.pointer (some ⟨d, 0, none⟩), .int .i64 f] w (OpenPost w0 d B f st K pre post) := by
  have e1 : openC st f = 0 := by rw [openC, if_neg (by simp [h0]), if_pos (Or.inl h1)]
  have e2 : openV st f = ⟨0, ⟨#[]⟩, false⟩ := by rw [openV, if_pos (Or.inl h1)]
  go_enter Tryd.func11, Tryd.ntmps11
  go_wp2_with fail
  have HA : Hid (Sep w0 (w.alloc (.cells #[.pointer (some ⟨d, 0, none⟩), .int .i64 f, .int .i64 0, .string ⟨#[]⟩, .bool false] 63)) (blockThing w.heap.size (cellObj d f ⟨0, ⟨#[]⟩, false⟩) :: (pre ++ machThing d B st K :: post))) := Sep.alloc h (cellObj d f ⟨0, ⟨#[]⟩, false⟩)
  generalize w.alloc (.cells #[.pointer (some ⟨d, 0, none⟩), .int .i64 f, .int .i64 0, .string ⟨#[]⟩, .bool false] 63) = W at *
  generalize w.heap.size = cb at *
  clear h
  refine (dread_sep (_ :: pre) post f 0 5 HA.out hf).mono ?_
  rintro e w2 ⟨rfl, rfl⟩
  rw [h0, emptyB h1]
  clear h0 h1
  go_wp2_with fail
  go_ret2
  exact Or.inr ⟨e1, cb, rfl, by rw [e2]; exact HA.out⟩

set_option maxHeartbeats 3200000 in
set_option maxRecDepth 100000 in
theorem open_none1 (pre post : List Thing) (h : Sep w0 w (pre ++ machThing d B st K :: post)) (hf : (Lit.int .i64 f).wf = true) (h0 : readCode st f 0 5 = 0) (h1 : 0 < (readStr st f 0 5).size) (h2 : byteA (readStr st f 0 5) 0 = 0) :
    Calls Tryd.prog 11 #[.pointer (some ⟨d, 0, none⟩), .int .i64 f] w (OpenPost w0 d B f st K pre post) := by
  have e1 : openC st f = 0 := by rw [openC, if_neg (by simp [h0]), if_pos (Or.inr h2)]
  have e2 : openV st f = ⟨0, ⟨#[]⟩, false⟩ := by rw [openV, if_pos (Or.inr h2)]
  go_enter Tryd.func11, Tryd.ntmps11
  go_wp2_with fail
  have HA : Hid (Sep w0 (w.alloc (.cells #[.pointer (some ⟨d, 0, none⟩), .int .i64 f, .int .i64 0, .string ⟨#[]⟩, .bool false] 63)) (blockThing w.heap.size (cellObj d f ⟨0, ⟨#[]⟩, false⟩) :: (pre ++ machThing d B st K :: post))) := Sep.alloc h (cellObj d f ⟨0, ⟨#[]⟩, false⟩)
  generalize w.alloc (.cells #[.pointer (some ⟨d, 0, none⟩), .int .i64 f, .int .i64 0, .string ⟨#[]⟩, .bool false] 63) = W at *
  generalize w.heap.size = cb at *
  clear h
  refine (dread_sep (_ :: pre) post f 0 5 HA.out hf).mono ?_
  rintro e w2 ⟨rfl, rfl⟩
  rw [h0]
  clear h0
  generalize readStr st f 0 5 = hd at *
  have hne := notEmptyB h1
  have hget : ∀ w', (Instr.index 9 (.string hd) (.int .i64 0)).run Tryd.prog w' = .ok (.int .u8 0) w' := fun w' => by
    have := index_byte hd 0 h1 w'
    rw [h2] at this
    exact this
  go_wp2_with fail
  go_ret2
  exact Or.inr ⟨e1, cb, rfl, by rw [e2]; exact HA.out⟩

set_option maxHeartbeats 3200000 in
set_option maxRecDepth 100000 in
theorem open_form (pre post : List Thing) (h : Sep w0 w (pre ++ machThing d B st K :: post)) (hf : (Lit.int .i64 f).wf = true) (h0 : readCode st f 0 5 = 0) (h1 : 0 < (readStr st f 0 5).size) (h2 : byteA (readStr st f 0 5) 0 ≠ 0) (h3 : (readStr st f 0 5).size < 5 ∨ ¬ (byteA (readStr st f 0 5) 0 = 1 ∨ byteA (readStr st f 0 5) 0 = 2)) :
    Calls Tryd.prog 11 #[.pointer (some ⟨d, 0, none⟩), .int .i64 f] w (OpenPost w0 d B f st K pre post) := by
  have e1 : openC st f = 2 := by rw [openC, if_neg (by simp [h0]), if_neg (by intro hh; exact hh.elim (fun hh => by omega) h2), if_pos h3]
  go_enter Tryd.func11, Tryd.ntmps11
  go_wp2_with fail
  have HA : Hid (Sep w0 (w.alloc (.cells #[.pointer (some ⟨d, 0, none⟩), .int .i64 f, .int .i64 0, .string ⟨#[]⟩, .bool false] 63)) (blockThing w.heap.size (cellObj d f ⟨0, ⟨#[]⟩, false⟩) :: (pre ++ machThing d B st K :: post))) := Sep.alloc h (cellObj d f ⟨0, ⟨#[]⟩, false⟩)
  generalize w.alloc (.cells #[.pointer (some ⟨d, 0, none⟩), .int .i64 f, .int .i64 0, .string ⟨#[]⟩, .bool false] 63) = W at *
  generalize w.heap.size = cb at *
  clear h
  refine (dread_sep (_ :: pre) post f 0 5 HA.out hf).mono ?_
  rintro e w2 ⟨rfl, rfl⟩
  rw [h0]
  clear h0
  generalize readStr st f 0 5 = hd at *
  have hne := notEmptyB h1
  have hget : ∀ w', (Instr.index 9 (.string hd) (.int .i64 0)).run Tryd.prog w' = .ok (.int .u8 ((byteA hd 0).toNat : Int)) w' := index_byte hd 0 h1
  have h4 : (((byteA hd 0).toNat : Int) == 0) = false := by rw [beq_eq_false_iff_ne]; intro hh; exact h2 (byte_num (n := 0) (by omega) hh)
  generalize hb : ((byteA hd 0).toNat : Int) = b0 at *
  by_cases h5 : hd.size < 5
  · have h6 : (hd.size : Int) < 5 := by omega
    go_wp2_with fail
    go_ret2
    exact Or.inl ⟨by rw [e1]; decide, by rw [e1]; rfl, HA.out.drop⟩
  · have h6 : ¬ (hd.size : Int) < 5 := by omega
    have h7 := h3.resolve_left h5
    have h8 : (b0 != 1) = true := by rw [bne_iff_ne, ← hb]; intro hh; exact h7 (Or.inl (byte_num (n := 1) (by omega) hh))
    have h9 : (b0 != 2) = true := by rw [bne_iff_ne, ← hb]; intro hh; exact h7 (Or.inr (byte_num (n := 2) (by omega) hh))
    go_wp2_with fail
    go_ret2
    exact Or.inl ⟨by rw [e1]; decide, by rw [e1]; rfl, HA.out.drop⟩

set_option maxHeartbeats 3200000 in
set_option maxRecDepth 100000 in
theorem open_some1 (pre post : List Thing) (h : Sep w0 w (pre ++ machThing d B st K :: post)) (hf : (Lit.int .i64 f).wf = true) (hO : Offs w0) (h0 : readCode st f 0 5 = 0) (h1 : 5 ≤ (readStr st f 0 5).size) (h2 : byteA (readStr st f 0 5) 0 = 1) :
    Calls Tryd.prog 11 #[.pointer (some ⟨d, 0, none⟩), .int .i64 f] w (OpenPost w0 d B f st K pre post) := by
  have hm := read_may h0
  have HO : Hid ((65536 < hN (readStr st f 0 5) → openC st f = 2) ∧ (¬ 65536 < hN (readStr st f 0 5) →
      ((readStr st f 64 (hN (readStr st f 0 5) : Nat)).size < hN (readStr st f 0 5) → openC st f = 2) ∧ (¬ (readStr st f 64 (hN (readStr st f 0 5) : Nat)).size < hN (readStr st f 0 5) → openC st f = 0 ∧ openV st f = ⟨1, readStr st f 64 (hN (readStr st f 0 5) : Nat), false⟩))) := by
    have n1 : ¬ ((readStr st f 0 5).size = 0 ∨ byteA (readStr st f 0 5) 0 = 0) := by rw [h2]; intro hh; exact hh.elim (fun hh => by omega) (fun hh => by revert hh; decide)
    have n2 : ¬ ((readStr st f 0 5).size < 5 ∨ ¬ (byteA (readStr st f 0 5) 0 = 1 ∨ byteA (readStr st f 0 5) 0 = 2)) := by rw [h2]; intro hh; exact hh.elim (fun hh => by omega) (fun hh => hh (by decide))
    have k1 : ((byteA (readStr st f 0 5) 0).toNat : Int) = 1 := by rw [h2]; rfl
    have k2 : ((off ((byteA (readStr st f 0 5) 0).toNat : Int) : Nat) : Int) = 64 := by rw [k1]; rfl
    rw [openC, if_neg (by simp [h0]), if_neg n1, if_neg n2, openV, if_neg n1, k2, k1]
    refine ⟨fun hh => by rw [if_pos hh], fun hh => ⟨fun h3 => by rw [if_neg hh, if_pos h3], fun h3 => ⟨by rw [if_neg hh, if_neg h3], rfl⟩⟩⟩
  go_enter Tryd.func11, Tryd.ntmps11
  go_wp2_with fail
  have HA : Hid (Sep w0 (w.alloc (.cells #[.pointer (some ⟨d, 0, none⟩), .int .i64 f, .int .i64 0, .string ⟨#[]⟩, .bool false] 63)) (blockThing w.heap.size (cellObj d f ⟨0, ⟨#[]⟩, false⟩) :: (pre ++ machThing d B st K :: post))) := Sep.alloc h (cellObj d f ⟨0, ⟨#[]⟩, false⟩)
  generalize w.alloc (.cells #[.pointer (some ⟨d, 0, none⟩), .int .i64 f, .int .i64 0, .string ⟨#[]⟩, .bool false] 63) = W at *
  generalize w.heap.size = cb at *
  clear h
  refine (dread_sep (_ :: pre) post f 0 5 HA.out hf).mono ?_
  rintro e w2 ⟨rfl, rfl⟩
  rw [h0]
  clear h0
  obtain ⟨hd, hhd⟩ : ∃ hd, hd = readStr st f 0 5 := ⟨_, rfl⟩
  rw [← hhd] at HO h1 h2 ⊢
  have hne := notEmptyB (show 0 < hd.size by omega)
  have hget : ∀ (i : Nat), i < 5 → ∀ w', (Instr.index 9 (.string hd) (.int .i64 (i : Int))).run Tryd.prog w' = .ok (.int .u8 ((byteA hd i).toNat : Int)) w' := fun i hi => index_byte hd i (by omega)
  have hget0 : ∀ w', (Instr.index 9 (.string hd) (.int .i64 0)).run Tryd.prog w' = .ok (.int .u8 1) w' := fun w' => by
    have := hget 0 (by omega) w'
    rw [h2] at this
    exact this
  have h6 : ¬ (hd.size : Int) < 5 := by omega
  have HG := Lib.hid hget; clear hget
  have HC : Hid (¬ cb = 0) := by
    obtain ⟨FP, hF, hge, -⟩ := HA.out.pick [] _ _
    obtain ⟨_, rfl⟩ := hF
    have h1 := hge cb (by simp)
    have h2 := hO.lt
    show ¬ cb = 0
    omega
  have HE := Lib.hid (And.intro hm (And.intro h1 (And.intro h2 hhd))); clear hm h1 h2 hhd
  go_wp2_with fail
  go_loopw [9, 10] (fun nv iv wr => ∃ m : Nat, m ≤ 4 ∧ nv = .int .i64 (hT hd m : Nat) ∧ iv = .int .i64 (4 - (m : Int)) ∧ wr = W) (fun _ iv _ => (intOf iv).toNat)
  case atStart => exact ⟨0, by omega, rfl, rfl, rfl⟩
  case round =>
    obtain ⟨m, hm, rfl, rfl, rfl⟩ := hrel
    by_cases hlt : m < 4
    · have hltI : (0 : Int) < 4 - (m : Int) := by omega
      have hi : ∀ w', (Instr.index 9 (.string hd) (.int .i64 (4 - (m : Int)))).run Tryd.prog w' = .ok (.int .u8 ((byteA hd (4 - m)).toNat : Int)) w' := fun w' => by
        have := HG.out (4 - m) (by omega) w'
        rwa [show ((4 - m : Nat) : Int) = 4 - (m : Int) by omega] at this
      have hb := hT_lt hd m
      have hb2 : hT hd m < 16777216 := Nat.lt_of_lt_of_le hb (Nat.pow_le_pow_right (by omega) (show m ≤ 3 by omega))
      have HB := Lib.hid hb2; clear hb hb2
      go_wp2_with fail
      go_roundw
      case rel => exact ⟨m + 1, by omega, by rw [or_bytes _ _ HB.out]; rfl, by congr 1; omega, trivial⟩
      case measure => simp [intOf]; omega
    · obtain rfl : m = 4 := by omega
      rw [hT_four]
      by_cases hbig : 65536 < hN hd
      · have hbigI : (65536 : Int) < (hN hd : Int) := by omega
        go_wp2_with fail
        go_ret2
        refine Or.inl ⟨?_, ?_, HA.out.drop⟩
        · rw [HO.out.1 hbig]; decide
        · rw [HO.out.1 hbig]; rfl
      · have hbigI : ¬ (65536 : Int) < (hN hd : Int) := by omega
        have hb := (cell_facts HA.out).2
        have z2 : wr.frozen? ⟨cb, 2, none⟩ = false := free_at hb 2
        have z3 : wr.frozen? ⟨cb, 3, none⟩ = false := free_at hb 3
        have y2 : wr.cell? ⟨cb, 2, none⟩ = _ := cell_at hb 2
        have y3 : wr.cell? ⟨cb, 3, none⟩ = _ := cell_at hb 3
        have ho := (hO.kept HA.out.turns).2.1
        have hne1 : ¬ cb = 0 := HC.out
        have hne2 : ¬ 0 = cb := fun hh => HC.out hh.symm
        have HB := Lib.hid hb; clear hb
        go_wp2_with fail
        have HA2 := Lib.hid (cell_turned HA.out (Turns.setCell wr _ (.int .i64 1) (by simp)) (c' := ⟨1, ⟨#[]⟩, false⟩) (heap_setCell_at HB.out 2 (.int .i64 1)))
        clear HA HB z2 z3 y2 y3 ho
        generalize wr.setCell ⟨cb, 2, none⟩ (.int .i64 1) = W2 at *
        have hb := (cell_facts HA2.out).2
        have z3 : W2.frozen? ⟨cb, 3, none⟩ = false := free_at hb 3
        have y3 : W2.cell? ⟨cb, 3, none⟩ = _ := cell_at hb 3
        have HB := Lib.hid hb; clear hb
        refine (dread_sep (_ :: pre) post f 64 (hN hd : Nat) HA2.out hf).mono ?_
        rintro e w2 ⟨rfl, rfl⟩
        have hrc : readCode st f 64 (hN hd : Nat) = 0 := (read_part HE.out.1 64 (hN hd)).1
        rw [hrc]
        have HF := Lib.hid (HO.out.2 hbig); clear hrc HO
        obtain ⟨v, hv⟩ : ∃ v, v = readStr st f 64 (hN hd : Nat) := ⟨_, rfl⟩
        rw [← hv] at HF ⊢
        clear hv
        by_cases hsh : v.size < hN hd
        · have hshI : (v.size : Int) < (hN hd : Int) := by omega
          go_wp2_with fail
          go_ret2
          refine Or.inl ⟨?_, ?_, Sep.drop (cell_turned HA2.out (Turns.setCell _ _ _ (by simp)) (c' := ⟨1, v, false⟩) (heap_setCell_at HB.out 3 _))⟩
          · rw [HF.out.1 hsh]; decide
          · rw [HF.out.1 hsh]; rfl
        · have hshI : ¬ (v.size : Int) < (hN hd : Int) := by omega
          go_wp2_with fail
          go_ret2
          refine Or.inr ⟨(HF.out.2 hsh).1, cb, rfl, ?_⟩
          rw [(HF.out.2 hsh).2]
          exact cell_turned HA2.out (Turns.setCell _ _ _ (by simp)) (c' := ⟨1, v, false⟩) (heap_setCell_at HB.out 3 _)

set_option maxHeartbeats 3200000 in
set_option maxRecDepth 100000 in
theorem open_some2 (pre post : List Thing) (h : Sep w0 w (pre ++ machThing d B st K :: post)) (hf : (Lit.int .i64 f).wf = true) (hO : Offs w0) (h0 : readCode st f 0 5 = 0) (h1 : 5 ≤ (readStr st f 0 5).size) (h2 : byteA (readStr st f 0 5) 0 = 2) :
    Calls Tryd.prog 11 #[.pointer (some ⟨d, 0, none⟩), .int .i64 f] w (OpenPost w0 d B f st K pre post) := by
  have hm := read_may h0
  have HO : Hid ((65536 < hN (readStr st f 0 5) → openC st f = 2) ∧ (¬ 65536 < hN (readStr st f 0 5) →
      ((readStr st f 131072 (hN (readStr st f 0 5) : Nat)).size < hN (readStr st f 0 5) → openC st f = 2) ∧ (¬ (readStr st f 131072 (hN (readStr st f 0 5) : Nat)).size < hN (readStr st f 0 5) → openC st f = 0 ∧ openV st f = ⟨2, readStr st f 131072 (hN (readStr st f 0 5) : Nat), false⟩))) := by
    have n1 : ¬ ((readStr st f 0 5).size = 0 ∨ byteA (readStr st f 0 5) 0 = 0) := by rw [h2]; intro hh; exact hh.elim (fun hh => by omega) (fun hh => by revert hh; decide)
    have n2 : ¬ ((readStr st f 0 5).size < 5 ∨ ¬ (byteA (readStr st f 0 5) 0 = 1 ∨ byteA (readStr st f 0 5) 0 = 2)) := by rw [h2]; intro hh; exact hh.elim (fun hh => by omega) (fun hh => hh (by decide))
    have k1 : ((byteA (readStr st f 0 5) 0).toNat : Int) = 2 := by rw [h2]; rfl
    have k2 : ((off ((byteA (readStr st f 0 5) 0).toNat : Int) : Nat) : Int) = 131072 := by rw [k1]; rfl
    rw [openC, if_neg (by simp [h0]), if_neg n1, if_neg n2, openV, if_neg n1, k2, k1]
    refine ⟨fun hh => by rw [if_pos hh], fun hh => ⟨fun h3 => by rw [if_neg hh, if_pos h3], fun h3 => ⟨by rw [if_neg hh, if_neg h3], rfl⟩⟩⟩
  go_enter Tryd.func11, Tryd.ntmps11
  go_wp2_with fail
  have HA : Hid (Sep w0 (w.alloc (.cells #[.pointer (some ⟨d, 0, none⟩), .int .i64 f, .int .i64 0, .string ⟨#[]⟩, .bool false] 63)) (blockThing w.heap.size (cellObj d f ⟨0, ⟨#[]⟩, false⟩) :: (pre ++ machThing d B st K :: post))) := Sep.alloc h (cellObj d f ⟨0, ⟨#[]⟩, false⟩)
  generalize w.alloc (.cells #[.pointer (some ⟨d, 0, none⟩), .int .i64 f, .int .i64 0, .string ⟨#[]⟩, .bool false] 63) = W at *
  generalize w.heap.size = cb at *
  clear h
  refine (dread_sep (_ :: pre) post f 0 5 HA.out hf).mono ?_
  rintro e w2 ⟨rfl, rfl⟩
  rw [h0]
  clear h0
  obtain ⟨hd, hhd⟩ : ∃ hd, hd = readStr st f 0 5 := ⟨_, rfl⟩
  rw [← hhd] at HO h1 h2 ⊢
  have hne := notEmptyB (show 0 < hd.size by omega)
  have hget : ∀ (i : Nat), i < 5 → ∀ w', (Instr.index 9 (.string hd) (.int .i64 (i : Int))).run Tryd.prog w' = .ok (.int .u8 ((byteA hd i).toNat : Int)) w' := fun i hi => index_byte hd i (by omega)
  have hget0 : ∀ w', (Instr.index 9 (.string hd) (.int .i64 0)).run Tryd.prog w' = .ok (.int .u8 2) w' := fun w' => by
    have := hget 0 (by omega) w'
    rw [h2] at this
    exact this
  have h6 : ¬ (hd.size : Int) < 5 := by omega
  have HG := Lib.hid hget; clear hget
  have HC : Hid (¬ cb = 0) := by
    obtain ⟨FP, hF, hge, -⟩ := HA.out.pick [] _ _
    obtain ⟨_, rfl⟩ := hF
    have h1 := hge cb (by simp)
    have h2 := hO.lt
    show ¬ cb = 0
    omega
  have HE := Lib.hid (And.intro hm (And.intro h1 (And.intro h2 hhd))); clear hm h1 h2 hhd
  go_wp2_with fail
  go_loopw [9, 10] (fun nv iv wr => ∃ m : Nat, m ≤ 4 ∧ nv = .int .i64 (hT hd m : Nat) ∧ iv = .int .i64 (4 - (m : Int)) ∧ wr = W) (fun _ iv _ => (intOf iv).toNat)
  case atStart => exact ⟨0, by omega, rfl, rfl, rfl⟩
  case round =>
    obtain ⟨m, hm, rfl, rfl, rfl⟩ := hrel
    by_cases hlt : m < 4
    · have hltI : (0 : Int) < 4 - (m : Int) := by omega
      have hi : ∀ w', (Instr.index 9 (.string hd) (.int .i64 (4 - (m : Int)))).run Tryd.prog w' = .ok (.int .u8 ((byteA hd (4 - m)).toNat : Int)) w' := fun w' => by
        have := HG.out (4 - m) (by omega) w'
        rwa [show ((4 - m : Nat) : Int) = 4 - (m : Int) by omega] at this
      have hb := hT_lt hd m
      have hb2 : hT hd m < 16777216 := Nat.lt_of_lt_of_le hb (Nat.pow_le_pow_right (by omega) (show m ≤ 3 by omega))
      have HB := Lib.hid hb2; clear hb hb2
      go_wp2_with fail
      go_roundw
      case rel => exact ⟨m + 1, by omega, by rw [or_bytes _ _ HB.out]; rfl, by congr 1; omega, trivial⟩
      case measure => simp [intOf]; omega
    · obtain rfl : m = 4 := by omega
      rw [hT_four]
      by_cases hbig : 65536 < hN hd
      · have hbigI : (65536 : Int) < (hN hd : Int) := by omega
        go_wp2_with fail
        go_ret2
        refine Or.inl ⟨?_, ?_, HA.out.drop⟩
        · rw [HO.out.1 hbig]; decide
        · rw [HO.out.1 hbig]; rfl
      · have hbigI : ¬ (65536 : Int) < (hN hd : Int) := by omega
        have hb := (cell_facts HA.out).2
        have z2 : wr.frozen? ⟨cb, 2, none⟩ = false := free_at hb 2
        have z3 : wr.frozen? ⟨cb, 3, none⟩ = false := free_at hb 3
        have y2 : wr.cell? ⟨cb, 2, none⟩ = _ := cell_at hb 2
        have y3 : wr.cell? ⟨cb, 3, none⟩ = _ := cell_at hb 3
        have ho := (hO.kept HA.out.turns).2.2
        have hne1 : ¬ cb = 0 := HC.out
        have hne2 : ¬ 0 = cb := fun hh => HC.out hh.symm
        have HB := Lib.hid hb; clear hb
        go_wp2_with fail
        have HA2 := Lib.hid (cell_turned HA.out (Turns.setCell wr _ (.int .i64 2) (by simp)) (c' := ⟨2, ⟨#[]⟩, false⟩) (heap_setCell_at HB.out 2 (.int .i64 2)))
        clear HA HB z2 z3 y2 y3 ho
        generalize wr.setCell ⟨cb, 2, none⟩ (.int .i64 2) = W2 at *
        have hb := (cell_facts HA2.out).2
        have z3 : W2.frozen? ⟨cb, 3, none⟩ = false := free_at hb 3
        have y3 : W2.cell? ⟨cb, 3, none⟩ = _ := cell_at hb 3
        have HB := Lib.hid hb; clear hb
        refine (dread_sep (_ :: pre) post f 131072 (hN hd : Nat) HA2.out hf).mono ?_
        rintro e w2 ⟨rfl, rfl⟩
        have hrc : readCode st f 131072 (hN hd : Nat) = 0 := (read_part HE.out.1 131072 (hN hd)).1
        rw [hrc]
        have HF := Lib.hid (HO.out.2 hbig); clear hrc HO
        obtain ⟨v, hv⟩ : ∃ v, v = readStr st f 131072 (hN hd : Nat) := ⟨_, rfl⟩
        rw [← hv] at HF ⊢
        clear hv
        by_cases hsh : v.size < hN hd
        · have hshI : (v.size : Int) < (hN hd : Int) := by omega
          go_wp2_with fail
          go_ret2
          refine Or.inl ⟨?_, ?_, Sep.drop (cell_turned HA2.out (Turns.setCell _ _ _ (by simp)) (c' := ⟨2, v, false⟩) (heap_setCell_at HB.out 3 _))⟩
          · rw [HF.out.1 hsh]; decide
          · rw [HF.out.1 hsh]; rfl
        · have hshI : ¬ (v.size : Int) < (hN hd : Int) := by omega
          go_wp2_with fail
          go_ret2
          refine Or.inr ⟨(HF.out.2 hsh).1, cb, rfl, ?_⟩
          rw [(HF.out.2 hsh).2]
          exact cell_turned HA2.out (Turns.setCell _ _ _ (by simp)) (c' := ⟨2, v, false⟩) (heap_setCell_at HB.out 3 _)

theorem open_sep (pre post : List Thing) (h : Sep w0 w (pre ++ machThing d B st K :: post)) (hf : (Lit.int .i64 f).wf = true) (hO : Offs w0) :
    Calls Tryd.prog 11 #[.pointer (some ⟨d, 0, none⟩), .int .i64 f] w (OpenPost w0 d B f st K pre post) := by
  by_cases h0 : readCode st f 0 5 = 0
  · by_cases h1 : (readStr st f 0 5).size = 0
    · exact open_none0 pre post h hf h0 h1
    · by_cases h2 : byteA (readStr st f 0 5) 0 = 0
      · exact open_none1 pre post h hf h0 (by omega) h2
      · by_cases h3 : (readStr st f 0 5).size < 5 ∨ ¬ (byteA (readStr st f 0 5) 0 = 1 ∨ byteA (readStr st f 0 5) 0 = 2)
        · exact open_form pre post h hf h0 (by omega) h2 h3
        · have h4 : 5 ≤ (readStr st f 0 5).size := by
            apply Nat.le_of_not_lt; intro hh; exact h3 (Or.inl hh)
          by_cases h5 : byteA (readStr st f 0 5) 0 = 1
          · exact open_some1 pre post h hf hO h0 h4 h5
          · refine open_some2 pre post h hf hO h0 h4 ?_
            apply Classical.byContradiction; intro h6
            exact h3 (Or.inr fun hh => hh.elim h5 h6)
  · exact open_bad pre post h hf h0
end
end Go.Proofs.YtdcgdnlpagadcaaDoor

/- Contracts of the statements about cell: small, again. -/
namespace Go.Proofs.YtdcgdnlpagadcaaDoor
open Go.RowKit Go.Proofs.YtdcgdnlpagadcaaDoorMem Go.Maps

theorem wf3 : (Lit.int .i64 3).wf = true := by decide
theorem OpenPost.ok {w0 : World} {d B : Nat} {f : Int} {st : DS} {K : List Int} {pre post : List Thing} {e : Ending} {w' : World} (h : OpenPost w0 d B f st K pre post e w') (hc : openC st f = 0) :
    ∃ cb, e = .returned (.tuple #[.pointer (some ⟨cb, 0, none⟩), .int .i64 0]) ∧ Sep w0 w' (blockThing cb (cellObj d f (openV st f)) :: (pre ++ machThing d B st K :: post)) := by
  rcases h with ⟨h1, _⟩ | ⟨_, h⟩
  · exact absurd hc h1
  · exact h

set_option maxHeartbeats 3200000 in
set_option maxRecDepth 100000 in
theorem small_cell (w : World) (hO : Offs w) : Calls Tryd.prog 8 #[] w fun e w' => e = .returned (.bool true) ∧ Turns [] w w' := by
  go_enter Tryd.func8, Tryd.ntmps8
  go_wp2_with fail
  refine (mach_new [] (Sep.start w)).mono ?_
  rintro e w1 ⟨d, rfl, h1⟩
  have H1 := Lib.hid h1; clear h1
  go_wp2_with fail
  refine (open_sep [] [] H1.out wf3 hO).mono ?_
  rintro e w2 hp
  obtain ⟨cb, rfl, h2⟩ := hp.ok s0_open.1
  rw [s0_open.2] at h2
  have H2 := Lib.hid h2; clear h2 hp H1
  go_wp2_with fail
  refine (cell_get cb d 3 c0S _ (cell_facts H2.out).2).mono ?_
  rintro e w3 ⟨rfl, ht⟩
  have H3 := Lib.hid (H2.out.quiet ht); clear ht H2
  go_wp2_with fail
  refine (set_any [] [] sA H3.out hO wf3 (by decide) (by decide) (by decide)).mono ?_
  rintro e w4 ⟨rfl, h4⟩
  rw [s1_is.2.1] at h4
  rw [s1_is.1]
  have H4 : Hid (Sep w w4 (blockThing cb (cellObj d 3 c1S) :: ([] ++ machThing d 25 s1S [] :: []))) := h4
  clear h4 H3
  go_wp2_with fail
  refine (set_any [] [] sBC H4.out hO wf3 (by decide) (by decide) (by decide)).mono ?_
  rintro e w5 ⟨rfl, h5⟩
  rw [s2_is.2.1] at h5
  rw [s2_is.1]
  have H5 : Hid (Sep w w5 (blockThing cb (cellObj d 3 c2S) :: ([] ++ machThing d 51 s2S [] :: []))) := h5
  clear h5 H4
  go_wp2_with fail
  refine (cell_get cb d 3 c2S _ (cell_facts H5.out).2).mono ?_
  rintro e w6 ⟨rfl, ht⟩
  have H6 := Lib.hid (H5.out.quiet ht); clear ht H5
  go_wp2_with fail
  refine (dread_sep [_] [] 3 0 6 H6.out wf3).mono ?_
  rintro e w7 ⟨rfl, rfl⟩
  rw [s2_head.1, s2_head.2]
  go_wp2_with fail
  refine (dread_sep [_] [] 3 64 1 H6.out wf3).mono ?_
  rintro e w7 ⟨rfl, rfl⟩
  rw [s2_a.1, s2_a.2]
  go_wp2_with fail
  refine (dread_sep [_] [] 3 131072 9 H6.out wf3).mono ?_
  rintro e w7 ⟨rfl, rfl⟩
  rw [s2_b.1, s2_b.2]
  unfold c0S c2S sA sBC
  go_wp2_with fail
  go_ret
  exact ⟨rfl, H6.out.turns⟩

set_option maxHeartbeats 1600000 in
set_option maxRecDepth 100000 in
theorem again_sep {w0 w : World} {d B : Nat} {st : DS} {K : List Int} (pre post : List Thing) (v : Value) (C : List Int) (h : Sep w0 w (pre ++ machThing d B st K :: post)) (hv : IntsV w0 v C) (hO : Offs w0)
    (hB : B ≤ 900000) (hC : C.length ≤ 1000000) :
    Calls Tryd.prog 15 #[.pointer (some ⟨d, 0, none⟩), v] w (OpenPost w0 d B 3 (afterS st C) K pre post) := by
  have HS := Lib.hid h; clear h
  have HV := Lib.hid hv
  obtain ⟨va, vc, rfl, -⟩ := hv
  go_enter Tryd.func15, Tryd.ntmps15
  go_wp2_with fail
  refine (dcrash_sep pre post _ C HS.out HV.out hB hC).mono ?_
  rintro e w1 ⟨rfl, h1⟩
  have H1 := Lib.hid h1; clear h1
  go_wp2_with fail
  refine (dstart_sep pre post H1.out).mono ?_
  rintro e w2 ⟨rfl, h2⟩
  have H2 : Hid (Sep w0 w2 (pre ++ machThing d B (afterS st C) K :: post)) := h2
  clear h2 H1
  go_wp2_with fail
  refine (open_sep pre post H2.out wf3 hO).mono ?_
  rintro e w3 hp
  rcases hp with ⟨h1, rfl, h3⟩ | ⟨h1, cb, rfl, h3⟩
  · have H3 := Lib.hid h3; clear h3
    go_wp2_with fail
    go_ret2
    exact Or.inl ⟨h1, rfl, H3.out⟩
  · have H3 := Lib.hid h3; clear h3
    go_wp2_with fail
    go_ret2
    exact Or.inr ⟨h1, cb, rfl, H3.out⟩

end Go.Proofs.YtdcgdnlpagadcaaDoor

/- Contracts of the statements about cell: the operations in memory, few, has. -/
namespace Go.Proofs.YtdcgdnlpagadcaaDoor
open Go.RowKit Go.Proofs.YtdcgdnlpagadcaaDoorMem Go.Maps

structure COp where
  kind : Int
  s : ByteArray
  n : Int
  keep : List Int
/-- The operations lie in memory as a slice's elements. -/
def COpsAt (w : World) (a : Option Addr) (l : List COp) : Prop :=
  ∀ i (h : i < l.length), l[i].n ≤ 9223372036854775807 ∧ ∃ b off kv, a = some ⟨b, off, none⟩ ∧ w.cell? ⟨b, off + i * 4, none⟩ = some (.int .i64 l[i].kind) ∧ w.cell? ⟨b, off + i * 4 + 1, none⟩ = some (.string l[i].s) ∧
    w.cell? ⟨b, off + i * 4 + 2, none⟩ = some (.int .i64 l[i].n) ∧ w.cell? ⟨b, off + i * 4 + 3, none⟩ = some kv ∧ IntsV w kv l[i].keep
theorem COpsAt.kept {w w' : World} {a : Option Addr} {l : List COp} (h : COpsAt w a l) (ht : Turns [] w w') : COpsAt w' a l := by
  intro i hi
  obtain ⟨hw, b, off, kv, rfl, h0, h1, h2, h3, hk⟩ := h i hi
  have hlt := World.block_lt_of_cell? w _ h0
  exact ⟨hw, b, off, kv, rfl, (ht.cell (a := ⟨b, off + i * 4, none⟩) hlt (by simp)).trans h0, (ht.cell (a := ⟨b, off + i * 4 + 1, none⟩) hlt (by simp)).trans h1, (ht.cell (a := ⟨b, off + i * 4 + 2, none⟩) hlt (by simp)).trans h2,
    (ht.cell (a := ⟨b, off + i * 4 + 3, none⟩) hlt (by simp)).trans h3, hk.kept ht (fun a n c e => by simp)⟩

def fewOp (a : COp) : Bool := decide (a.s.size ≤ 400) && decide (a.keep.length ≤ 100)
def fewC (l : List COp) : Bool := l.all fewOp && decide ((l.length : Int) ≤ 30)
theorem fewC_no {l : List COp} {i : Nat} (hi : i < l.length) (h : fewOp l[i] = false) : fewC l = false := by
  have : l.all fewOp = false := by
    rw [Bool.eq_false_iff]
    intro h2
    have := List.all_eq_true.1 h2 _ (List.getElem_mem hi)
    rw [h] at this; cases this
  simp [fewC, this]
theorem fewC_end {l : List COp} (h : ∀ i (hi : i < l.length), fewOp l[i] = true) : fewC l = decide ((l.length : Int) ≤ 30) := by
  have : l.all fewOp = true := by
    rw [List.all_eq_true]
    intro x hx
    obtain ⟨i, hi, rfl⟩ := List.getElem_of_mem hx
    exact h i hi
  simp [fewC, this]
theorem fewC_op {l : List COp} (h : fewC l = true) {i : Nat} (hi : i < l.length) : l[i].s.size ≤ 400 ∧ l[i].keep.length ≤ 100 := by
  simp only [fewC, Bool.and_eq_true] at h
  have := List.all_eq_true.1 h.1 _ (List.getElem_mem hi)
  simpa [fewOp] using this
theorem fewC_len {l : List COp} (h : fewC l = true) : l.length ≤ 30 := by
  simp only [fewC, Bool.and_eq_true, decide_eq_true_eq] at h
  omega

set_option maxHeartbeats 1600000 in
set_option maxRecDepth 100000 in
theorem few_ops (a : Option Addr) (cap : Nat) (l : List COp) (w : World) (h : COpsAt w a l) (hl : l.length ≤ maxLen) :
    Calls Tryd.prog 9 #[.slice a l.length cap] w fun e w' => e = .returned (.bool (fewC l)) ∧ w = w' := by
  unfold maxLen at hl
  have HO := Lib.hid h; clear h
  go_enter Tryd.func9, Tryd.ntmps9
  go_wp2_with fail
  go_loop [3] (fun i => ∃ k : Nat, k ≤ l.length ∧ i = .int .i64 k ∧ Hid (∀ j (h : j < k) (h2 : j < l.length), fewOp l[j] = true)) (fun i => l.length - (intOf i).toNat)
  case atStart => exact ⟨0, Nat.zero_le _, rfl, fun j h => by omega⟩
  case round =>
    obtain ⟨k, hk, rfl, hall⟩ := hrel
    by_cases hlt : k < l.length
    · obtain ⟨-, b, off, kv, rfl, -, h2, -, h4, hkv⟩ := HO.out k hlt
      obtain ⟨ka, kc, rfl, -⟩ := hkv
      have hltI : (k : Int) < (l.length : Int) := by omega
      obtain ⟨x, hx⟩ : ∃ x, x = l[k] := ⟨_, rfl⟩
      rw [← hx] at h2 h4
      have HX := Lib.hid hx; clear hx
      by_cases c1 : x.s.size ≤ 400
      · have d1 : decide ((400 : Int) < (x.s.size : Int)) = false := decide_eq_false (by omega)
        by_cases c2 : x.keep.length ≤ 100
        · have d2 : decide ((100 : Int) < (x.keep.length : Int)) = false := decide_eq_false (by omega)
          have HF : Hid (fewOp x = true) := by show fewOp x = true; simp [fewOp, c1, c2]
          clear c1 c2
          go_wp2_with fail
          go_round
          case rel => exact ⟨k + 1, by omega, by go_num, fun j hj h2 => by
            by_cases e : j = k
            · subst e; rw [← HX.out]; exact HF.out
            · exact hall.out j (by omega) h2⟩
          case measure => simp [intOf]; omega
        · have d2 : decide ((100 : Int) < (x.keep.length : Int)) = true := decide_eq_true (by omega)
          have HF : Hid (fewC l = false) := fewC_no hlt (by rw [← HX.out]; simp [fewOp, c2])
          clear c1 c2
          go_wp2_with fail
          go_ret
          exact ⟨by rw [HF.out]; rfl, rfl⟩
      · have d1 : decide ((400 : Int) < (x.s.size : Int)) = true := decide_eq_true (by omega)
        have HF : Hid (fewC l = false) := fewC_no hlt (by rw [← HX.out]; simp [fewOp, c1])
        clear c1
        go_wp2_with fail
        go_ret
        exact ⟨by rw [HF.out]; rfl, rfl⟩
    · have hltI : decide ((k : Int) < (l.length : Int)) = false := decide_eq_false (by omega)
      have HF : Hid (fewC l = decide ((l.length : Int) ≤ 30)) := fewC_end (fun i hi => hall.out i (by omega) hi)
      go_wp2_with fail
      go_ret
      exact ⟨by rw [HF.out]; rfl, rfl⟩

/-- Strings lie in memory as a slice's elements. -/
def StrsAt (w : World) (a : Option Addr) (l : List ByteArray) : Prop := ∀ i (h : i < l.length), ∃ b, a = some ⟨b, 0, none⟩ ∧ w.cell? ⟨b, i, none⟩ = some (.string l[i])
theorem toList_ne {x s : ByteArray} (h : x ≠ s) : (x.toList == s.toList) = false := by
  rw [beq_eq_false_iff_ne]
  intro e
  apply h
  rw [ByteArray.toList_eq, ByteArray.toList_eq] at e
  apply ByteArray.ext
  exact Array.toList_inj.1 e

set_option maxHeartbeats 800000 in
set_option maxRecDepth 100000 in
theorem has_any (a : Option Addr) (cap : Nat) (l : List ByteArray) (s : ByteArray) (w : World) (h : StrsAt w a l) (hl : l.length ≤ 1000000) (hs : s ∈ l) :
    Calls Tryd.prog 17 #[.slice a l.length cap, .string s] w fun e w' => e = .returned (.bool true) ∧ w = w' := by
  have HO := Lib.hid h; clear h
  have HM := Lib.hid hs; clear hs
  go_enter Tryd.func17, Tryd.ntmps17
  go_wp2_with fail
  go_loop [5] (fun i => ∃ k : Nat, k ≤ l.length ∧ i = .int .i64 k ∧ Hid (∀ j (h : j < k) (h2 : j < l.length), l[j] ≠ s)) (fun i => l.length - (intOf i).toNat)
  case atStart => exact ⟨0, Nat.zero_le _, rfl, fun j h => by omega⟩
  case round =>
    obtain ⟨k, hk, rfl, hall⟩ := hrel
    have hlt : k < l.length := by
      apply Nat.lt_of_not_le; intro hge
      obtain ⟨i, hi, e⟩ := List.getElem_of_mem HM.out
      exact hall.out i (by omega) hi e
    obtain ⟨b, rfl, h0⟩ := HO.out k hlt
    have hltI : (k : Int) < (l.length : Int) := by omega
    obtain ⟨x, hx⟩ : ∃ x, x = l[k] := ⟨_, rfl⟩
    rw [← hx] at h0
    have HX := Lib.hid hx; clear hx
    by_cases e : x = s
    · have he : (x.toList == s.toList) = true := by rw [e]; exact beq_self_eq_true _
      have HE := Lib.hid e; clear e
      go_wp2_with fail
      go_ret
      exact ⟨rfl, rfl⟩
    · have he := toList_ne e
      have HE := Lib.hid e; clear e
      go_wp2_with fail
      go_round
      case rel => exact ⟨k + 1, by omega, by go_num, fun j hj h2 => by
        by_cases e : j = k
        · subst e; rw [← HX.out]; exact HE.out
        · exact hall.out j (by omega) h2⟩
      case measure => simp [intOf]; omega

end Go.Proofs.YtdcgdnlpagadcaaDoor

/- Statements about cell: things in another order, rows of strings, Lose. -/
namespace Go.Proofs.YtdcgdnlpagadcaaDoor
open Go.RowKit Go.Proofs.YtdcgdnlpagadcaaDoorMem Go.Maps

theorem SepF.perm {w0 w : World} {ts ts' : List Thing} (hp : ts.Perm ts') : ∀ {G : List Nat}, SepF w0 w ts G → ∃ G', SepF w0 w ts' G' ∧ ∀ x, x ∈ G' ↔ x ∈ G := by
  induction hp with
  | nil => exact fun h => ⟨_, h, fun _ => Iff.rfl⟩
  | cons t _ ih =>
    rintro G ⟨FP, G1, rfl, h1, h2, h3⟩
    obtain ⟨G2, h4, h5⟩ := ih h3
    exact ⟨FP ++ G2, ⟨FP, G2, rfl, h1, fun x hx => ⟨(h2 x hx).1, fun hh => (h2 x hx).2 ((h5 x).1 hh)⟩, h4⟩, fun x => by simp [h5 x]⟩
  | swap t u ts =>
    rintro G ⟨FP, G1, rfl, h1, h2, FQ, G2, rfl, h3, h4, h5⟩
    refine ⟨FQ ++ (FP ++ G2), ⟨FQ, FP ++ G2, rfl, h3, fun x hx => ⟨(h4 x hx).1, fun hh => ?_⟩, FP, G2, rfl, h1, fun x hx => ⟨(h2 x hx).1, fun hh => (h2 x hx).2 (by simp [hh])⟩, h5⟩, fun x => ?_⟩
    · rcases List.mem_append.1 hh with hh | hh
      · exact (h2 x hh).2 (by simp [hx])
      · exact (h4 x hx).2 hh
    · simp only [List.mem_append]
      constructor
      · rintro (h | h | h)
        · exact Or.inr (Or.inl h)
        · exact Or.inl h
        · exact Or.inr (Or.inr h)
      · rintro (h | h | h)
        · exact Or.inr (Or.inl h)
        · exact Or.inl h
        · exact Or.inr (Or.inr h)
  | trans _ _ ih1 ih2 =>
    intro G h
    obtain ⟨G1, h1, e1⟩ := ih1 h
    obtain ⟨G2, h2, e2⟩ := ih2 h1
    exact ⟨G2, h2, fun x => (e2 x).trans (e1 x)⟩
theorem Sep.perm {w0 w : World} {ts ts' : List Thing} (h : Sep w0 w ts) (hp : ts.Perm ts') : Sep w0 w ts' := by
  obtain ⟨G, h⟩ := h
  obtain ⟨G', h', _⟩ := SepF.perm hp h
  exact ⟨G', h'⟩
/-- Things in another order: the new order is told by numbers. -/
theorem Sep.swap01 {w0 w : World} {a b : Thing} {ts : List Thing} (h : Sep w0 w (a :: b :: ts)) : Sep w0 w (b :: a :: ts) := Sep.perm h (List.Perm.swap b a ts)
theorem Sep.up2 {w0 w : World} {a b c : Thing} {ts : List Thing} (h : Sep w0 w (a :: b :: c :: ts)) : Sep w0 w (c :: a :: b :: ts) := Sep.perm h (((List.Perm.swap c b ts).cons a).trans (List.Perm.swap c a _))

theorem Tryd.underlying32 : Tryd.prog.underlying 32 = some (.slice 9) := by kernel_rfl
theorem Tryd.info9 : (Tryd.prog.info? 9).map (fun i => (i.zero, i.size, i.bytes)) = some (some (.string ⟨#[]⟩), 1, 16) := by kernel_rfl
def strCells (l : List ByteArray) : List Value := l.map .string
def strThing (v : Value) (l : List ByteArray) : Thing :=
  ⟨fun w FP => w.ownsRow 0 9 1 v l.length (strCells l) ∧ FP = v.ownBlock.toList,
    fun _ _ h x hx => by obtain ⟨h, rfl⟩ := h; exact own_lt h x hx, fun _ _ _ _ h ht hd => by obtain ⟨h, rfl⟩ := h; exact ⟨own_kept h ht hd, rfl⟩⟩
theorem Sep.strs {w0 w : World} {v : Value} {l : List ByteArray} {post : List Thing} (h : Sep w0 w (strThing v l :: post)) : ∃ a cap, v = .slice a l.length cap ∧ StrsAt w a l := by
  obtain ⟨FP, hF, _⟩ := h.pick [] _ _
  have ho := hF.1
  rcases id ho.2 with ⟨rfl, h0⟩ | ⟨g, cap, cur, rfl, _, hg, hcap, hmax, hsz, htake⟩
  · exact ⟨none, 0, by rw [h0], fun i hi => by omega⟩
  · refine ⟨_, cap, rfl, fun i hi => ⟨g, rfl, ?_⟩⟩
    have := ho.cells (g := g) rfl i (.string l[i]) (by simp [strCells, hi])
    rwa [add_plain, Nat.zero_add] at this
theorem Sep.strs_nil {w0 w : World} {v : Value} {l : List ByteArray} {post : List Thing} (h : Sep w0 w (strThing v l :: post)) : Sep w0 w (strThing (.slice none 0 0) [] :: post) := by
  obtain ⟨FP, hF, _, step⟩ := h.pick [] _ _
  exact step w [] (strThing (.slice none 0 0) []) ⟨Turns.refl _ _, by simp⟩ ⟨World.ownsRow_nil _ _ _ _, rfl⟩
theorem Sep.strs_start {w0 w : World} {ts : List Thing} (h : Sep w0 w ts) : Sep w0 w (strThing (.slice none 0 0) [] :: ts) :=
  h.add (t := strThing (.slice none 0 0) []) (FP := []) (Turns.refl _ _) ⟨World.ownsRow_nil _ _ _ _, rfl⟩ (by simp)
/-- A new row of one string. -/
theorem Sep.strs_one {w0 w : World} {v : Value} {l : List ByteArray} {post : List Thing} (h : Sep w0 w (strThing v l :: post)) (s : ByteArray) :
    Sep w0 (w.alloc (.cells #[.string s] 9)) (strThing (.slice (some ⟨w.heap.size, 0, none⟩) 1 1) [s] :: post) := by
  obtain ⟨FP, hF, _, step⟩ := h.pick [] _ _
  refine step _ [w.heap.size] (strThing (.slice (some ⟨w.heap.size, 0, none⟩) 1 1) [s]) ⟨Turns.alloc _ _ _, fun x hx => by simp at hx; exact Or.inr (by omega)⟩ ⟨?_, rfl⟩
  exact ⟨rfl, .inr ⟨w.heap.size, 1, #[.string s], rfl, Nat.zero_le _, heap_alloc_here _ _, Nat.le_refl _, by unfold maxLen; omega, rfl, rfl⟩⟩
theorem Sep.strs_own {w0 w : World} {v : Value} {l : List ByteArray} {post : List Thing} (h : Sep w0 w (strThing v l :: post)) : w.ownsRow 0 9 1 v l.length (strCells l) ∧ ∀ x ∈ v.ownBlock.toList, w0.heap.size ≤ x := by
  obtain ⟨FP, ⟨h1, rfl⟩, hge, step⟩ := h.pick [] _ _
  exact ⟨h1, hge⟩
/-- The row grown by one string. -/
theorem Sep.strs_grown {w0 w w1 : World} {v v' : Value} {l : List ByteArray} {post : List Thing} (h : Sep w0 w (strThing v l :: post)) (s : ByteArray)
    (hown : w1.ownsRow 0 9 1 v' (l.length + 1) (strCells l ++ [.string s])) (hgr : (w.alloc (.cells #[.string s] 9)).grownBy w1 v.ownBlock) (hat : v'.ownBlock = v.ownBlock ∨ v'.ownBlock = some (w.heap.size + 1)) :
    Sep w0 w1 (strThing v' (l ++ [s]) :: post) := by
  obtain ⟨FP, ⟨h1, rfl⟩, hge, step⟩ := h.pick [] _ _
  refine step _ v'.ownBlock.toList (strThing v' (l ++ [s])) ⟨(Turns.alloc _ w _).trans (Turns.of_grown hgr (fun x hx => Or.inl (by simp [hx]))), fun x hx => ?_⟩ ⟨?_, rfl⟩
  · rcases hat with h | h
    · rw [h] at hx; exact Or.inl hx
    · rw [h] at hx; simp at hx; exact Or.inr (by omega)
  · have e1 : (l ++ [s]).length = l.length + 1 := by simp
    have e2 : strCells (l ++ [s]) = strCells l ++ [.string s] := by simp [strCells]
    rw [e1, e2]
    exact hown

theorem dlose_sep {w0 w : World} {b B : Nat} {st : DS} {K : List Int} (pre post : List Thing) (n : Int) (h : Sep w0 w (pre ++ machThing b B st K :: post)) (hn : n ≤ 9223372036854775807) :
    Calls Tryd.prog 13 #[.pointer (some ⟨b, 0, none⟩), .int .i64 n] w fun e w' => e = .returned (.tuple #[]) ∧ Sep w0 w' (pre ++ machThing b B { st with lost := max n 0 } K :: post) := by
  obtain ⟨kv, FP0, hD, hK0, hge, step⟩ := Sep.mach pre post h
  exact (loseI hD n hn).mono fun e w' ⟨h1, h2⟩ => ⟨h1, step (DoPost.of h2 hK0 (Nat.le_refl _))⟩

theorem CInv.of {may : List ByteArray} {none : Bool} {f : Int} {c : CS} {st st' : DS} (h : CInv may none f c st) (hI : DInv st') (h1 : st'.F = st.F) (h2 : st'.down = st.down) : CInv may none f c st' := by
  obtain ⟨_, h⟩ := h
  unfold CInv
  rw [h1, h2]
  exact ⟨hI, h⟩
theorem CInv.new (f : Int) : CInv [] true f ⟨0, ⟨#[]⟩, false⟩ DS.new :=
  ⟨DInv.new, Or.inr ⟨rfl, Or.inl (Or.inl ⟨rfl, rfl, rfl, rfl⟩)⟩⟩
theorem open_new {f : Int} (h0 : 0 ≤ f) (h1 : f < 16) : openC DS.new f = 0 ∧ openV DS.new f = ⟨0, ⟨#[]⟩, false⟩ := open_zero (may_of rfl h0 h1) rfl

end Go.Proofs.YtdcgdnlpagadcaaDoor
