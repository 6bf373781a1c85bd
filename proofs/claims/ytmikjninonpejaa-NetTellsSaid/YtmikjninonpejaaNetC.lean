/- Contracts of package net: slices.Delete of one packet. -/
import Derived.Test.YtmikjninonpejaaNetB
import Derived.Test.YtmikjninonpejaaRowLaws
import Derived.Lib.SliceRun
namespace Go.Proofs.Ytmikjninonpejaa
open Go.RowKit Go.Proofs.YtmikjninonpejaaMem

theorem pktCells_take (l : List Pkt) (i : Nat) : (pktCells l).take (i * 3) = pktCells (l.take i) := by
  induction l generalizing i with
  | nil => simp [pktCells]
  | cons a l ih =>
    cases i with
    | zero => simp [pktCells]
    | succ i =>
      have := ih i
      simp only [pktCells, List.flatMap_cons, List.take_succ_cons] at *
      rw [show (i + 1) * 3 = a.cells.length + i * 3 by simp [Pkt.cells]; omega, List.take_length_add_append, this]
theorem pktCells_drop (l : List Pkt) (i : Nat) : (pktCells l).drop (i * 3) = pktCells (l.drop i) := by
  induction l generalizing i with
  | nil => simp [pktCells]
  | cons a l ih =>
    cases i with
    | zero => simp [pktCells]
    | succ i =>
      have := ih i
      simp only [pktCells, List.flatMap_cons, List.drop_succ_cons] at *
      rw [show (i + 1) * 3 = a.cells.length + i * 3 by simp [Pkt.cells]; omega, List.drop_length_add_append, this]

def zeroPkt : Value := .agg #[.int .i64 0, .int .i64 0, .string ⟨#[]⟩]
theorem Try.zero34 (w : World) : (zeroValue 34).run Try.prog w = .ok (.agg #[.int .i64 0, .int .i64 0, .string ⟨#[]⟩]) w := by kernel_rfl

set_option maxHeartbeats 800000 in
set_option maxRecDepth 100000 in
theorem delete_any (g cap i : Nat) (l : List Pkt) (cur : Array Value) (w : World) (hcur : w.heap[g]? = some (.cells cur 34 (0, 0))) (hlc : l.length ≤ cap) (hm : cap ≤ maxLen) (hs : cur.size = cap * 3)
    (htake : cur.toList.take (l.length * 3) = pktCells l) (hi : i < l.length) :
    Calls Try.prog 82 #[.slice (some ⟨g, 0, none⟩) l.length cap, .int .i64 i, .int .i64 (i + 1)] w fun e w' => e = .returned (.slice (some ⟨g, 0, none⟩) (i + (l.length - (i + 1))) cap) ∧
      w'.ownsRow 0 34 3 (.slice (some ⟨g, 0, none⟩) (i + (l.length - (i + 1))) cap) (i + (l.length - (i + 1))) (pktCells (l.eraseIdx i)) ∧ Turns [g] w w' := by
  unfold maxLen at hm
  obtain ⟨i0, hi0, hz0, hz1, hz2⟩ := info_parts Try.info34
  obtain ⟨news, hnews⟩ : ∃ news, news = pktCells (l.drop (i + 1)) := ⟨_, rfl⟩
  have hlen : news.length = (l.length - (i + 1)) * 3 := by rw [hnews, pktCells_length]; simp
  obtain ⟨A, hA, hsrc⟩ : ∃ A : Addr, (if cap = i + 1 then some (⟨g, 0, none⟩ : Addr) else some ⟨g, (i + 1) * 3, none⟩) = some A ∧ Hid (∀ t u, news[t]? = some u → w.drew.cell? (A.add t) = some u) := by
    by_cases h : cap = i + 1
    · refine ⟨⟨g, 0, none⟩, by simp [h], fun t u hu => ?_⟩
      have h0 : news.length = 0 := by rw [hlen]; omega
      rw [List.length_eq_zero_iff.1 h0] at hu
      simp at hu
    · refine ⟨⟨g, (i + 1) * 3, none⟩, by simp [h], fun t u hu => ?_⟩
      have ht := (List.getElem?_eq_some_iff.1 hu).1
      rw [hnews, ← pktCells_drop, List.getElem?_drop, ← htake, List.getElem?_take, if_pos (by omega)] at hu
      rw [Addr.add_lit]
      show w.cell? _ = _
      rw [cell_at hcur, ← hu]
      simp
  have s1 : Hid (news.length = (l.length - (i + 1)) * 3) := hlen
  have s2 : Hid (∀ u ∈ news, u.oneCell' = true) := by intro u hu; rw [hnews] at hu; exact pkts_oneCell _ u hu
  obtain ⟨cur1, hc1⟩ : ∃ cur1, cur1 = (cur.toList.take (i * 3) ++ news ++ cur.toList.drop (i * 3 + news.length)).toArray := ⟨_, rfl⟩
  have hs1 : cur1.size = cap * 3 := by
    rw [hc1]; simp [hlen, hs]; omega
  obtain ⟨W1, hW1⟩ : ∃ W1, W1 = w.drew.setRow g cur1 := ⟨_, rfl⟩
  have hW1c : W1.heap[g]? = some (.cells cur1 34 (0, 0)) := by rw [hW1]; exact setRow_heap w.drew g cur cur1 34 (0, 0) hcur
  have hz3 : (Builtin.zeroCells (Value.cells (.agg #[.int .i64 0, .int .i64 0, .string ⟨#[]⟩])) (l.length - (i + (l.length - (i + 1))))).toList = [.int .i64 0, .int .i64 0, .string ⟨#[]⟩] := by
    rw [show l.length - (i + (l.length - (i + 1))) = 1 by omega]; kernel_rfl
  have hz4 : Hid (Builtin.zeroCells #[.int .i64 0, .int .i64 0, .string ⟨#[]⟩] (l.length - (i + (l.length - (i + 1)))) = #[.int .i64 0, .int .i64 0, .string ⟨#[]⟩]) := by
    show _ = _
    rw [show l.length - (i + (l.length - (i + 1))) = 1 by omega]; kernel_rfl
  have hcl := fun ty => run_clear_row (P := Try.prog) W1 28 34 ty _ Try.underlying28 Try.zero34 g ((i + (l.length - (i + 1))) * 3) (l.length - (i + (l.length - (i + 1)))) (cap - (i + (l.length - (i + 1)))) cur1 34 hW1c (by omega)
    (by rw [hz3]; exact pkt_oneCell ⟨0, 0, ⟨#[]⟩⟩) (by rw [hz3, hs1]; simp; omega)
  have hW : Hid (W1 = w.drew.setRow g (cur.toList.take (i * 3) ++ news ++ cur.toList.drop (i * 3 + news.length)).toArray) := by rw [hW1, hc1]; rfl
  have HT := Lib.hid hcur
  have hic : i ≤ cap := by omega
  have hp0 : (0 : Int) ≤ (i : Int) + 1 := by omega
  have hp1 : (i : Int) + 1 ≤ (l.length : Int) := by omega
  have hp2 : ((i : Int) + 1).toNat = i + 1 := by omega
  have hfit : Hid (i * 3 + news.length ≤ cur.size) := by show _ ≤ _; rw [hlen, hs]; omega
  have HFIN : Hid (∀ cur2 : Array Value, cur2.toList = cur1.toList.take ((i + (l.length - (i + 1))) * 3) ++ [.int .i64 0, .int .i64 0, .string ⟨#[]⟩] ++ cur1.toList.drop ((i + (l.length - (i + 1))) * 3 + 3) →
      (W1.setRow g cur2).ownsRow 0 34 3 (.slice (some ⟨g, 0, none⟩) (i + (l.length - (i + 1))) cap) (i + (l.length - (i + 1))) (pktCells (l.eraseIdx i)) ∧ Turns [g] w (W1.setRow g cur2)) := by
    intro cur2 h2
    have hN : i + (l.length - (i + 1)) = l.length - 1 := by omega
    refine ⟨⟨by rw [pktCells_length, List.length_eraseIdx, if_pos hi, hN], .inr ⟨g, cap, cur2, rfl, Nat.zero_le _, setRow_heap W1 g cur1 cur2 34 (0, 0) hW1c, by omega, by unfold maxLen; omega, ?_, ?_⟩⟩, ?_⟩
    · have := congrArg List.length h2
      simp at this
      rw [this]; omega
    · rw [h2, List.append_assoc, List.take_append_of_le_length (by simp; omega), List.take_of_length_le (by simp; omega)]
      rw [hc1]
      show List.take _ (_ ++ _ ++ _) = _
      rw [List.take_append_of_le_length (by simp [hlen]; omega), List.take_of_length_le (by simp [hlen]; omega), hnews, List.eraseIdx_eq_take_drop_succ, pktCells_append, ← pktCells_take, ← htake, List.take_take, Nat.min_eq_left (by omega)]
    · rw [hW1]
      exact ((Turns.refl _ w).drew.trans (Turns.setRow _ g _ (by simp))).trans (Turns.setRow _ g _ (by simp))
  clear hc1 hW1 hnews hlen hs1 hcur hW1c htake
  go_enter Try.func82, Try.ntmps82
  go_wp2_with fail
  go_region_law (refine step_append_row rfl (.tmp 22) (.tmp 25) 28 rfl 34 i0 3 Try.underlying28 hi0 hz1 g i cap cur HT.out (by simp [Act.eval, Act.put]) A (l.length - (i + 1)) (cap - (i + 1)) news (by simp [Act.eval, Act.put]) s1.out hsrc.out s2.out (by omega) hfit.out ?_; rw [← hW.out])
  go_wp2
  go_ret
  refine ⟨rfl, ?_⟩
  refine HFIN.out _ ?_
  rw [hz4.out]
  simp

end Go.Proofs.Ytmikjninonpejaa
