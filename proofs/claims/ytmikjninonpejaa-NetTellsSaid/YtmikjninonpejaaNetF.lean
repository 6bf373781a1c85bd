/- Contracts of package net: Double. -/
import Derived.Test.YtmikjninonpejaaNetE
import Derived.StillTailTactics
namespace Go.Proofs.Ytmikjninonpejaa
open Go.RowKit Go.Proofs.YtmikjninonpejaaMem

set_option maxHeartbeats 400000 in
set_option maxRecDepth 100000 in
theorem double_none (b : Nat) (FP : List Nat) (l : List Pkt) (s i : Int) (w : World) (hn : NetObj 81 w b FP l s) (h : i < 0 ∨ (l.length : Int) ≤ i) (hl : l.length ≤ 1000) :
    Calls Try.prog 23 #[.pointer (some ⟨b, 0, none⟩), .int .i64 i] w fun e w' => e = .returned (.int .i64 4) ∧ w = w' := by
  obtain ⟨v, hb, ho, e⟩ := hn
  obtain ⟨a, c, rfl, hc, hm⟩ := own_shape ho
  have c0 : w.cell? ⟨b, 0, none⟩ = some (.slice a l.length c) := cell_at hb 0
  clear hb ho e
  rcases h with h | h
  · have hd : decide (i < 0) = true := decide_eq_true h
    go_enter Try.func23, Try.ntmps23
    go_wp2
    go_ret
    exact ⟨rfl, rfl⟩
  · have hd : decide (i < 0) = false := decide_eq_false (by omega)
    have hd2 : decide ((l.length : Int) ≤ i) = true := decide_eq_true h
    go_enter Try.func23, Try.ntmps23
    go_wp2
    go_ret
    exact ⟨rfl, rfl⟩

set_option maxHeartbeats 400000 in
set_option maxRecDepth 100000 in
theorem double_full (b : Nat) (FP : List Nat) (l : List Pkt) (s : Int) (k : Nat) (w : World) (hn : NetObj 81 w b FP l s) (hk : k < l.length) (hl : l.length ≤ 1000) (hf : 500 ≤ l.length) :
    Calls Try.prog 23 #[.pointer (some ⟨b, 0, none⟩), .int .i64 k] w fun e w' => e = .returned (.int .i64 6) ∧ w = w' := by
  obtain ⟨v, hb, ho, e⟩ := hn
  obtain ⟨a, c, rfl, hc, hm⟩ := own_shape ho
  have c0 : w.cell? ⟨b, 0, none⟩ = some (.slice a l.length c) := cell_at hb 0
  clear hb ho e
  have hd : decide ((k : Int) < 0) = false := decide_eq_false (by omega)
  have hd2 : decide ((l.length : Int) ≤ k) = false := decide_eq_false (by omega)
  go_enter Try.func23, Try.ntmps23
  go_wp2
  go_ret
  exact ⟨rfl, rfl⟩

set_option maxHeartbeats 800000 in
set_option maxRecDepth 100000 in
theorem double_ok (b : Nat) (FP : List Nat) (l : List Pkt) (s : Int) (k : Nat) (w : World) (hn : NetObj 81 w b FP l s) (hk : k < l.length) (hl : l.length < 500) :
    Calls Try.prog 23 #[.pointer (some ⟨b, 0, none⟩), .int .i64 k] w fun e w' => e = .returned (.int .i64 0) ∧ ∃ FP', NetObj 81 w' b FP' (l ++ [l[k]]) s ∧ Evolves FP FP' w w' := by
  obtain ⟨v, hb, ho, e⟩ := hn
  have HE := Lib.hid e; clear e
  rcases id ho.2 with ⟨_, h0⟩ | ⟨g, cap, cur, rfl, _, hg, hcap, hmax, hsz, htake⟩
  · omega
  obtain ⟨p0, p1, p2⟩ := pkt_cell hg htake k hk
  obtain ⟨p, hp⟩ : ∃ p, p = l[k] := ⟨_, rfl⟩
  rw [← hp] at p0 p1 p2
  rw [← hp]
  have HP := Lib.hid hp; clear hp
  have c0 : w.cell? ⟨b, 0, none⟩ = some (.slice (some ⟨g, 0, none⟩) l.length cap) := cell_at hb 0
  have ca : ∀ o, (w.alloc o).cell? ⟨b, 0, none⟩ = some (.slice (some ⟨g, 0, none⟩) l.length cap) := fun o => by rw [World.cell?_alloc_past _ _ _ (lt_of_at hb)]; exact cell_at hb 0
  have hd : decide ((k : Int) < 0) = false := decide_eq_false (by omega)
  have hd2 : decide ((l.length : Int) ≤ k) = false := decide_eq_false (by omega)
  have hd3 : (k : Int) < (l.length : Int) := by omega
  have HB := Lib.hid hb
  have HO := Lib.hid ho
  clear hb ho hg hcap hmax hsz htake
  obtain ⟨i0, hi, hz0, hz1, hz2⟩ := info_parts Try.info34
  go_enter Try.func23, Try.ntmps23
  go_wp2_with fail
  have hnc : ∀ (n : Nat), Hid (∀ j u, p.cells[j]? = some u → ((w.drewN n).alloc (.cells #[.int .i64 p.src, .int .i64 p.dst, .string p.body] 34)).cell? ((⟨w.heap.size, 0, none⟩ : Addr).add j) = some u) := fun n => new_cells_drewN _ _ _ _ _ rfl
  go_region_law (refine step_append_own rfl (.tmp 28) (.tmp 36) 28 rfl 34 i0 (.agg #[.int .i64 0, .int .i64 0, .string ⟨#[]⟩]) 3 32 Try.underlying28 hi hz0 hz1 hz2 rfl (by decide) (.slice (some ⟨g, 0, none⟩) l.length cap) l.length (pktCells l) (by simp [Act.eval]) (HO.out.alloc _) ⟨w.heap.size, 0, none⟩ 1 1 p.cells (by simp [Act.eval]) rfl (hnc 1).out (pkt_oneCell p) (by unfold maxLen; omega) (by omega) ?_; intro v' w1 hown hg hat; obtain ⟨k0, k1, FP', hobj, hev⟩ := obj_appended (T := 81) p (by decide) HB.out HO.out ((Turns.refl [] w).drew.trans (Turns.alloc [] _ _)) hown hg (hat.imp id fun h => ⟨_, h, by simp⟩); obtain ⟨a', c', rfl, -, -⟩ := own_shape hown; have HF : Hid (NetObj 81 (w1.setCell ⟨b, 0, none⟩ (.slice a' (l.length + 1) c')) b FP' (l ++ [p]) s ∧ Evolves (b :: (Value.slice (some ⟨g, 0, none⟩) l.length cap).ownBlock.toList) FP' w (w1.setCell ⟨b, 0, none⟩ (.slice a' (l.length + 1) c'))) := ⟨hobj, hev⟩; clear hobj hev hown hg hat)
  all_goals
    go_wp2
    go_ret
    exact ⟨rfl, FP', HF.out.1, HE.out ▸ HF.out.2⟩

end Go.Proofs.Ytmikjninonpejaa
