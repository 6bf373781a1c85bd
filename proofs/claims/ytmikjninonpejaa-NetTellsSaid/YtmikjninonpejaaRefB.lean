/- Contracts of the reference for net: remove, Drop, Double, Copy. -/
import Derived.Test.YtmikjninonpejaaRefA
import Derived.Test.YtmikjninonpejaaNetV
namespace Go.Proofs.Ytmikjninonpejaa
open Go.RowKit Go.Proofs.YtmikjninonpejaaMem

/-- The new list, made apart, is stored into the struct. -/
theorem obj_replaced {w w7 : World} {b : Nat} {v v2 : Value} {l' : List Pkt} {s : Int} (hb : w.heap[b]? = some (.cells #[v, .int .i64 s] 51 (0, 0)))
    (h7 : (pktThing v2 l').holds w7 v2.ownBlock.toList ∧ Turns [] w w7 ∧ (∀ x ∈ v2.ownBlock.toList, w.heap.size ≤ x)) :
    w7.cell? ⟨b, 0, none⟩ = some v ∧ w7.frozen? ⟨b, 0, none⟩ = false ∧
    Hid (NetObj 51 (w7.setCell ⟨b, 0, none⟩ v2) b (b :: v2.ownBlock.toList) l' s ∧ Evolves (b :: v.ownBlock.toList) (b :: v2.ownBlock.toList) w (w7.setCell ⟨b, 0, none⟩ v2)) := by
  have hb7 : w7.heap[b]? = some (.cells #[v, .int .i64 s] 51 (0, 0)) := by rw [h7.2.1.block b (lt_of_at hb) (by simp)]; exact hb
  refine ⟨cell_at hb7 0, free_at hb7 0, obj_stored (by decide) hb7 h7.1.1, (h7.2.1.mono (by simp)).trans (Turns.setCell _ _ _ (by simp)), fun x hx => ?_⟩
  rcases List.mem_cons.1 hx with rfl | hx
  · exact Or.inl (by simp)
  · exact Or.inr (h7.2.2 x hx)

set_option maxHeartbeats 1600000 in
set_option maxRecDepth 100000 in
theorem rremove_any (b : Nat) (FP : List Nat) (l : List Pkt) (s : Int) (m : Nat) (w : World) (hn : NetObj 51 w b FP l s) (hm : m < l.length) (hl : l.length ≤ 1000) :
    Calls Try.prog 83 #[.pointer (some ⟨b, 0, none⟩), .int .i64 m] w fun e w' => e = .returned (.tuple #[]) ∧ ∃ FP', NetObj 51 w' b FP' (l.eraseIdx m) s ∧ Evolves FP FP' w w' := by
  obtain ⟨v, hb, ho, e⟩ := hn
  have HE := Lib.hid e; clear e
  rcases id ho.2 with ⟨_, h0⟩ | ⟨g, cap, cur, rfl, _, hg, hcap, hmax, hsz, htake⟩
  · omega
  have hbs : b < w.heap.size := lt_of_at hb
  have hgs : g < w.heap.size := lt_of_at hg
  have HB := Lib.hid hb
  have c0 : w.cell? ⟨b, 0, none⟩ = some (.slice (some ⟨g, 0, none⟩) l.length cap) := cell_at hb 0
  have ca : ∀ o, (w.alloc o).cell? ⟨b, 0, none⟩ = some (.slice (some ⟨g, 0, none⟩) l.length cap) := fun o => by rw [World.cell?_alloc_past _ _ _ hbs]; exact cell_at hb 0
  obtain ⟨A, hA, htail⟩ := tail_at hg hcap htake hm
  have hhead := head_at hg htake (Nat.le_of_lt hm)
  have hcap9 : cap ≤ 9223372036854775807 := by unfold maxLen at hmax; omega
  have HNIL : Hid ((w.alloc (.cells #[] 34)).ownsRow w.heap.size 34 3 (.slice (some ⟨w.heap.size, 0, none⟩) 0 0) 0 []) := World.ownsRow_made w #[] 0 (Nat.le_refl _) (by unfold maxLen; omega) rfl
  have hwr : IntKind.i64.wrap ((m : Int) + 1) = (m : Int) + 1 := by rw [IntKind.wrap_i64]; omega
  have hp0 : (0 : Int) ≤ (m : Int) + 1 := by omega
  have hp1 : (m : Int) + 1 ≤ (l.length : Int) := by omega
  have hp2 : ((m : Int) + 1).toNat = m + 1 := by omega
  have hmc : m ≤ cap := by omega
  have s1 : Hid ((pktCells (l.take m)).length = m * 3) := by show _ = _; rw [pktCells_length]; simp; omega
  have s2 : Hid ((pktCells (l.drop (m + 1))).length = (l.length - (m + 1)) * 3) := by show _ = _; rw [pktCells_length]; simp
  obtain ⟨i0, hi, hz0, hz1, hz2⟩ := info_parts Try.info34
  clear hb ho hg htake hsz hmax
  go_enter Try.func83, Try.ntmps83
  go_wp2_with fail
  go_region_law (first | (refine step_append_own rfl (.tmp 5) (.tmp 11) 28 rfl 34 i0 (.agg #[.int .i64 0, .int .i64 0, .string ⟨#[]⟩]) 3 32 Try.underlying28 hi hz0 hz1 hz2 rfl (by decide) (.slice (some ⟨w.heap.size, 0, none⟩) 0 0) 0 [] (by simp [Act.eval, Act.put]) (own_base HNIL.out (Nat.zero_le _)) ⟨g, 0, none⟩ m cap (pktCells (l.take m)) (by simp [Act.eval, Act.put]) s1.out (hhead.out _ (Below.heap_alloc _ _ _ hgs)) (pkts_oneCell _) (by unfold maxLen; omega) (by omega) ?_; intro v1 w6 hown1 hg1 hat1; have HW6 := seg_first ((Turns.alloc [] w _).drew) hown1 hg1 (hat1.imp id fun h => ⟨_, h, by simp⟩); clear hown1 hg1 hat1; have c6 : w6.cell? ⟨b, 0, none⟩ = some (.slice (some ⟨g, 0, none⟩) l.length cap) := (HW6.out.2.1.cell (a := ⟨b, 0, none⟩) hbs (by simp)).trans (cell_at HB.out 0)) | (refine step_append_own rfl (.tmp 12) (.tmp 19) 28 rfl 34 i0 (.agg #[.int .i64 0, .int .i64 0, .string ⟨#[]⟩]) 3 32 Try.underlying28 hi hz0 hz1 hz2 rfl (by decide) v1 m (pktCells (l.take m)) (by simp [Act.eval, Act.put]) HW6.out.1 A (l.length - (m + 1)) (cap - (m + 1)) (pktCells (l.drop (m + 1))) (by simp [Act.eval, Act.put]) s2.out (htail.out _ (HW6.out.2.1.block g hgs (by simp))) (pkts_oneCell _) (by unfold maxLen; omega) (by omega) ?_; intro v2 w7 hown2 hg2 hat2; have HW7 := seg_second HW6.out hown2 hg2 hat2 hm; clear hown2 hg2 hat2; obtain ⟨a', c', hv', -⟩ := own_shape HW7.out.1.1; subst hv'; obtain ⟨k0, k1, HF⟩ := obj_replaced HB.out HW7.out; clear HW7))

  all_goals
    go_wp2
    go_end0
    exact ⟨rfl, _, HF.out.1, HE.out ▸ HF.out.2⟩

end Go.Proofs.Ytmikjninonpejaa
