/- Contracts of package net: slices.Clone, List, Copy. -/
import Derived.Test.YtmikjninonpejaaNetF
import Derived.Deep.RegionWith
namespace Go.Proofs.Ytmikjninonpejaa
open Go.RowKit Go.Proofs.YtmikjninonpejaaMem

/-- A fresh slice that holds the packets l. -/
def Fresh (l : List Pkt) (w : World) (e : Ending) (w' : World) : Prop :=
  ∃ v, e = .returned v ∧ w'.ownsRow w.heap.size 34 3 v l.length (pktCells l) ∧ Turns [] w w'

theorem own_base {w : World} {base base' : Nat} {e : TypeId} {size : Nat} {v : Value} {n : Nat} {xs : List Value} (h : w.ownsRow base e size v n xs) (hb : base' ≤ base) : w.ownsRow base' e size v n xs := by
  refine ⟨h.1, ?_⟩
  rcases h.2 with hn | ⟨g, cap, cur, rfl, hg, r⟩
  · exact .inl hn
  · exact .inr ⟨g, cap, cur, rfl, Nat.le_trans hb hg, r⟩

set_option maxHeartbeats 400000 in
theorem clone_any (v : Value) (l : List Pkt) (w : World) (ho : w.ownsRow 0 34 3 v l.length (pktCells l)) (hl : l.length ≤ 1000) : Calls Try.prog 55 #[v] w (Fresh l w) := by
  rcases id ho.2 with ⟨rfl, h0⟩ | ⟨g, cap, cur, rfl, _, hg, hcap, hmax, hsz, htake⟩
  · have hq := fun w => Lib.run_eql_slice_nil (P := Try.prog) w 28 34 none 0 0 0 0 Try.underlying28
    obtain rfl : l = [] := List.eq_nil_of_length_eq_zero h0
    clear ho
    go_enter Try.func55, Try.ntmps55
    go_wp2
    go_ret
    exact ⟨_, rfl, World.ownsRow_nil _ _ _ _, Turns.refl _ _⟩
  · have hq := fun w => Lib.run_eql_slice_nil (P := Try.prog) w 28 34 (some ⟨g, 0, none⟩) l.length cap 0 0 Try.underlying28
    have HO := Lib.hid ho
    have hgs : g < w.heap.size := lt_of_at hg
    have hc : Hid (∀ o j u, (pktCells l)[j]? = some u → (w.alloc o).cell? ((⟨g, 0, none⟩ : Addr).add j) = some u) := by
      intro o j u hu
      exact ((Turns.alloc [] w o).cell (a := (⟨g, 0, none⟩ : Addr).add j) (by unfold Addr.add; split <;> exact hgs) (by simp)).trans (ho.cells (g := g) rfl j u hu)
    clear ho hg hsz htake
    obtain ⟨i0, hi, hz0, hz1, hz2⟩ := info_parts Try.info34
    have hnil : Hid ((w.alloc (.cells #[] 34)).ownsRow w.heap.size 34 3 (.slice (some ⟨w.heap.size, 0, none⟩) 0 0) 0 []) := World.ownsRow_made w #[] 0 (Nat.le_refl _) (by unfold maxLen; omega) rfl
    go_enter Try.func55, Try.ntmps55
    go_wp2_with (at_builtin; refine wpList_append_own_at _ rfl (.tmp 5) (.tmp 6) 28 rfl w.heap.size 34 i0 (.agg #[.int .i64 0, .int .i64 0, .string ⟨#[]⟩]) 3 32 Try.underlying28 hi hz0 hz1 hz2 rfl (by decide) _ 0 [] rfl hnil.out ⟨g, 0, none⟩ l.length cap (pktCells l) rfl ?c1 ?c2 ?c3 ?c4 ?c5 ?c6 ?_)
    case c1 => exact pktCells_length l
    case c2 => exact hc.out _
    case c3 => exact pkts_oneCell l
    case c4 => unfold maxLen; omega
    case c5 => omega
    case c6 => simp
    · intro v' w1 hown hgr _ hat
      have hw : Hid (w1.ownsRow w.heap.size 34 3 v' l.length (pktCells l) ∧ Turns [] w w1) := by
        refine ⟨by simpa using hown, (Turns.alloc _ w _).trans_new (Turns.of_grown (S := [w.heap.size]) hgr (fun k hk => by simp [Value.ownBlock] at hk; simp [hk])) (fun x hx => by simp at hx; exact Or.inr (by omega))⟩
      clear hown hgr hat
      go_wp2
      go_ret
      exact ⟨_, rfl, hw.out.1, hw.out.2⟩

set_option maxHeartbeats 400000 in
theorem list_any (b : Nat) (FP : List Nat) (l : List Pkt) (s : Int) (w : World) (hn : NetObj 81 w b FP l s) (hl : l.length ≤ 1000) : Calls Try.prog 18 #[.pointer (some ⟨b, 0, none⟩)] w (Fresh l w) := by
  obtain ⟨v, hb, ho, -⟩ := hn
  have HO := Lib.hid ho
  obtain ⟨a, c, rfl, hc, hm⟩ := own_shape ho
  have c0 : w.cell? ⟨b, 0, none⟩ = some (.slice a l.length c) := cell_at hb 0
  clear hb ho
  go_enter Try.func18, Try.ntmps18
  go_wp2_with fail
  refine (clone_any _ l _ HO.out hl).mono ?_
  rintro e w1 ⟨v1, rfl, h1, h2⟩
  have HW := Lib.hid (And.intro h1 h2); clear h1 h2
  go_wp2_with fail
  go_ret
  exact ⟨_, rfl, HW.out.1, HW.out.2⟩

/-- A fresh object. -/
def FreshObj (T : TypeId) (l : List Pkt) (s : Int) (w : World) (e : Ending) (w' : World) : Prop :=
  ∃ b FP, e = .returned (.pointer (some ⟨b, 0, none⟩)) ∧ NetObj T w' b FP l s ∧ (∀ x ∈ FP, w.heap.size ≤ x) ∧ Turns [] w w'

theorem freshObj_of {T : TypeId} {l : List Pkt} {s : Int} {w w1 w' : World} {v : Value} {n : Nat} (hv : w1.ownsRow w.heap.size 34 3 v l.length (pktCells l)) (h1 : Turns [] w w1)
    (he : w' = (w1.alloc (.cells #[v, .int .i64 s] T)).drewN n) : FreshObj T l s w (.returned (.pointer (some ⟨w1.heap.size, 0, none⟩))) w' := by
  subst he
  refine ⟨w1.heap.size, w1.heap.size :: v.ownBlock.toList, rfl, ⟨v, heap_alloc_here _ _, own_base (hv.alloc _) (Nat.zero_le _), rfl⟩, ?_, (h1.trans (Turns.alloc _ _ _)).drewN _⟩
  intro x hx
  rcases List.mem_cons.1 hx with rfl | hx
  · exact h1.size
  · exact (hv.lt x (by simpa using hx)).1

set_option maxHeartbeats 800000 in
theorem copy_any (b : Nat) (FP : List Nat) (l : List Pkt) (s : Int) (w : World) (hn : NetObj 81 w b FP l s) (hl : l.length ≤ 1000) : Calls Try.prog 26 #[.pointer (some ⟨b, 0, none⟩)] w (FreshObj 81 l s w) := by
  obtain ⟨v, hb, ho, -⟩ := hn
  have HO := Lib.hid ho
  have HB := Lib.hid hb
  obtain ⟨a, c, rfl, hc, hm⟩ := own_shape ho
  have c0 : w.cell? ⟨b, 0, none⟩ = some (.slice a l.length c) := cell_at hb 0
  have c1 : w.cell? ⟨b, 1, none⟩ = some (.int .i64 s) := cell_at hb 1
  clear hb ho
  go_enter Try.func26, Try.ntmps26
  go_wp2_with fail
  go_region_with (go_at_call 55; refine (clone_any _ l _ (by exact HO.out) hl).mono ?_; rintro e w1 ⟨v1, rfl, h1, h2⟩; obtain ⟨a1, n1, rfl, -, -⟩ := own_shape h1; have k1 : w1.cell? ⟨b, 1, none⟩ = some (.int .i64 s) := (h2.cell (a := ⟨b, 1, none⟩) (lt_of_at HB.out) (by simp)).trans (cell_at HB.out 1); have HW := Lib.hid (And.intro h1 h2); clear h1 h2)
  all_goals
    go_wp2
    go_ret
    exact freshObj_of (n := 0) HW.out.1 HW.out.2.of_drew rfl

end Go.Proofs.Ytmikjninonpejaa
