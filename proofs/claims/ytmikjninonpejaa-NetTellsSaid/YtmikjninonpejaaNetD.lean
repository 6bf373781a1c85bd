/- Contracts of package net: take, Deliver, Drop. -/
import Derived.Test.YtmikjninonpejaaNetC
namespace Go.Proofs.Ytmikjninonpejaa
open Go.RowKit Go.Proofs.YtmikjninonpejaaMem

def pktVal (p : Pkt) : Value := .agg #[.int .i64 p.src, .int .i64 p.dst, .string p.body]

set_option maxHeartbeats 400000 in
set_option maxRecDepth 100000 in
theorem take_none (b : Nat) (FP : List Nat) (l : List Pkt) (s i : Int) (w : World) (hn : NetObj 81 w b FP l s) (h : i < 0 ∨ (l.length : Int) ≤ i) (hl : l.length ≤ 1000) :
    Calls Try.prog 54 #[.pointer (some ⟨b, 0, none⟩), .int .i64 i] w fun e w' => e = .returned (.tuple #[.agg #[.int .i64 0, .int .i64 0, .string ⟨#[]⟩], .bool false]) ∧ Turns [] w w' := by
  obtain ⟨v, hb, ho, e⟩ := hn
  obtain ⟨a, c, rfl, hc, hm⟩ := own_shape ho
  have c0 : w.cell? ⟨b, 0, none⟩ = some (.slice a l.length c) := cell_at hb 0
  have hbs : b < w.heap.size := lt_of_at hb
  have ca : ∀ o, (w.alloc o).cell? ⟨b, 0, none⟩ = some (.slice a l.length c) := fun o => by rw [World.cell?_alloc_past _ _ _ hbs]; exact c0
  clear hb ho e
  rcases h with h | h
  · have hd : decide (i < 0) = true := decide_eq_true h
    go_enter Try.func54, Try.ntmps54
    go_wp2
    refine bodyPost_ret (v := .tuple #[.agg #[.int .i64 0, .int .i64 0, .string ⟨#[]⟩], .bool false]) (by simp [results, Try.results54, go_sem]) rfl ⟨rfl, ?_⟩
    exact Turns.alloc _ _ _
  · have hd : decide (i < 0) = false := decide_eq_false (by omega)
    have hd2 : decide ((l.length : Int) ≤ i) = true := decide_eq_true h
    go_enter Try.func54, Try.ntmps54
    go_wp2
    refine bodyPost_ret (v := .tuple #[.agg #[.int .i64 0, .int .i64 0, .string ⟨#[]⟩], .bool false]) (by simp [results, Try.results54, go_sem]) rfl ⟨rfl, ?_⟩
    exact Turns.alloc _ _ _

theorem pkt_cell {w : World} {g : Nat} {cur : Array Value} {l : List Pkt} (hg : w.heap[g]? = some (.cells cur 34 (0, 0))) (htake : cur.toList.take (l.length * 3) = pktCells l) (k : Nat) (hk : k < l.length) :
    w.cell? ⟨g, k * 3, none⟩ = some (.int .i64 l[k].src) ∧ w.cell? ⟨g, k * 3 + 1, none⟩ = some (.int .i64 l[k].dst) ∧ w.cell? ⟨g, k * 3 + 2, none⟩ = some (.string l[k].body) := by
  have key : ∀ j, j < 3 → w.cell? ⟨g, k * 3 + j, none⟩ = (l[k].cells)[j]? := by
    intro j hj
    rw [cell_at hg]
    have e1 : cur[k * 3 + j]? = (pktCells l)[k * 3 + j]? := by
      rw [← htake, List.getElem?_take, if_pos (by omega)]; simp
    have e2 : (pktCells l)[k * 3 + j]? = ((pktCells l).drop (k * 3))[j]? := by rw [List.getElem?_drop]
    rw [e1, e2, pktCells_drop, List.drop_eq_getElem_cons hk]
    simp only [pktCells, List.flatMap_cons]
    rw [List.getElem?_append_left (by simp [Pkt.cells]; omega)]
  exact ⟨key 0 (by omega), key 1 (by omega), key 2 (by omega)⟩

/-- The new list is stored into the struct: the object behind the store. -/
theorem obj_stored {T : TypeId} {w1 : World} {b : Nat} {l' : List Pkt} {s : Int} {v v' : Value} (hT : (34 : TypeId) ≠ T)
    (hb : w1.heap[b]? = some (.cells #[v, .int .i64 s] T (0, 0))) (hown : w1.ownsRow 0 34 3 v' l'.length (pktCells l')) : NetObj T (w1.setCell ⟨b, 0, none⟩ v') b (b :: v'.ownBlock.toList) l' s := by
  have hbv' := own_ne hown hb hT
  refine ⟨v', ?_, own_kept hown (Turns.setCell (S := [b]) _ _ _ (by simp)) (fun k hk hkb => ?_), rfl⟩
  · rw [heap_setCell_at hb]; rfl
  · simp at hkb; subst hkb; exact hbv' hk

set_option maxHeartbeats 800000 in
set_option maxRecDepth 100000 in
theorem take_some (b : Nat) (FP : List Nat) (l : List Pkt) (s : Int) (k : Nat) (w : World) (hn : NetObj 81 w b FP l s) (hk : k < l.length) (hl : l.length ≤ 1000) :
    Calls Try.prog 54 #[.pointer (some ⟨b, 0, none⟩), .int .i64 k] w fun e w' => e = .returned (.tuple #[.agg #[.int .i64 l[k].src, .int .i64 l[k].dst, .string l[k].body], .bool true]) ∧
      ∃ FP', NetObj 81 w' b FP' (l.eraseIdx k) s ∧ Evolves FP FP' w w' := by
  obtain ⟨v, hb, ho, e⟩ := hn
  have HE := Lib.hid e; clear e
  rcases id ho.2 with ⟨_, h0⟩ | ⟨g, cap, cur, rfl, _, hg, hcap, hmax, hsz, htake⟩
  · omega
  have hbs : b < w.heap.size := lt_of_at hb
  have hgs : g < w.heap.size := lt_of_at hg
  have hgb : b ≠ g := by rintro rfl; rw [hb] at hg; simp at hg
  obtain ⟨p0, p1, p2⟩ := pkt_cell hg htake k hk
  obtain ⟨q0, hq0⟩ : ∃ q, q = l[k].src := ⟨_, rfl⟩
  obtain ⟨q1, hq1⟩ : ∃ q, q = l[k].dst := ⟨_, rfl⟩
  obtain ⟨q2, hq2⟩ : ∃ q, q = l[k].body := ⟨_, rfl⟩
  rw [← hq0] at p0
  rw [← hq1] at p1
  rw [← hq2] at p2
  have HQ := Lib.hid (And.intro hq0 (And.intro hq1 hq2)); clear hq0 hq1 hq2
  rw [← HQ.out.1, ← HQ.out.2.1, ← HQ.out.2.2]
  have ca : ∀ o, (w.alloc o).cell? ⟨b, 0, none⟩ = some (.slice (some ⟨g, 0, none⟩) l.length cap) := fun o => by rw [World.cell?_alloc_past _ _ _ hbs]; exact cell_at hb 0
  have pa0 : ∀ o, (w.alloc o).cell? ⟨g, k * 3, none⟩ = some (.int .i64 q0) := fun o => by rw [World.cell?_alloc_past _ _ _ hgs]; exact p0
  have pa1 : ∀ o, (w.alloc o).cell? ⟨g, k * 3 + 1, none⟩ = some (.int .i64 q1) := fun o => by rw [World.cell?_alloc_past _ _ _ hgs]; exact p1
  have pa2 : ∀ o, (w.alloc o).cell? ⟨g, k * 3 + 2, none⟩ = some (.string q2) := fun o => by rw [World.cell?_alloc_past _ _ _ hgs]; exact p2
  have hd : decide ((k : Int) < 0) = false := decide_eq_false (by omega)
  have hd2 : decide ((l.length : Int) ≤ k) = false := decide_eq_false (by omega)
  have HB := Lib.hid hb
  have HG := Lib.hid hg
  have HO := Lib.hid ho
  have HT := Lib.hid htake
  have HS := Lib.hid hsz
  have hk1 : (k : Int) + 1 ≤ 1000 := by omega
  clear hb hg ho htake hsz
  go_enter Try.func54, Try.ntmps54
  go_wp2_with fail
  refine (delete_any g cap k l cur _ ?hcur hcap hmax HS.out HT.out hk).mono ?_
  case hcur => rw [Below.heap_alloc _ _ _ (by simp; omega), Below.heap_alloc _ _ _ hgs]; exact HG.out
  rintro e w1 ⟨rfl, hown, ht⟩
  have hb1 : w1.heap[b]? = some (.cells #[.slice (some ⟨g, 0, none⟩) l.length cap, .int .i64 s] 81 (0, 0)) := by
    rw [ht.block b (by simp; omega) (by simpa using hgb), Below.heap_alloc _ _ _ (by simp; omega), Below.heap_alloc _ _ _ hbs]; exact HB.out
  have hz1 : w1.heap[w.heap.size]? = some (.cells #[.int .i64 0, .int .i64 0, .string ⟨#[]⟩] 34 (0, 0)) := by
    rw [ht.block w.heap.size (by simp; omega) (by simp; omega), Below.heap_alloc _ _ _ (by simp), heap_alloc_here]
  have hp1 : w1.heap[w.heap.size + 1]? = some (.cells #[.int .i64 q0, .int .i64 q1, .string q2] 34 (0, 0)) := by
    rw [ht.block (w.heap.size + 1) (by simp) (by simp; omega)]
    exact heap_alloc_here1 _ _ _
  have k0 : w1.cell? ⟨b, 0, none⟩ = some (.slice (some ⟨g, 0, none⟩) l.length cap) := cell_at hb1 0
  have k1 : w1.frozen? ⟨b, 0, none⟩ = false := free_at hb1 0
  have z0 : w1.cell? ⟨w.heap.size, 0, none⟩ = some (.int .i64 0) := cell_at hz1 0
  have z1 : w1.cell? ⟨w.heap.size, 1, none⟩ = some (.int .i64 0) := cell_at hz1 1
  have z2 : w1.cell? ⟨w.heap.size, 2, none⟩ = some (.string ⟨#[]⟩) := cell_at hz1 2
  have y0 : w1.frozen? ⟨w.heap.size, 0, none⟩ = false := free_at hz1 0
  have y1 : w1.frozen? ⟨w.heap.size, 1, none⟩ = false := free_at hz1 1
  have y2 : w1.frozen? ⟨w.heap.size, 2, none⟩ = false := free_at hz1 2
  have x0 : w1.cell? ⟨w.heap.size + 1, 0, none⟩ = some (.int .i64 q0) := cell_at hp1 0
  have x1 : w1.cell? ⟨w.heap.size + 1, 1, none⟩ = some (.int .i64 q1) := cell_at hp1 1
  have x2 : w1.cell? ⟨w.heap.size + 1, 2, none⟩ = some (.string q2) := cell_at hp1 2
  have hN : k + (l.length - (k + 1)) = (l.eraseIdx k).length := by rw [List.length_eraseIdx, if_pos hk]; omega
  have HF : Hid (NetObj 81 (w1.setCell ⟨b, 0, none⟩ (.slice (some ⟨g, 0, none⟩) (k + (l.length - (k + 1))) cap)) b [b, g] (l.eraseIdx k) s) := by
    rw [hN] at hown ⊢
    exact obj_stored (by decide) hb1 hown
  have HT1 : Hid (Turns [b, g] w (w1.setCell ⟨b, 0, none⟩ (.slice (some ⟨g, 0, none⟩) (k + (l.length - (k + 1))) cap))) :=
    ((((Turns.alloc _ w _).trans (Turns.alloc _ _ _)).trans (ht.mono (by simp)))).trans (Turns.setCell _ _ _ (by simp))
  clear hown ht hb1 hz1 hp1 hN ca pa0 pa1 pa2 p0 p1 p2
  go_wp2
  refine bodyPost_ret (v := .tuple #[.agg #[.int .i64 q0, .int .i64 q1, .string q2], .bool true]) (by simp [results, Try.results54, go_sem, z0, z1, z2]) rfl ⟨rfl, [b, g], ?_, ?_, ?_⟩
  · exact HF.out.kept (Turns.set3 _ _ _ _ _) (fun x hx => by simp at hx ⊢; omega)
  · rw [HE.out]
    exact HT1.out.trans_new (Turns.set3 _ _ _ _ _) (fun x hx => by simp at hx; exact Or.inr (by omega))
  · intro x hx
    rw [HE.out]
    exact Or.inl hx
end Go.Proofs.Ytmikjninonpejaa
