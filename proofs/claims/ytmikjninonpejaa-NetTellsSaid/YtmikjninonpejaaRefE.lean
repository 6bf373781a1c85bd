/- Contracts of the reference for net: Deliver. -/
import Derived.Test.YtmikjninonpejaaRefC
namespace Go.Proofs.Ytmikjninonpejaa
open Go.RowKit Go.Proofs.YtmikjninonpejaaMem

set_option maxHeartbeats 400000 in
set_option maxRecDepth 100000 in
theorem rdeliver_none (b : Nat) (FP : List Nat) (l : List Pkt) (s i : Int) (w : World) (hn : NetObj 51 w b FP l s) (h : i < 0 ∨ (l.length : Int) ≤ i) :
    Calls Try.prog 57 #[.pointer (some ⟨b, 0, none⟩), .int .i64 i] w fun e w' => e = .returned (.tuple #[.agg #[.int .i64 0, .int .i64 0, .string ⟨#[]⟩], .int .i64 4]) ∧ Turns [] w w' := by
  obtain ⟨v, hb, ho, e⟩ := hn
  obtain ⟨a, c, rfl, hc, hm⟩ := own_shape ho
  have c0 : w.cell? ⟨b, 0, none⟩ = some (.slice a l.length c) := cell_at hb 0
  have hbs : b < w.heap.size := lt_of_at hb
  have ca : ∀ o, (w.alloc o).cell? ⟨b, 0, none⟩ = some (.slice a l.length c) := fun o => by rw [World.cell?_alloc_past _ _ _ hbs]; exact c0
  clear hb ho e
  rcases h with h | h
  · have hd : decide (i < 0) = true := decide_eq_true h
    go_enter Try.func57, Try.ntmps57
    go_wp2_with fail
    refine bodyPost_ret (v := .tuple #[.agg #[.int .i64 0, .int .i64 0, .string ⟨#[]⟩], .int .i64 4]) (by simp [results, Try.results57, go_sem]) rfl ⟨rfl, ?_⟩
    exact Turns.alloc _ _ _
  · have hd : decide (i < 0) = false := decide_eq_false (by omega)
    have hd2 : decide ((l.length : Int) ≤ i) = true := decide_eq_true h
    go_enter Try.func57, Try.ntmps57
    go_wp2_with fail
    refine bodyPost_ret (v := .tuple #[.agg #[.int .i64 0, .int .i64 0, .string ⟨#[]⟩], .int .i64 4]) (by simp [results, Try.results57, go_sem]) rfl ⟨rfl, ?_⟩
    exact Turns.alloc _ _ _

set_option maxHeartbeats 800000 in
set_option maxRecDepth 100000 in
theorem rdeliver_some (b : Nat) (FP : List Nat) (l : List Pkt) (s : Int) (k : Nat) (w : World) (hn : NetObj 51 w b FP l s) (hk : k < l.length) (hl : l.length ≤ 1000) (r : Bool) (hr : hears s l[k].src l[k].dst = r) :
    Calls Try.prog 57 #[.pointer (some ⟨b, 0, none⟩), .int .i64 k] w fun e w' => e = .returned (if r then .tuple #[.agg #[.int .i64 l[k].src, .int .i64 l[k].dst, .string l[k].body], .int .i64 0] else .tuple #[.agg #[.int .i64 0, .int .i64 0, .string ⟨#[]⟩], .int .i64 10]) ∧
      ∃ FP', NetObj 51 w' b FP' (l.eraseIdx k) s ∧ Evolves FP FP' w w' := by
  have HLT := Lib.hid hn.lt
  have HN := Lib.hid hn
  obtain ⟨v, hb, ho, e⟩ := hn
  clear e
  rcases id ho.2 with ⟨_, h0⟩ | ⟨g, cap, cur, rfl, _, hg, hcap, hmax, hsz, htake⟩
  · omega
  obtain ⟨p0, p1, p2⟩ := pkt_cell hg htake k hk
  obtain ⟨p, hp⟩ : ∃ p, p = l[k] := ⟨_, rfl⟩
  rw [← hp] at p0 p1 p2 hr
  rw [← hp]
  have HP := Lib.hid hp; clear hp
  have hbs : b < w.heap.size := lt_of_at hb
  have hgs : g < w.heap.size := lt_of_at hg
  have c0 : w.cell? ⟨b, 0, none⟩ = some (.slice (some ⟨g, 0, none⟩) l.length cap) := cell_at hb 0
  have ca : ∀ o, (w.alloc o).cell? ⟨b, 0, none⟩ = some (.slice (some ⟨g, 0, none⟩) l.length cap) := fun o => by rw [World.cell?_alloc_past _ _ _ hbs]; exact c0
  have pa0 : ∀ o, (w.alloc o).cell? ⟨g, k * 3, none⟩ = some (.int .i64 p.src) := fun o => by rw [World.cell?_alloc_past _ _ _ hgs]; exact p0
  have pa1 : ∀ o, (w.alloc o).cell? ⟨g, k * 3 + 1, none⟩ = some (.int .i64 p.dst) := fun o => by rw [World.cell?_alloc_past _ _ _ hgs]; exact p1
  have pa2 : ∀ o, (w.alloc o).cell? ⟨g, k * 3 + 2, none⟩ = some (.string p.body) := fun o => by rw [World.cell?_alloc_past _ _ _ hgs]; exact p2
  have hd : decide ((k : Int) < 0) = false := decide_eq_false (by omega)
  have hd2 : decide ((l.length : Int) ≤ k) = false := decide_eq_false (by omega)
  have hd3 : (k : Int) < (l.length : Int) := by omega
  have HR := Lib.hid hr
  clear hb ho hg hcap hmax hsz htake hr
  go_enter Try.func57, Try.ntmps57
  go_wp2_with fail
  refine (rremove_any b FP l s k _ (HN.out.kept ((Turns.alloc [] _ _).trans (Turns.alloc [] _ _)) (by simp)) hk hl).mono ?_
  rintro e w1 ⟨rfl, FP1, hn1, hev⟩
  have hsz := hev.1.size
  simp only [World.size_alloc] at hsz
  have hz1 : w1.heap[w.heap.size]? = some (.cells #[.int .i64 0, .int .i64 0, .string ⟨#[]⟩] 34 (0, 0)) := by
    rw [hev.1.block w.heap.size (by simp; omega) (notIn_of_lt HLT.out), Below.heap_alloc _ _ _ (by simp), heap_alloc_here]
  have hp1 : w1.heap[w.heap.size + 1]? = some (.cells #[.int .i64 p.src, .int .i64 p.dst, .string p.body] 34 (0, 0)) := by
    rw [hev.1.block (w.heap.size + 1) (by simp) (fun hx => by have := HLT.out _ hx; omega)]
    exact heap_alloc_here1 _ _ _
  have z0 : w1.cell? ⟨w.heap.size, 0, none⟩ = some (.int .i64 0) := cell_at hz1 0
  have z1 : w1.cell? ⟨w.heap.size, 1, none⟩ = some (.int .i64 0) := cell_at hz1 1
  have z2 : w1.cell? ⟨w.heap.size, 2, none⟩ = some (.string ⟨#[]⟩) := cell_at hz1 2
  have y0 : w1.frozen? ⟨w.heap.size, 0, none⟩ = false := free_at hz1 0
  have y1 : w1.frozen? ⟨w.heap.size, 1, none⟩ = false := free_at hz1 1
  have y2 : w1.frozen? ⟨w.heap.size, 2, none⟩ = false := free_at hz1 2
  have x0 : w1.cell? ⟨w.heap.size + 1, 0, none⟩ = some (.int .i64 p.src) := cell_at hp1 0
  have x1 : w1.cell? ⟨w.heap.size + 1, 1, none⟩ = some (.int .i64 p.dst) := cell_at hp1 1
  have x2 : w1.cell? ⟨w.heap.size + 1, 2, none⟩ = some (.string p.body) := cell_at hp1 2
  have HN1 := Lib.hid hn1
  have HFIN : Hid (∀ (n : Nat) (x y z : Value), ∃ FP', NetObj 51 ((((w1.setCell ⟨w.heap.size, 0, none⟩ x).setCell ⟨w.heap.size, 1, none⟩ y).setCell ⟨w.heap.size, 2, none⟩ z).drewN n) b FP' (l.eraseIdx k) s ∧
      Evolves FP FP' w ((((w1.setCell ⟨w.heap.size, 0, none⟩ x).setCell ⟨w.heap.size, 1, none⟩ y).setCell ⟨w.heap.size, 2, none⟩ z).drewN n)) := by
    intro n x y z
    have hT : Turns [w.heap.size] w1 ((((w1.setCell ⟨w.heap.size, 0, none⟩ x).setCell ⟨w.heap.size, 1, none⟩ y).setCell ⟨w.heap.size, 2, none⟩ z).drewN n) := (Turns.set3 _ _ _ _ _).drewN n
    refine ⟨FP1, hn1.kept hT (fun x hx => ?_), ?_, fun x hx => ?_⟩
    · rcases hev.2 x hx with h | h
      · have := HLT.out x h; simp; omega
      · simp at h ⊢; omega
    · exact (((Turns.alloc _ _ _).trans (Turns.alloc _ _ _)).trans hev.1).trans_new hT (fun x hx => by simp at hx; exact Or.inr (by omega))
    · rcases hev.2 x hx with h | h
      · exact Or.inl h
      · simp at h; exact Or.inr (by omega)
  clear hev hn1 hz1 hp1 ca pa0 pa1 pa2 p0 p1 p2 c0
  cases r
  · go_wp2_with fail
    refine (rhear_is b FP1 (l.eraseIdx k) s p.src p.dst _ HN1.out false HR.out).mono ?_
    rintro e w2 ⟨rfl, n, rfl⟩
    go_wp2_with fail
    refine bodyPost_ret (v := .tuple #[.agg #[.int .i64 0, .int .i64 0, .string ⟨#[]⟩], .int .i64 10]) (by simp [results, Try.results57, go_sem, z0, z1, z2]) rfl ⟨rfl, ?_⟩
    exact HFIN.out _ _ _ _
  · go_wp2_with fail
    refine (rhear_is b FP1 (l.eraseIdx k) s p.src p.dst _ HN1.out true HR.out).mono ?_
    rintro e w2 ⟨rfl, n, rfl⟩
    go_wp2_with fail
    refine bodyPost_ret (v := .tuple #[.agg #[.int .i64 p.src, .int .i64 p.dst, .string p.body], .int .i64 0]) (by simp [results, Try.results57, go_sem, z0, z1, z2]) rfl ⟨rfl, ?_⟩
    exact HFIN.out _ _ _ _

end Go.Proofs.Ytmikjninonpejaa
