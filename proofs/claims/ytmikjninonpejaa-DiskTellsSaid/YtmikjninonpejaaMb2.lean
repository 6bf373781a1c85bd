/- Contracts and lemmas (texts NetD, NetE, NetF, NetG, Sep, joined by a program). -/
import Derived.Test.YtmikjninonpejaaMb1
import Derived.StillTailTactics
import Derived.Deep.RegionWith
/- Contracts of package net: take, Deliver, Drop. -/
namespace Go.Proofs.Ytmikjninonpejaa
open Go.RowKit Go.Proofs.YtmikjninonpejaaMem

def pktVal (p : Pkt) : Value := .agg #[.int .i64 p.src, .int .i64 p.dst, .string p.body]

set_option maxHeartbeats 400000 in
set_option maxRecDepth 100000 in
theorem take_none (b : Nat) (FP : List Nat) (l : List Pkt) (s i : Int) (w : World) (hn : NetObj 81 w b FP l s) (h : i < 0 ∨ (l.length : Int) ≤ i) (hl : l.length ≤ 1000) :
    Calls Try.prog 54 #[.pointer (some ⟨b, 0, none⟩), .int .i64 i] w fun e w' => e = .returned (.tuple #[.agg #[.int .i64 0, .int .i64 0, .string ⟨#[]⟩], .bool false]) ∧ Turns [] w w' := by
  obtain ⟨v, hb, ho, e⟩ := hn
  obtain ⟨a, c, rfl, hc, hm⟩ := own_shape ho
  have c0 : w.cell? ⟨b, 0, none⟩ = some (.slice a l.length c) := cell_at hb 0
  have hbs : b < w.heap.size := lt_of_at hb
  have ca : ∀ o, (w.alloc o).cell? ⟨b, 0, none⟩ = some (.slice a l.length c) := fun o => by rw [World.cell?_alloc_past _ _ _ hbs]; exact c0
  clear hb ho e
  rcases h with h | h
  · have hd : decide (i < 0) = true := decide_eq_true h
    go_enter Try.func54, Try.ntmps54
    go_wp2
    refine bodyPost_ret (v := .tuple #[.agg #[.int .i64 0, .int .i64 0, .string ⟨#[]⟩], .bool false]) (by simp [results, Try.results54, go_sem]) rfl ⟨rfl, ?_⟩
    exact Turns.alloc _ _ _
  · have hd : decide (i < 0) = false := decide_eq_false (by omega)
    have hd2 : decide ((l.length : Int) ≤ i) = true := decide_eq_true h
    go_enter Try.func54, Try.ntmps54
    go_wp2
    refine bodyPost_ret (v := .tuple #[.agg #[.int .i64 0, .int .i64 0, .string ⟨#[]⟩], .bool false]) (by simp [results, Try.results54, go_sem]) rfl ⟨rfl, ?_⟩
    exact Turns.alloc _ _ _

theorem pkt_cell {w : World} {g : Nat} {cur : Array Value} {l : List Pkt} (hg : w.heap[g]? = some (.cells cur 34 (0, 0))) (htake : cur.toList.take (l.length * 3) = pktCells l) (k : Nat) (hk : k < l.length) :
    w.cell? ⟨g, k * 3, none⟩ = some (.int .i64 l[k].src) ∧ w.cell? ⟨g, k * 3 + 1, none⟩ = some (.int .i64 l[k].dst) ∧ w.cell? ⟨g, k * 3 + 2, none⟩ = some (.string l[k].body) := by
  have key : ∀ j, j < 3 → w.cell? ⟨g, k * 3 + j, none⟩ = (l[k].cells)[j]? := by
    intro j hj
    rw [cell_at hg]
    have e1 : cur[k * 3 + j]? = (pktCells l)[k * 3 + j]? := by
      rw [← htake, List.getElem?_take, if_pos (by omega)]; simp
    have e2 : (pktCells l)[k * 3 + j]? = ((pktCells l).drop (k * 3))[j]? := by rw [List.getElem?_drop]
    rw [e1, e2, pktCells_drop, List.drop_eq_getElem_cons hk]
    simp only [pktCells, List.flatMap_cons]
    rw [List.getElem?_append_left (by simp [Pkt.cells]; omega)]
  exact ⟨key 0 (by omega), key 1 (by omega), key 2 (by omega)⟩

/-- The new list is stored into the struct: the object behind the store. -/
theorem obj_stored {T : TypeId} {w1 : World} {b : Nat} {l' : List Pkt} {s : Int} {v v' : Value} (hT : (34 : TypeId) ≠ T)
    (hb : w1.heap[b]? = some (.cells #[v, .int .i64 s] T (0, 0))) (hown : w1.ownsRow 0 34 3 v' l'.length (pktCells l')) : NetObj T (w1.setCell ⟨b, 0, none⟩ v') b (b :: v'.ownBlock.toList) l' s := by
  have hbv' := own_ne hown hb hT
  refine ⟨v', ?_, own_kept hown (Turns.setCell (S := [b]) _ _ _ (by simp)) (fun k hk hkb => ?_), rfl⟩
  · rw [heap_setCell_at hb]; rfl
  · simp at hkb; subst hkb; exact hbv' hk

set_option maxHeartbeats 800000 in
set_option maxRecDepth 100000 in
theorem take_some (b : Nat) (FP : List Nat) (l : List Pkt) (s : Int) (k : Nat) (w : World) (hn : NetObj 81 w b FP l s) (hk : k < l.length) (hl : l.length ≤ 1000) :
    Calls Try.prog 54 #[.pointer (some ⟨b, 0, none⟩), .int .i64 k] w fun e w' => e = .returned (.tuple #[.agg #[.int .i64 l[k].src, .int .i64 l[k].dst, .string l[k].body], .bool true]) ∧
      ∃ FP', NetObj 81 w' b FP' (l.eraseIdx k) s ∧ Evolves FP FP' w w' := by
  obtain ⟨v, hb, ho, e⟩ := hn
  have HE := Lib.hid e; clear e
  rcases id ho.2 with ⟨_, h0⟩ | ⟨g, cap, cur, rfl, _, hg, hcap, hmax, hsz, htake⟩
  · omega
  have hbs : b < w.heap.size := lt_of_at hb
  have hgs : g < w.heap.size := lt_of_at hg
  have hgb : b ≠ g := by rintro rfl; rw [hb] at hg; simp at hg
  obtain ⟨p0, p1, p2⟩ := pkt_cell hg htake k hk
  obtain ⟨q0, hq0⟩ : ∃ q, q = l[k].src := ⟨_, rfl⟩
  obtain ⟨q1, hq1⟩ : ∃ q, q = l[k].dst := ⟨_, rfl⟩
  obtain ⟨q2, hq2⟩ : ∃ q, q = l[k].body := ⟨_, rfl⟩
  rw [← hq0] at p0
  rw [← hq1] at p1
  rw [← hq2] at p2
  have HQ := Lib.hid (And.intro hq0 (And.intro hq1 hq2)); clear hq0 hq1 hq2
  rw [← HQ.out.1, ← HQ.out.2.1, ← HQ.out.2.2]
  have ca : ∀ o, (w.alloc o).cell? ⟨b, 0, none⟩ = some (.slice (some ⟨g, 0, none⟩) l.length cap) := fun o => by rw [World.cell?_alloc_past _ _ _ hbs]; exact cell_at hb 0
  have pa0 : ∀ o, (w.alloc o).cell? ⟨g, k * 3, none⟩ = some (.int .i64 q0) := fun o => by rw [World.cell?_alloc_past _ _ _ hgs]; exact p0
  have pa1 : ∀ o, (w.alloc o).cell? ⟨g, k * 3 + 1, none⟩ = some (.int .i64 q1) := fun o => by rw [World.cell?_alloc_past _ _ _ hgs]; exact p1
  have pa2 : ∀ o, (w.alloc o).cell? ⟨g, k * 3 + 2, none⟩ = some (.string q2) := fun o => by rw [World.cell?_alloc_past _ _ _ hgs]; exact p2
  have hd : decide ((k : Int) < 0) = false := decide_eq_false (by omega)
  have hd2 : decide ((l.length : Int) ≤ k) = false := decide_eq_false (by omega)
  have HB := Lib.hid hb
  have HG := Lib.hid hg
  have HO := Lib.hid ho
  have HT := Lib.hid htake
  have HS := Lib.hid hsz
  have hk1 : (k : Int) + 1 ≤ 1000 := by omega
  clear hb hg ho htake hsz
  go_enter Try.func54, Try.ntmps54
  go_wp2_with fail
  refine (delete_any g cap k l cur _ ?hcur hcap hmax HS.out HT.out hk).mono ?_
  case hcur => rw [Below.heap_alloc _ _ _ (by simp; omega), Below.heap_alloc _ _ _ hgs]; exact HG.out
  rintro e w1 ⟨rfl, hown, ht⟩
  have hb1 : w1.heap[b]? = some (.cells #[.slice (some ⟨g, 0, none⟩) l.length cap, .int .i64 s] 81 (0, 0)) := by
    rw [ht.block b (by simp; omega) (by simpa using hgb), Below.heap_alloc _ _ _ (by simp; omega), Below.heap_alloc _ _ _ hbs]; exact HB.out
  have hz1 : w1.heap[w.heap.size]? = some (.cells #[.int .i64 0, .int .i64 0, .string ⟨#[]⟩] 34 (0, 0)) := by
    rw [ht.block w.heap.size (by simp; omega) (by simp; omega), Below.heap_alloc _ _ _ (by simp), heap_alloc_here]
  have hp1 : w1.heap[w.heap.size + 1]? = some (.cells #[.int .i64 q0, .int .i64 q1, .string q2] 34 (0, 0)) := by
    rw [ht.block (w.heap.size + 1) (by simp) (by simp; omega)]
    exact heap_alloc_here1 _ _ _
  have k0 : w1.cell? ⟨b, 0, none⟩ = some (.slice (some ⟨g, 0, none⟩) l.length cap) := cell_at hb1 0
  have k1 : w1.frozen? ⟨b, 0, none⟩ = false := free_at hb1 0
  have z0 : w1.cell? ⟨w.heap.size, 0, none⟩ = some (.int .i64 0) := cell_at hz1 0
  have z1 : w1.cell? ⟨w.heap.size, 1, none⟩ = some (.int .i64 0) := cell_at hz1 1
  have z2 : w1.cell? ⟨w.heap.size, 2, none⟩ = some (.string ⟨#[]⟩) := cell_at hz1 2
  have y0 : w1.frozen? ⟨w.heap.size, 0, none⟩ = false := free_at hz1 0
  have y1 : w1.frozen? ⟨w.heap.size, 1, none⟩ = false := free_at hz1 1
  have y2 : w1.frozen? ⟨w.heap.size, 2, none⟩ = false := free_at hz1 2
  have x0 : w1.cell? ⟨w.heap.size + 1, 0, none⟩ = some (.int .i64 q0) := cell_at hp1 0
  have x1 : w1.cell? ⟨w.heap.size + 1, 1, none⟩ = some (.int .i64 q1) := cell_at hp1 1
  have x2 : w1.cell? ⟨w.heap.size + 1, 2, none⟩ = some (.string q2) := cell_at hp1 2
  have hN : k + (l.length - (k + 1)) = (l.eraseIdx k).length := by rw [List.length_eraseIdx, if_pos hk]; omega
  have HF : Hid (NetObj 81 (w1.setCell ⟨b, 0, none⟩ (.slice (some ⟨g, 0, none⟩) (k + (l.length - (k + 1))) cap)) b [b, g] (l.eraseIdx k) s) := by
    rw [hN] at hown ⊢
    exact obj_stored (by decide) hb1 hown
  have HT1 : Hid (Turns [b, g] w (w1.setCell ⟨b, 0, none⟩ (.slice (some ⟨g, 0, none⟩) (k + (l.length - (k + 1))) cap))) :=
    ((((Turns.alloc _ w _).trans (Turns.alloc _ _ _)).trans (ht.mono (by simp)))).trans (Turns.setCell _ _ _ (by simp))
  clear hown ht hb1 hz1 hp1 hN ca pa0 pa1 pa2 p0 p1 p2
  go_wp2
  refine bodyPost_ret (v := .tuple #[.agg #[.int .i64 q0, .int .i64 q1, .string q2], .bool true]) (by simp [results, Try.results54, go_sem, z0, z1, z2]) rfl ⟨rfl, [b, g], ?_, ?_, ?_⟩
  · exact HF.out.kept (Turns.set3 _ _ _ _ _) (fun x hx => by simp at hx ⊢; omega)
  · rw [HE.out]
    exact HT1.out.trans_new (Turns.set3 _ _ _ _ _) (fun x hx => by simp at hx; exact Or.inr (by omega))
  · intro x hx
    rw [HE.out]
    exact Or.inl hx
end Go.Proofs.Ytmikjninonpejaa

/- Contracts of package net: Deliver, Drop. -/
namespace Go.Proofs.Ytmikjninonpejaa
open Go.RowKit Go.Proofs.YtmikjninonpejaaMem

theorem notIn_of_lt {FP : List Nat} {n : Nat} (h : ∀ x ∈ FP, x < n) : n ∉ FP := fun hx => Nat.lt_irrefl _ (h n hx)

set_option maxHeartbeats 400000 in
set_option maxRecDepth 100000 in
theorem deliver_none (b : Nat) (FP : List Nat) (l : List Pkt) (s i : Int) (w : World) (hn : NetObj 81 w b FP l s) (h : i < 0 ∨ (l.length : Int) ≤ i) (hl : l.length ≤ 1000) :
    Calls Try.prog 16 #[.pointer (some ⟨b, 0, none⟩), .int .i64 i] w fun e w' => e = .returned (.tuple #[.agg #[.int .i64 0, .int .i64 0, .string ⟨#[]⟩], .int .i64 4]) ∧ Turns [] w w' := by
  have hlt := Lib.hid hn.lt
  have HN := Lib.hid hn; clear hn
  have HH := Lib.hid h; clear h
  go_enter Try.func16, Try.ntmps16
  go_wp2_with fail
  refine (take_none b FP l s i _ (HN.out.kept (Turns.alloc [] _ _) (by simp)) HH.out hl).mono ?_
  rintro e w1 ⟨rfl, ht⟩
  have hsz := ht.size
  rw [World.size_alloc] at hsz
  have hz1 : w1.heap[w.heap.size]? = some (.cells #[.int .i64 0, .int .i64 0, .string ⟨#[]⟩] 34 (0, 0)) := by
    rw [ht.block w.heap.size (by simp) (by simp), heap_alloc_here]
  have za : ∀ o, (w1.alloc o).heap[w.heap.size]? = some (.cells #[.int .i64 0, .int .i64 0, .string ⟨#[]⟩] 34 (0, 0)) := fun o => by rw [Below.heap_alloc _ _ _ (by omega)]; exact hz1
  have z0 : ∀ o, (w1.alloc o).cell? ⟨w.heap.size, 0, none⟩ = some (.int .i64 0) := fun o => cell_at (za o) 0
  have z1 : ∀ o, (w1.alloc o).cell? ⟨w.heap.size, 1, none⟩ = some (.int .i64 0) := fun o => cell_at (za o) 1
  have z2 : ∀ o, (w1.alloc o).cell? ⟨w.heap.size, 2, none⟩ = some (.string ⟨#[]⟩) := fun o => cell_at (za o) 2
  have y0 : ∀ o, (w1.alloc o).frozen? ⟨w.heap.size, 0, none⟩ = false := fun o => free_at (za o) 0
  have y1 : ∀ o, (w1.alloc o).frozen? ⟨w.heap.size, 1, none⟩ = false := fun o => free_at (za o) 1
  have y2 : ∀ o, (w1.alloc o).frozen? ⟨w.heap.size, 2, none⟩ = false := fun o => free_at (za o) 2
  have HT := Lib.hid ht
  clear ht hz1 za
  go_wp2_with fail
  refine bodyPost_ret (v := .tuple #[.agg #[.int .i64 0, .int .i64 0, .string ⟨#[]⟩], .int .i64 4]) (by simp [results, Try.results16, go_sem, z0, z1, z2]) rfl ⟨rfl, ?_⟩
  exact (((Turns.alloc [] _ _).trans HT.out).trans (Turns.alloc [] _ _)).trans_new (Turns.set3 _ _ _ _ _) (fun x hx => by simp at hx; exact Or.inr (by omega))

set_option maxHeartbeats 800000 in
set_option maxRecDepth 100000 in
theorem deliver_some (b : Nat) (FP : List Nat) (l : List Pkt) (s : Int) (k : Nat) (w : World) (hn : NetObj 81 w b FP l s) (hk : k < l.length) (hl : l.length ≤ 1000) (r : Bool) (hr : hears s l[k].src l[k].dst = r) :
    Calls Try.prog 16 #[.pointer (some ⟨b, 0, none⟩), .int .i64 k] w fun e w' => e = .returned (if r then .tuple #[.agg #[.int .i64 l[k].src, .int .i64 l[k].dst, .string l[k].body], .int .i64 0] else .tuple #[.agg #[.int .i64 0, .int .i64 0, .string ⟨#[]⟩], .int .i64 10]) ∧
      ∃ FP', NetObj 81 w' b FP' (l.eraseIdx k) s ∧ Evolves FP FP' w w' := by
  have hlt := Lib.hid hn.lt
  have HN := Lib.hid hn; clear hn
  obtain ⟨q0, hq0⟩ : ∃ q, q = l[k].src := ⟨_, rfl⟩
  obtain ⟨q1, hq1⟩ : ∃ q, q = l[k].dst := ⟨_, rfl⟩
  obtain ⟨q2, hq2⟩ : ∃ q, q = l[k].body := ⟨_, rfl⟩
  have HQ := Lib.hid (And.intro hq0 (And.intro hq1 hq2)); clear hq0 hq1 hq2
  rw [← HQ.out.1, ← HQ.out.2.1] at hr
  rw [← HQ.out.1, ← HQ.out.2.1, ← HQ.out.2.2]
  go_enter Try.func16, Try.ntmps16
  go_wp2_with fail
  refine (take_some b FP l s k _ (HN.out.kept (Turns.alloc [] _ _) (by simp)) hk hl).mono ?_
  rintro e w1 ⟨rfl, FP1, hn1, hev⟩
  rw [← HQ.out.1, ← HQ.out.2.1, ← HQ.out.2.2]
  have hsz := hev.1.size
  rw [World.size_alloc] at hsz
  have hz1 : w1.heap[w.heap.size]? = some (.cells #[.int .i64 0, .int .i64 0, .string ⟨#[]⟩] 34 (0, 0)) := by
    rw [hev.1.block w.heap.size (by simp) (notIn_of_lt hlt.out), heap_alloc_here]
  have za : ∀ o, (w1.alloc o).heap[w.heap.size]? = some (.cells #[.int .i64 0, .int .i64 0, .string ⟨#[]⟩] 34 (0, 0)) := fun o => by rw [Below.heap_alloc _ _ _ (by omega)]; exact hz1
  have z0 : ∀ o, (w1.alloc o).cell? ⟨w.heap.size, 0, none⟩ = some (.int .i64 0) := fun o => cell_at (za o) 0
  have z1 : ∀ o, (w1.alloc o).cell? ⟨w.heap.size, 1, none⟩ = some (.int .i64 0) := fun o => cell_at (za o) 1
  have z2 : ∀ o, (w1.alloc o).cell? ⟨w.heap.size, 2, none⟩ = some (.string ⟨#[]⟩) := fun o => cell_at (za o) 2
  have y0 : ∀ o, (w1.alloc o).frozen? ⟨w.heap.size, 0, none⟩ = false := fun o => free_at (za o) 0
  have y1 : ∀ o, (w1.alloc o).frozen? ⟨w.heap.size, 1, none⟩ = false := fun o => free_at (za o) 1
  have y2 : ∀ o, (w1.alloc o).frozen? ⟨w.heap.size, 2, none⟩ = false := fun o => free_at (za o) 2
  have HV := Lib.hid hev
  have HN1 := Lib.hid hn1
  have HR := Lib.hid hr
  clear hev hn1 hz1 za hr
  have HFIN : Hid (∀ (o : Obj) (n : Nat) (x y z : Value), ∃ FP', NetObj 81 (((((w1.alloc o).setCell ⟨w.heap.size, 0, none⟩ x).setCell ⟨w.heap.size, 1, none⟩ y).setCell ⟨w.heap.size, 2, none⟩ z).drewN n) b FP' (l.eraseIdx k) s ∧
      Evolves FP FP' w (((((w1.alloc o).setCell ⟨w.heap.size, 0, none⟩ x).setCell ⟨w.heap.size, 1, none⟩ y).setCell ⟨w.heap.size, 2, none⟩ z).drewN n)) := by
    intro o n x y z
    have hT : Turns [w.heap.size] w1 (((((w1.alloc o).setCell ⟨w.heap.size, 0, none⟩ x).setCell ⟨w.heap.size, 1, none⟩ y).setCell ⟨w.heap.size, 2, none⟩ z).drewN n) := ((Turns.alloc _ _ _).trans (Turns.set3 _ _ _ _ _)).drewN n
    refine ⟨FP1, HN1.out.kept hT (fun x hx => ?_), ?_, fun x hx => ?_⟩
    · rcases HV.out.2 x hx with h | h
      · have := hlt.out x h; simp; omega
      · simp at h ⊢; omega
    · exact ((Turns.alloc _ _ _).trans HV.out.1).trans_new hT (fun x hx => by simp at hx; exact Or.inr (by omega))
    · rcases HV.out.2 x hx with h | h
      · exact Or.inl h
      · simp at h; exact Or.inr (by omega)
  cases r
  · go_wp2_with fail
    refine (hear_is b FP1 (l.eraseIdx k) s q0 q1 _ (HN1.out.kept (Turns.alloc [] _ _) (by simp)) false HR.out).mono ?_
    rintro e w2 ⟨rfl, n, rfl⟩
    go_wp2_with fail
    refine bodyPost_ret (v := .tuple #[.agg #[.int .i64 0, .int .i64 0, .string ⟨#[]⟩], .int .i64 10]) (by simp [results, Try.results16, go_sem, z0, z1, z2]) rfl ⟨rfl, ?_⟩
    exact HFIN.out _ _ _ _ _
  · go_wp2_with fail
    refine (hear_is b FP1 (l.eraseIdx k) s q0 q1 _ (HN1.out.kept (Turns.alloc [] _ _) (by simp)) true HR.out).mono ?_
    rintro e w2 ⟨rfl, n, rfl⟩
    go_wp2_with fail
    refine bodyPost_ret (v := .tuple #[.agg #[.int .i64 q0, .int .i64 q1, .string q2], .int .i64 0]) (by simp [results, Try.results16, go_sem, z0, z1, z2]) rfl ⟨rfl, ?_⟩
    exact HFIN.out _ _ _ _ _

set_option maxHeartbeats 400000 in
set_option maxRecDepth 100000 in
theorem drop_none (b : Nat) (FP : List Nat) (l : List Pkt) (s i : Int) (w : World) (hn : NetObj 81 w b FP l s) (h : i < 0 ∨ (l.length : Int) ≤ i) (hl : l.length ≤ 1000) :
    Calls Try.prog 56 #[.pointer (some ⟨b, 0, none⟩), .int .i64 i] w fun e w' => e = .returned (.int .i64 4) ∧ Turns [] w w' := by
  have HN := Lib.hid hn; clear hn
  have HH := Lib.hid h; clear h
  go_enter Try.func56, Try.ntmps56
  go_wp2_with fail
  refine (take_none b FP l s i _ HN.out HH.out hl).mono ?_
  rintro e w1 ⟨rfl, ht⟩
  have HT := Lib.hid ht; clear ht
  go_wp2_with fail
  go_ret
  exact ⟨rfl, HT.out.trans (Turns.alloc [] _ _)⟩

set_option maxHeartbeats 400000 in
set_option maxRecDepth 100000 in
theorem drop_some (b : Nat) (FP : List Nat) (l : List Pkt) (s : Int) (k : Nat) (w : World) (hn : NetObj 81 w b FP l s) (hk : k < l.length) (hl : l.length ≤ 1000) :
    Calls Try.prog 56 #[.pointer (some ⟨b, 0, none⟩), .int .i64 k] w fun e w' => e = .returned (.int .i64 0) ∧ ∃ FP', NetObj 81 w' b FP' (l.eraseIdx k) s ∧ Evolves FP FP' w w' := by
  have HN := Lib.hid hn; clear hn
  go_enter Try.func56, Try.ntmps56
  go_wp2_with fail
  refine (take_some b FP l s k _ HN.out hk hl).mono ?_
  rintro e w1 ⟨rfl, FP1, hn1, hev⟩
  have HN1 := Lib.hid hn1
  have HV := Lib.hid hev
  clear hn1 hev
  go_wp2_with fail
  go_ret
  exact ⟨rfl, FP1, HN1.out.kept (Turns.alloc [] _ _) (by simp), (HV.out.1).trans (Turns.alloc _ _ _), HV.out.2⟩

end Go.Proofs.Ytmikjninonpejaa

/- Contracts of package net: Double. -/
namespace Go.Proofs.Ytmikjninonpejaa
open Go.RowKit Go.Proofs.YtmikjninonpejaaMem

set_option maxHeartbeats 400000 in
set_option maxRecDepth 100000 in
theorem double_none (b : Nat) (FP : List Nat) (l : List Pkt) (s i : Int) (w : World) (hn : NetObj 81 w b FP l s) (h : i < 0 ∨ (l.length : Int) ≤ i) (hl : l.length ≤ 1000) :
    Calls Try.prog 23 #[.pointer (some ⟨b, 0, none⟩), .int .i64 i] w fun e w' => e = .returned (.int .i64 4) ∧ w = w' := by
  obtain ⟨v, hb, ho, e⟩ := hn
  obtain ⟨a, c, rfl, hc, hm⟩ := own_shape ho
  have c0 : w.cell? ⟨b, 0, none⟩ = some (.slice a l.length c) := cell_at hb 0
  clear hb ho e
  rcases h with h | h
  · have hd : decide (i < 0) = true := decide_eq_true h
    go_enter Try.func23, Try.ntmps23
    go_wp2
    go_ret
    exact ⟨rfl, rfl⟩
  · have hd : decide (i < 0) = false := decide_eq_false (by omega)
    have hd2 : decide ((l.length : Int) ≤ i) = true := decide_eq_true h
    go_enter Try.func23, Try.ntmps23
    go_wp2
    go_ret
    exact ⟨rfl, rfl⟩

set_option maxHeartbeats 400000 in
set_option maxRecDepth 100000 in
theorem double_full (b : Nat) (FP : List Nat) (l : List Pkt) (s : Int) (k : Nat) (w : World) (hn : NetObj 81 w b FP l s) (hk : k < l.length) (hl : l.length ≤ 1000) (hf : 500 ≤ l.length) :
    Calls Try.prog 23 #[.pointer (some ⟨b, 0, none⟩), .int .i64 k] w fun e w' => e = .returned (.int .i64 6) ∧ w = w' := by
  obtain ⟨v, hb, ho, e⟩ := hn
  obtain ⟨a, c, rfl, hc, hm⟩ := own_shape ho
  have c0 : w.cell? ⟨b, 0, none⟩ = some (.slice a l.length c) := cell_at hb 0
  clear hb ho e
  have hd : decide ((k : Int) < 0) = false := decide_eq_false (by omega)
  have hd2 : decide ((l.length : Int) ≤ k) = false := decide_eq_false (by omega)
  go_enter Try.func23, Try.ntmps23
  go_wp2
  go_ret
  exact ⟨rfl, rfl⟩

set_option maxHeartbeats 800000 in
set_option maxRecDepth 100000 in
theorem double_ok (b : Nat) (FP : List Nat) (l : List Pkt) (s : Int) (k : Nat) (w : World) (hn : NetObj 81 w b FP l s) (hk : k < l.length) (hl : l.length < 500) :
    Calls Try.prog 23 #[.pointer (some ⟨b, 0, none⟩), .int .i64 k] w fun e w' => e = .returned (.int .i64 0) ∧ ∃ FP', NetObj 81 w' b FP' (l ++ [l[k]]) s ∧ Evolves FP FP' w w' := by
  obtain ⟨v, hb, ho, e⟩ := hn
  have HE := Lib.hid e; clear e
  rcases id ho.2 with ⟨_, h0⟩ | ⟨g, cap, cur, rfl, _, hg, hcap, hmax, hsz, htake⟩
  · omega
  obtain ⟨p0, p1, p2⟩ := pkt_cell hg htake k hk
  obtain ⟨p, hp⟩ : ∃ p, p = l[k] := ⟨_, rfl⟩
  rw [← hp] at p0 p1 p2
  rw [← hp]
  have HP := Lib.hid hp; clear hp
  have c0 : w.cell? ⟨b, 0, none⟩ = some (.slice (some ⟨g, 0, none⟩) l.length cap) := cell_at hb 0
  have ca : ∀ o, (w.alloc o).cell? ⟨b, 0, none⟩ = some (.slice (some ⟨g, 0, none⟩) l.length cap) := fun o => by rw [World.cell?_alloc_past _ _ _ (lt_of_at hb)]; exact cell_at hb 0
  have hd : decide ((k : Int) < 0) = false := decide_eq_false (by omega)
  have hd2 : decide ((l.length : Int) ≤ k) = false := decide_eq_false (by omega)
  have hd3 : (k : Int) < (l.length : Int) := by omega
  have HB := Lib.hid hb
  have HO := Lib.hid ho
  clear hb ho hg hcap hmax hsz htake
  obtain ⟨i0, hi, hz0, hz1, hz2⟩ := info_parts Try.info34
  go_enter Try.func23, Try.ntmps23
  go_wp2_with fail
  have hnc : ∀ (n : Nat), Hid (∀ j u, p.cells[j]? = some u → ((w.drewN n).alloc (.cells #[.int .i64 p.src, .int .i64 p.dst, .string p.body] 34)).cell? ((⟨w.heap.size, 0, none⟩ : Addr).add j) = some u) := fun n => new_cells_drewN _ _ _ _ _ rfl
  go_region_law (refine step_append_own rfl (.tmp 28) (.tmp 36) 28 rfl 34 i0 (.agg #[.int .i64 0, .int .i64 0, .string ⟨#[]⟩]) 3 32 Try.underlying28 hi hz0 hz1 hz2 rfl (by decide) (.slice (some ⟨g, 0, none⟩) l.length cap) l.length (pktCells l) (by simp [Act.eval]) (HO.out.alloc _) ⟨w.heap.size, 0, none⟩ 1 1 p.cells (by simp [Act.eval]) rfl (hnc 1).out (pkt_oneCell p) (by unfold maxLen; omega) (by omega) ?_; intro v' w1 hown hg hat; obtain ⟨k0, k1, FP', hobj, hev⟩ := obj_appended (T := 81) p (by decide) HB.out HO.out ((Turns.refl [] w).drew.trans (Turns.alloc [] _ _)) hown hg (hat.imp id fun h => ⟨_, h, by simp⟩); obtain ⟨a', c', rfl, -, -⟩ := own_shape hown; have HF : Hid (NetObj 81 (w1.setCell ⟨b, 0, none⟩ (.slice a' (l.length + 1) c')) b FP' (l ++ [p]) s ∧ Evolves (b :: (Value.slice (some ⟨g, 0, none⟩) l.length cap).ownBlock.toList) FP' w (w1.setCell ⟨b, 0, none⟩ (.slice a' (l.length + 1) c'))) := ⟨hobj, hev⟩; clear hobj hev hown hg hat)
  all_goals
    go_wp2
    go_ret
    exact ⟨rfl, FP', HF.out.1, HE.out ▸ HF.out.2⟩

end Go.Proofs.Ytmikjninonpejaa

/- Contracts of package net: slices.Clone, List, Copy. -/
namespace Go.Proofs.Ytmikjninonpejaa
open Go.RowKit Go.Proofs.YtmikjninonpejaaMem

/-- A fresh slice that holds the packets l. -/
def Fresh (l : List Pkt) (w : World) (e : Ending) (w' : World) : Prop :=
  ∃ v, e = .returned v ∧ w'.ownsRow w.heap.size 34 3 v l.length (pktCells l) ∧ Turns [] w w'

theorem own_base {w : World} {base base' : Nat} {e : TypeId} {size : Nat} {v : Value} {n : Nat} {xs : List Value} (h : w.ownsRow base e size v n xs) (hb : base' ≤ base) : w.ownsRow base' e size v n xs := by
  refine ⟨h.1, ?_⟩
  rcases h.2 with hn | ⟨g, cap, cur, rfl, hg, r⟩
  · exact .inl hn
  · exact .inr ⟨g, cap, cur, rfl, Nat.le_trans hb hg, r⟩

set_option maxHeartbeats 400000 in
theorem clone_any (v : Value) (l : List Pkt) (w : World) (ho : w.ownsRow 0 34 3 v l.length (pktCells l)) (hl : l.length ≤ 1000) : Calls Try.prog 55 #[v] w (Fresh l w) := by
  rcases id ho.2 with ⟨rfl, h0⟩ | ⟨g, cap, cur, rfl, _, hg, hcap, hmax, hsz, htake⟩
  · have hq := fun w => Lib.run_eql_slice_nil (P := Try.prog) w 28 34 none 0 0 0 0 Try.underlying28
    obtain rfl : l = [] := List.eq_nil_of_length_eq_zero h0
    clear ho
    go_enter Try.func55, Try.ntmps55
    go_wp2
    go_ret
    exact ⟨_, rfl, World.ownsRow_nil _ _ _ _, Turns.refl _ _⟩
  · have hq := fun w => Lib.run_eql_slice_nil (P := Try.prog) w 28 34 (some ⟨g, 0, none⟩) l.length cap 0 0 Try.underlying28
    have HO := Lib.hid ho
    have hgs : g < w.heap.size := lt_of_at hg
    have hc : Hid (∀ o j u, (pktCells l)[j]? = some u → (w.alloc o).cell? ((⟨g, 0, none⟩ : Addr).add j) = some u) := by
      intro o j u hu
      exact ((Turns.alloc [] w o).cell (a := (⟨g, 0, none⟩ : Addr).add j) (by unfold Addr.add; split <;> exact hgs) (by simp)).trans (ho.cells (g := g) rfl j u hu)
    clear ho hg hsz htake
    obtain ⟨i0, hi, hz0, hz1, hz2⟩ := info_parts Try.info34
    have hnil : Hid ((w.alloc (.cells #[] 34)).ownsRow w.heap.size 34 3 (.slice (some ⟨w.heap.size, 0, none⟩) 0 0) 0 []) := World.ownsRow_made w #[] 0 (Nat.le_refl _) (by unfold maxLen; omega) rfl
    go_enter Try.func55, Try.ntmps55
    go_wp2_with (at_builtin; refine wpList_append_own_at _ rfl (.tmp 5) (.tmp 6) 28 rfl w.heap.size 34 i0 (.agg #[.int .i64 0, .int .i64 0, .string ⟨#[]⟩]) 3 32 Try.underlying28 hi hz0 hz1 hz2 rfl (by decide) _ 0 [] rfl hnil.out ⟨g, 0, none⟩ l.length cap (pktCells l) rfl ?c1 ?c2 ?c3 ?c4 ?c5 ?c6 ?_)
    case c1 => exact pktCells_length l
    case c2 => exact hc.out _
    case c3 => exact pkts_oneCell l
    case c4 => unfold maxLen; omega
    case c5 => omega
    case c6 => simp
    · intro v' w1 hown hgr _ hat
      have hw : Hid (w1.ownsRow w.heap.size 34 3 v' l.length (pktCells l) ∧ Turns [] w w1) := by
        refine ⟨by simpa using hown, (Turns.alloc _ w _).trans_new (Turns.of_grown (S := [w.heap.size]) hgr (fun k hk => by simp [Value.ownBlock] at hk; simp [hk])) (fun x hx => by simp at hx; exact Or.inr (by omega))⟩
      clear hown hgr hat
      go_wp2
      go_ret
      exact ⟨_, rfl, hw.out.1, hw.out.2⟩

set_option maxHeartbeats 400000 in
theorem list_any (b : Nat) (FP : List Nat) (l : List Pkt) (s : Int) (w : World) (hn : NetObj 81 w b FP l s) (hl : l.length ≤ 1000) : Calls Try.prog 18 #[.pointer (some ⟨b, 0, none⟩)] w (Fresh l w) := by
  obtain ⟨v, hb, ho, -⟩ := hn
  have HO := Lib.hid ho
  obtain ⟨a, c, rfl, hc, hm⟩ := own_shape ho
  have c0 : w.cell? ⟨b, 0, none⟩ = some (.slice a l.length c) := cell_at hb 0
  clear hb ho
  go_enter Try.func18, Try.ntmps18
  go_wp2_with fail
  refine (clone_any _ l _ HO.out hl).mono ?_
  rintro e w1 ⟨v1, rfl, h1, h2⟩
  have HW := Lib.hid (And.intro h1 h2); clear h1 h2
  go_wp2_with fail
  go_ret
  exact ⟨_, rfl, HW.out.1, HW.out.2⟩

/-- A fresh object. -/
def FreshObj (T : TypeId) (l : List Pkt) (s : Int) (w : World) (e : Ending) (w' : World) : Prop :=
  ∃ b FP, e = .returned (.pointer (some ⟨b, 0, none⟩)) ∧ NetObj T w' b FP l s ∧ (∀ x ∈ FP, w.heap.size ≤ x) ∧ Turns [] w w'

theorem freshObj_of {T : TypeId} {l : List Pkt} {s : Int} {w w1 w' : World} {v : Value} {n : Nat} (hv : w1.ownsRow w.heap.size 34 3 v l.length (pktCells l)) (h1 : Turns [] w w1)
    (he : w' = (w1.alloc (.cells #[v, .int .i64 s] T)).drewN n) : FreshObj T l s w (.returned (.pointer (some ⟨w1.heap.size, 0, none⟩))) w' := by
  subst he
  refine ⟨w1.heap.size, w1.heap.size :: v.ownBlock.toList, rfl, ⟨v, heap_alloc_here _ _, own_base (hv.alloc _) (Nat.zero_le _), rfl⟩, ?_, (h1.trans (Turns.alloc _ _ _)).drewN _⟩
  intro x hx
  rcases List.mem_cons.1 hx with rfl | hx
  · exact h1.size
  · exact (hv.lt x (by simpa using hx)).1

set_option maxHeartbeats 800000 in
theorem copy_any (b : Nat) (FP : List Nat) (l : List Pkt) (s : Int) (w : World) (hn : NetObj 81 w b FP l s) (hl : l.length ≤ 1000) : Calls Try.prog 26 #[.pointer (some ⟨b, 0, none⟩)] w (FreshObj 81 l s w) := by
  obtain ⟨v, hb, ho, -⟩ := hn
  have HO := Lib.hid ho
  have HB := Lib.hid hb
  obtain ⟨a, c, rfl, hc, hm⟩ := own_shape ho
  have c0 : w.cell? ⟨b, 0, none⟩ = some (.slice a l.length c) := cell_at hb 0
  have c1 : w.cell? ⟨b, 1, none⟩ = some (.int .i64 s) := cell_at hb 1
  clear hb ho
  go_enter Try.func26, Try.ntmps26
  go_wp2_with fail
  go_region_with (go_at_call 55; refine (clone_any _ l _ (by exact HO.out) hl).mono ?_; rintro e w1 ⟨v1, rfl, h1, h2⟩; obtain ⟨a1, n1, rfl, -, -⟩ := own_shape h1; have k1 : w1.cell? ⟨b, 1, none⟩ = some (.int .i64 s) := (h2.cell (a := ⟨b, 1, none⟩) (lt_of_at HB.out) (by simp)).trans (cell_at HB.out 1); have HW := Lib.hid (And.intro h1 h2); clear h1 h2)
  all_goals
    go_wp2
    go_ret
    exact freshObj_of (n := 0) HW.out.1 HW.out.2.of_drew rfl

end Go.Proofs.Ytmikjninonpejaa

/- Plain: several things that lie apart in memory, each with its own blocks, all made since a first world. No program in sight. -/
namespace Go.Proofs.YtmikjninonpejaaMem
open Go Go.RowKit

/-- A thing: what it says of a world and of the blocks that are its own; it is kept where those blocks are kept. -/
structure Thing where
  holds : World → List Nat → Prop
  lt : ∀ w FP, holds w FP → ∀ x ∈ FP, x < w.heap.size
  kept : ∀ w w' FP S, holds w FP → Turns S w w' → (∀ x ∈ FP, x ∉ S) → holds w' FP

def SepF (w0 w : World) : List Thing → List Nat → Prop
  | [], G => G = [] ∧ Turns [] w0 w
  | t :: ts, G => ∃ FP G', G = FP ++ G' ∧ t.holds w FP ∧ (∀ x ∈ FP, w0.heap.size ≤ x ∧ x ∉ G') ∧ SepF w0 w ts G'

/-- The things lie apart, in blocks made since w0; the old blocks are as they were. -/
def Sep (w0 w : World) (ts : List Thing) : Prop := ∃ G, SepF w0 w ts G

theorem SepF.turns {w0 w : World} : ∀ {ts : List Thing} {G : List Nat}, SepF w0 w ts G → Turns [] w0 w
  | [], _, h => h.2
  | _ :: _, _, ⟨_, _, _, _, _, h⟩ => h.turns
theorem SepF.lt {w0 w : World} : ∀ {ts : List Thing} {G : List Nat}, SepF w0 w ts G → ∀ x ∈ G, w0.heap.size ≤ x ∧ x < w.heap.size
  | [], _, h => by rw [h.1]; simp
  | t :: ts, G, ⟨FP, G', e, ht, hx, h⟩ => by
    subst e
    intro x hm
    rcases List.mem_append.1 hm with hm | hm
    · exact ⟨(hx x hm).1, t.lt _ _ ht x hm⟩
    · exact h.lt x hm
/-- Blocks S of none of the things may be turned, if they are new since w0. -/
theorem SepF.kept {w0 w w' : World} {S : List Nat} (ht : Turns S w w') (hS : ∀ x ∈ S, w0.heap.size ≤ x) : ∀ {ts : List Thing} {G : List Nat}, SepF w0 w ts G → (∀ x ∈ G, x ∉ S) → SepF w0 w' ts G
  | [], _, h, _ => ⟨h.1, h.2.trans_new ht (fun x hx => Or.inr (hS x hx))⟩
  | t :: ts, G, ⟨FP, G', e, hh, hx, h⟩, hd => by
    subst e
    exact ⟨FP, G', rfl, t.kept _ _ _ _ hh ht (fun x hm => hd x (by simp [hm])), hx, h.kept ht hS (fun x hm => hd x (by simp [hm]))⟩

theorem Sep.turns {w0 w : World} {ts : List Thing} (h : Sep w0 w ts) : Turns [] w0 w := h.elim fun _ h => h.turns
theorem Sep.below {w0 w : World} {ts : List Thing} (h : Sep w0 w ts) : Below w0.heap.size w0 w := h.turns.below (Nat.le_refl _) (by simp)
theorem Sep.start (w : World) : Sep w w [] := ⟨[], rfl, Turns.refl _ _⟩
theorem Sep.quiet {w0 w w' : World} {ts : List Thing} (h : Sep w0 w ts) (ht : Turns [] w w') : Sep w0 w' ts := h.elim fun G h => ⟨G, h.kept ht (by simp) (by simp)⟩
theorem Sep.add {w0 w w' : World} {ts : List Thing} {t : Thing} {FP : List Nat} (h : Sep w0 w ts) (ht : Turns [] w w') (hh : t.holds w' FP) (hFP : ∀ x ∈ FP, w.heap.size ≤ x) : Sep w0 w' (t :: ts) := by
  obtain ⟨G, h⟩ := h
  refine ⟨FP ++ G, FP, G, rfl, hh, fun x hx => ⟨Nat.le_trans h.turns.size (hFP x hx), fun hG => ?_⟩, h.kept ht (by simp) (by simp)⟩
  have := (h.lt x hG).2
  have := hFP x hx
  omega
theorem Sep.drop {w0 w : World} {ts : List Thing} {t : Thing} (h : Sep w0 w (t :: ts)) : Sep w0 w ts := by
  obtain ⟨_, _, G', _, _, _, h⟩ := h
  exact ⟨G', h⟩

theorem SepF.pick {w0 w : World} (t : Thing) (post : List Thing) : ∀ (pre : List Thing) (G : List Nat), SepF w0 w (pre ++ t :: post) G →
    ∃ FP, t.holds w FP ∧ (∀ x ∈ FP, x ∈ G) ∧ ∀ w' FP', Evolves FP FP' w w' → ∀ t' : Thing, t'.holds w' FP' → ∃ G', SepF w0 w' (pre ++ t' :: post) G' ∧ ∀ x ∈ G', x ∈ G ∨ w.heap.size ≤ x := by
  intro pre
  induction pre with
  | nil =>
    intro G h
    have h' := h
    obtain ⟨FP, G', rfl, hh, hx, h⟩ := h
    refine ⟨FP, hh, fun x hx => by simp [hx], fun w' FP' hev t' ht' => ⟨FP' ++ G', ⟨FP', G', rfl, ht', fun x hx' => ?_, h.kept hev.1 (fun x hm => (hx x hm).1) (fun x hm hF => (hx x hF).2 hm)⟩, fun x hm => ?_⟩⟩
    · rcases hev.2 x hx' with h1 | h1
      · exact hx x h1
      · exact ⟨Nat.le_trans h'.turns.size h1, fun hG => by have := (h.lt x hG).2; omega⟩
    · rcases List.mem_append.1 hm with hm | hm
      · rcases hev.2 x hm with h1 | h1
        · exact Or.inl (by simp [h1])
        · exact Or.inr h1
      · exact Or.inl (by simp [hm])
  | cons a pre ih =>
    intro G h
    obtain ⟨FPa, Ga, rfl, hh, hx, h⟩ := h
    obtain ⟨FP, hF, hin, step⟩ := ih Ga h
    refine ⟨FP, hF, fun x hx => by simp [hin x hx], fun w' FP' hev t' ht' => ?_⟩
    obtain ⟨G', hs, hG'⟩ := step w' FP' hev t' ht'
    refine ⟨FPa ++ G', ⟨FPa, G', rfl, a.kept _ _ _ _ hh hev.1 (fun x hm hF => (hx x hm).2 (hin x hF)), fun x hm => ⟨(hx x hm).1, fun hG => ?_⟩, hs⟩, fun x hm => ?_⟩
    · rcases hG' x hG with h1 | h1
      · exact (hx x hm).2 h1
      · have := a.lt _ _ hh x hm; omega
    · rcases List.mem_append.1 hm with hm | hm
      · exact Or.inl (by simp [hm])
      · rcases hG' x hm with h1 | h1
        · exact Or.inl (by simp [h1])
        · exact Or.inr h1

/-- One of the things is taken out, changed, and put back. -/
theorem Sep.pick {w0 w : World} (pre : List Thing) (t : Thing) (post : List Thing) (h : Sep w0 w (pre ++ t :: post)) :
    ∃ FP, t.holds w FP ∧ (∀ x ∈ FP, w0.heap.size ≤ x) ∧ ∀ w' FP' t', Evolves FP FP' w w' → t'.holds w' FP' → Sep w0 w' (pre ++ t' :: post) := by
  obtain ⟨G, h⟩ := h
  obtain ⟨FP, h1, h2, h3⟩ := h.pick t post pre G
  exact ⟨FP, h1, fun x hx => (h.lt x (h2 x hx)).1, fun w' FP' t' hev ht' => by obtain ⟨G', hs, _⟩ := h3 w' FP' hev t' ht'; exact ⟨G', hs⟩⟩

theorem Evolves.of_same {FP : List Nat} {w w' : World} (h : Turns FP w w') : Evolves FP FP w w' := ⟨h, fun _ hx => Or.inl hx⟩

/-- A net's struct as a thing. -/
def netThing (T : TypeId) (b : Nat) (l : List Pkt) (s : Int) : Thing :=
  ⟨fun w FP => NetObj T w b FP l s, fun _ _ h => h.lt, fun _ _ _ _ h ht hd => h.kept ht hd⟩
/-- An owned slice of packets as a thing. -/
def pktThing (v : Value) (l : List Pkt) : Thing :=
  ⟨fun w FP => w.ownsRow 0 34 3 v l.length (pktCells l) ∧ FP = v.ownBlock.toList,
    fun _ _ h x hx => by obtain ⟨h, rfl⟩ := h; exact own_lt h x hx, fun _ _ _ _ h ht hd => by obtain ⟨h, rfl⟩ := h; exact ⟨own_kept h ht hd, rfl⟩⟩

/-- A block known whole. -/
def blockThing (b : Nat) (o : Obj) : Thing :=
  ⟨fun w FP => w.heap[b]? = some o ∧ FP = [b], fun _ _ h x hx => by obtain ⟨h, rfl⟩ := h; simp at hx; subst hx; exact lt_of_at h,
    fun _ _ _ _ h ht hd => by obtain ⟨h, rfl⟩ := h; exact ⟨by rw [ht.block _ (lt_of_at h) (hd _ (by simp))]; exact h, rfl⟩⟩
theorem Sep.alloc {w0 w : World} {ts : List Thing} (h : Sep w0 w ts) (o : Obj) : Sep w0 (w.alloc o) (blockThing w.heap.size o :: ts) :=
  h.add (t := blockThing w.heap.size o) (FP := [w.heap.size]) (Turns.alloc _ _ _) ⟨heap_alloc_here _ _, rfl⟩ (by simp)
theorem Sep.block {w0 w : World} {b : Nat} {o : Obj} (pre post : List Thing) (h : Sep w0 w (pre ++ blockThing b o :: post)) : w.heap[b]? = some o := by
  obtain ⟨FP, hF, _⟩ := h.pick pre _ post
  exact hF.1

/-- A block whose content no longer matters. -/
def junkThing (b : Nat) : Thing :=
  ⟨fun w FP => b < w.heap.size ∧ FP = [b], fun _ _ h x hx => by obtain ⟨h, rfl⟩ := h; simp at hx; subst hx; exact h,
    fun _ _ _ _ h ht _ => ⟨Nat.lt_of_lt_of_le h.1 ht.size, h.2⟩⟩
theorem Sep.set3_drop {w0 w : World} {ts : List Thing} {b : Nat} {o : Obj} (h : Sep w0 w (blockThing b o :: ts)) (x y z : Value) :
    Sep w0 (((w.setCell ⟨b, 0, none⟩ x).setCell ⟨b, 1, none⟩ y).setCell ⟨b, 2, none⟩ z) ts := by
  obtain ⟨FP, hF, _, step⟩ := h.pick [] _ ts
  obtain ⟨hb, rfl⟩ := hF
  exact (step _ _ (junkThing b) (Evolves.of_same (Turns.set3 _ _ _ _ _)) ⟨Nat.lt_of_lt_of_le (lt_of_at hb) (Turns.set3 _ _ _ _ _).size, rfl⟩).drop

end Go.Proofs.YtmikjninonpejaaMem
