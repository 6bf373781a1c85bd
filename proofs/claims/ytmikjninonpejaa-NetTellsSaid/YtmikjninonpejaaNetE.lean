/- Contracts of package net: Deliver, Drop. -/
import Derived.Test.YtmikjninonpejaaNetD
namespace Go.Proofs.Ytmikjninonpejaa
open Go.RowKit Go.Proofs.YtmikjninonpejaaMem

theorem notIn_of_lt {FP : List Nat} {n : Nat} (h : ∀ x ∈ FP, x < n) : n ∉ FP := fun hx => Nat.lt_irrefl _ (h n hx)

set_option maxHeartbeats 400000 in
set_option maxRecDepth 100000 in
theorem deliver_none (b : Nat) (FP : List Nat) (l : List Pkt) (s i : Int) (w : World) (hn : NetObj 81 w b FP l s) (h : i < 0 ∨ (l.length : Int) ≤ i) (hl : l.length ≤ 1000) :
    Calls Try.prog 16 #[.pointer (some ⟨b, 0, none⟩), .int .i64 i] w fun e w' => e = .returned (.tuple #[.agg #[.int .i64 0, .int .i64 0, .string ⟨#[]⟩], .int .i64 4]) ∧ Turns [] w w' := by
  have hlt := Lib.hid hn.lt
  have HN := Lib.hid hn; clear hn
  have HH := Lib.hid h; clear h
  go_enter Try.func16, Try.ntmps16
  go_wp2_with fail
  refine (take_none b FP l s i _ (HN.out.kept (Turns.alloc [] _ _) (by simp)) HH.out hl).mono ?_
  rintro e w1 ⟨rfl, ht⟩
  have hsz := ht.size
  rw [World.size_alloc] at hsz
  have hz1 : w1.heap[w.heap.size]? = some (.cells #[.int .i64 0, .int .i64 0, .string ⟨#[]⟩] 34 (0, 0)) := by
    rw [ht.block w.heap.size (by simp) (by simp), heap_alloc_here]
  have za : ∀ o, (w1.alloc o).heap[w.heap.size]? = some (.cells #[.int .i64 0, .int .i64 0, .string ⟨#[]⟩] 34 (0, 0)) := fun o => by rw [Below.heap_alloc _ _ _ (by omega)]; exact hz1
  have z0 : ∀ o, (w1.alloc o).cell? ⟨w.heap.size, 0, none⟩ = some (.int .i64 0) := fun o => cell_at (za o) 0
  have z1 : ∀ o, (w1.alloc o).cell? ⟨w.heap.size, 1, none⟩ = some (.int .i64 0) := fun o => cell_at (za o) 1
  have z2 : ∀ o, (w1.alloc o).cell? ⟨w.heap.size, 2, none⟩ = some (.string ⟨#[]⟩) := fun o => cell_at (za o) 2
  have y0 : ∀ o, (w1.alloc o).frozen? ⟨w.heap.size, 0, none⟩ = false := fun o => free_at (za o) 0
  have y1 : ∀ o, (w1.alloc o).frozen? ⟨w.heap.size, 1, none⟩ = false := fun o => free_at (za o) 1
  have y2 : ∀ o, (w1.alloc o).frozen? ⟨w.heap.size, 2, none⟩ = false := fun o => free_at (za o) 2
  have HT := Lib.hid ht
  clear ht hz1 za
  go_wp2_with fail
  refine bodyPost_ret (v := .tuple #[.agg #[.int .i64 0, .int .i64 0, .string ⟨#[]⟩], .int .i64 4]) (by simp [results, Try.results16, go_sem, z0, z1, z2]) rfl ⟨rfl, ?_⟩
  exact (((Turns.alloc [] _ _).trans HT.out).trans (Turns.alloc [] _ _)).trans_new (Turns.set3 _ _ _ _ _) (fun x hx => by simp at hx; exact Or.inr (by omega))

set_option maxHeartbeats 800000 in
set_option maxRecDepth 100000 in
theorem deliver_some (b : Nat) (FP : List Nat) (l : List Pkt) (s : Int) (k : Nat) (w : World) (hn : NetObj 81 w b FP l s) (hk : k < l.length) (hl : l.length ≤ 1000) (r : Bool) (hr : hears s l[k].src l[k].dst = r) :
    Calls Try.prog 16 #[.pointer (some ⟨b, 0, none⟩), .int .i64 k] w fun e w' => e = .returned (if r then .tuple #[.agg #[.int .i64 l[k].src, .int .i64 l[k].dst, .string l[k].body], .int .i64 0] else .tuple #[.agg #[.int .i64 0, .int .i64 0, .string ⟨#[]⟩], .int .i64 10]) ∧
      ∃ FP', NetObj 81 w' b FP' (l.eraseIdx k) s ∧ Evolves FP FP' w w' := by
  have hlt := Lib.hid hn.lt
  have HN := Lib.hid hn; clear hn
  obtain ⟨q0, hq0⟩ : ∃ q, q = l[k].src := ⟨_, rfl⟩
  obtain ⟨q1, hq1⟩ : ∃ q, q = l[k].dst := ⟨_, rfl⟩
  obtain ⟨q2, hq2⟩ : ∃ q, q = l[k].body := ⟨_, rfl⟩
  have HQ := Lib.hid (And.intro hq0 (And.intro hq1 hq2)); clear hq0 hq1 hq2
  rw [← HQ.out.1, ← HQ.out.2.1] at hr
  rw [← HQ.out.1, ← HQ.out.2.1, ← HQ.out.2.2]
  go_enter Try.func16, Try.ntmps16
  go_wp2_with fail
  refine (take_some b FP l s k _ (HN.out.kept (Turns.alloc [] _ _) (by simp)) hk hl).mono ?_
  rintro e w1 ⟨rfl, FP1, hn1, hev⟩
  rw [← HQ.out.1, ← HQ.out.2.1, ← HQ.out.2.2]
  have hsz := hev.1.size
  rw [World.size_alloc] at hsz
  have hz1 : w1.heap[w.heap.size]? = some (.cells #[.int .i64 0, .int .i64 0, .string ⟨#[]⟩] 34 (0, 0)) := by
    rw [hev.1.block w.heap.size (by simp) (notIn_of_lt hlt.out), heap_alloc_here]
  have za : ∀ o, (w1.alloc o).heap[w.heap.size]? = some (.cells #[.int .i64 0, .int .i64 0, .string ⟨#[]⟩] 34 (0, 0)) := fun o => by rw [Below.heap_alloc _ _ _ (by omega)]; exact hz1
  have z0 : ∀ o, (w1.alloc o).cell? ⟨w.heap.size, 0, none⟩ = some (.int .i64 0) := fun o => cell_at (za o) 0
  have z1 : ∀ o, (w1.alloc o).cell? ⟨w.heap.size, 1, none⟩ = some (.int .i64 0) := fun o => cell_at (za o) 1
  have z2 : ∀ o, (w1.alloc o).cell? ⟨w.heap.size, 2, none⟩ = some (.string ⟨#[]⟩) := fun o => cell_at (za o) 2
  have y0 : ∀ o, (w1.alloc o).frozen? ⟨w.heap.size, 0, none⟩ = false := fun o => free_at (za o) 0
  have y1 : ∀ o, (w1.alloc o).frozen? ⟨w.heap.size, 1, none⟩ = false := fun o => free_at (za o) 1
  have y2 : ∀ o, (w1.alloc o).frozen? ⟨w.heap.size, 2, none⟩ = false := fun o => free_at (za o) 2
  have HV := Lib.hid hev
  have HN1 := Lib.hid hn1
  have HR := Lib.hid hr
  clear hev hn1 hz1 za hr
  have HFIN : Hid (∀ (o : Obj) (n : Nat) (x y z : Value), ∃ FP', NetObj 81 (((((w1.alloc o).setCell ⟨w.heap.size, 0, none⟩ x).setCell ⟨w.heap.size, 1, none⟩ y).setCell ⟨w.heap.size, 2, none⟩ z).drewN n) b FP' (l.eraseIdx k) s ∧
      Evolves FP FP' w (((((w1.alloc o).setCell ⟨w.heap.size, 0, none⟩ x).setCell ⟨w.heap.size, 1, none⟩ y).setCell ⟨w.heap.size, 2, none⟩ z).drewN n)) := by
    intro o n x y z
    have hT : Turns [w.heap.size] w1 (((((w1.alloc o).setCell ⟨w.heap.size, 0, none⟩ x).setCell ⟨w.heap.size, 1, none⟩ y).setCell ⟨w.heap.size, 2, none⟩ z).drewN n) := ((Turns.alloc _ _ _).trans (Turns.set3 _ _ _ _ _)).drewN n
    refine ⟨FP1, HN1.out.kept hT (fun x hx => ?_), ?_, fun x hx => ?_⟩
    · rcases HV.out.2 x hx with h | h
      · have := hlt.out x h; simp; omega
      · simp at h ⊢; omega
    · exact ((Turns.alloc _ _ _).trans HV.out.1).trans_new hT (fun x hx => by simp at hx; exact Or.inr (by omega))
    · rcases HV.out.2 x hx with h | h
      · exact Or.inl h
      · simp at h; exact Or.inr (by omega)
  cases r
  · go_wp2_with fail
    refine (hear_is b FP1 (l.eraseIdx k) s q0 q1 _ (HN1.out.kept (Turns.alloc [] _ _) (by simp)) false HR.out).mono ?_
    rintro e w2 ⟨rfl, n, rfl⟩
    go_wp2_with fail
    refine bodyPost_ret (v := .tuple #[.agg #[.int .i64 0, .int .i64 0, .string ⟨#[]⟩], .int .i64 10]) (by simp [results, Try.results16, go_sem, z0, z1, z2]) rfl ⟨rfl, ?_⟩
    exact HFIN.out _ _ _ _ _
  · go_wp2_with fail
    refine (hear_is b FP1 (l.eraseIdx k) s q0 q1 _ (HN1.out.kept (Turns.alloc [] _ _) (by simp)) true HR.out).mono ?_
    rintro e w2 ⟨rfl, n, rfl⟩
    go_wp2_with fail
    refine bodyPost_ret (v := .tuple #[.agg #[.int .i64 q0, .int .i64 q1, .string q2], .int .i64 0]) (by simp [results, Try.results16, go_sem, z0, z1, z2]) rfl ⟨rfl, ?_⟩
    exact HFIN.out _ _ _ _ _

set_option maxHeartbeats 400000 in
set_option maxRecDepth 100000 in
theorem drop_none (b : Nat) (FP : List Nat) (l : List Pkt) (s i : Int) (w : World) (hn : NetObj 81 w b FP l s) (h : i < 0 ∨ (l.length : Int) ≤ i) (hl : l.length ≤ 1000) :
    Calls Try.prog 56 #[.pointer (some ⟨b, 0, none⟩), .int .i64 i] w fun e w' => e = .returned (.int .i64 4) ∧ Turns [] w w' := by
  have HN := Lib.hid hn; clear hn
  have HH := Lib.hid h; clear h
  go_enter Try.func56, Try.ntmps56
  go_wp2_with fail
  refine (take_none b FP l s i _ HN.out HH.out hl).mono ?_
  rintro e w1 ⟨rfl, ht⟩
  have HT := Lib.hid ht; clear ht
  go_wp2_with fail
  go_ret
  exact ⟨rfl, HT.out.trans (Turns.alloc [] _ _)⟩

set_option maxHeartbeats 400000 in
set_option maxRecDepth 100000 in
theorem drop_some (b : Nat) (FP : List Nat) (l : List Pkt) (s : Int) (k : Nat) (w : World) (hn : NetObj 81 w b FP l s) (hk : k < l.length) (hl : l.length ≤ 1000) :
    Calls Try.prog 56 #[.pointer (some ⟨b, 0, none⟩), .int .i64 k] w fun e w' => e = .returned (.int .i64 0) ∧ ∃ FP', NetObj 81 w' b FP' (l.eraseIdx k) s ∧ Evolves FP FP' w w' := by
  have HN := Lib.hid hn; clear hn
  go_enter Try.func56, Try.ntmps56
  go_wp2_with fail
  refine (take_some b FP l s k _ HN.out hk hl).mono ?_
  rintro e w1 ⟨rfl, FP1, hn1, hev⟩
  have HN1 := Lib.hid hn1
  have HV := Lib.hid hev
  clear hn1 hev
  go_wp2_with fail
  go_ret
  exact ⟨rfl, FP1, HN1.out.kept (Turns.alloc [] _ _) (by simp), (HV.out.1).trans (Turns.alloc _ _ _), HV.out.2⟩

end Go.Proofs.Ytmikjninonpejaa
