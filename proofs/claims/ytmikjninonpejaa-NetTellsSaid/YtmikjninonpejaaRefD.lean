/- Contracts of the reference for net: Double. -/
import Derived.Test.YtmikjninonpejaaRefC
namespace Go.Proofs.Ytmikjninonpejaa
open Go.RowKit Go.Proofs.YtmikjninonpejaaMem

/-- One packet is appended onto a slice made apart. -/
theorem seg_one {w w6 Wy w7 : World} {B : Nat} {v1 v2 : Value} {l : List Pkt} (p : Pkt) (h6 : w6.ownsRow B 34 3 v1 l.length (pktCells l) ∧ Turns [] w w6 ∧ (∀ x ∈ v1.ownBlock.toList, w.heap.size ≤ x)) (h0 : Turns [] w6 Wy)
    (hown : w7.ownsRow 0 34 3 v2 (l.length + 1) (pktCells l ++ p.cells)) (hg : Wy.grownBy w7 v1.ownBlock) (hat : v2.ownBlock = v1.ownBlock ∨ ∃ k, v2.ownBlock = some k ∧ w6.heap.size ≤ k) :
    (pktThing v2 (l ++ [p])).holds w7 v2.ownBlock.toList ∧ Turns [] w w7 ∧ (∀ x ∈ v2.ownBlock.toList, w.heap.size ≤ x) := by
  refine ⟨⟨?_, rfl⟩, ?_, fun x hx => ?_⟩
  · rw [pktCells_append, List.length_append]
    simpa [pktCells] using hown
  · exact h6.2.1.trans_new ((h0.mono (by simp)).trans (Turns.of_grown (S := v1.ownBlock.toList) hg (fun k hk => Or.inl (by simp [hk])))) (fun x hx => Or.inr (h6.2.2 x hx))
  · rcases hat with h | ⟨k, h, hk⟩
    · rw [h] at hx; exact h6.2.2 x hx
    · rw [h] at hx; simp at hx; subst hx; exact Nat.le_trans h6.2.1.size hk
theorem news_at {w : World} {g : Nat} {cs : Array Value} {t : TypeId} {l : List Value} (h : w.heap[g]? = some (.cells cs t (0, 0))) (hl : cs.toList = l) : ∀ j u, l[j]? = some u → w.cell? ((⟨g, 0, none⟩ : Addr).add j) = some u := by
  intro j u hu
  have e : ((⟨g, 0, none⟩ : Addr).add j) = ⟨g, j, none⟩ := by unfold Addr.add; split <;> simp_all
  rw [e, cell_at h]
  subst hl
  simpa using hu
theorem appended_far {W Wx w6 : World} {j : Nat} {o : Obj} (hj : Wx.heap[j]? = some o) (hjb : j ≠ W.heap.size) (hg : Wx.grownBy w6 (Value.slice (some ⟨W.heap.size, 0, none⟩) 0 0).ownBlock) : w6.heap[j]? = some o := by
  rw [(Turns.of_grown (S := [W.heap.size]) hg (fun k hk => Or.inl (by simp [Value.ownBlock] at hk; simp [hk]))).block j (lt_of_at hj) (by simp; exact hjb)]
  exact hj

set_option maxHeartbeats 400000 in
theorem rdouble_none (b : Nat) (FP : List Nat) (l : List Pkt) (s i : Int) (w : World) (hn : NetObj 51 w b FP l s) (h : i < 0 ∨ (l.length : Int) ≤ i) :
    Calls Try.prog 59 #[.pointer (some ⟨b, 0, none⟩), .int .i64 i] w fun e w' => e = .returned (.int .i64 4) ∧ w = w' := by
  obtain ⟨v, hb, ho, e⟩ := hn
  obtain ⟨a, c, rfl, hc, hm⟩ := own_shape ho
  have c0 : w.cell? ⟨b, 0, none⟩ = some (.slice a l.length c) := cell_at hb 0
  clear hb ho e
  rcases h with h | h
  · have hd : decide (i < 0) = true := decide_eq_true h
    go_enter Try.func59, Try.ntmps59
    go_wp2_with fail
    go_ret
    exact ⟨rfl, rfl⟩
  · have hd : decide (i < 0) = false := decide_eq_false (by omega)
    have hd2 : decide ((l.length : Int) ≤ i) = true := decide_eq_true h
    go_enter Try.func59, Try.ntmps59
    go_wp2_with fail
    go_ret
    exact ⟨rfl, rfl⟩

set_option maxHeartbeats 400000 in
set_option maxRecDepth 100000 in
theorem rdouble_full (b : Nat) (FP : List Nat) (l : List Pkt) (s : Int) (k : Nat) (w : World) (hn : NetObj 51 w b FP l s) (hk : k < l.length) (hl : l.length ≤ 1000) (hf : 500 ≤ l.length) :
    Calls Try.prog 59 #[.pointer (some ⟨b, 0, none⟩), .int .i64 k] w fun e w' => e = .returned (.int .i64 6) ∧ w = w' := by
  obtain ⟨v, hb, ho, e⟩ := hn
  obtain ⟨a, c, rfl, hc, hm⟩ := own_shape ho
  have c0 : w.cell? ⟨b, 0, none⟩ = some (.slice a l.length c) := cell_at hb 0
  clear hb ho e
  have hd : decide ((k : Int) < 0) = false := decide_eq_false (by omega)
  have hd2 : decide ((l.length : Int) ≤ k) = false := decide_eq_false (by omega)
  go_enter Try.func59, Try.ntmps59
  go_wp2_with fail
  go_ret
  exact ⟨rfl, rfl⟩

set_option maxHeartbeats 1600000 in
set_option maxRecDepth 100000 in
theorem rdouble_ok (b : Nat) (FP : List Nat) (l : List Pkt) (s : Int) (k : Nat) (w : World) (hn : NetObj 51 w b FP l s) (hk : k < l.length) (hl : l.length < 500) :
    Calls Try.prog 59 #[.pointer (some ⟨b, 0, none⟩), .int .i64 k] w fun e w' => e = .returned (.int .i64 0) ∧ ∃ FP', NetObj 51 w' b FP' (l ++ [l[k]]) s ∧ Evolves FP FP' w w' := by
  obtain ⟨v, hb, ho, e⟩ := hn
  have HE := Lib.hid e; clear e
  rcases id ho.2 with ⟨_, h0⟩ | ⟨g, cap, cur, rfl, _, hg, hcap, hmax, hsz, htake⟩
  · omega
  obtain ⟨p0, p1, p2⟩ := pkt_cell hg htake k hk
  obtain ⟨p, hp⟩ : ∃ p, p = l[k] := ⟨_, rfl⟩
  rw [← hp] at p0 p1 p2
  rw [← hp]
  have HP := Lib.hid hp; clear hp
  have hbs : b < w.heap.size := lt_of_at hb
  have hgs : g < w.heap.size := lt_of_at hg
  have HB := Lib.hid hb
  have c0 : w.cell? ⟨b, 0, none⟩ = some (.slice (some ⟨g, 0, none⟩) l.length cap) := cell_at hb 0
  have ca : ∀ o, (w.alloc o).cell? ⟨b, 0, none⟩ = some (.slice (some ⟨g, 0, none⟩) l.length cap) := fun o => by rw [World.cell?_alloc_past _ _ _ hbs]; exact c0
  have cc : ∀ o o', ((w.alloc o).alloc o').cell? ⟨b, 0, none⟩ = some (.slice (some ⟨g, 0, none⟩) l.length cap) := fun o o' => by rw [World.cell?_alloc_past _ _ _ (by simp; omega)]; exact ca o
  have pa0 : ∀ o, (w.alloc o).cell? ⟨g, k * 3, none⟩ = some (.int .i64 p.src) := fun o => by rw [World.cell?_alloc_past _ _ _ hgs]; exact p0
  have pa1 : ∀ o, (w.alloc o).cell? ⟨g, k * 3 + 1, none⟩ = some (.int .i64 p.dst) := fun o => by rw [World.cell?_alloc_past _ _ _ hgs]; exact p1
  have pa2 : ∀ o, (w.alloc o).cell? ⟨g, k * 3 + 2, none⟩ = some (.string p.body) := fun o => by rw [World.cell?_alloc_past _ _ _ hgs]; exact p2
  have hd : decide ((k : Int) < 0) = false := decide_eq_false (by omega)
  have hd2 : decide ((l.length : Int) ≤ k) = false := decide_eq_false (by omega)
  have hd3 : (k : Int) < (l.length : Int) := by omega
  have hd4 : decide ((500 : Int) ≤ (l.length : Int)) = false := decide_eq_false (by omega)
  have HNIL : Hid ((w.alloc (.cells #[] 34)).ownsRow w.heap.size 34 3 (.slice (some ⟨w.heap.size, 0, none⟩) 0 0) 0 []) := World.ownsRow_made w #[] 0 (Nat.le_refl _) (by unfold maxLen; omega) rfl
  have HSRC : Hid (∀ w' : World, w'.heap[g]? = w.heap[g]? → SrcAt w' (.slice (some ⟨g, 0, none⟩) l.length cap) l.length (pktCells l)) := fun w' hw => SrcAt.of_own ho (fun k hk => by simp [Value.ownBlock] at hk; subst hk; exact hw)
  obtain ⟨i0, hi, hz0, hz1, hz2⟩ := info_parts Try.info34
  clear hb ho hg hcap hmax hsz htake
  go_enter Try.func59, Try.ntmps59
  go_wp2_with fail
  have HALL : Hid (∀ o o' : Obj, ((w.alloc o).alloc o').heap[g]? = w.heap[g]?) := fun o o' => by rw [Below.heap_alloc _ _ _ (by simp; omega), Below.heap_alloc _ _ _ hgs]
  have HNIL1 : Hid (((w.alloc (.cells #[.int .i64 p.src, .int .i64 p.dst, .string p.body] 34)).alloc (.cells #[] 34)).ownsRow (w.heap.size + 1) 34 3 (.slice (some ⟨w.heap.size + 1, 0, none⟩) 0 0) 0 []) := by
    have := World.ownsRow_made (base := w.heap.size + 1) (e := 34) (size := 3) (w.alloc (.cells #[.int .i64 p.src, .int .i64 p.dst, .string p.body] 34)) #[] 0 (by simp) (by unfold maxLen; omega) rfl
    rw [World.size_alloc] at this
    exact this
  go_region_law (first
    | (refine step_append_src rfl (.tmp 23) (.tmp 27) 28 rfl 34 i0 (.agg #[.int .i64 0, .int .i64 0, .string ⟨#[]⟩]) 3 32 Try.underlying28 hi hz0 hz1 hz2 rfl (by decide) (.slice (some ⟨w.heap.size, 0, none⟩) 0 0) 0 [] (by first | (simp [Act.eval]; done) | simp [Act.eval, Act.put]) (own_base HNIL.out (Nat.zero_le _)) (.slice (some ⟨g, 0, none⟩) l.length cap) l.length (pktCells l) (by first | (simp [Act.eval]; done) | simp [Act.eval, Act.put]) (HSRC.out _ (Below.heap_alloc _ _ _ hgs)) (pktCells_length l) (pkts_oneCell _) (by unfold maxLen; omega) (by omega) ?_; intro v1 w6 hown1 hg1 hat1; have HW6 := Lib.hid (appended_here ((Turns.alloc [] w _).drew) hown1 hg1 (hat1.imp id fun h => ⟨_, h, by simp⟩)); clear hown1 hg1 hat1; obtain ⟨a1, n1, hv1, -⟩ := own_shape HW6.out.1; subst hv1; have c6 : w6.cell? ⟨b, 0, none⟩ = some (.slice (some ⟨g, 0, none⟩) l.length cap) := (HW6.out.2.1.cell (a := ⟨b, 0, none⟩) hbs (by simp)).trans c0; have g0 : w6.cell? ⟨g, k * 3, none⟩ = some (.int .i64 p.src) := (HW6.out.2.1.cell (a := ⟨g, k * 3, none⟩) hgs (by simp)).trans p0; have g1 : w6.cell? ⟨g, k * 3 + 1, none⟩ = some (.int .i64 p.dst) := (HW6.out.2.1.cell (a := ⟨g, k * 3 + 1, none⟩) hgs (by simp)).trans p1; have g2 : w6.cell? ⟨g, k * 3 + 2, none⟩ = some (.string p.body) := (HW6.out.2.1.cell (a := ⟨g, k * 3 + 2, none⟩) hgs (by simp)).trans p2)
    | (refine step_append_src rfl (.tmp 23) (.tmp 27) 28 rfl 34 i0 (.agg #[.int .i64 0, .int .i64 0, .string ⟨#[]⟩]) 3 32 Try.underlying28 hi hz0 hz1 hz2 rfl (by decide) (.slice (some ⟨w.heap.size, 0, none⟩) 0 0) 0 [] (by first | (simp [Act.eval]; done) | simp [Act.eval, Act.put]) (own_base (HNIL.out.alloc (.cells #[.int .i64 p.src, .int .i64 p.dst, .string p.body] 34)) (Nat.zero_le _)) (.slice (some ⟨g, 0, none⟩) l.length cap) l.length (pktCells l) (by first | (simp [Act.eval]; done) | simp [Act.eval, Act.put]) (HSRC.out _ (HALL.out _ _)) (pktCells_length l) (pkts_oneCell _) (by unfold maxLen; omega) (by omega) ?_; intro v1 w6 hown1 hg1 hat1; have HW6 := Lib.hid (appended_here (((Turns.alloc [] w _).trans (Turns.alloc [] _ _)).drew) hown1 hg1 (hat1.imp id fun h => ⟨_, h, Nat.le_trans (Turns.alloc [] w _).size (Turns.alloc [] _ _).size⟩)); have HNB : Hid (w6.heap[w.heap.size + 1]? = some (.cells #[.int .i64 p.src, .int .i64 p.dst, .string p.body] 34 (0, 0))) := appended_far (Wx := ((w.alloc (.cells #[] 34)).alloc (.cells #[.int .i64 p.src, .int .i64 p.dst, .string p.body] 34)).drew) (heap_alloc_here1 w (.cells #[] 34) (.cells #[.int .i64 p.src, .int .i64 p.dst, .string p.body] 34)) (by omega) hg1; clear hown1 hg1 hat1; obtain ⟨a1, n1, hv1, -⟩ := own_shape HW6.out.1; subst hv1; have c6 : w6.cell? ⟨b, 0, none⟩ = some (.slice (some ⟨g, 0, none⟩) l.length cap) := (HW6.out.2.1.cell (a := ⟨b, 0, none⟩) hbs (by simp)).trans c0; have g0 : w6.cell? ⟨g, k * 3, none⟩ = some (.int .i64 p.src) := (HW6.out.2.1.cell (a := ⟨g, k * 3, none⟩) hgs (by simp)).trans p0; have g1 : w6.cell? ⟨g, k * 3 + 1, none⟩ = some (.int .i64 p.dst) := (HW6.out.2.1.cell (a := ⟨g, k * 3 + 1, none⟩) hgs (by simp)).trans p1; have g2 : w6.cell? ⟨g, k * 3 + 2, none⟩ = some (.string p.body) := (HW6.out.2.1.cell (a := ⟨g, k * 3 + 2, none⟩) hgs (by simp)).trans p2)
    | (refine step_append_src rfl (.tmp 23) (.tmp 27) 28 rfl 34 i0 (.agg #[.int .i64 0, .int .i64 0, .string ⟨#[]⟩]) 3 32 Try.underlying28 hi hz0 hz1 hz2 rfl (by decide) (.slice (some ⟨w.heap.size + 1, 0, none⟩) 0 0) 0 [] (by first | (simp [Act.eval]; done) | simp [Act.eval, Act.put]) (own_base HNIL1.out (Nat.zero_le _)) (.slice (some ⟨g, 0, none⟩) l.length cap) l.length (pktCells l) (by first | (simp [Act.eval]; done) | simp [Act.eval, Act.put]) (HSRC.out _ (HALL.out _ _)) (pktCells_length l) (pkts_oneCell _) (by unfold maxLen; omega) (by omega) ?_; intro v1 w6 hown1 hg1 hat1; have HW7 := appended_here (W := w.alloc (.cells #[.int .i64 p.src, .int .i64 p.dst, .string p.body] 34)) ((Turns.alloc [] _ _).drew) hown1 (by simpa using hg1) (by rcases hat1 with h | h; (exact Or.inl (by simpa using h)); (exact Or.inr ⟨_, h, by simp⟩)); have HW6 : Hid (w6.ownsRow (w.alloc (.cells #[.int .i64 p.src, .int .i64 p.dst, .string p.body] 34)).heap.size 34 3 v1 l.length (pktCells l) ∧ Turns [] w w6 ∧ (∀ x ∈ v1.ownBlock.toList, w.heap.size ≤ x)) := ⟨HW7.1, (Turns.alloc [] w _).trans HW7.2.1, fun x hx => by have := HW7.2.2 x hx; simp at this; omega⟩; have HNC : Hid (w6.heap[w.heap.size]? = some (.cells #[.int .i64 p.src, .int .i64 p.dst, .string p.body] 34 (0, 0))) := (HW7.2.1.block _ (by simp) (by simp)).trans (heap_alloc_here w (.cells #[.int .i64 p.src, .int .i64 p.dst, .string p.body] 34)); clear hown1 hg1 hat1 HW7; obtain ⟨a1, n1, hv1, -⟩ := own_shape HW6.out.1; subst hv1; have c6 : w6.cell? ⟨b, 0, none⟩ = some (.slice (some ⟨g, 0, none⟩) l.length cap) := (HW6.out.2.1.cell (a := ⟨b, 0, none⟩) hbs (by simp)).trans c0; have g0 : w6.cell? ⟨g, k * 3, none⟩ = some (.int .i64 p.src) := (HW6.out.2.1.cell (a := ⟨g, k * 3, none⟩) hgs (by simp)).trans p0; have g1 : w6.cell? ⟨g, k * 3 + 1, none⟩ = some (.int .i64 p.dst) := (HW6.out.2.1.cell (a := ⟨g, k * 3 + 1, none⟩) hgs (by simp)).trans p1; have g2 : w6.cell? ⟨g, k * 3 + 2, none⟩ = some (.string p.body) := (HW6.out.2.1.cell (a := ⟨g, k * 3 + 2, none⟩) hgs (by simp)).trans p2)
    | (refine step_append_own rfl (.tmp 28) (.tmp 36) 28 rfl 34 i0 (.agg #[.int .i64 0, .int .i64 0, .string ⟨#[]⟩]) 3 32 Try.underlying28 hi hz0 hz1 hz2 rfl (by decide) (.slice a1 l.length n1) l.length (pktCells l) (by first | (simp [Act.eval]; done) | simp [Act.eval, Act.put]) (own_base (HW6.out.1.alloc (.cells #[.int .i64 p.src, .int .i64 p.dst, .string p.body] 34)) (Nat.zero_le _)) ⟨w6.heap.size, 0, none⟩ 1 1 p.cells (by first | (simp [Act.eval]; done) | simp [Act.eval, Act.put]) rfl (new_cells w6 _ _ _ rfl) (pkt_oneCell p) (by unfold maxLen; omega) (by omega) ?_; intro v2 w7 hown2 hg2 hat2; obtain ⟨a2, n2, hv2, -⟩ := own_shape hown2; subst hv2; have HW7 := seg_one p HW6.out (Turns.alloc [] w6 _) hown2 hg2 (hat2.imp id fun h => ⟨_, h, by simp⟩); clear hown2 hg2 hat2; obtain ⟨k0, k1, HF⟩ := obj_replaced HB.out HW7; clear HW7)
    | (refine step_append_own rfl (.tmp 28) (.tmp 36) 28 rfl 34 i0 (.agg #[.int .i64 0, .int .i64 0, .string ⟨#[]⟩]) 3 32 Try.underlying28 hi hz0 hz1 hz2 rfl (by decide) (.slice a1 l.length n1) l.length (pktCells l) (by first | (simp [Act.eval]; done) | simp [Act.eval, Act.put]) (own_base HW6.out.1 (Nat.zero_le _)) ⟨w.heap.size + 1, 0, none⟩ 1 1 p.cells (by first | (simp [Act.eval]; done) | simp [Act.eval, Act.put]) rfl (news_at HNB.out rfl) (pkt_oneCell p) (by unfold maxLen; omega) (by omega) ?_; intro v2 w7 hown2 hg2 hat2; obtain ⟨a2, n2, hv2, -⟩ := own_shape hown2; subst hv2; have HW7 := seg_one p HW6.out (Turns.refl [] w6) hown2 hg2 (hat2.imp id fun h => ⟨_, h, by simp⟩); clear hown2 hg2 hat2; obtain ⟨k0, k1, HF⟩ := obj_replaced HB.out HW7; clear HW7)
    | (refine step_append_own rfl (.tmp 28) (.tmp 36) 28 rfl 34 i0 (.agg #[.int .i64 0, .int .i64 0, .string ⟨#[]⟩]) 3 32 Try.underlying28 hi hz0 hz1 hz2 rfl (by decide) (.slice a1 l.length n1) l.length (pktCells l) (by first | (simp [Act.eval]; done) | simp [Act.eval, Act.put]) (own_base HW6.out.1 (Nat.zero_le _)) ⟨w.heap.size, 0, none⟩ 1 1 p.cells (by first | (simp [Act.eval]; done) | simp [Act.eval, Act.put]) rfl (news_at HNC.out rfl) (pkt_oneCell p) (by unfold maxLen; omega) (by omega) ?_; intro v2 w7 hown2 hg2 hat2; obtain ⟨a2, n2, hv2, -⟩ := own_shape hown2; subst hv2; have HW7 := seg_one p HW6.out (Turns.refl [] w6) hown2 hg2 (hat2.imp id fun h => ⟨_, h, by simp⟩); clear hown2 hg2 hat2; obtain ⟨k0, k1, HF⟩ := obj_replaced HB.out HW7; clear HW7))
  all_goals
    go_wp2
    go_ret
    exact ⟨rfl, _, HF.out.1, HE.out ▸ HF.out.2⟩

end Go.Proofs.Ytmikjninonpejaa
