/- Contracts of package net: Send. -/
import Derived.Test.YtmikjninonpejaaNetA
namespace Go.Proofs.Ytmikjninonpejaa
open Go.RowKit Go.Proofs.YtmikjninonpejaaMem

set_option maxHeartbeats 400000 in
set_option maxRecDepth 100000 in
theorem send_lost (b : Nat) (FP : List Nat) (l : List Pkt) (s x y : Int) (body : ByteArray) (w : World) (hn : NetObj 81 w b FP l s) (h : (!isEnd x || !isEnd y || x == y) = false) (hh : hears s x y = false) :
    Calls Try.prog 15 #[.pointer (some ⟨b, 0, none⟩), .int .i64 x, .int .i64 y, .string body] w fun e w' => e = .returned (.int .i64 10) ∧ ∃ n, w' = w.drewN n := by
  have hx : isEnd x = true := by revert h; cases isEnd x <;> simp
  have hy : isEnd y = true := by revert h; cases isEnd y <;> simp
  have hxy : (x == y) = false := by simpa [hx, hy] using h
  have HX := Lib.hid hx; clear hx h
  have HY := Lib.hid hy; clear hy
  have HH := Lib.hid hh; clear hh
  go_enter Try.func15, Try.ntmps15
  go_wp2_with (first | (go_at_call_of 53 x; refine (end_yes _ _ HX.out).mono ?_; rintro e w' ⟨rfl, rfl⟩) | (go_at_call_of 53 y; refine (end_yes _ _ HY.out).mono ?_; rintro e w' ⟨rfl, rfl⟩) | (go_at_call 20; refine (hear_is b FP l s x y _ hn false HH.out).mono ?_; rintro e w' ⟨rfl, nq, rfl⟩))
  go_ret
  exact ⟨rfl, _, rfl⟩

set_option maxHeartbeats 400000 in
set_option maxRecDepth 100000 in
theorem send_full (b : Nat) (FP : List Nat) (l : List Pkt) (s x y : Int) (body : ByteArray) (w : World) (hn : NetObj 81 w b FP l s) (h : (!isEnd x || !isEnd y || x == y) = false) (hh : hears s x y = true)
    (hl : 500 ≤ l.length) (hl2 : l.length ≤ 1000) :
    Calls Try.prog 15 #[.pointer (some ⟨b, 0, none⟩), .int .i64 x, .int .i64 y, .string body] w fun e w' => e = .returned (.int .i64 6) ∧ ∃ n, w' = w.drewN n := by
  have hx : isEnd x = true := by revert h; cases isEnd x <;> simp
  have hy : isEnd y = true := by revert h; cases isEnd y <;> simp
  have hxy : (x == y) = false := by simpa [hx, hy] using h
  have HX := Lib.hid hx; clear hx h
  have HY := Lib.hid hy; clear hy
  have HH := Lib.hid hh; clear hh
  obtain ⟨v, hb, ho, e⟩ := id hn
  obtain ⟨a, c, rfl, hc, hm⟩ := own_shape ho
  have c0 : w.cell? ⟨b, 0, none⟩ = some (.slice a l.length c) := cell_at hb 0
  clear hb ho e
  go_enter Try.func15, Try.ntmps15
  go_wp2_with (first | (go_at_call_of 53 x; refine (end_yes _ _ HX.out).mono ?_; rintro e w' ⟨rfl, rfl⟩) | (go_at_call_of 53 y; refine (end_yes _ _ HY.out).mono ?_; rintro e w' ⟨rfl, rfl⟩) | (go_at_call 20; refine (hear_is b FP l s x y _ hn true HH.out).mono ?_; rintro e w' ⟨rfl, nq, rfl⟩))
  go_ret
  exact ⟨rfl, _, rfl⟩

/-- An append to a net's list, and the store of the new list: the object behind it. -/
theorem obj_appended {T : TypeId} {w w0 w1 : World} {b : Nat} {l : List Pkt} {s : Int} {v v' : Value} (p : Pkt) (hT : (34 : TypeId) ≠ T)
    (hb : w.heap[b]? = some (.cells #[v, .int .i64 s] T (0, 0))) (ho : w.ownsRow 0 34 3 v l.length (pktCells l)) (h0 : Turns [] w w0)
    (hown : w1.ownsRow 0 34 3 v' (l.length + 1) (pktCells l ++ p.cells)) (hg : w0.grownBy w1 v.ownBlock) (hat : v'.ownBlock = v.ownBlock ∨ ∃ k, v'.ownBlock = some k ∧ w.heap.size ≤ k) :
    w1.cell? ⟨b, 0, none⟩ = some v ∧ w1.frozen? ⟨b, 0, none⟩ = false ∧
    ∃ FP', NetObj T (w1.setCell ⟨b, 0, none⟩ v') b FP' (l ++ [p]) s ∧ Evolves (b :: v.ownBlock.toList) FP' w (w1.setCell ⟨b, 0, none⟩ v') := by
  have hbv := own_ne ho hb hT
  have hb0 : w0.heap[b]? = some (.cells #[v, .int .i64 s] T (0, 0)) := by rw [h0.block b (lt_of_at hb) (by simp)]; exact hb
  have hb1 : w1.heap[b]? = some (.cells #[v, .int .i64 s] T (0, 0)) := by rw [hg.block b (lt_of_at hb0) (fun e => hbv (by simp [← e]))]; exact hb0
  have hbv' := own_ne hown hb1 hT
  have ht1 : Turns (b :: v.ownBlock.toList) w w1 :=
    (h0.mono (by simp)).trans (Turns.of_grown hg (fun k hk => Or.inl (by simp [hk])))
  refine ⟨cell_at hb1 0, free_at hb1 0, b :: v'.ownBlock.toList, ⟨v', ?_, ?_, rfl⟩, ?_, ?_⟩
  · rw [heap_setCell_at hb1]; rfl
  · have e : pktCells (l ++ [p]) = pktCells l ++ p.cells := by rw [pktCells_append]; simp [pktCells]
    rw [e, List.length_append]
    exact own_kept hown (Turns.setCell (S := [b]) _ _ _ (by simp)) (fun k hk hkb => by simp at hkb; subst hkb; exact hbv' hk)
  · exact ht1.trans (Turns.setCell _ _ _ (by simp))
  · intro x hx
    rcases List.mem_cons.1 hx with rfl | hx
    · exact Or.inl (by simp)
    · rcases hat with h | h
      · exact Or.inl (by rw [← h]; exact List.mem_cons_of_mem _ hx)
      · obtain ⟨k, h, hk⟩ := h
        rw [h] at hx
        simp at hx
        subst hx
        exact Or.inr hk

set_option maxHeartbeats 800000 in
set_option maxRecDepth 100000 in
theorem send_ok (b : Nat) (FP : List Nat) (l : List Pkt) (s x y : Int) (body : ByteArray) (w : World) (hn : NetObj 81 w b FP l s) (h : (!isEnd x || !isEnd y || x == y) = false) (hh : hears s x y = true)
    (hl : l.length < 500) :
    Calls Try.prog 15 #[.pointer (some ⟨b, 0, none⟩), .int .i64 x, .int .i64 y, .string body] w fun e w' => e = .returned (.int .i64 0) ∧
      ∃ FP', NetObj 81 w' b FP' (l ++ [⟨x, y, body⟩]) s ∧ Evolves FP FP' w w' := by
  have hx : isEnd x = true := by revert h; cases isEnd x <;> simp
  have hy : isEnd y = true := by revert h; cases isEnd y <;> simp
  have hxy : (x == y) = false := by simpa [hx, hy] using h
  have HX := Lib.hid hx; clear hx h
  have HY := Lib.hid hy; clear hy
  have HH := Lib.hid hh; clear hh
  obtain ⟨v, hb, ho, e⟩ := id hn
  have HE := Lib.hid e; clear e
  have HB := Lib.hid hb
  have HO := Lib.hid ho
  obtain ⟨a, c, hv, hc, hm⟩ := own_shape ho
  subst hv
  have c0 : w.cell? ⟨b, 0, none⟩ = some (.slice a l.length c) := cell_at hb 0
  clear hb ho
  obtain ⟨i0, hi, hz0, hz1, hz2⟩ := info_parts Try.info34
  go_enter Try.func15, Try.ntmps15
  go_wp2_with (first | (go_at_call_of 53 x; refine (end_yes _ _ HX.out).mono ?_; rintro e w' ⟨rfl, rfl⟩) | (go_at_call_of 53 y; refine (end_yes _ _ HY.out).mono ?_; rintro e w' ⟨rfl, rfl⟩) | (go_at_call 20; refine (hear_is b FP l s x y _ hn true HH.out).mono ?_; rintro e w' ⟨rfl, nq, rfl⟩) | (at_builtin; refine wpList_append_own_at _ rfl (.tmp 40) (.tmp 45) 28 rfl 0 34 i0 (.agg #[.int .i64 0, .int .i64 0, .string ⟨#[]⟩]) 3 32 Try.underlying28 hi hz0 hz1 hz2 rfl (by decide) _ l.length (pktCells l) rfl (HO.out.alloc _) ⟨w.heap.size, 0, none⟩ 1 1 [.int .i64 x, .int .i64 y, .string body] rfl rfl ?c1 ?c2 ?c3 ?c4 ?c5 ?_))
  case c1 => exact new_cells_drewN _ _ _ _ _ rfl
  case c2 => exact pkt_oneCell ⟨x, y, body⟩
  case c3 => unfold maxLen; omega
  case c4 => omega
  case c5 => simp
  · intro v' w1 hown hg _ hat
    obtain ⟨k0, k1, FP', hobj, hev⟩ := obj_appended (T := 81) ⟨x, y, body⟩ (by decide) HB.out HO.out (((Turns.refl [] w).drewN nq).trans (Turns.alloc [] _ _)) hown hg (hat.imp id fun h => ⟨_, h, by omega⟩)
    obtain ⟨a', c', rfl, -, -⟩ := own_shape hown
    have HF : Hid (NetObj 81 (w1.setCell ⟨b, 0, none⟩ (.slice a' (l.length + 1) c')) b FP' (l ++ [⟨x, y, body⟩]) s ∧ Evolves (b :: (Value.slice a l.length c).ownBlock.toList) FP' w (w1.setCell ⟨b, 0, none⟩ (.slice a' (l.length + 1) c'))) := ⟨hobj, hev⟩
    clear hobj hev hown hg hat
    go_wp2
    go_ret
    exact ⟨rfl, FP', HF.out.1, HE.out ▸ HF.out.2⟩

end Go.Proofs.Ytmikjninonpejaa
