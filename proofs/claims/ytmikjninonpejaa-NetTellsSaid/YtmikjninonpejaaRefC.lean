/- Contracts of the reference for net: Drop, Copy. -/
import Derived.Test.YtmikjninonpejaaRefB
namespace Go.Proofs.Ytmikjninonpejaa
open Go.RowKit Go.Proofs.YtmikjninonpejaaMem

/-- append onto a slice that the call owns, from nil or a known slice: one step of a region that draws. -/
theorem step_append_src {P : Program} {ops : Array Oper} {o : Oper} {a : Act} {w : World} {K : Act → World → Prop} {Q : Exit → Act → World → Prop} {E : Prop}
    (hg : o.guard = none) (s x : Operand) (t : TypeId) (hop : o.op = Op.call { callee := Callee.builtin Builtin.append, args := #[s, x], argTypes := #[t, t] })
    (e : TypeId) (i : TypeInfo) (z : Value) (size bytes : Nat) (ht : P.underlying t = some (.slice e)) (hi : P.info? e = some i) (hz : i.zero = some z)
    (hsize : i.size = size) (hby : i.bytes = bytes) (hzs : z.cells.size = size) (hsz : 0 < size)
    (v : Value) (n : Nat) (xs : List Value) (hs : a.eval s = v) (hown : w.ownsRow 0 e size v n xs)
    (u : Value) (m : Nat) (news : List Value) (hx : a.eval x = u) (hsrc : SrcAt w u m news) (hl : news.length = m * size) (h1 : ∀ u ∈ news, u.oneCell' = true)
    (h63 : n + m ≤ maxLen) (hbytes : (n + m) * bytes ≤ 140737488355328)
    (hK : ∀ v' w', w'.ownsRow 0 e size v' (n + m) (xs ++ news) → w.grownBy w' v.ownBlock → (v'.ownBlock = v.ownBlock ∨ v'.ownBlock = some w.heap.size) → K (a.put o.dst v') w') :
    if Region.wanted o (yielded ops a.tmps) = true then Oper.wp P o a w K Q else E := by
  have hw : Region.wanted o (yielded ops a.tmps) = true := by simp [Region.wanted, hg]
  rw [if_pos hw]
  obtain ⟨v', w', hr, h2, h3, h5⟩ := run_append_src (P := P) w t o.type e i z size bytes ht hi hz hsize hby hzs hsz v n xs hown u m news hsrc hl h1 h63 hbytes
  unfold Oper.wp
  simp [execOp, hop, resolve, invoke, builtin, hs, hx, hr, Result.andThen]
  exact hK _ _ h2 h3 h5

theorem own_above {w : World} {B : Nat} {e : TypeId} {size : Nat} {v : Value} {n : Nat} {xs : List Value} (h : w.ownsRow 0 e size v n xs) (hb : ∀ x ∈ v.ownBlock.toList, B ≤ x) : w.ownsRow B e size v n xs := by
  refine ⟨h.1, ?_⟩
  rcases h.2 with hn | ⟨g, cap, cur, rfl, hg, r⟩
  · exact .inl hn
  · exact .inr ⟨g, cap, cur, rfl, hb g (by simp [Value.ownBlock]), r⟩
/-- append([]T{}, l...): what it leaves. -/
theorem appended_here {W Wx w6 : World} {v1 : Value} {l : List Pkt} (h0 : Turns [] W Wx) (hown : w6.ownsRow 0 34 3 v1 (0 + l.length) ([] ++ pktCells l)) (hg : Wx.grownBy w6 (Value.slice (some ⟨W.heap.size, 0, none⟩) 0 0).ownBlock)
    (hat : v1.ownBlock = (Value.slice (some ⟨W.heap.size, 0, none⟩) 0 0).ownBlock ∨ ∃ k, v1.ownBlock = some k ∧ W.heap.size ≤ k) :
    w6.ownsRow W.heap.size 34 3 v1 l.length (pktCells l) ∧ Turns [] W w6 ∧ (∀ x ∈ v1.ownBlock.toList, W.heap.size ≤ x) := by
  have hb : ∀ x ∈ v1.ownBlock.toList, W.heap.size ≤ x := fun x hx => by
    rcases hat with h | ⟨k, h, hk⟩
    · rw [h] at hx; simp [Value.ownBlock] at hx; omega
    · rw [h] at hx; simp at hx; omega
  refine ⟨own_above (by simpa using hown) hb, h0.trans_new (Turns.of_grown (S := [W.heap.size]) hg (fun k hk => Or.inl (by simp [Value.ownBlock] at hk; simp [hk]))) (fun x hx => Or.inr (by simp at hx; omega)), hb⟩

set_option maxHeartbeats 400000 in
theorem rdrop_none (b : Nat) (FP : List Nat) (l : List Pkt) (s i : Int) (w : World) (hn : NetObj 51 w b FP l s) (h : i < 0 ∨ (l.length : Int) ≤ i) :
    Calls Try.prog 58 #[.pointer (some ⟨b, 0, none⟩), .int .i64 i] w fun e w' => e = .returned (.int .i64 4) ∧ w = w' := by
  obtain ⟨v, hb, ho, e⟩ := hn
  obtain ⟨a, c, rfl, hc, hm⟩ := own_shape ho
  have c0 : w.cell? ⟨b, 0, none⟩ = some (.slice a l.length c) := cell_at hb 0
  clear hb ho e
  rcases h with h | h
  · have hd : decide (i < 0) = true := decide_eq_true h
    go_enter Try.func58, Try.ntmps58
    go_wp2_with fail
    go_ret
    exact ⟨rfl, rfl⟩
  · have hd : decide (i < 0) = false := decide_eq_false (by omega)
    have hd2 : decide ((l.length : Int) ≤ i) = true := decide_eq_true h
    go_enter Try.func58, Try.ntmps58
    go_wp2_with fail
    go_ret
    exact ⟨rfl, rfl⟩

set_option maxHeartbeats 400000 in
theorem rdrop_some (b : Nat) (FP : List Nat) (l : List Pkt) (s : Int) (k : Nat) (w : World) (hn : NetObj 51 w b FP l s) (hk : k < l.length) (hl : l.length ≤ 1000) :
    Calls Try.prog 58 #[.pointer (some ⟨b, 0, none⟩), .int .i64 k] w fun e w' => e = .returned (.int .i64 0) ∧ ∃ FP', NetObj 51 w' b FP' (l.eraseIdx k) s ∧ Evolves FP FP' w w' := by
  have HN := Lib.hid hn
  obtain ⟨v, hb, ho, e⟩ := hn
  obtain ⟨a, c, rfl, hc, hm⟩ := own_shape ho
  have c0 : w.cell? ⟨b, 0, none⟩ = some (.slice a l.length c) := cell_at hb 0
  clear hb ho e
  have hd : decide ((k : Int) < 0) = false := decide_eq_false (by omega)
  have hd2 : decide ((l.length : Int) ≤ (k : Int)) = false := decide_eq_false (by omega)
  go_enter Try.func58, Try.ntmps58
  go_wp2_with fail
  refine (rremove_any b FP l s k _ HN.out hk hl).mono ?_
  rintro e w1 ⟨rfl, FP1, hn1, hev⟩
  have HN1 := Lib.hid (And.intro hn1 hev); clear hn1 hev
  go_wp2_with fail
  go_ret
  exact ⟨rfl, FP1, HN1.out.1, HN1.out.2⟩

set_option maxHeartbeats 800000 in
set_option maxRecDepth 100000 in
theorem rcopy_any (b : Nat) (FP : List Nat) (l : List Pkt) (s : Int) (w : World) (hn : NetObj 51 w b FP l s) (hl : l.length ≤ 1000) : Calls Try.prog 27 #[.pointer (some ⟨b, 0, none⟩)] w (FreshObj 51 l s w) := by
  obtain ⟨v, hb, ho, -⟩ := hn
  have hbs : b < w.heap.size := lt_of_at hb
  have HB := Lib.hid hb
  have HSRC : Hid (∀ w' : World, (∀ k ∈ v.ownBlock.toList, w'.heap[k]? = w.heap[k]?) → SrcAt w' v l.length (pktCells l)) := fun w' hw => SrcAt.of_own ho hw
  have HLT : Hid (∀ k ∈ v.ownBlock.toList, k < w.heap.size) := own_lt ho
  have HNIL : Hid ((w.alloc (.cells #[] 34)).ownsRow w.heap.size 34 3 (.slice (some ⟨w.heap.size, 0, none⟩) 0 0) 0 []) := World.ownsRow_made w #[] 0 (Nat.le_refl _) (by unfold maxLen; omega) rfl
  obtain ⟨a, c, rfl, hc, hm⟩ := own_shape ho
  have c0 : w.cell? ⟨b, 0, none⟩ = some (.slice a l.length c) := cell_at hb 0
  have c1 : w.cell? ⟨b, 1, none⟩ = some (.int .i64 s) := cell_at hb 1
  have ca : ∀ o, (w.alloc o).cell? ⟨b, 0, none⟩ = some (.slice a l.length c) := fun o => by rw [World.cell?_alloc_past _ _ _ hbs]; exact cell_at hb 0
  have cb : ∀ o, (w.alloc o).cell? ⟨b, 1, none⟩ = some (.int .i64 s) := fun o => by rw [World.cell?_alloc_past _ _ _ hbs]; exact cell_at hb 1
  clear hb ho
  obtain ⟨i0, hi, hz0, hz1, hz2⟩ := info_parts Try.info34
  go_enter Try.func27, Try.ntmps27
  go_wp2_with fail
  go_region_law (refine step_append_src rfl (.tmp 3) (.tmp 7) 28 rfl 34 i0 (.agg #[.int .i64 0, .int .i64 0, .string ⟨#[]⟩]) 3 32 Try.underlying28 hi hz0 hz1 hz2 rfl (by decide) (.slice (some ⟨w.heap.size, 0, none⟩) 0 0) 0 [] (by simp [Act.eval]) (own_base HNIL.out (Nat.zero_le _)) (.slice a l.length c) l.length (pktCells l) (by simp [Act.eval]) (HSRC.out _ (fun k hk => Below.heap_alloc _ _ _ (HLT.out k hk))) (pktCells_length l) (pkts_oneCell _) (by unfold maxLen; omega) (by omega) ?_; intro v1 w6 hown1 hg1 hat1; have HW6 := Lib.hid (appended_here ((Turns.alloc [] w _).drew) hown1 hg1 (hat1.imp id fun h => ⟨_, h, by simp⟩)); clear hown1 hg1 hat1; obtain ⟨a1, n1, hv1, -⟩ := own_shape HW6.out.1; subst hv1; have c6 : w6.cell? ⟨b, 1, none⟩ = some (.int .i64 s) := (HW6.out.2.1.cell (a := ⟨b, 1, none⟩) hbs (by simp)).trans (cell_at HB.out 1))
  all_goals
    go_wp2
    go_ret
    exact freshObj_of (n := 0) HW6.out.1 HW6.out.2.1 rfl

end Go.Proofs.Ytmikjninonpejaa
