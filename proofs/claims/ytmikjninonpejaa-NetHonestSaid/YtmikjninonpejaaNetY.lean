/- Statements about net: NetHonest, the walk. -/
import Derived.Test.YtmikjninonpejaaNetX
import Derived.Deep.RegionHeld3
namespace Go.Proofs.Ytmikjninonpejaa
open Go.RowKit Go.Proofs.YtmikjninonpejaaMem

theorem op_fail {l : List Pkt} {s : Int} {o : NOp} (h : opCode l s o ≠ 0) : opPkt l s o = noPkt := by
  unfold opPkt
  split
  · rename_i h3
    have e : opCode l s o = deliverCode l s o.n := by simp [opCode, h3]
    rw [e] at h
    simp [deliverPkt, h]
  · rfl
theorem op_len {l : List Pkt} {s : Int} (o : NOp) : (opList l s o).length ≤ l.length + 1 := by
  have hw : ∀ i, (without l i).length ≤ l.length := fun i => by unfold without; split; exact List.length_eraseIdx_le _ _; exact Nat.le_refl _
  have hd : (doubled l o.n).length ≤ l.length + 1 := by unfold doubled; split <;> simp
  have hs : (sendList l s o.n o.to o.s).length ≤ l.length + 1 := by unfold sendList; split <;> simp
  have := hw o.n
  unfold opList
  split
  · omega
  split
  · omega
  split
  · omega
  split
  · omega
  split <;> omega
/-- A failed operation adds nothing. -/
theorem inv_fail {M G l : List Pkt} {s : Int} {o : NOp} (h : opCode l s o ≠ 0) (hi : Inv M G l) : Inv M G (opList l s o) := by
  have hw : ∀ i, Inv M G (without l i) := fun i => by unfold without; split; exact hi.erase _; exact hi
  unfold opList
  split
  · exact hw _
  split
  · exact hw _
  split
  · rename_i h3 h4 h5
    have e : opCode l s o = doubleCode l o.n := by simp [opCode, h5]
    rw [e] at h
    simp only [doubled, if_neg h]; exact hi
  split
  · exact hi
  split
  · exact hi
  · rename_i h3 h4 h5 h6 h7
    have e : opCode l s o = sendCode l s o.n o.to := by simp [opCode, h3, h4, h5, h6, h7]
    rw [e] at h
    simp only [sendList, if_neg h]; exact hi
theorem send_zero {l : List Pkt} {s x y : Int} (h : sendCode l s x y = 0) : hears s x y = true ∧ (x == y) = false := by
  unfold sendCode at h
  split at h
  · simp at h
  rename_i h1
  split at h
  · simp at h
  rename_i h2
  exact ⟨by simpa using h2, by cases hxy : (x == y) <;> simp_all⟩
theorem deliver_zero {l : List Pkt} {s i : Int} (h : deliverCode l s i = 0) : ∃ k : Nat, ∃ hk : k < l.length, i = k ∧ hears s l[k].src l[k].dst = true ∧ deliverPkt l s i = l[k] ∧ without l i = l.eraseIdx k := by
  unfold deliverCode at h
  cases hi : inList l i
  · simp [hi] at h
  · obtain ⟨k, rfl, hk⟩ := inList_yes hi
    have e0 : pktAt l k = l[k] := by simp [pktAt, hk]
    rw [hi, if_pos rfl, e0] at h
    have hh : hears s l[k].src l[k].dst = true := by
      cases hb : hears s l[k].src l[k].dst
      · rw [hb] at h; simp at h
      · rfl
    have hc : deliverCode l s k = 0 := by simp [deliverCode, hi, e0, hh]
    exact ⟨k, hk, rfl, hh, by simp [deliverPkt, hc, e0], by simp [without, hi]⟩
theorem double_zero {l : List Pkt} {i : Int} (h : doubleCode l i = 0) : ∃ k : Nat, ∃ hk : k < l.length, i = k ∧ doubled l i = l ++ [l[k]] := by
  cases hi : inList l i
  · simp [doubleCode, hi] at h
  · obtain ⟨k, rfl, hk⟩ := inList_yes hi
    exact ⟨k, hk, rfl, by simp [doubled, h, pktAt, hk]⟩
/-- append([]T{}, l...): what it leaves. -/
theorem appended_new {W w6 : World} {o : Obj} {v1 : Value} {l : List Pkt} (hown : w6.ownsRow 0 34 3 v1 l.length (pktCells l)) (hg : (W.alloc o).grownBy w6 (Value.slice (some ⟨W.heap.size, 0, none⟩) 0 0).ownBlock)
    (hat : v1.ownBlock = (Value.slice (some ⟨W.heap.size, 0, none⟩) 0 0).ownBlock ∨ v1.ownBlock = some (W.heap.size + 1)) :
    (pktThing v1 l).holds w6 v1.ownBlock.toList ∧ Turns [] W w6 ∧ (∀ x ∈ v1.ownBlock.toList, W.heap.size ≤ x) := by
  refine ⟨⟨by simpa using hown, rfl⟩, (Turns.alloc [] W o).trans_new (Turns.of_grown (S := [W.heap.size]) hg (fun k hk => Or.inl (by simp [Value.ownBlock] at hk; simp [hk]))) (fun x hx => Or.inr (by simp at hx; omega)), fun x hx => ?_⟩
  rcases hat with h | h
  · rw [h] at hx; simp [Value.ownBlock] at hx; omega
  · rw [h] at hx; simp at hx; omega
theorem pkts_appended {w w1 : World} {l m : List Pkt} {v v' : Value}
    (hown : w1.ownsRow 0 34 3 v' (l.length + m.length) (pktCells l ++ pktCells m)) (hg : w.grownBy w1 v.ownBlock) (hat : v'.ownBlock = v.ownBlock ∨ v'.ownBlock = some w.heap.size) :
    (pktThing v' (l ++ m)).holds w1 v'.ownBlock.toList ∧ Evolves v.ownBlock.toList v'.ownBlock.toList w w1 := by
  refine ⟨⟨?_, rfl⟩, Turns.of_grown hg (fun k hk => Or.inl (by simp [hk])), fun x hx => ?_⟩
  · rw [pktCells_append, List.length_append]
    exact hown
  · rcases hat with h | h
    · rw [h] at hx; exact Or.inl hx
    · rw [h] at hx; simp at hx; omega
theorem held_step {wr W wq : World} {a0 a1 a2 : Addr} {v0 v1 v2 : Value} (h : Turns [] wr W ∧ W.cell? a0 = some v0 ∧ W.cell? a1 = some v1 ∧ W.cell? a2 = some v2) (hq : Turns [] W wq) :
    Turns [] wr wq ∧ wq.cell? a0 = some v0 ∧ wq.cell? a1 = some v1 ∧ wq.cell? a2 = some v2 :=
  ⟨h.1.trans hq, (hq.cell (World.block_lt_of_cell? W _ h.2.1) (by simp)).trans h.2.1, (hq.cell (World.block_lt_of_cell? W _ h.2.2.1) (by simp)).trans h.2.2.1, (hq.cell (World.block_lt_of_cell? W _ h.2.2.2) (by simp)).trans h.2.2.2⟩
theorem count_turns (v : Value) (l : List Pkt) (p : Pkt) (w : World) (h1 : PktsAt w v l) (hm1 : l.length ≤ 2000) :
    Calls Try.prog 25 #[v, .agg #[.int .i64 p.src, .int .i64 p.dst, .string p.body]] w fun e w' => e = .returned (.int .i64 (cnt l p)) ∧ Turns [] w w' :=
  (count_pkt v l p w h1 hm1).mono fun _ _ ⟨he, n, hw⟩ => ⟨he, hw ▸ (Turns.alloc _ _ _).drewN n⟩

set_option maxHeartbeats 20000000 in
set_option maxRecDepth 100000 in
theorem honest_walk (a : Option Addr) (cap : Nat) (ops : List NOp) (w : World) (hops : OpsAt w a ops) :
    Calls Try.prog 5 #[.slice a ops.length cap] w fun e w' => e = .returned (.bool true) ∧ Below w.heap.size w w' := by
  have HO := Lib.hid hops; clear hops
  cases hfew : fewB ops 200
  · have HF := Lib.hid hfew; clear hfew
    go_enter Try.func5, Try.ntmps5
    go_wp2_with fail
    refine (small_any _).mono ?_
    rintro e w1 ⟨rfl, h1⟩
    have H1 := Lib.hid ((Sep.start w).quiet h1); clear h1
    go_wp2_with fail
    refine (new_fresh w [] _ H1.out).mono ?_
    rintro e w2 ⟨n, rfl, h2⟩
    have H2 := Lib.hid h2; clear h2
    go_wp2_with fail
    refine (few_is a cap ops 200 _ (HO.out.below H2.out.below) false HF.out).mono ?_
    rintro e w3 ⟨rfl, rfl⟩
    go_wp2_with fail
    go_ret
    exact ⟨rfl, H2.out.below⟩
  · have hol := few_len hfew
    have HF := Lib.hid hfew; clear hfew
    have hol2 : ops.length ≤ 200 := by omega
    go_enter Try.func5, Try.ntmps5
    go_wp2_with fail
    refine (small_any _).mono ?_
    rintro e w1 ⟨rfl, h1⟩
    have H1 := Lib.hid ((Sep.start w).quiet h1); clear h1
    go_wp2_with fail
    refine (new_fresh w [] _ H1.out).mono ?_
    rintro e w2 ⟨n, rfl, h2⟩
    have H2 := Lib.hid h2; clear h2
    go_wp2_with fail
    refine (few_is a cap ops 200 _ (HO.out.below H2.out.below) true HF.out).mono ?_
    rintro e w3 ⟨rfl, rfl⟩
    go_wp2_with fail
    have H3 : Hid (Sep w w2 [pktThing (.slice none 0 0) [], pktThing (.slice none 0 0) [], netThing 81 n [] 0]) :=
      (H2.out.add (t := pktThing (.slice none 0 0) []) (FP := []) (Turns.refl _ _) ⟨World.ownsRow_nil _ _ _ _, rfl⟩ (by simp)).add (t := pktThing (.slice none 0 0) []) (FP := []) (Turns.refl _ _) ⟨World.ownsRow_nil _ _ _ _, rfl⟩ (by simp)
    obtain ⟨i0, hi, hz0, hz1, hz2⟩ := info_parts Try.info34
    have hne := neq34
    have hnn : samePkt ⟨0, 0, ⟨#[]⟩⟩ ⟨0, 0, ⟨#[]⟩⟩ = true := (samePkt_iff _ _).2 rfl
    go_loopw [5, 6, 7] (fun vm vg i wr => ∃ (k : Nat) (M G L : List Pkt) (s : Int), k ≤ ops.length ∧ M.length ≤ k ∧ G.length ≤ k ∧ L.length ≤ k ∧ i = .int .i64 k ∧ Hid (Inv M G L) ∧ Hid (Sep w wr [pktThing vm M, pktThing vg G, netThing 81 n L s])) (fun _ _ i _ => ops.length - (intOf i).toNat)
    case atStart => exact ⟨0, [], [], [], 0, Nat.zero_le _, Nat.le_refl _, Nat.le_refl _, Nat.le_refl _, rfl, Inv.nil, H3⟩
    case round =>
      obtain ⟨k, M, G, L, s, hk, hM, hG, hL, rfl, hinv, hsep⟩ := hrel
      by_cases hlt : k < ops.length
      · obtain ⟨b, off, rfl, c0, c1, c2, c3⟩ := HO.out.below hsep.out.below k hlt
        obtain ⟨o, ho⟩ : ∃ o, o = ops[k] := ⟨_, rfl⟩
        rw [← ho] at c0 c1 c2 c3
        clear ho
        have hlt2 : (k : Int) < (ops.length : Int) := by omega
        go_wp2_with fail
        have hS2 : Sep w (wr.alloc (.cells #[.int .i64 o.doo, .int .i64 o.n, .int .i64 o.to, .string o.s] 30)) [blockThing wr.heap.size (.cells #[.int .i64 o.doo, .int .i64 o.n, .int .i64 o.to, .string o.s] 30), pktThing u5 M, pktThing u6 G, netThing 81 n L s] := hsep.out.alloc _
        refine (list_sep [blockThing wr.heap.size (.cells #[.int .i64 o.doo, .int .i64 o.n, .int .i64 o.to, .string o.s] 30), pktThing u5 M, pktThing u6 G] [] n L s _ hS2 (by omega)).mono ?_
        rintro e w3 ⟨vB, rfl, h3⟩
        generalize hxb : wr.heap.size = xb at h3 ⊢
        clear hS2 hsep hxb
        have hx3 := h3.block [pktThing vB L] _
        have x0 : w3.cell? ⟨xb, 0, none⟩ = some (.int .i64 o.doo) := cell_at hx3 0
        have x1 : w3.cell? ⟨xb, 1, none⟩ = some (.int .i64 o.n) := cell_at hx3 1
        have x2 : w3.cell? ⟨xb, 2, none⟩ = some (.int .i64 o.to) := cell_at hx3 2
        have x3 : w3.cell? ⟨xb, 3, none⟩ = some (.string o.s) := cell_at hx3 3
        have H3' := Lib.hid h3; clear h3 hx3 c0 c1 c2 c3
        go_wp2_with fail
        refine (do_any [pktThing vB L, blockThing xb (.cells #[.int .i64 o.doo, .int .i64 o.n, .int .i64 o.to, .string o.s] 30), pktThing u5 M, pktThing u6 G] [] n L s o _ H3'.out (by omega)).mono ?_
        rintro e w4 ⟨rfl, h4⟩
        clear x0 x1 x2 x3 H3'
        by_cases hc : opCode L s o = 0
        · rw [hc]
          obtain ⟨P, hp⟩ : ∃ P, P = opPkt L s o := ⟨_, rfl⟩
          obtain ⟨L2, hl2⟩ : ∃ L2, L2 = opList L s o := ⟨_, rfl⟩
          obtain ⟨s2, hs2⟩ : ∃ s2, s2 = opSplit s o := ⟨_, rfl⟩
          rw [← hp]
          rw [← hl2, ← hs2] at h4
          have HHc := Lib.hid (And.intro hc (And.intro hp (And.intro hl2 hs2))); clear hc hp hl2 hs2
          have h6 := h4.alloc (.cells #[.int .i64 P.src, .int .i64 P.dst, .string P.body] 34)
          have hw4 : Hid (∀ o' : Obj, (w4.alloc o').heap[xb]? = some (.cells #[.int .i64 o.doo, .int .i64 o.n, .int .i64 o.to, .string o.s] 30 (0, 0))) := fun o' => (h4.quiet (Turns.alloc [] _ o')).block [pktThing vB L] _
          have x0 : ∀ o', (w4.alloc o').cell? ⟨xb, 0, none⟩ = some (.int .i64 o.doo) := fun o' => cell_at (hw4.out o') 0
          have x1 : ∀ o', (w4.alloc o').cell? ⟨xb, 1, none⟩ = some (.int .i64 o.n) := fun o' => cell_at (hw4.out o') 1
          have x2 : ∀ o', (w4.alloc o').cell? ⟨xb, 2, none⟩ = some (.int .i64 o.to) := fun o' => cell_at (hw4.out o') 2
          have x3 : ∀ o', (w4.alloc o').cell? ⟨xb, 3, none⟩ = some (.string o.s) := fun o' => cell_at (hw4.out o') 3
          have H6 := Lib.hid h6; clear h6 h4
          have hr := kind_range o
          obtain ⟨hc, hp, hl2, hs2⟩ := HHc.out
          by_cases hkd : kindOf o = 0
          · have t0 : (bits .and .i64 o.doo 7 == 0) = true := by have := hkd; unfold kindOf at this; rw [this]; rfl
            have t1 : (bits .and .i64 o.doo 7 == 1) = false := by have := hkd; unfold kindOf at this; rw [this]; rfl
            have t2 : (bits .and .i64 o.doo 7 == 2) = false := by have := hkd; unfold kindOf at this; rw [this]; rfl
            have t3 : (bits .and .i64 o.doo 7 == 3) = false := by have := hkd; unfold kindOf at this; rw [this]; rfl
            have t5 : (bits .and .i64 o.doo 7 == 5) = false := by have := hkd; unfold kindOf at this; rw [this]; rfl
            have hcs : opCode L s o = sendCode L s o.n o.to := by simp [opCode, hkd]
            have hz := send_zero (hcs ▸ hc)
            have hL2 : opList L s o = L ++ [⟨o.n, o.to, o.s⟩] := by rw [hcs] at hc; simp [opList, hkd, sendList, hc]
            have hS2 : opSplit s o = s := by simp [opSplit, hkd]
            have HR : Hid (hears s2 o.n o.to = true) := by show _ = _; rw [hs2, hS2]; exact hz.1
            have hne3 := hz.2
            have HL : Hid (L2 = L ++ [⟨o.n, o.to, o.s⟩]) := hl2.trans hL2
            clear hcs hz hL2 hS2 hkd hc hp hl2 hs2
            go_wp2_with fail
            refine (hear_sep [blockThing w4.heap.size (.cells #[.int .i64 P.src, .int .i64 P.dst, .string P.body] 34), pktThing vB L, blockThing xb (.cells #[.int .i64 o.doo, .int .i64 o.n, .int .i64 o.to, .string o.s] 30), pktThing u5 M, pktThing u6 G] [] n L2 s2 o.n o.to true _ H6.out HR.out).mono ?_
            rintro e w7 ⟨rfl, q7, rfl⟩
            have H7 : Hid (Sep w ((w4.alloc (Obj.cells #[.int .i64 P.src, .int .i64 P.dst, .string P.body] 34)).drewN q7) [blockThing w4.heap.size (.cells #[.int .i64 P.src, .int .i64 P.dst, .string P.body] 34), pktThing vB L, blockThing xb (.cells #[.int .i64 o.doo, .int .i64 o.n, .int .i64 o.to, .string o.s] 30), pktThing u5 M, pktThing u6 G, netThing 81 n L2 s2]) := H6.out.quiet ((Turns.refl _ _).drewN q7)
            generalize hW7 : ((w4.alloc (Obj.cells #[.int .i64 P.src, .int .i64 P.dst, .string P.body] 34)).drewN q7) = W7 at H7 ⊢
            clear hW7
            have hx7 := H7.out.block [blockThing w4.heap.size (.cells #[.int .i64 P.src, .int .i64 P.dst, .string P.body] 34), pktThing vB L] _
            have x0 : W7.cell? ⟨xb, 0, none⟩ = some (.int .i64 o.doo) := cell_at hx7 0
            have x1 : W7.cell? ⟨xb, 1, none⟩ = some (.int .i64 o.n) := cell_at hx7 1
            have x2 : W7.cell? ⟨xb, 2, none⟩ = some (.int .i64 o.to) := cell_at hx7 2
            have x3 : W7.cell? ⟨xb, 3, none⟩ = some (.string o.s) := cell_at hx7 3
            have hp7 := H7.out.block [] _
            have p0 : W7.cell? ⟨w4.heap.size, 0, none⟩ = some (.int .i64 P.src) := cell_at hp7 0
            have p1 : W7.cell? ⟨w4.heap.size, 1, none⟩ = some (.int .i64 P.dst) := cell_at hp7 1
            have p2 : W7.cell? ⟨w4.heap.size, 2, none⟩ = some (.string P.body) := cell_at hp7 2
            clear hx7 hp7
            obtain ⟨FP, hF, -, step⟩ := H7.out.pick [blockThing w4.heap.size (.cells #[.int .i64 P.src, .int .i64 P.dst, .string P.body] 34), pktThing vB L, blockThing xb (.cells #[.int .i64 o.doo, .int .i64 o.n, .int .i64 o.to, .string o.s] 30)] (pktThing u5 M) [pktThing u6 G, netThing 81 n L2 s2]
            have HS := Lib.hid (And.intro hF step); clear hF step
            go_wp2_with (at_builtin; refine wpList_append_own_at _ rfl (.tmp 72) (.tmp 80) 28 rfl 0 34 i0 (.agg #[.int .i64 0, .int .i64 0, .string ⟨#[]⟩]) 3 32 Try.underlying28 hi hz0 hz1 hz2 rfl (by decide) _ M.length (pktCells M) rfl (HS.out.1.1.alloc _) ⟨W7.heap.size, 0, none⟩ 1 1 (⟨o.n, o.to, o.s⟩ : Pkt).cells rfl rfl (new_cells _ _ _ _ rfl) (pkt_oneCell _) (by unfold maxLen; omega) (by omega) (Nat.zero_le _) ?_)
            intro v' w9 hown hg _ hat
            obtain ⟨hh, hev⟩ := pkt_appended (⟨o.n, o.to, o.s⟩ : Pkt) (Turns.alloc [] W7 _) hown hg (hat.imp id fun h => ⟨_, h, by simp⟩)
            have h9 := HS.out.2 _ _ _ (HS.out.1.2 ▸ hev) hh
            have H9 : Hid (Sep w w9 [pktThing v' (M ++ [⟨o.n, o.to, o.s⟩]), pktThing u6 G, netThing 81 n L2 s2]) := h9.drop.drop.drop
            clear h9 hh hev hown hg hat HS H7
            go_wp2_with fail
            go_roundw
            case rel => exact ⟨k + 1, M ++ [⟨o.n, o.to, o.s⟩], G, L2, s2, by omega, by simp; omega, by omega, by rw [HL.out]; simp; omega, by go_num, by show Inv _ _ _; rw [HL.out]; exact hinv.out.both _, H9⟩
            case measure => simp [intOf]; omega
          by_cases hkd : kindOf o = 1
          · have t0 : (bits .and .i64 o.doo 7 == 0) = false := by have := hkd; unfold kindOf at this; rw [this]; rfl
            have t1 : (bits .and .i64 o.doo 7 == 1) = true := by have := hkd; unfold kindOf at this; rw [this]; rfl
            have t2 : (bits .and .i64 o.doo 7 == 2) = false := by have := hkd; unfold kindOf at this; rw [this]; rfl
            have t3 : (bits .and .i64 o.doo 7 == 3) = false := by have := hkd; unfold kindOf at this; rw [this]; rfl
            have t5 : (bits .and .i64 o.doo 7 == 5) = false := by have := hkd; unfold kindOf at this; rw [this]; rfl
            have hcs : opCode L s o = sendCode L s o.n o.to := by simp [opCode, hkd]
            have hz := send_zero (hcs ▸ hc)
            have hL2 : opList L s o = L ++ [⟨o.n, o.to, o.s⟩] := by rw [hcs] at hc; simp [opList, hkd, sendList, hc]
            have hS2 : opSplit s o = s := by simp [opSplit, hkd]
            have HR : Hid (hears s2 o.n o.to = true) := by show _ = _; rw [hs2, hS2]; exact hz.1
            have hne3 := hz.2
            have HL : Hid (L2 = L ++ [⟨o.n, o.to, o.s⟩]) := hl2.trans hL2
            clear hcs hz hL2 hS2 hkd hc hp hl2 hs2
            go_wp2_with fail
            refine (hear_sep [blockThing w4.heap.size (.cells #[.int .i64 P.src, .int .i64 P.dst, .string P.body] 34), pktThing vB L, blockThing xb (.cells #[.int .i64 o.doo, .int .i64 o.n, .int .i64 o.to, .string o.s] 30), pktThing u5 M, pktThing u6 G] [] n L2 s2 o.n o.to true _ H6.out HR.out).mono ?_
            rintro e w7 ⟨rfl, q7, rfl⟩
            have H7 : Hid (Sep w ((w4.alloc (Obj.cells #[.int .i64 P.src, .int .i64 P.dst, .string P.body] 34)).drewN q7) [blockThing w4.heap.size (.cells #[.int .i64 P.src, .int .i64 P.dst, .string P.body] 34), pktThing vB L, blockThing xb (.cells #[.int .i64 o.doo, .int .i64 o.n, .int .i64 o.to, .string o.s] 30), pktThing u5 M, pktThing u6 G, netThing 81 n L2 s2]) := H6.out.quiet ((Turns.refl _ _).drewN q7)
            generalize hW7 : ((w4.alloc (Obj.cells #[.int .i64 P.src, .int .i64 P.dst, .string P.body] 34)).drewN q7) = W7 at H7 ⊢
            clear hW7
            have hx7 := H7.out.block [blockThing w4.heap.size (.cells #[.int .i64 P.src, .int .i64 P.dst, .string P.body] 34), pktThing vB L] _
            have x0 : W7.cell? ⟨xb, 0, none⟩ = some (.int .i64 o.doo) := cell_at hx7 0
            have x1 : W7.cell? ⟨xb, 1, none⟩ = some (.int .i64 o.n) := cell_at hx7 1
            have x2 : W7.cell? ⟨xb, 2, none⟩ = some (.int .i64 o.to) := cell_at hx7 2
            have x3 : W7.cell? ⟨xb, 3, none⟩ = some (.string o.s) := cell_at hx7 3
            have hp7 := H7.out.block [] _
            have p0 : W7.cell? ⟨w4.heap.size, 0, none⟩ = some (.int .i64 P.src) := cell_at hp7 0
            have p1 : W7.cell? ⟨w4.heap.size, 1, none⟩ = some (.int .i64 P.dst) := cell_at hp7 1
            have p2 : W7.cell? ⟨w4.heap.size, 2, none⟩ = some (.string P.body) := cell_at hp7 2
            clear hx7 hp7
            obtain ⟨FP, hF, -, step⟩ := H7.out.pick [blockThing w4.heap.size (.cells #[.int .i64 P.src, .int .i64 P.dst, .string P.body] 34), pktThing vB L, blockThing xb (.cells #[.int .i64 o.doo, .int .i64 o.n, .int .i64 o.to, .string o.s] 30)] (pktThing u5 M) [pktThing u6 G, netThing 81 n L2 s2]
            have HS := Lib.hid (And.intro hF step); clear hF step
            go_wp2_with (at_builtin; refine wpList_append_own_at _ rfl (.tmp 72) (.tmp 80) 28 rfl 0 34 i0 (.agg #[.int .i64 0, .int .i64 0, .string ⟨#[]⟩]) 3 32 Try.underlying28 hi hz0 hz1 hz2 rfl (by decide) _ M.length (pktCells M) rfl (HS.out.1.1.alloc _) ⟨W7.heap.size, 0, none⟩ 1 1 (⟨o.n, o.to, o.s⟩ : Pkt).cells rfl rfl (new_cells _ _ _ _ rfl) (pkt_oneCell _) (by unfold maxLen; omega) (by omega) (Nat.zero_le _) ?_)
            intro v' w9 hown hg _ hat
            obtain ⟨hh, hev⟩ := pkt_appended (⟨o.n, o.to, o.s⟩ : Pkt) (Turns.alloc [] W7 _) hown hg (hat.imp id fun h => ⟨_, h, by simp⟩)
            have h9 := HS.out.2 _ _ _ (HS.out.1.2 ▸ hev) hh
            have H9 : Hid (Sep w w9 [pktThing v' (M ++ [⟨o.n, o.to, o.s⟩]), pktThing u6 G, netThing 81 n L2 s2]) := h9.drop.drop.drop
            clear h9 hh hev hown hg hat HS H7
            go_wp2_with fail
            go_roundw
            case rel => exact ⟨k + 1, M ++ [⟨o.n, o.to, o.s⟩], G, L2, s2, by omega, by simp; omega, by omega, by rw [HL.out]; simp; omega, by go_num, by show Inv _ _ _; rw [HL.out]; exact hinv.out.both _, H9⟩
            case measure => simp [intOf]; omega
          by_cases hkd : kindOf o = 2
          · have t0 : (bits .and .i64 o.doo 7 == 0) = false := by have := hkd; unfold kindOf at this; rw [this]; rfl
            have t1 : (bits .and .i64 o.doo 7 == 1) = false := by have := hkd; unfold kindOf at this; rw [this]; rfl
            have t2 : (bits .and .i64 o.doo 7 == 2) = true := by have := hkd; unfold kindOf at this; rw [this]; rfl
            have t3 : (bits .and .i64 o.doo 7 == 3) = false := by have := hkd; unfold kindOf at this; rw [this]; rfl
            have t5 : (bits .and .i64 o.doo 7 == 5) = false := by have := hkd; unfold kindOf at this; rw [this]; rfl
            have hcs : opCode L s o = sendCode L s o.n o.to := by simp [opCode, hkd]
            have hz := send_zero (hcs ▸ hc)
            have hL2 : opList L s o = L ++ [⟨o.n, o.to, o.s⟩] := by rw [hcs] at hc; simp [opList, hkd, sendList, hc]
            have hS2 : opSplit s o = s := by simp [opSplit, hkd]
            have HR : Hid (hears s2 o.n o.to = true) := by show _ = _; rw [hs2, hS2]; exact hz.1
            have hne3 := hz.2
            have HL : Hid (L2 = L ++ [⟨o.n, o.to, o.s⟩]) := hl2.trans hL2
            clear hcs hz hL2 hS2 hkd hc hp hl2 hs2
            go_wp2_with fail
            refine (hear_sep [blockThing w4.heap.size (.cells #[.int .i64 P.src, .int .i64 P.dst, .string P.body] 34), pktThing vB L, blockThing xb (.cells #[.int .i64 o.doo, .int .i64 o.n, .int .i64 o.to, .string o.s] 30), pktThing u5 M, pktThing u6 G] [] n L2 s2 o.n o.to true _ H6.out HR.out).mono ?_
            rintro e w7 ⟨rfl, q7, rfl⟩
            have H7 : Hid (Sep w ((w4.alloc (Obj.cells #[.int .i64 P.src, .int .i64 P.dst, .string P.body] 34)).drewN q7) [blockThing w4.heap.size (.cells #[.int .i64 P.src, .int .i64 P.dst, .string P.body] 34), pktThing vB L, blockThing xb (.cells #[.int .i64 o.doo, .int .i64 o.n, .int .i64 o.to, .string o.s] 30), pktThing u5 M, pktThing u6 G, netThing 81 n L2 s2]) := H6.out.quiet ((Turns.refl _ _).drewN q7)
            generalize hW7 : ((w4.alloc (Obj.cells #[.int .i64 P.src, .int .i64 P.dst, .string P.body] 34)).drewN q7) = W7 at H7 ⊢
            clear hW7
            have hx7 := H7.out.block [blockThing w4.heap.size (.cells #[.int .i64 P.src, .int .i64 P.dst, .string P.body] 34), pktThing vB L] _
            have x0 : W7.cell? ⟨xb, 0, none⟩ = some (.int .i64 o.doo) := cell_at hx7 0
            have x1 : W7.cell? ⟨xb, 1, none⟩ = some (.int .i64 o.n) := cell_at hx7 1
            have x2 : W7.cell? ⟨xb, 2, none⟩ = some (.int .i64 o.to) := cell_at hx7 2
            have x3 : W7.cell? ⟨xb, 3, none⟩ = some (.string o.s) := cell_at hx7 3
            have hp7 := H7.out.block [] _
            have p0 : W7.cell? ⟨w4.heap.size, 0, none⟩ = some (.int .i64 P.src) := cell_at hp7 0
            have p1 : W7.cell? ⟨w4.heap.size, 1, none⟩ = some (.int .i64 P.dst) := cell_at hp7 1
            have p2 : W7.cell? ⟨w4.heap.size, 2, none⟩ = some (.string P.body) := cell_at hp7 2
            clear hx7 hp7
            obtain ⟨FP, hF, -, step⟩ := H7.out.pick [blockThing w4.heap.size (.cells #[.int .i64 P.src, .int .i64 P.dst, .string P.body] 34), pktThing vB L, blockThing xb (.cells #[.int .i64 o.doo, .int .i64 o.n, .int .i64 o.to, .string o.s] 30)] (pktThing u5 M) [pktThing u6 G, netThing 81 n L2 s2]
            have HS := Lib.hid (And.intro hF step); clear hF step
            go_wp2_with (at_builtin; refine wpList_append_own_at _ rfl (.tmp 72) (.tmp 80) 28 rfl 0 34 i0 (.agg #[.int .i64 0, .int .i64 0, .string ⟨#[]⟩]) 3 32 Try.underlying28 hi hz0 hz1 hz2 rfl (by decide) _ M.length (pktCells M) rfl (HS.out.1.1.alloc _) ⟨W7.heap.size, 0, none⟩ 1 1 (⟨o.n, o.to, o.s⟩ : Pkt).cells rfl rfl (new_cells _ _ _ _ rfl) (pkt_oneCell _) (by unfold maxLen; omega) (by omega) (Nat.zero_le _) ?_)
            intro v' w9 hown hg _ hat
            obtain ⟨hh, hev⟩ := pkt_appended (⟨o.n, o.to, o.s⟩ : Pkt) (Turns.alloc [] W7 _) hown hg (hat.imp id fun h => ⟨_, h, by simp⟩)
            have h9 := HS.out.2 _ _ _ (HS.out.1.2 ▸ hev) hh
            have H9 : Hid (Sep w w9 [pktThing v' (M ++ [⟨o.n, o.to, o.s⟩]), pktThing u6 G, netThing 81 n L2 s2]) := h9.drop.drop.drop
            clear h9 hh hev hown hg hat HS H7
            go_wp2_with fail
            go_roundw
            case rel => exact ⟨k + 1, M ++ [⟨o.n, o.to, o.s⟩], G, L2, s2, by omega, by simp; omega, by omega, by rw [HL.out]; simp; omega, by go_num, by show Inv _ _ _; rw [HL.out]; exact hinv.out.both _, H9⟩
            case measure => simp [intOf]; omega
          by_cases hkd : kindOf o = 3
          · have t0 : (bits .and .i64 o.doo 7 == 0) = false := by have := hkd; unfold kindOf at this; rw [this]; rfl
            have t1 : (bits .and .i64 o.doo 7 == 1) = false := by have := hkd; unfold kindOf at this; rw [this]; rfl
            have t2 : (bits .and .i64 o.doo 7 == 2) = false := by have := hkd; unfold kindOf at this; rw [this]; rfl
            have t3 : (bits .and .i64 o.doo 7 == 3) = true := by have := hkd; unfold kindOf at this; rw [this]; rfl
            have t5 : (bits .and .i64 o.doo 7 == 5) = false := by have := hkd; unfold kindOf at this; rw [this]; rfl
            have hcs : opCode L s o = deliverCode L s o.n := by simp [opCode, hkd]
            obtain ⟨m, hm, hom, hhear, hpk, hwo⟩ := deliver_zero (hcs ▸ hc)
            have hP2 : opPkt L s o = L[m] := by simp [opPkt, hkd, hpk]
            have hL2 : opList L s o = L.eraseIdx m := by simp [opList, hkd, hwo]
            have hS2 : opSplit s o = s := by simp [opSplit, hkd]
            have HPm : Hid (P = L[m]) := hp.trans hP2
            have HR : Hid (hears s2 P.src P.dst = true) := by show _ = _; rw [hs2, hS2, HPm.out]; exact hhear
            have HL : Hid (L2 = L.eraseIdx m) := hl2.trans hL2
            clear hcs hhear hpk hwo hP2 hL2 hS2 hkd hc hp hl2 hs2 hom
            go_wp2_with fail
            refine (hear_sep [blockThing w4.heap.size (.cells #[.int .i64 P.src, .int .i64 P.dst, .string P.body] 34), pktThing vB L, blockThing xb (.cells #[.int .i64 o.doo, .int .i64 o.n, .int .i64 o.to, .string o.s] 30), pktThing u5 M, pktThing u6 G] [] n L2 s2 P.src P.dst true _ H6.out HR.out).mono ?_
            rintro e w7 ⟨rfl, q7, rfl⟩
            have H7 : Hid (Sep w ((w4.alloc (Obj.cells #[.int .i64 P.src, .int .i64 P.dst, .string P.body] 34)).drewN q7) [blockThing w4.heap.size (.cells #[.int .i64 P.src, .int .i64 P.dst, .string P.body] 34), pktThing vB L, blockThing xb (.cells #[.int .i64 o.doo, .int .i64 o.n, .int .i64 o.to, .string o.s] 30), pktThing u5 M, pktThing u6 G, netThing 81 n L2 s2]) := H6.out.quiet ((Turns.refl _ _).drewN q7)
            generalize hW7 : ((w4.alloc (Obj.cells #[.int .i64 P.src, .int .i64 P.dst, .string P.body] 34)).drewN q7) = W7 at H7 ⊢
            clear hW7
            have hx7 := H7.out.block [blockThing w4.heap.size (.cells #[.int .i64 P.src, .int .i64 P.dst, .string P.body] 34), pktThing vB L] _
            have x0 : W7.cell? ⟨xb, 0, none⟩ = some (.int .i64 o.doo) := cell_at hx7 0
            have x1 : W7.cell? ⟨xb, 1, none⟩ = some (.int .i64 o.n) := cell_at hx7 1
            have x2 : W7.cell? ⟨xb, 2, none⟩ = some (.int .i64 o.to) := cell_at hx7 2
            have x3 : W7.cell? ⟨xb, 3, none⟩ = some (.string o.s) := cell_at hx7 3
            have hp7 := H7.out.block [] _
            have p0 : W7.cell? ⟨w4.heap.size, 0, none⟩ = some (.int .i64 P.src) := cell_at hp7 0
            have p1 : W7.cell? ⟨w4.heap.size, 1, none⟩ = some (.int .i64 P.dst) := cell_at hp7 1
            have p2 : W7.cell? ⟨w4.heap.size, 2, none⟩ = some (.string P.body) := cell_at hp7 2
            clear hx7 hp7
            obtain ⟨FP, hF, -, step⟩ := H7.out.pick [blockThing w4.heap.size (.cells #[.int .i64 P.src, .int .i64 P.dst, .string P.body] 34), pktThing vB L, blockThing xb (.cells #[.int .i64 o.doo, .int .i64 o.n, .int .i64 o.to, .string o.s] 30), pktThing u5 M] (pktThing u6 G) [netThing 81 n L2 s2]
            have HS := Lib.hid (And.intro hF step); clear hF step
            go_wp2_with (at_builtin; refine wpList_append_own_at _ rfl (.tmp 91) (.tmp 93) 28 rfl 0 34 i0 (.agg #[.int .i64 0, .int .i64 0, .string ⟨#[]⟩]) 3 32 Try.underlying28 hi hz0 hz1 hz2 rfl (by decide) _ G.length (pktCells G) rfl (HS.out.1.1.alloc _) ⟨W7.heap.size, 0, none⟩ 1 1 P.cells rfl rfl (new_cells _ _ _ _ rfl) (pkt_oneCell _) (by unfold maxLen; omega) (by omega) (Nat.zero_le _) ?_)
            intro v' w9 hown hg _ hat
            obtain ⟨hh, hev⟩ := pkt_appended P (Turns.alloc [] W7 _) hown hg (hat.imp id fun h => ⟨_, h, by simp⟩)
            have h9 := HS.out.2 _ _ _ (HS.out.1.2 ▸ hev) hh
            have H9 : Hid (Sep w w9 [pktThing u5 M, pktThing v' (G ++ [P]), netThing 81 n L2 s2]) := h9.drop.drop.drop
            clear h9 hh hev hown hg hat HS H7
            go_wp2_with fail
            go_roundw
            case rel => exact ⟨k + 1, M, G ++ [P], L2, s2, by omega, by omega, by simp; omega, by rw [HL.out, List.length_eraseIdx]; split <;> omega, by go_num, by show Inv _ _ _; rw [HL.out, HPm.out]; exact hinv.out.deliver m hm, H9⟩
            case measure => simp [intOf]; omega
          by_cases hkd : kindOf o = 4
          · have t0 : (bits .and .i64 o.doo 7 == 0) = false := by have := hkd; unfold kindOf at this; rw [this]; rfl
            have t1 : (bits .and .i64 o.doo 7 == 1) = false := by have := hkd; unfold kindOf at this; rw [this]; rfl
            have t2 : (bits .and .i64 o.doo 7 == 2) = false := by have := hkd; unfold kindOf at this; rw [this]; rfl
            have t3 : (bits .and .i64 o.doo 7 == 3) = false := by have := hkd; unfold kindOf at this; rw [this]; rfl
            have t5 : (bits .and .i64 o.doo 7 == 5) = false := by have := hkd; unfold kindOf at this; rw [this]; rfl
            have hinv2 : Inv M G L2 := by
              rw [hl2]
              have e : opList L s o = without L o.n := by simp [opList, hkd]
              rw [e]; unfold without; split; exact hinv.out.erase _; exact hinv.out
            have hlen2 : L2.length ≤ L.length := by
              rw [hl2]
              have e : opList L s o = without L o.n := by simp [opList, hkd]
              rw [e]; unfold without; split; exact List.length_eraseIdx_le _ _; exact Nat.le_refl _
            have HI := Lib.hid hinv2
            clear hinv2 hkd hc hp hl2 hs2
            go_wp2_with fail
            go_roundw
            case rel => exact ⟨k + 1, M, G, L2, s2, by omega, by omega, by omega, by omega, by go_num, HI, H6.out.drop.drop.drop⟩
            case measure => simp [intOf]; omega
          by_cases hkd : kindOf o = 5
          · have t0 : (bits .and .i64 o.doo 7 == 0) = false := by have := hkd; unfold kindOf at this; rw [this]; rfl
            have t1 : (bits .and .i64 o.doo 7 == 1) = false := by have := hkd; unfold kindOf at this; rw [this]; rfl
            have t2 : (bits .and .i64 o.doo 7 == 2) = false := by have := hkd; unfold kindOf at this; rw [this]; rfl
            have t3 : (bits .and .i64 o.doo 7 == 3) = false := by have := hkd; unfold kindOf at this; rw [this]; rfl
            have t5 : (bits .and .i64 o.doo 7 == 5) = true := by have := hkd; unfold kindOf at this; rw [this]; rfl
            have hcs : opCode L s o = doubleCode L o.n := by simp [opCode, hkd]
            obtain ⟨m, hm, hom, hdb⟩ := double_zero (hcs ▸ hc)
            have hL2 : opList L s o = L ++ [L[m]] := by simp [opList, hkd, hdb]
            have HL : Hid (L2 = L ++ [L[m]]) := hl2.trans hL2
            clear hcs hdb hL2 hkd hc hp hl2 hs2
            obtain ⟨od, on, ot, os'⟩ := o
            simp only at hom
            subst hom
            simp only at *
            have hmd : decide ((m : Int) < 0) = false := decide_eq_false (by omega)
            have hmd2 : decide ((L.length : Int) ≤ m) = false := decide_eq_false (by omega)
            have hmd3 : (m : Int) < (L.length : Int) := by omega
            obtain ⟨W7, hW7⟩ : ∃ W7, W7 = w4.alloc (.cells #[.int .i64 P.src, .int .i64 P.dst, .string P.body] 34) := ⟨_, rfl⟩
            have H7 := H6
            rw [← hW7] at H7
            obtain ⟨FPB, hFB, -, -⟩ := H7.out.pick [blockThing w4.heap.size (.cells #[.int .i64 P.src, .int .i64 P.dst, .string P.body] 34)] (pktThing vB L) _
            obtain ⟨aB, cB, hvB, hpB⟩ := pktsAt_own hFB.1
            obtain ⟨bb, bo, rfl, b0, b1, b2⟩ := hpB m hm
            subst hvB
            obtain ⟨Q, hQ⟩ : ∃ Q, Q = L[m] := ⟨_, rfl⟩
            rw [← hQ] at b0 b1 b2
            have HQ := Lib.hid hQ
            clear hQ hFB hpB
            rw [hW7] at b0 b1 b2
            rw [hW7] at H7
            clear hW7 H6 hw4 W7
            have hsz : (w4.alloc (Obj.cells #[.int .i64 P.src, .int .i64 P.dst, .string P.body] 34)).heap.size = w4.heap.size + 1 := by simp
            obtain ⟨FP, hF, -, step⟩ := H7.out.pick [blockThing w4.heap.size (.cells #[.int .i64 P.src, .int .i64 P.dst, .string P.body] 34), pktThing (.slice (some ⟨bb, bo, none⟩) L.length cB) L, blockThing xb (.cells #[.int .i64 od, .int .i64 m, .int .i64 ot, .string os'] 30)] (pktThing u5 M) [pktThing u6 G, netThing 81 n L2 s2]
            have HS := Lib.hid (And.intro hF step); clear hF step
            go_wp2_with (at_builtin; refine wpList_append_own_at _ rfl (.tmp 107) (.tmp 113) 28 rfl 0 34 i0 (.agg #[.int .i64 0, .int .i64 0, .string ⟨#[]⟩]) 3 32 Try.underlying28 hi hz0 hz1 hz2 rfl (by decide) _ M.length (pktCells M) rfl (HS.out.1.1.alloc _) ⟨(w4.alloc (Obj.cells #[.int .i64 P.src, .int .i64 P.dst, .string P.body] 34)).heap.size, 0, none⟩ 1 1 Q.cells (by rw [hsz]; rfl) rfl (new_cells _ _ _ _ rfl) (pkt_oneCell _) (by unfold maxLen; omega) (by omega) (Nat.zero_le _) ?_)
            intro v' w9 hown hg _ hat
            obtain ⟨hh, hev⟩ := pkt_appended Q (Turns.alloc [] (w4.alloc (Obj.cells #[.int .i64 P.src, .int .i64 P.dst, .string P.body] 34)) _) hown hg (hat.imp id fun h => ⟨_, h, by simp⟩)
            have h9 := HS.out.2 _ _ _ (HS.out.1.2 ▸ hev) hh
            have H9 : Hid (Sep w w9 [pktThing v' (M ++ [Q]), pktThing u6 G, netThing 81 n L2 s2]) := h9.drop.drop.drop
            clear h9 hh hev hown hg hat HS H7
            go_wp2_with fail
            go_roundw
            case rel => exact ⟨k + 1, M ++ [Q], G, L2, s2, by omega, by simp; omega, by omega, by rw [HL.out]; simp; omega, by go_num, by show Inv _ _ _; rw [HL.out, HQ.out]; exact hinv.out.both _, H9⟩
            case measure => simp [intOf]; omega
          by_cases hkd : kindOf o = 6
          · have t0 : (bits .and .i64 o.doo 7 == 0) = false := by have := hkd; unfold kindOf at this; rw [this]; rfl
            have t1 : (bits .and .i64 o.doo 7 == 1) = false := by have := hkd; unfold kindOf at this; rw [this]; rfl
            have t2 : (bits .and .i64 o.doo 7 == 2) = false := by have := hkd; unfold kindOf at this; rw [this]; rfl
            have t3 : (bits .and .i64 o.doo 7 == 3) = false := by have := hkd; unfold kindOf at this; rw [this]; rfl
            have t5 : (bits .and .i64 o.doo 7 == 5) = false := by have := hkd; unfold kindOf at this; rw [this]; rfl
            have hinv2 : Inv M G L2 := by
              rw [hl2]
              simp [opList, hkd]; exact hinv.out
            have hlen2 : L2.length ≤ L.length := by
              rw [hl2]
              simp [opList, hkd]
            have HI := Lib.hid hinv2
            clear hinv2 hkd hc hp hl2 hs2
            go_wp2_with fail
            go_roundw
            case rel => exact ⟨k + 1, M, G, L2, s2, by omega, by omega, by omega, by omega, by go_num, HI, H6.out.drop.drop.drop⟩
            case measure => simp [intOf]; omega
          by_cases hkd : kindOf o = 7
          · have t0 : (bits .and .i64 o.doo 7 == 0) = false := by have := hkd; unfold kindOf at this; rw [this]; rfl
            have t1 : (bits .and .i64 o.doo 7 == 1) = false := by have := hkd; unfold kindOf at this; rw [this]; rfl
            have t2 : (bits .and .i64 o.doo 7 == 2) = false := by have := hkd; unfold kindOf at this; rw [this]; rfl
            have t3 : (bits .and .i64 o.doo 7 == 3) = false := by have := hkd; unfold kindOf at this; rw [this]; rfl
            have t5 : (bits .and .i64 o.doo 7 == 5) = false := by have := hkd; unfold kindOf at this; rw [this]; rfl
            have hinv2 : Inv M G L2 := by
              rw [hl2]
              simp [opList, hkd]; exact hinv.out
            have hlen2 : L2.length ≤ L.length := by
              rw [hl2]
              simp [opList, hkd]
            have HI := Lib.hid hinv2
            clear hinv2 hkd hc hp hl2 hs2
            go_wp2_with fail
            go_roundw
            case rel => exact ⟨k + 1, M, G, L2, s2, by omega, by omega, by omega, by omega, by go_num, HI, H6.out.drop.drop.drop⟩
            case measure => simp [intOf]; omega
          omega
        · have hcb : (opCode L s o != 0) = true := by simp [hc]
          have H4 : Hid (Sep w w4 [pktThing u5 M, pktThing u6 G, netThing 81 n (opList L s o) (opSplit s o)] ∧ Inv M G (opList L s o) ∧ (opList L s o).length ≤ k + 1) := ⟨h4.drop.drop, inv_fail hc hinv.out, by have := op_len (l := L) (s := s) o; omega⟩
          rw [op_fail hc]
          simp only [noPkt]
          clear hc h4
          go_wp2_with fail
          go_roundw
          case rel => exact ⟨k + 1, M, G, opList L s o, opSplit s o, by omega, by omega, by omega, H4.out.2.2, by go_num, H4.out.2.1, H4.out.1.quiet (Turns.alloc [] _ _)⟩
          case measure => simp [intOf]; omega
      · have hlt2 : (ops.length : Int) ≤ (k : Int) := by omega
        obtain ⟨FPG, hFG, -, -⟩ := hsep.out.pick [pktThing u5 M] (pktThing u6 G) _
        have HSRC : Hid (∀ o, SrcAt (wr.alloc o) u6 G.length (pktCells G)) := fun o => SrcAt.of_own hFG.1 (fun k hk => Below.heap_alloc _ _ _ (own_lt hFG.1 k hk))
        have HNIL : Hid ((wr.alloc (.cells #[] 34)).ownsRow wr.heap.size 34 3 (.slice (some ⟨wr.heap.size, 0, none⟩) 0 0) 0 []) := World.ownsRow_made wr #[] 0 (Nat.le_refl _) (by unfold maxLen; omega) rfl
        have HT := Lib.hid (And.intro hsep.out hinv.out)
        clear hFG hlt hsep hinv
        go_wp2_with (at_builtin; refine wpList_append_src _ rfl (.tmp 115) (.tmp 116) 28 rfl 34 i0 (.agg #[.int .i64 0, .int .i64 0, .string ⟨#[]⟩]) 3 32 Try.underlying28 hi hz0 hz1 hz2 rfl (by decide) (.slice (some ⟨wr.heap.size, 0, none⟩) 0 0) 0 [] rfl (own_base HNIL.out (Nat.zero_le _)) u6 G.length (pktCells G) rfl (HSRC.out _) (by rw [pktCells_length]) (pkts_oneCell _) (by unfold maxLen; omega) (by omega) ?_)
        intro v1 w6 hown1 hg1 hat1
        obtain ⟨t1, t2, t3⟩ := appended_new hown1 hg1 hat1
        have H6 : Hid (Sep w w6 [pktThing v1 G, pktThing u5 M, pktThing u6 G, netThing 81 n L s]) := HT.out.1.add (t := pktThing v1 G) t2 t1 t3
        clear hown1 hg1 hat1 t1 t2 t3 HSRC HNIL
        go_wp2_with fail
        refine (list_sep [pktThing v1 G, pktThing u5 M, pktThing u6 G] [] n L s _ H6.out (by omega)).mono ?_
        rintro e w7 ⟨vB, rfl, h7⟩
        obtain ⟨FPB, hFB, -, -⟩ := h7.pick [] (pktThing vB L) _
        have HSB : Hid (SrcAt w7 vB L.length (pktCells L)) := SrcAt.of_own hFB.1 (fun _ _ => rfl)
        obtain ⟨FP1, hF1, -, step⟩ := h7.pick [pktThing vB L] (pktThing v1 G) _
        have HS := Lib.hid (And.intro hF1 step)
        clear h7 hFB hF1 step H6
        go_wp2_with (at_builtin; refine wpList_append_src _ rfl (.tmp 117) (.tmp 119) 28 rfl 34 i0 (.agg #[.int .i64 0, .int .i64 0, .string ⟨#[]⟩]) 3 32 Try.underlying28 hi hz0 hz1 hz2 rfl (by decide) v1 G.length (pktCells G) rfl HS.out.1.1 vB L.length (pktCells L) rfl HSB.out (by rw [pktCells_length]) (pkts_oneCell _) (by unfold maxLen; omega) (by omega) ?_)
        intro v2 w8 hown2 hg2 hat2
        obtain ⟨hh, hev⟩ := pkts_appended hown2 hg2 hat2
        have h8 := (HS.out.2 _ _ _ (HS.out.1.2 ▸ hev) hh).drop
        obtain ⟨A, hA⟩ : ∃ A, A = G ++ L := ⟨_, rfl⟩
        rw [← hA] at h8
        have hAl : A.length ≤ 400 := by rw [hA]; simp; omega
        have hM2 : M.length ≤ 400 := by omega
        have HC : Hid (∀ p, cnt A p ≤ cnt M p) := by show ∀ p, _; rw [hA]; exact HT.out.2
        have H8 : Hid (Sep w w8 [pktThing v2 A, pktThing u5 M, pktThing u6 G, netThing 81 n L s]) := h8
        obtain ⟨FPA, hFA, -, -⟩ := h8.pick [] (pktThing v2 A) _
        obtain ⟨a2, c2, rfl, -⟩ := pktsAt_own hFA.1
        clear hA h8 hh hev hown2 hg2 hat2 HS HSB HT hFA
        go_wp2_with fail
        go_loopw [13] (fun i wr => ∃ j : Nat, j ≤ A.length ∧ i = .int .i64 j ∧ Hid (Sep w wr [pktThing (.slice a2 A.length c2) A, pktThing u5 M, pktThing u6 G, netThing 81 n L s])) (fun i _ => A.length - (intOf i).toNat)
        case atStart => exact ⟨0, Nat.zero_le _, rfl, H8⟩
        case round =>
          obtain ⟨j, hj, rfl, hs9⟩ := hrel
          by_cases hltj : j < A.length
          · obtain ⟨FPA, hFA, -, -⟩ := hs9.out.pick [] (pktThing (.slice a2 A.length c2) A) _
            obtain ⟨FPM, hFM, -, -⟩ := hs9.out.pick [pktThing (.slice a2 A.length c2) A] (pktThing u5 M) _
            have HA : Hid (∀ w', Turns [] wr w' → PktsAt w' (.slice a2 A.length c2) A) := fun w' ht => pktsAt_own (own_kept hFA.1 ht (by simp))
            have HM : Hid (∀ w', Turns [] wr w' → PktsAt w' u5 M) := fun w' ht => pktsAt_own (own_kept hFM.1 ht (by simp))
            obtain ⟨a9, c9, hv9, hp9⟩ := HA.out wr (Turns.refl _ _)
            obtain ⟨e9, -⟩ : a2 = a9 ∧ c2 = c9 := by simpa using hv9
            obtain ⟨b1, o1, h9, p0, p1, p2⟩ := hp9 j hltj
            rw [← e9] at h9
            subst h9
            have hlt1 := World.block_lt_of_cell? wr _ p0
            obtain ⟨P, hP⟩ : ∃ P, P = A[j] := ⟨_, rfl⟩
            rw [← hP] at p0 p1 p2
            have hdec : ¬ (cnt M P < cnt A P) := by have := HC.out P; omega
            have hlt3 : (j : Int) < (A.length : Int) := by omega
            have C1 : Hid (∀ W, Turns [] wr W → Calls Try.prog 25 #[.slice (some ⟨b1, o1, none⟩) A.length c2, .agg #[.int .i64 P.src, .int .i64 P.dst, .string P.body]] W fun e w' => e = .returned (.int .i64 (cnt A P)) ∧ Turns [] W w') := fun W hW => count_turns _ A P W (HA.out W hW) (by omega)
            have C2 : Hid (∀ W, Turns [] wr W → Calls Try.prog 25 #[u5, .agg #[.int .i64 P.src, .int .i64 P.dst, .string P.body]] W fun e w' => e = .returned (.int .i64 (cnt M P)) ∧ Turns [] W w') := fun W hW => count_turns _ M P W (HM.out W hW) (by omega)
            clear hP hp9 hv9 e9 hFA hFM hlt1
            go_wp2_with fail
            go_region_held3 (fun w' => Turns [] wr w' ∧ w'.cell? ⟨b1, o1 + j * 3, none⟩ = some (.int .i64 P.src) ∧ w'.cell? ⟨b1, o1 + j * 3 + 1, none⟩ = some (.int .i64 P.dst) ∧ w'.cell? ⟨b1, o1 + j * 3 + 2, none⟩ = some (.string P.body))
              (first
                | exact ⟨(Turns.refl _ _).drew, by simpa using p0, by simpa using p1, by simpa using p2⟩
                | (refine held_step ?_ hq; assumption)
                | (refine held_step ?_ hq; refine ⟨?_, ?_, ?_, ?_⟩ <;> assumption))
              ((first
                | (go_at_call 25; (with_reducible refine Calls.mono (C1.out _ ?_) ?_); (focus (go_split_ands; with_reducible assumption)); rintro e wq ⟨rfl, hq⟩)
                | (go_at_call 25; (with_reducible refine Calls.mono (C2.out _ ?_) ?_); (focus (go_split_ands; with_reducible assumption)); rintro e wq ⟨rfl, hq⟩)))
            go_wp2_with fail
            go_roundw
            case rel => exact ⟨j + 1, by omega, by go_num, hs9.out.quiet (by go_split_ands; assumption)⟩
            case measure => simp [intOf]; omega
          · have hlt3 : (A.length : Int) ≤ (j : Int) := by omega
            go_wp2_with fail
            go_ret
            exact ⟨rfl, hs9.out.below⟩

end Go.Proofs.Ytmikjninonpejaa
