/- Statements about net: NetOrders, the walk's helpers and the first loop. -/
import Derived.Test.YtmikjninonpejaaNetU
import Derived.Test.YtmikjninonpejaaBits
namespace Go.Proofs.Ytmikjninonpejaa
open Go.RowKit Go.Proofs.YtmikjninonpejaaMem

/-- Numbers lie in memory as a slice's elements. -/
def IntsAt (w : World) (a : Option Addr) (zs : List Int) : Prop :=
  ∀ i (h : i < zs.length), ∃ b off, a = some ⟨b, off, none⟩ ∧ w.cell? ⟨b, off + i, none⟩ = some (.int .i64 zs[i])
theorem IntsAt.below {w w' : World} {a : Option Addr} {zs : List Int} (h : IntsAt w a zs) (hb : Below w.heap.size w w') : IntsAt w' a zs := by
  intro i hi
  obtain ⟨b, off, rfl, h0⟩ := h i hi
  exact ⟨b, off, rfl, (hb.cell (p := ⟨b, off + i, none⟩) (World.block_lt_of_cell? w _ h0)).trans h0⟩

theorem few_is (a : Option Addr) (cap : Nat) (ops : List NOp) (most : Int) (w : World) (hops : OpsAt w a ops) (r : Bool) (hr : fewB ops most = r) :
    Calls Try.prog 14 #[.slice a ops.length cap, .int .i64 most] w fun e w' => e = .returned (.bool r) ∧ w = w' := hr ▸ few_any a cap ops most w hops
theorem few_len {ops : List NOp} {most : Int} (h : fewB ops most = true) : (ops.length : Int) ≤ most := by
  simp [fewB] at h; exact h.2

theorem below_drewN' {B : Nat} {a w : World} (h : Below B a w) (n : Nat) : Below B a (w.drewN n) := ⟨h.os, h.tape, h.output, h.size, h.block⟩

theorem same_is (v1 v2 : Value) (l1 l2 : List Pkt) (w : World) (h1 : PktsAt w v1 l1) (h2 : PktsAt w v2 l2) (hm1 : l1.length ≤ 2000) (hm2 : l2.length ≤ 2000) (r : Bool) (hr : decide (l1 = l2) = r) :
    Calls Try.prog 17 #[v1, v2] w fun e w' => e = .returned (.bool r) ∧ ∃ n, w' = w.drewN n := hr ▸ same_any v1 v2 l1 l2 w h1 h2 hm1 hm2

/-- A new packet has been appended to an owned slice. -/
theorem pkt_appended {w w0 w1 : World} {l : List Pkt} {v v' : Value} (p : Pkt) (h0 : Turns [] w w0)
    (hown : w1.ownsRow 0 34 3 v' (l.length + 1) (pktCells l ++ p.cells)) (hg : w0.grownBy w1 v.ownBlock) (hat : v'.ownBlock = v.ownBlock ∨ ∃ k, v'.ownBlock = some k ∧ w.heap.size ≤ k) :
    (pktThing v' (l ++ [p])).holds w1 v'.ownBlock.toList ∧ Evolves v.ownBlock.toList v'.ownBlock.toList w w1 := by
  refine ⟨⟨?_, rfl⟩, (h0.mono (by simp)).trans (Turns.of_grown hg (fun k hk => Or.inl (by simp [hk]))), fun x hx => ?_⟩
  · have e : pktCells (l ++ [p]) = pktCells l ++ p.cells := by rw [pktCells_append]; simp [pktCells]
    rw [e, List.length_append]
    exact hown
  · rcases hat with h | ⟨k, h, hk⟩
    · exact Or.inl (by rw [← h]; exact hx)
    · rw [h] at hx; simp at hx; subst hx; exact Or.inr hk

/-- The packet of an operation in NetOrders. -/
def ordPkt (o : NOp) : Pkt := ⟨bits .and .i64 o.n 15, bits .and .i64 (bits .and .i64 o.n 15 + 1 + bits .and .i64 o.to 7) 15, o.s⟩

theorem ord_from (o : NOp) : 0 ≤ bits .and .i64 o.n 15 ∧ bits .and .i64 o.n 15 ≤ 15 := by rw [and15]; omega
theorem ord_step (o : NOp) : 0 ≤ bits .and .i64 o.to 7 ∧ bits .and .i64 o.to 7 ≤ 7 := by rw [and7]; omega
theorem side_zero (a : Int) : side 0 a = 0 := by
  simp only [side, Int.zero_ediv]; kernel_rfl
theorem hears_zero {a b : Int} (ha : isEnd a = true) (hb : isEnd b = true) : hears 0 a b = true := by
  simp [hears, ha, hb, side_zero]
theorem ord_ends (o : NOp) : isEnd (ordPkt o).src = true ∧ isEnd (ordPkt o).dst = true ∧ ((ordPkt o).src == (ordPkt o).dst) = false := by
  simp only [ordPkt, isEnd, and15, and7]
  refine ⟨by simp; omega, by simp; omega, ?_⟩
  simp
  omega
theorem ord_sends (l : List Pkt) (hl : l.length < 500) (o : NOp) : sendCode l 0 (ordPkt o).src (ordPkt o).dst = 0 := by
  obtain ⟨h1, h2, h3⟩ := ord_ends o
  have h4 := hears_zero h1 h2
  simp [sendCode, h1, h2, h3, h4]
  omega
theorem ord_hears (o : NOp) : hears 0 (ordPkt o).src (ordPkt o).dst = true := hears_zero (ord_ends o).1 (ord_ends o).2.1

/-- Where l[i+1:] begins, and what lies there. -/
theorem tail_at {w : World} {g cap i : Nat} {l : List Pkt} {cur : Array Value} (hg : w.heap[g]? = some (.cells cur 34 (0, 0))) (hc : l.length ≤ cap) (htake : cur.toList.take (l.length * 3) = pktCells l) (hi : i < l.length) :
    ∃ A : Addr, (if cap = i + 1 then some (⟨g, 0, none⟩ : Addr) else some ⟨g, (i + 1) * 3, none⟩) = some A ∧ Hid (∀ w' : World, w'.heap[g]? = w.heap[g]? → ∀ t u, (pktCells (l.drop (i + 1)))[t]? = some u → w'.cell? (A.add t) = some u) := by
  have hlen : (pktCells (l.drop (i + 1))).length = (l.length - (i + 1)) * 3 := by rw [pktCells_length]; simp
  by_cases h : cap = i + 1
  · refine ⟨⟨g, 0, none⟩, by simp [h], fun w' hw t u hu => ?_⟩
    have h0 : (pktCells (l.drop (i + 1))).length = 0 := by rw [hlen]; omega
    rw [List.length_eq_zero_iff.1 h0] at hu
    simp at hu
  · refine ⟨⟨g, (i + 1) * 3, none⟩, by simp [h], fun w' hw t u hu => ?_⟩
    have ht := (List.getElem?_eq_some_iff.1 hu).1
    rw [← pktCells_drop, List.getElem?_drop, ← htake, List.getElem?_take, if_pos (by omega)] at hu
    rw [Addr.add_lit, cell_at (hw.trans hg), ← hu]
    simp
/-- append([]T{}, l[:i]...): what it leaves. -/
theorem seg_first {W5 Wx w6 : World} {v1 : Value} {m : Nat} {l : List Pkt} (h0 : Turns [] W5 Wx) (hown : w6.ownsRow 0 34 3 v1 (0 + m) ([] ++ pktCells (l.take m))) (hg : Wx.grownBy w6 (Value.slice (some ⟨W5.heap.size, 0, none⟩) 0 0).ownBlock)
    (hat : v1.ownBlock = (Value.slice (some ⟨W5.heap.size, 0, none⟩) 0 0).ownBlock ∨ ∃ k, v1.ownBlock = some k ∧ W5.heap.size ≤ k) :
    Hid (w6.ownsRow 0 34 3 v1 m (pktCells (l.take m)) ∧ Turns [] W5 w6 ∧ (∀ x ∈ v1.ownBlock.toList, W5.heap.size ≤ x)) := by
  refine ⟨by simpa using hown, h0.trans_new (Turns.of_grown (S := [W5.heap.size]) hg (fun k hk => Or.inl (by simp [Value.ownBlock] at hk; simp [hk]))) (fun x hx => Or.inr (by simp at hx; omega)), fun x hx => ?_⟩
  rcases hat with h | ⟨k, h, hk⟩
  · rw [h] at hx; simp [Value.ownBlock] at hx; omega
  · rw [h] at hx; simp at hx; omega
/-- append(append([]T{}, l[:i]...), l[i+1:]...): what it leaves. -/
theorem seg_second {W5 w6 w7 : World} {v1 v2 : Value} {m : Nat} {l : List Pkt} (h6 : w6.ownsRow 0 34 3 v1 m (pktCells (l.take m)) ∧ Turns [] W5 w6 ∧ (∀ x ∈ v1.ownBlock.toList, W5.heap.size ≤ x))
    (hown : w7.ownsRow 0 34 3 v2 (m + (l.length - (m + 1))) (pktCells (l.take m) ++ pktCells (l.drop (m + 1)))) (hg : w6.grownBy w7 v1.ownBlock) (hat : v2.ownBlock = v1.ownBlock ∨ v2.ownBlock = some w6.heap.size) (hm : m < l.length) :
    Hid ((pktThing v2 (l.eraseIdx m)).holds w7 v2.ownBlock.toList ∧ Turns [] W5 w7 ∧ (∀ x ∈ v2.ownBlock.toList, W5.heap.size ≤ x)) := by
  refine ⟨⟨?_, rfl⟩, ?_, fun x hx => ?_⟩
  · have e : (l.eraseIdx m).length = m + (l.length - (m + 1)) := by rw [List.length_eraseIdx, if_pos hm]; omega
    rw [e, List.eraseIdx_eq_take_drop_succ, pktCells_append]
    exact hown
  · exact h6.2.1.trans_new (Turns.of_grown (S := v1.ownBlock.toList) hg (fun k hk => Or.inl (by simp [hk]))) (fun x hx => Or.inr (h6.2.2 x hx))
  · rcases hat with h | h
    · rw [h] at hx; exact h6.2.2 x hx
    · rw [h] at hx; simp at hx; subst hx; exact h6.2.1.size
/-- What lies in l[:i]. -/
theorem head_at {w : World} {g i : Nat} {l : List Pkt} {cur : Array Value} (hg : w.heap[g]? = some (.cells cur 34 (0, 0))) (htake : cur.toList.take (l.length * 3) = pktCells l) (hi : i ≤ l.length) :
    Hid (∀ w' : World, w'.heap[g]? = w.heap[g]? → ∀ t u, (pktCells (l.take i))[t]? = some u → w'.cell? ((⟨g, 0, none⟩ : Addr).add t) = some u) := by
  intro w' hw t u hu
  have ht := (List.getElem?_eq_some_iff.1 hu).1
  rw [pktCells_length, List.length_take] at ht
  rw [← pktCells_take, ← htake, List.take_take, List.getElem?_take, if_pos (by omega)] at hu
  have e : (⟨g, 0, none⟩ : Addr).add t = ⟨g, t, none⟩ := by unfold Addr.add; split <;> simp_all
  rw [e, cell_at (hw.trans hg), ← hu]
  simp

set_option maxHeartbeats 1600000 in
set_option maxRecDepth 100000 in
theorem orders_walk (a : Option Addr) (cap : Nat) (ops : List NOp) (pa : Option Addr) (pcap : Nat) (picks : List Int) (w : World) (hops : OpsAt w a ops) (hpicks : IntsAt w pa picks) :
    Calls Try.prog 3 #[.slice a ops.length cap, .slice pa picks.length pcap] w fun e w' => e = .returned (.bool true) ∧ Below w.heap.size w w' := by
  have HO := Lib.hid hops; clear hops
  have HP := Lib.hid hpicks; clear hpicks
  cases hfew : fewB ops 30
  · have HF := Lib.hid hfew; clear hfew
    go_enter Try.func3, Try.ntmps3
    go_wp2_with fail
    refine (small_any _).mono ?_
    rintro e w1 ⟨rfl, h1⟩
    have H1 := Lib.hid ((Sep.start w).quiet h1); clear h1
    go_wp2_with fail
    refine (new_fresh w [] _ H1.out).mono ?_
    rintro e w2 ⟨n, rfl, h2⟩
    have H2 := Lib.hid h2; clear h2
    go_wp2_with fail
    refine (few_is a cap ops 30 _ (HO.out.below H2.out.below) false HF.out).mono ?_
    rintro e w3 ⟨rfl, rfl⟩
    go_wp2_with fail
    go_ret
    exact ⟨rfl, H2.out.below⟩
  · have hol := few_len hfew
    have HF := Lib.hid hfew; clear hfew
    by_cases hp : picks.length ≤ 30
    · have hp2 : decide ((30 : Int) < (picks.length : Int)) = false := decide_eq_false (by omega)
      have hol2 : ops.length ≤ 30 := by omega
      go_enter Try.func3, Try.ntmps3
      go_wp2_with fail
      refine (small_any _).mono ?_
      rintro e w1 ⟨rfl, h1⟩
      have H1 := Lib.hid ((Sep.start w).quiet h1); clear h1
      go_wp2_with fail
      refine (new_fresh w [] _ H1.out).mono ?_
      rintro e w2 ⟨n, rfl, h2⟩
      have H2 := Lib.hid h2; clear h2
      go_wp2_with fail
      refine (few_is a cap ops 30 _ (HO.out.below H2.out.below) true HF.out).mono ?_
      rintro e w3 ⟨rfl, rfl⟩
      go_wp2_with fail
      have H3 : Hid (Sep w w2 [pktThing (.slice none 0 0) [], netThing 81 n [] 0]) := H2.out.add (t := pktThing (.slice none 0 0) []) (FP := []) (Turns.refl _ _) ⟨World.ownsRow_nil _ _ _ _, rfl⟩ (by simp)
      obtain ⟨i0, hi, hz0, hz1, hz2⟩ := info_parts Try.info34
      go_loopw [7, 8] (fun v i wr => ∃ k : Nat, k ≤ ops.length ∧ i = .int .i64 k ∧ Hid (Sep w wr [pktThing v ((ops.take k).map ordPkt), netThing 81 n ((ops.take k).map ordPkt) 0])) (fun _ i _ => ops.length - (intOf i).toNat)
      case atStart => exact ⟨0, Nat.zero_le _, rfl, H3⟩
      case round =>
        obtain ⟨k, hk, rfl, hsep⟩ := hrel
        by_cases hlt : k < ops.length
        · obtain ⟨b, off, rfl, -, c1, c2, c3⟩ := HO.out.below hsep.out.below k hlt
          obtain ⟨o, ho⟩ : ∃ o, o = ops[k] := ⟨_, rfl⟩
          rw [← ho] at c1 c2 c3
          have HOK := Lib.hid ho; clear ho
          have hlt2 : (k : Int) < (ops.length : Int) := by omega
          have f1 := (ord_from o).1
          have f2 := (ord_from o).2
          have f3 := (ord_step o).1
          have f4 := (ord_step o).2
          go_wp2_with fail
          obtain ⟨L, hLe⟩ : ∃ L, L = (ops.take k).map ordPkt := ⟨_, rfl⟩
          have hL : L.length ≤ 30 := by rw [hLe]; simp; omega
          rw [← hLe] at hsep
          have HL := Lib.hid hLe; clear hLe
          refine (send_sep [pktThing u7 L] [] n L 0 (ordPkt o).src (ordPkt o).dst (ordPkt o).body _ hsep.out (by omega)).mono ?_
          rintro e w4 ⟨rfl, h4⟩
          rw [ord_sends _ (by omega) o]
          rw [show sendList L 0 (ordPkt o).src (ordPkt o).dst (ordPkt o).body = L ++ [ordPkt o] by rw [sendList, if_pos (ord_sends _ (by omega) o)]] at h4
          have H4 := Lib.hid h4; clear h4
          obtain ⟨b', off', hbo, d0, d1, d2, d3⟩ := HO.out.below H4.out.below k hlt
          obtain ⟨rfl, rfl⟩ : b = b' ∧ off = off' := by simpa using hbo
          rw [← HOK.out] at d0 d1 d2 d3
          clear hbo d0 d1 d2 c1 c2 c3
          obtain ⟨FP, hF, _, step⟩ := H4.out.pick [] (pktThing u7 L) [netThing 81 n (L ++ [ordPkt o]) 0]
          have HS := Lib.hid (And.intro hF step); clear hF step
          go_wp2_with (at_builtin; refine wpList_append_own_at _ rfl (.tmp 66) (.tmp 75) 28 rfl 0 34 i0 (.agg #[.int .i64 0, .int .i64 0, .string ⟨#[]⟩]) 3 32 Try.underlying28 hi hz0 hz1 hz2 rfl (by decide) _ L.length (pktCells L) rfl (HS.out.1.1.alloc _) ⟨w4.heap.size, 0, none⟩ 1 1 (ordPkt o).cells rfl rfl (new_cells _ _ _ _ rfl) (pkt_oneCell _) (by unfold maxLen; omega) (by omega) (Nat.zero_le _) ?_)
          intro v' w5 hown hg _ hat
          obtain ⟨hh, hev⟩ := pkt_appended (ordPkt o) (Turns.alloc [] w4 _) hown hg (hat.imp id fun h => ⟨_, h, by simp⟩)
          have h5 := HS.out.2 _ _ _ (HS.out.1.2 ▸ hev) hh
          have H5 := Lib.hid h5; clear h5 hh hev hown hg hat
          go_wp2
          go_roundw
          case rel =>
            refine ⟨k + 1, by omega, by go_num, ?_⟩
            rw [List.take_succ_eq_append_getElem hlt, List.map_append, ← HL.out, List.map_singleton, ← HOK.out]
            exact H5
          case measure => simp [intOf]; omega
        · have hkl : k = ops.length := by omega
          have hkl2 : (ops.length : Int) ≤ (k : Int) := by omega
          obtain ⟨L0, hL0⟩ : ∃ L, L = (ops.take k).map ordPkt := ⟨_, rfl⟩
          have hLl : L0.length ≤ 30 := by rw [hL0]; simp; omega
          have hears0 : Hid (∀ p ∈ L0, hears 0 p.src p.dst = true) := by
            intro p hp
            rw [hL0] at hp
            obtain ⟨o, _, rfl⟩ := List.mem_map.1 hp
            exact ord_hears o
          rw [← hL0] at hsep
          have hsep0 := Lib.hid hsep.out
          clear hL0 hsep hkl
          go_wp2_with fail
          go_loopw [7, 11] (fun v i wr => ∃ (j : Nat) (L : List Pkt), j ≤ picks.length ∧ L.length ≤ 30 ∧ i = .int .i64 j ∧ Hid (∀ p ∈ L, hears 0 p.src p.dst = true) ∧ Hid (Sep w wr [pktThing v L, netThing 81 n L 0])) (fun _ i _ => picks.length - (intOf i).toNat)
          case atStart => exact ⟨0, L0, Nat.zero_le _, hLl, rfl, hears0, hsep0⟩
          case round =>
            obtain ⟨j, L, hj, hLL, rfl, hears1, hsep1⟩ := hrel
            obtain ⟨FP, hF, -, step⟩ := hsep1.out.pick [] (pktThing u7 L) [netThing 81 n L 0]
            obtain ⟨av, cv, rfl, -, -⟩ := own_shape hF.1
            clear hF step
            by_cases hlt : j < picks.length
            · obtain ⟨pb, poff, rfl, c0⟩ := HP.out.below hsep1.out.below j hlt
              obtain ⟨kk, hkk⟩ : ∃ kk, kk = picks[j] := ⟨_, rfl⟩
              rw [← hkk] at c0
              clear hkk
              have hlt2 : (j : Int) < (picks.length : Int) := by omega
              cases hin : inList L kk
              · have hno := inList_no hin
                have e1 : deliverCode L 0 kk = 4 := by simp [deliverCode, hin]
                have e2 : deliverPkt L 0 kk = noPkt := by simp [deliverPkt, e1]
                have e3 : without L kk = L := by simp [without, hin]
                have HE := Lib.hid (And.intro e1 (And.intro e2 e3)); clear e1 e2 e3
                go_wp2_with fail
                refine (deliver_sep [pktThing (.slice av L.length cv) L] [] n L 0 kk _ hsep1.out (by omega)).mono ?_
                rintro e w4 ⟨rfl, h4⟩
                rw [HE.out.1, HE.out.2.1]
                rw [HE.out.2.2] at h4
                simp only [noPkt]
                have H4 := Lib.hid h4; clear h4
                have HR : Hid (∀ o, Sep w (w4.alloc o) [pktThing (.slice av L.length cv) L, netThing 81 n L 0]) := fun o => H4.out.quiet (Turns.alloc [] _ _)
                clear hin
                by_cases hk0 : kk < 0
                · have hd : decide (kk < 0) = true := decide_eq_true hk0
                  go_wp2_with fail
                  go_roundw
                  case rel => exact ⟨j + 1, L, by omega, hLL, by go_num, hears1, HR.out _⟩
                  case measure => simp [intOf]; omega
                · have hd : decide (kk < 0) = false := decide_eq_false hk0
                  have hd2 : decide ((L.length : Int) ≤ kk) = true := decide_eq_true (by omega)
                  clear hno
                  go_wp2_with fail
                  go_roundw
                  case rel => exact ⟨j + 1, L, by omega, hLL, by go_num, hears1, HR.out _⟩
                  case measure => simp [intOf]; omega
              · obtain ⟨m, rfl, hm⟩ := inList_yes hin
                have e0 : pktAt L m = L[m] := by simp [pktAt, hm]
                have e1 : deliverCode L 0 m = 0 := by simp [deliverCode, hin, e0, hears1.out L[m] (List.getElem_mem hm)]
                have e2 : deliverPkt L 0 m = L[m] := by simp [deliverPkt, e1, e0]
                have e3 : without L m = L.eraseIdx m := by simp [without, hin]
                have HE := Lib.hid (And.intro e1 (And.intro e2 e3)); clear e0 e1 e2 e3 hin
                go_wp2_with fail
                refine (deliver_sep [pktThing (.slice av L.length cv) L] [] n L 0 m _ hsep1.out (by omega)).mono ?_
                rintro e w4 ⟨rfl, h4⟩
                rw [HE.out.1, HE.out.2.1]
                rw [HE.out.2.2] at h4
                obtain ⟨q, hq⟩ : ∃ q, q = L[m] := ⟨_, rfl⟩
                rw [← hq]
                have H4 := Lib.hid h4; clear h4
                obtain ⟨FP, hF, -, step⟩ := H4.out.pick [] (pktThing (.slice av L.length cv) L) [netThing 81 n (L.eraseIdx m) 0]
                rcases hF.1.2 with ⟨-, h0⟩ | ⟨g, cap', cur, hv, -, hg, hcap, hmax, hsz, htake⟩
                · omega
                obtain ⟨rfl, rfl⟩ : av = some ⟨g, 0, none⟩ ∧ cv = cap' := by simpa using hv
                have hgs := lt_of_at hg
                obtain ⟨p0, p1, p2⟩ := pkt_cell hg htake m hm
                rw [← hq] at p0 p1 p2
                have HQ := Lib.hid hq; clear hq
                have pa0 : ∀ o, (w4.alloc o).cell? ⟨g, m * 3, none⟩ = some (.int .i64 q.src) := fun o => by rw [World.cell?_alloc_past _ _ _ hgs]; exact p0
                have pa1 : ∀ o, (w4.alloc o).cell? ⟨g, m * 3 + 1, none⟩ = some (.int .i64 q.dst) := fun o => by rw [World.cell?_alloc_past _ _ _ hgs]; exact p1
                have pa2 : ∀ o, (w4.alloc o).cell? ⟨g, m * 3 + 2, none⟩ = some (.string q.body) := fun o => by rw [World.cell?_alloc_past _ _ _ hgs]; exact p2
                obtain ⟨A, hA, htail⟩ := tail_at hg hcap htake hm
                have hhead := head_at hg htake (Nat.le_of_lt hm)
                have hne := neq34
                have hqq : samePkt q q = true := (samePkt_iff q q).2 rfl
                have HG := Lib.hid hg
                have hcap9 : cv ≤ 9223372036854775807 := by unfold maxLen at hmax; omega
                have hd : decide ((m : Int) < 0) = false := decide_eq_false (by omega)
                have hd2 : decide ((L.length : Int) ≤ m) = false := decide_eq_false (by omega)
                have hm2 : (m : Int) < (L.length : Int) := by omega
                clear hF step hv hg htake hsz hmax p0 p1 p2
                go_wp2_with fail
                go_quiet (fail)
                go_wp2_with fail
                have H5 : Hid (Sep w ((w4.alloc (Obj.cells #[.int .i64 q.src, .int .i64 q.dst, .string q.body] 34)).drewN nq) [pktThing (.slice (some ⟨g, 0, none⟩) L.length cv) L, netThing 81 n (L.eraseIdx m) 0] ∧
                    ((w4.alloc (Obj.cells #[.int .i64 q.src, .int .i64 q.dst, .string q.body] 34)).drewN nq).heap[g]? = w4.heap[g]? ∧ g < ((w4.alloc (Obj.cells #[.int .i64 q.src, .int .i64 q.dst, .string q.body] 34)).drewN nq).heap.size) :=
                  ⟨H4.out.quiet ((Turns.alloc [] _ _).drewN nq), Below.heap_alloc _ _ _ hgs, by simp; omega⟩
                generalize hW5 : ((w4.alloc (Obj.cells #[.int .i64 q.src, .int .i64 q.dst, .string q.body] 34)).drewN nq) = W5 at H5 ⊢
                clear hW5 pa0 pa1 pa2 HG H4 hne hqq
                have HNIL : Hid ((W5.alloc (.cells #[] 34)).ownsRow W5.heap.size 34 3 (.slice (some ⟨W5.heap.size, 0, none⟩) 0 0) 0 []) := World.ownsRow_made W5 #[] 0 (Nat.le_refl _) (by unfold maxLen; omega) rfl
                have hwr : IntKind.i64.wrap ((m : Int) + 1) = (m : Int) + 1 := by rw [IntKind.wrap_i64]; omega
                have hp0 : (0 : Int) ≤ (m : Int) + 1 := by omega
                have hp1 : (m : Int) + 1 ≤ (L.length : Int) := by omega
                have hp2 : ((m : Int) + 1).toNat = m + 1 := by omega
                have hmc : m ≤ cv := by omega
                have s1 : Hid ((pktCells (L.take m)).length = m * 3) := by show _ = _; rw [pktCells_length]; simp; omega
                have s2 : Hid ((pktCells (L.drop (m + 1))).length = (L.length - (m + 1)) * 3) := by show _ = _; rw [pktCells_length]; simp
                go_region_law (first | (refine step_append_own rfl (.tmp 113) (.tmp 116) 28 rfl 34 i0 (.agg #[.int .i64 0, .int .i64 0, .string ⟨#[]⟩]) 3 32 Try.underlying28 hi hz0 hz1 hz2 rfl (by decide) (.slice (some ⟨W5.heap.size, 0, none⟩) 0 0) 0 [] (by simp [Act.eval]) (own_base HNIL.out (Nat.zero_le _)) ⟨g, 0, none⟩ m cv (pktCells (L.take m)) (by simp [Act.eval]) s1.out (hhead.out _ ((Below.heap_alloc _ _ _ H5.out.2.2).trans H5.out.2.1)) (pkts_oneCell _) (by unfold maxLen; omega) (by omega) ?_; intro v1 w6 hown1 hg1 hat1; have HW6 := seg_first ((Turns.alloc [] W5 _).drew) hown1 hg1 (hat1.imp id fun h => ⟨_, h, by simp⟩); clear hown1 hg1 hat1) | (refine step_append_own rfl (.tmp 117) (.tmp 121) 28 rfl 34 i0 (.agg #[.int .i64 0, .int .i64 0, .string ⟨#[]⟩]) 3 32 Try.underlying28 hi hz0 hz1 hz2 rfl (by decide) v1 m (pktCells (L.take m)) (by simp [Act.eval]) HW6.out.1 A (L.length - (m + 1)) (cv - (m + 1)) (pktCells (L.drop (m + 1))) (by simp [Act.eval]) s2.out (htail.out _ ((HW6.out.2.1.block g H5.out.2.2 (by simp)).trans H5.out.2.1)) (pkts_oneCell _) (by unfold maxLen; omega) (by omega) ?_; intro v2 w7 hown2 hg2 hat2; have HW7 := seg_second HW6.out hown2 hg2 hat2 hm; clear hown2 hg2 hat2))
                have H7 : Hid (Sep w w7 [pktThing v2 (L.eraseIdx m), netThing 81 n (L.eraseIdx m) 0]) :=
                  H5.out.1.drop.add (t := pktThing v2 (L.eraseIdx m)) HW7.out.2.1 HW7.out.1 HW7.out.2.2
                clear HW6 HW7 H5 htail hhead hwr hp0 hp1 hp2 hA
                go_wp2_with fail
                go_roundw
                case rel => exact ⟨j + 1, L.eraseIdx m, by omega, Nat.le_trans (List.length_eraseIdx_le _ _) hLL, by go_num, fun p hp => hears1.out p (List.mem_of_mem_eraseIdx hp), H7⟩
                case measure => simp [intOf]; omega
            · have hlt2 : (picks.length : Int) ≤ (j : Int) := by omega
              clear hlt
              go_wp2_with fail
              refine (list_sep [pktThing (.slice av L.length cv) L] [] n L 0 _ hsep1.out (by omega)).mono ?_
              rintro e w4 ⟨v4, rfl, h4⟩
              obtain ⟨FP1, hF1, -, -⟩ := h4.pick [] (pktThing v4 L) _
              obtain ⟨FP2, hF2, -, -⟩ := h4.pick [pktThing v4 L] (pktThing (.slice av L.length cv) L) _
              have hp4 := pktsAt_own hF1.1
              have hp5 := pktsAt_own hF2.1
              have H4 := Lib.hid h4; clear h4 hF1 hF2
              have HP4 := Lib.hid (And.intro hp4 hp5); clear hp4 hp5
              go_wp2_with fail
              refine (same_is v4 _ L L _ HP4.out.1 HP4.out.2 (by omega) (by omega) true (decide_eq_true rfl)).mono ?_
              rintro e w5 ⟨rfl, q5, rfl⟩
              go_wp2_with fail
              go_ret
              exact ⟨rfl, below_drewN' H4.out.below q5⟩
    · have hp2 : decide ((30 : Int) < (picks.length : Int)) = true := decide_eq_true (by omega)
      go_enter Try.func3, Try.ntmps3
      go_wp2_with fail
      refine (small_any _).mono ?_
      rintro e w1 ⟨rfl, h1⟩
      have H1 := Lib.hid ((Sep.start w).quiet h1); clear h1
      go_wp2_with fail
      refine (new_fresh w [] _ H1.out).mono ?_
      rintro e w2 ⟨n, rfl, h2⟩
      have H2 := Lib.hid h2; clear h2
      go_wp2_with fail
      refine (few_is a cap ops 30 _ (HO.out.below H2.out.below) true HF.out).mono ?_
      rintro e w3 ⟨rfl, rfl⟩
      go_wp2_with fail
      go_ret
      exact ⟨rfl, H2.out.below⟩

end Go.Proofs.Ytmikjninonpejaa
