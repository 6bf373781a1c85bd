/- Contracts and lemmas (texts Bits, NetV, RefB, RefC, joined by a program). -/
import Derived.Test.YtmikjninonpejaaMb3
import Derived.WalkKit
/- Plain lemmas on the low bits of a number. -/
namespace Go.Proofs.YtmikjninonpejaaMem
open Go
theorem and1 (n : Int) : bits .and .i64 n 1 = n % 2 := by
  have h127 : (BitVec.ofInt 64 1).toNat = 2 ^ 1 - 1 := by decide
  have key : (BitVec.ofInt 64 n &&& BitVec.ofInt 64 1).toNat = (n % ((2 ^ 64 : Nat) : Int)).toNat % 2 ^ 1 := by
    rw [BitVec.toNat_and, BitVec.toNat_ofInt, h127, Nat.and_two_pow_sub_one_eq_mod]
  show IntKind.i64.wrap ((BitVec.ofInt 64 n &&& BitVec.ofInt 64 1).toNat : Nat) = n % 2
  rw [key, IntKind.wrap_i64]
  omega
theorem and3 (n : Int) : bits .and .i64 n 3 = n % 4 := by
  have h127 : (BitVec.ofInt 64 3).toNat = 2 ^ 2 - 1 := by decide
  have key : (BitVec.ofInt 64 n &&& BitVec.ofInt 64 3).toNat = (n % ((2 ^ 64 : Nat) : Int)).toNat % 2 ^ 2 := by
    rw [BitVec.toNat_and, BitVec.toNat_ofInt, h127, Nat.and_two_pow_sub_one_eq_mod]
  show IntKind.i64.wrap ((BitVec.ofInt 64 n &&& BitVec.ofInt 64 3).toNat : Nat) = n % 4
  rw [key, IntKind.wrap_i64]
  omega
theorem and7 (n : Int) : bits .and .i64 n 7 = n % 8 := by
  have h127 : (BitVec.ofInt 64 7).toNat = 2 ^ 3 - 1 := by decide
  have key : (BitVec.ofInt 64 n &&& BitVec.ofInt 64 7).toNat = (n % ((2 ^ 64 : Nat) : Int)).toNat % 2 ^ 3 := by
    rw [BitVec.toNat_and, BitVec.toNat_ofInt, h127, Nat.and_two_pow_sub_one_eq_mod]
  show IntKind.i64.wrap ((BitVec.ofInt 64 n &&& BitVec.ofInt 64 7).toNat : Nat) = n % 8
  rw [key, IntKind.wrap_i64]
  omega
theorem and15 (n : Int) : bits .and .i64 n 15 = n % 16 := by
  have h127 : (BitVec.ofInt 64 15).toNat = 2 ^ 4 - 1 := by decide
  have key : (BitVec.ofInt 64 n &&& BitVec.ofInt 64 15).toNat = (n % ((2 ^ 64 : Nat) : Int)).toNat % 2 ^ 4 := by
    rw [BitVec.toNat_and, BitVec.toNat_ofInt, h127, Nat.and_two_pow_sub_one_eq_mod]
  show IntKind.i64.wrap ((BitVec.ofInt 64 n &&& BitVec.ofInt 64 15).toNat : Nat) = n % 16
  rw [key, IntKind.wrap_i64]
  omega
theorem and65535 (n : Int) : bits .and .i64 n 65535 = n % 65536 := by
  have h127 : (BitVec.ofInt 64 65535).toNat = 2 ^ 16 - 1 := by decide
  have key : (BitVec.ofInt 64 n &&& BitVec.ofInt 64 65535).toNat = (n % ((2 ^ 64 : Nat) : Int)).toNat % 2 ^ 16 := by
    rw [BitVec.toNat_and, BitVec.toNat_ofInt, h127, Nat.and_two_pow_sub_one_eq_mod]
  show IntKind.i64.wrap ((BitVec.ofInt 64 n &&& BitVec.ofInt 64 65535).toNat : Nat) = n % 65536
  rw [key, IntKind.wrap_i64]
  omega
end Go.Proofs.YtmikjninonpejaaMem

/- Statements about net: NetOrders, the walk's helpers and the first loop. -/
namespace Go.Proofs.Ytmikjninonpejaa
open Go.RowKit Go.Proofs.YtmikjninonpejaaMem

/-- Numbers lie in memory as a slice's elements. -/
def IntsAt (w : World) (a : Option Addr) (zs : List Int) : Prop :=
  ∀ i (h : i < zs.length), ∃ b off, a = some ⟨b, off, none⟩ ∧ w.cell? ⟨b, off + i, none⟩ = some (.int .i64 zs[i])
theorem IntsAt.below {w w' : World} {a : Option Addr} {zs : List Int} (h : IntsAt w a zs) (hb : Below w.heap.size w w') : IntsAt w' a zs := by
  intro i hi
  obtain ⟨b, off, rfl, h0⟩ := h i hi
  exact ⟨b, off, rfl, (hb.cell (p := ⟨b, off + i, none⟩) (World.block_lt_of_cell? w _ h0)).trans h0⟩

theorem few_is (a : Option Addr) (cap : Nat) (ops : List NOp) (most : Int) (w : World) (hops : OpsAt w a ops) (r : Bool) (hr : fewB ops most = r) :
    Calls Try.prog 14 #[.slice a ops.length cap, .int .i64 most] w fun e w' => e = .returned (.bool r) ∧ w = w' := hr ▸ few_any a cap ops most w hops
theorem few_len {ops : List NOp} {most : Int} (h : fewB ops most = true) : (ops.length : Int) ≤ most := by
  simp [fewB] at h; exact h.2

theorem below_drewN' {B : Nat} {a w : World} (h : Below B a w) (n : Nat) : Below B a (w.drewN n) := ⟨h.os, h.tape, h.output, h.size, h.block⟩

theorem same_is (v1 v2 : Value) (l1 l2 : List Pkt) (w : World) (h1 : PktsAt w v1 l1) (h2 : PktsAt w v2 l2) (hm1 : l1.length ≤ 2000) (hm2 : l2.length ≤ 2000) (r : Bool) (hr : decide (l1 = l2) = r) :
    Calls Try.prog 17 #[v1, v2] w fun e w' => e = .returned (.bool r) ∧ ∃ n, w' = w.drewN n := hr ▸ same_any v1 v2 l1 l2 w h1 h2 hm1 hm2

/-- A new packet has been appended to an owned slice. -/
theorem pkt_appended {w w0 w1 : World} {l : List Pkt} {v v' : Value} (p : Pkt) (h0 : Turns [] w w0)
    (hown : w1.ownsRow 0 34 3 v' (l.length + 1) (pktCells l ++ p.cells)) (hg : w0.grownBy w1 v.ownBlock) (hat : v'.ownBlock = v.ownBlock ∨ ∃ k, v'.ownBlock = some k ∧ w.heap.size ≤ k) :
    (pktThing v' (l ++ [p])).holds w1 v'.ownBlock.toList ∧ Evolves v.ownBlock.toList v'.ownBlock.toList w w1 := by
  refine ⟨⟨?_, rfl⟩, (h0.mono (by simp)).trans (Turns.of_grown hg (fun k hk => Or.inl (by simp [hk]))), fun x hx => ?_⟩
  · have e : pktCells (l ++ [p]) = pktCells l ++ p.cells := by rw [pktCells_append]; simp [pktCells]
    rw [e, List.length_append]
    exact hown
  · rcases hat with h | ⟨k, h, hk⟩
    · exact Or.inl (by rw [← h]; exact hx)
    · rw [h] at hx; simp at hx; subst hx; exact Or.inr hk

/-- The packet of an operation in NetOrders. -/
def ordPkt (o : NOp) : Pkt := ⟨bits .and .i64 o.n 15, bits .and .i64 (bits .and .i64 o.n 15 + 1 + bits .and .i64 o.to 7) 15, o.s⟩

theorem ord_from (o : NOp) : 0 ≤ bits .and .i64 o.n 15 ∧ bits .and .i64 o.n 15 ≤ 15 := by rw [and15]; omega
theorem ord_step (o : NOp) : 0 ≤ bits .and .i64 o.to 7 ∧ bits .and .i64 o.to 7 ≤ 7 := by rw [and7]; omega
theorem side_zero (a : Int) : side 0 a = 0 := by
  simp only [side, Int.zero_ediv]; kernel_rfl
theorem hears_zero {a b : Int} (ha : isEnd a = true) (hb : isEnd b = true) : hears 0 a b = true := by
  simp [hears, ha, hb, side_zero]
theorem ord_ends (o : NOp) : isEnd (ordPkt o).src = true ∧ isEnd (ordPkt o).dst = true ∧ ((ordPkt o).src == (ordPkt o).dst) = false := by
  simp only [ordPkt, isEnd, and15, and7]
  refine ⟨by simp; omega, by simp; omega, ?_⟩
  simp
  omega
theorem ord_sends (l : List Pkt) (hl : l.length < 500) (o : NOp) : sendCode l 0 (ordPkt o).src (ordPkt o).dst = 0 := by
  obtain ⟨h1, h2, h3⟩ := ord_ends o
  have h4 := hears_zero h1 h2
  simp [sendCode, h1, h2, h3, h4]
  omega
theorem ord_hears (o : NOp) : hears 0 (ordPkt o).src (ordPkt o).dst = true := hears_zero (ord_ends o).1 (ord_ends o).2.1

/-- Where l[i+1:] begins, and what lies there. -/
theorem tail_at {w : World} {g cap i : Nat} {l : List Pkt} {cur : Array Value} (hg : w.heap[g]? = some (.cells cur 34 (0, 0))) (hc : l.length ≤ cap) (htake : cur.toList.take (l.length * 3) = pktCells l) (hi : i < l.length) :
    ∃ A : Addr, (if cap = i + 1 then some (⟨g, 0, none⟩ : Addr) else some ⟨g, (i + 1) * 3, none⟩) = some A ∧ Hid (∀ w' : World, w'.heap[g]? = w.heap[g]? → ∀ t u, (pktCells (l.drop (i + 1)))[t]? = some u → w'.cell? (A.add t) = some u) := by
  have hlen : (pktCells (l.drop (i + 1))).length = (l.length - (i + 1)) * 3 := by rw [pktCells_length]; simp
  by_cases h : cap = i + 1
  · refine ⟨⟨g, 0, none⟩, by simp [h], fun w' hw t u hu => ?_⟩
    have h0 : (pktCells (l.drop (i + 1))).length = 0 := by rw [hlen]; omega
    rw [List.length_eq_zero_iff.1 h0] at hu
    simp at hu
  · refine ⟨⟨g, (i + 1) * 3, none⟩, by simp [h], fun w' hw t u hu => ?_⟩
    have ht := (List.getElem?_eq_some_iff.1 hu).1
    rw [← pktCells_drop, List.getElem?_drop, ← htake, List.getElem?_take, if_pos (by omega)] at hu
    rw [Addr.add_lit, cell_at (hw.trans hg), ← hu]
    simp
/-- append([]T{}, l[:i]...): what it leaves. -/
theorem seg_first {W5 Wx w6 : World} {v1 : Value} {m : Nat} {l : List Pkt} (h0 : Turns [] W5 Wx) (hown : w6.ownsRow 0 34 3 v1 (0 + m) ([] ++ pktCells (l.take m))) (hg : Wx.grownBy w6 (Value.slice (some ⟨W5.heap.size, 0, none⟩) 0 0).ownBlock)
    (hat : v1.ownBlock = (Value.slice (some ⟨W5.heap.size, 0, none⟩) 0 0).ownBlock ∨ ∃ k, v1.ownBlock = some k ∧ W5.heap.size ≤ k) :
    Hid (w6.ownsRow 0 34 3 v1 m (pktCells (l.take m)) ∧ Turns [] W5 w6 ∧ (∀ x ∈ v1.ownBlock.toList, W5.heap.size ≤ x)) := by
  refine ⟨by simpa using hown, h0.trans_new (Turns.of_grown (S := [W5.heap.size]) hg (fun k hk => Or.inl (by simp [Value.ownBlock] at hk; simp [hk]))) (fun x hx => Or.inr (by simp at hx; omega)), fun x hx => ?_⟩
  rcases hat with h | ⟨k, h, hk⟩
  · rw [h] at hx; simp [Value.ownBlock] at hx; omega
  · rw [h] at hx; simp at hx; omega
/-- append(append([]T{}, l[:i]...), l[i+1:]...): what it leaves. -/
theorem seg_second {W5 w6 w7 : World} {v1 v2 : Value} {m : Nat} {l : List Pkt} (h6 : w6.ownsRow 0 34 3 v1 m (pktCells (l.take m)) ∧ Turns [] W5 w6 ∧ (∀ x ∈ v1.ownBlock.toList, W5.heap.size ≤ x))
    (hown : w7.ownsRow 0 34 3 v2 (m + (l.length - (m + 1))) (pktCells (l.take m) ++ pktCells (l.drop (m + 1)))) (hg : w6.grownBy w7 v1.ownBlock) (hat : v2.ownBlock = v1.ownBlock ∨ v2.ownBlock = some w6.heap.size) (hm : m < l.length) :
    Hid ((pktThing v2 (l.eraseIdx m)).holds w7 v2.ownBlock.toList ∧ Turns [] W5 w7 ∧ (∀ x ∈ v2.ownBlock.toList, W5.heap.size ≤ x)) := by
  refine ⟨⟨?_, rfl⟩, ?_, fun x hx => ?_⟩
  · have e : (l.eraseIdx m).length = m + (l.length - (m + 1)) := by rw [List.length_eraseIdx, if_pos hm]; omega
    rw [e, List.eraseIdx_eq_take_drop_succ, pktCells_append]
    exact hown
  · exact h6.2.1.trans_new (Turns.of_grown (S := v1.ownBlock.toList) hg (fun k hk => Or.inl (by simp [hk]))) (fun x hx => Or.inr (h6.2.2 x hx))
  · rcases hat with h | h
    · rw [h] at hx; exact h6.2.2 x hx
    · rw [h] at hx; simp at hx; subst hx; exact h6.2.1.size
/-- What lies in l[:i]. -/
theorem head_at {w : World} {g i : Nat} {l : List Pkt} {cur : Array Value} (hg : w.heap[g]? = some (.cells cur 34 (0, 0))) (htake : cur.toList.take (l.length * 3) = pktCells l) (hi : i ≤ l.length) :
    Hid (∀ w' : World, w'.heap[g]? = w.heap[g]? → ∀ t u, (pktCells (l.take i))[t]? = some u → w'.cell? ((⟨g, 0, none⟩ : Addr).add t) = some u) := by
  intro w' hw t u hu
  have ht := (List.getElem?_eq_some_iff.1 hu).1
  rw [pktCells_length, List.length_take] at ht
  rw [← pktCells_take, ← htake, List.take_take, List.getElem?_take, if_pos (by omega)] at hu
  have e : (⟨g, 0, none⟩ : Addr).add t = ⟨g, t, none⟩ := by unfold Addr.add; split <;> simp_all
  rw [e, cell_at (hw.trans hg), ← hu]
  simp

set_option maxHeartbeats 1600000 in
set_option maxRecDepth 100000 in
theorem orders_walk (a : Option Addr) (cap : Nat) (ops : List NOp) (pa : Option Addr) (pcap : Nat) (picks : List Int) (w : World) (hops : OpsAt w a ops) (hpicks : IntsAt w pa picks) :
    Calls Try.prog 3 #[.slice a ops.length cap, .slice pa picks.length pcap] w fun e w' => e = .returned (.bool true) ∧ Below w.heap.size w w' := by
  have HO := Lib.hid hops; clear hops
  have HP := Lib.hid hpicks; clear hpicks
  cases hfew : fewB ops 30
  · have HF := Lib.hid hfew; clear hfew
    go_enter Try.func3, Try.ntmps3
    go_wp2_with fail
    refine (small_any _).mono ?_
    rintro e w1 ⟨rfl, h1⟩
    have H1 := Lib.hid ((Sep.start w).quiet h1); clear h1
    go_wp2_with fail
    refine (new_fresh w [] _ H1.out).mono ?_
    rintro e w2 ⟨n, rfl, h2⟩
    have H2 := Lib.hid h2; clear h2
    go_wp2_with fail
    refine (few_is a cap ops 30 _ (HO.out.below H2.out.below) false HF.out).mono ?_
    rintro e w3 ⟨rfl, rfl⟩
    go_wp2_with fail
    go_ret
    exact ⟨rfl, H2.out.below⟩
  · have hol := few_len hfew
    have HF := Lib.hid hfew; clear hfew
    by_cases hp : picks.length ≤ 30
    · have hp2 : decide ((30 : Int) < (picks.length : Int)) = false := decide_eq_false (by omega)
      have hol2 : ops.length ≤ 30 := by omega
      go_enter Try.func3, Try.ntmps3
      go_wp2_with fail
      refine (small_any _).mono ?_
      rintro e w1 ⟨rfl, h1⟩
      have H1 := Lib.hid ((Sep.start w).quiet h1); clear h1
      go_wp2_with fail
      refine (new_fresh w [] _ H1.out).mono ?_
      rintro e w2 ⟨n, rfl, h2⟩
      have H2 := Lib.hid h2; clear h2
      go_wp2_with fail
      refine (few_is a cap ops 30 _ (HO.out.below H2.out.below) true HF.out).mono ?_
      rintro e w3 ⟨rfl, rfl⟩
      go_wp2_with fail
      have H3 : Hid (Sep w w2 [pktThing (.slice none 0 0) [], netThing 81 n [] 0]) := H2.out.add (t := pktThing (.slice none 0 0) []) (FP := []) (Turns.refl _ _) ⟨World.ownsRow_nil _ _ _ _, rfl⟩ (by simp)
      obtain ⟨i0, hi, hz0, hz1, hz2⟩ := info_parts Try.info34
      go_loopw [7, 8] (fun v i wr => ∃ k : Nat, k ≤ ops.length ∧ i = .int .i64 k ∧ Hid (Sep w wr [pktThing v ((ops.take k).map ordPkt), netThing 81 n ((ops.take k).map ordPkt) 0])) (fun _ i _ => ops.length - (intOf i).toNat)
      case atStart => exact ⟨0, Nat.zero_le _, rfl, H3⟩
      case round =>
        obtain ⟨k, hk, rfl, hsep⟩ := hrel
        by_cases hlt : k < ops.length
        · obtain ⟨b, off, rfl, -, c1, c2, c3⟩ := HO.out.below hsep.out.below k hlt
          obtain ⟨o, ho⟩ : ∃ o, o = ops[k] := ⟨_, rfl⟩
          rw [← ho] at c1 c2 c3
          have HOK := Lib.hid ho; clear ho
          have hlt2 : (k : Int) < (ops.length : Int) := by omega
          have f1 := (ord_from o).1
          have f2 := (ord_from o).2
          have f3 := (ord_step o).1
          have f4 := (ord_step o).2
          go_wp2_with fail
          obtain ⟨L, hLe⟩ : ∃ L, L = (ops.take k).map ordPkt := ⟨_, rfl⟩
          have hL : L.length ≤ 30 := by rw [hLe]; simp; omega
          rw [← hLe] at hsep
          have HL := Lib.hid hLe; clear hLe
          refine (send_sep [pktThing u7 L] [] n L 0 (ordPkt o).src (ordPkt o).dst (ordPkt o).body _ hsep.out (by omega)).mono ?_
          rintro e w4 ⟨rfl, h4⟩
          rw [ord_sends _ (by omega) o]
          rw [show sendList L 0 (ordPkt o).src (ordPkt o).dst (ordPkt o).body = L ++ [ordPkt o] by rw [sendList, if_pos (ord_sends _ (by omega) o)]] at h4
          have H4 := Lib.hid h4; clear h4
          obtain ⟨b', off', hbo, d0, d1, d2, d3⟩ := HO.out.below H4.out.below k hlt
          obtain ⟨rfl, rfl⟩ : b = b' ∧ off = off' := by simpa using hbo
          rw [← HOK.out] at d0 d1 d2 d3
          clear hbo d0 d1 d2 c1 c2 c3
          obtain ⟨FP, hF, _, step⟩ := H4.out.pick [] (pktThing u7 L) [netThing 81 n (L ++ [ordPkt o]) 0]
          have HS := Lib.hid (And.intro hF step); clear hF step
          go_wp2_with (at_builtin; refine wpList_append_own_at _ rfl (.tmp 66) (.tmp 75) 28 rfl 0 34 i0 (.agg #[.int .i64 0, .int .i64 0, .string ⟨#[]⟩]) 3 32 Try.underlying28 hi hz0 hz1 hz2 rfl (by decide) _ L.length (pktCells L) rfl (HS.out.1.1.alloc _) ⟨w4.heap.size, 0, none⟩ 1 1 (ordPkt o).cells rfl rfl (new_cells _ _ _ _ rfl) (pkt_oneCell _) (by unfold maxLen; omega) (by omega) (Nat.zero_le _) ?_)
          intro v' w5 hown hg _ hat
          obtain ⟨hh, hev⟩ := pkt_appended (ordPkt o) (Turns.alloc [] w4 _) hown hg (hat.imp id fun h => ⟨_, h, by simp⟩)
          have h5 := HS.out.2 _ _ _ (HS.out.1.2 ▸ hev) hh
          have H5 := Lib.hid h5; clear h5 hh hev hown hg hat
          go_wp2
          go_roundw
          case rel =>
            refine ⟨k + 1, by omega, by go_num, ?_⟩
            rw [List.take_succ_eq_append_getElem hlt, List.map_append, ← HL.out, List.map_singleton, ← HOK.out]
            exact H5
          case measure => simp [intOf]; omega
        · have hkl : k = ops.length := by omega
          have hkl2 : (ops.length : Int) ≤ (k : Int) := by omega
          obtain ⟨L0, hL0⟩ : ∃ L, L = (ops.take k).map ordPkt := ⟨_, rfl⟩
          have hLl : L0.length ≤ 30 := by rw [hL0]; simp; omega
          have hears0 : Hid (∀ p ∈ L0, hears 0 p.src p.dst = true) := by
            intro p hp
            rw [hL0] at hp
            obtain ⟨o, _, rfl⟩ := List.mem_map.1 hp
            exact ord_hears o
          rw [← hL0] at hsep
          have hsep0 := Lib.hid hsep.out
          clear hL0 hsep hkl
          go_wp2_with fail
          go_loopw [7, 11] (fun v i wr => ∃ (j : Nat) (L : List Pkt), j ≤ picks.length ∧ L.length ≤ 30 ∧ i = .int .i64 j ∧ Hid (∀ p ∈ L, hears 0 p.src p.dst = true) ∧ Hid (Sep w wr [pktThing v L, netThing 81 n L 0])) (fun _ i _ => picks.length - (intOf i).toNat)
          case atStart => exact ⟨0, L0, Nat.zero_le _, hLl, rfl, hears0, hsep0⟩
          case round =>
            obtain ⟨j, L, hj, hLL, rfl, hears1, hsep1⟩ := hrel
            obtain ⟨FP, hF, -, step⟩ := hsep1.out.pick [] (pktThing u7 L) [netThing 81 n L 0]
            obtain ⟨av, cv, rfl, -, -⟩ := own_shape hF.1
            clear hF step
            by_cases hlt : j < picks.length
            · obtain ⟨pb, poff, rfl, c0⟩ := HP.out.below hsep1.out.below j hlt
              obtain ⟨kk, hkk⟩ : ∃ kk, kk = picks[j] := ⟨_, rfl⟩
              rw [← hkk] at c0
              clear hkk
              have hlt2 : (j : Int) < (picks.length : Int) := by omega
              cases hin : inList L kk
              · have hno := inList_no hin
                have e1 : deliverCode L 0 kk = 4 := by simp [deliverCode, hin]
                have e2 : deliverPkt L 0 kk = noPkt := by simp [deliverPkt, e1]
                have e3 : without L kk = L := by simp [without, hin]
                have HE := Lib.hid (And.intro e1 (And.intro e2 e3)); clear e1 e2 e3
                go_wp2_with fail
                refine (deliver_sep [pktThing (.slice av L.length cv) L] [] n L 0 kk _ hsep1.out (by omega)).mono ?_
                rintro e w4 ⟨rfl, h4⟩
                rw [HE.out.1, HE.out.2.1]
                rw [HE.out.2.2] at h4
                simp only [noPkt]
                have H4 := Lib.hid h4; clear h4
                have HR : Hid (∀ o, Sep w (w4.alloc o) [pktThing (.slice av L.length cv) L, netThing 81 n L 0]) := fun o => H4.out.quiet (Turns.alloc [] _ _)
                clear hin
                by_cases hk0 : kk < 0
                · have hd : decide (kk < 0) = true := decide_eq_true hk0
                  go_wp2_with fail
                  go_roundw
                  case rel => exact ⟨j + 1, L, by omega, hLL, by go_num, hears1, HR.out _⟩
                  case measure => simp [intOf]; omega
                · have hd : decide (kk < 0) = false := decide_eq_false hk0
                  have hd2 : decide ((L.length : Int) ≤ kk) = true := decide_eq_true (by omega)
                  clear hno
                  go_wp2_with fail
                  go_roundw
                  case rel => exact ⟨j + 1, L, by omega, hLL, by go_num, hears1, HR.out _⟩
                  case measure => simp [intOf]; omega
              · obtain ⟨m, rfl, hm⟩ := inList_yes hin
                have e0 : pktAt L m = L[m] := by simp [pktAt, hm]
                have e1 : deliverCode L 0 m = 0 := by simp [deliverCode, hin, e0, hears1.out L[m] (List.getElem_mem hm)]
                have e2 : deliverPkt L 0 m = L[m] := by simp [deliverPkt, e1, e0]
                have e3 : without L m = L.eraseIdx m := by simp [without, hin]
                have HE := Lib.hid (And.intro e1 (And.intro e2 e3)); clear e0 e1 e2 e3 hin
                go_wp2_with fail
                refine (deliver_sep [pktThing (.slice av L.length cv) L] [] n L 0 m _ hsep1.out (by omega)).mono ?_
                rintro e w4 ⟨rfl, h4⟩
                rw [HE.out.1, HE.out.2.1]
                rw [HE.out.2.2] at h4
                obtain ⟨q, hq⟩ : ∃ q, q = L[m] := ⟨_, rfl⟩
                rw [← hq]
                have H4 := Lib.hid h4; clear h4
                obtain ⟨FP, hF, -, step⟩ := H4.out.pick [] (pktThing (.slice av L.length cv) L) [netThing 81 n (L.eraseIdx m) 0]
                rcases hF.1.2 with ⟨-, h0⟩ | ⟨g, cap', cur, hv, -, hg, hcap, hmax, hsz, htake⟩
                · omega
                obtain ⟨rfl, rfl⟩ : av = some ⟨g, 0, none⟩ ∧ cv = cap' := by simpa using hv
                have hgs := lt_of_at hg
                obtain ⟨p0, p1, p2⟩ := pkt_cell hg htake m hm
                rw [← hq] at p0 p1 p2
                have HQ := Lib.hid hq; clear hq
                have pa0 : ∀ o, (w4.alloc o).cell? ⟨g, m * 3, none⟩ = some (.int .i64 q.src) := fun o => by rw [World.cell?_alloc_past _ _ _ hgs]; exact p0
                have pa1 : ∀ o, (w4.alloc o).cell? ⟨g, m * 3 + 1, none⟩ = some (.int .i64 q.dst) := fun o => by rw [World.cell?_alloc_past _ _ _ hgs]; exact p1
                have pa2 : ∀ o, (w4.alloc o).cell? ⟨g, m * 3 + 2, none⟩ = some (.string q.body) := fun o => by rw [World.cell?_alloc_past _ _ _ hgs]; exact p2
                obtain ⟨A, hA, htail⟩ := tail_at hg hcap htake hm
                have hhead := head_at hg htake (Nat.le_of_lt hm)
                have hne := neq34
                have hqq : samePkt q q = true := (samePkt_iff q q).2 rfl
                have HG := Lib.hid hg
                have hcap9 : cv ≤ 9223372036854775807 := by unfold maxLen at hmax; omega
                have hd : decide ((m : Int) < 0) = false := decide_eq_false (by omega)
                have hd2 : decide ((L.length : Int) ≤ m) = false := decide_eq_false (by omega)
                have hm2 : (m : Int) < (L.length : Int) := by omega
                clear hF step hv hg htake hsz hmax p0 p1 p2
                go_wp2_with fail
                go_quiet (fail)
                go_wp2_with fail
                have H5 : Hid (Sep w ((w4.alloc (Obj.cells #[.int .i64 q.src, .int .i64 q.dst, .string q.body] 34)).drewN nq) [pktThing (.slice (some ⟨g, 0, none⟩) L.length cv) L, netThing 81 n (L.eraseIdx m) 0] ∧
                    ((w4.alloc (Obj.cells #[.int .i64 q.src, .int .i64 q.dst, .string q.body] 34)).drewN nq).heap[g]? = w4.heap[g]? ∧ g < ((w4.alloc (Obj.cells #[.int .i64 q.src, .int .i64 q.dst, .string q.body] 34)).drewN nq).heap.size) :=
                  ⟨H4.out.quiet ((Turns.alloc [] _ _).drewN nq), Below.heap_alloc _ _ _ hgs, by simp; omega⟩
                generalize hW5 : ((w4.alloc (Obj.cells #[.int .i64 q.src, .int .i64 q.dst, .string q.body] 34)).drewN nq) = W5 at H5 ⊢
                clear hW5 pa0 pa1 pa2 HG H4 hne hqq
                have HNIL : Hid ((W5.alloc (.cells #[] 34)).ownsRow W5.heap.size 34 3 (.slice (some ⟨W5.heap.size, 0, none⟩) 0 0) 0 []) := World.ownsRow_made W5 #[] 0 (Nat.le_refl _) (by unfold maxLen; omega) rfl
                have hwr : IntKind.i64.wrap ((m : Int) + 1) = (m : Int) + 1 := by rw [IntKind.wrap_i64]; omega
                have hp0 : (0 : Int) ≤ (m : Int) + 1 := by omega
                have hp1 : (m : Int) + 1 ≤ (L.length : Int) := by omega
                have hp2 : ((m : Int) + 1).toNat = m + 1 := by omega
                have hmc : m ≤ cv := by omega
                have s1 : Hid ((pktCells (L.take m)).length = m * 3) := by show _ = _; rw [pktCells_length]; simp; omega
                have s2 : Hid ((pktCells (L.drop (m + 1))).length = (L.length - (m + 1)) * 3) := by show _ = _; rw [pktCells_length]; simp
                go_region_law (first | (refine step_append_own rfl (.tmp 113) (.tmp 116) 28 rfl 34 i0 (.agg #[.int .i64 0, .int .i64 0, .string ⟨#[]⟩]) 3 32 Try.underlying28 hi hz0 hz1 hz2 rfl (by decide) (.slice (some ⟨W5.heap.size, 0, none⟩) 0 0) 0 [] (by simp [Act.eval]) (own_base HNIL.out (Nat.zero_le _)) ⟨g, 0, none⟩ m cv (pktCells (L.take m)) (by simp [Act.eval]) s1.out (hhead.out _ ((Below.heap_alloc _ _ _ H5.out.2.2).trans H5.out.2.1)) (pkts_oneCell _) (by unfold maxLen; omega) (by omega) ?_; intro v1 w6 hown1 hg1 hat1; have HW6 := seg_first ((Turns.alloc [] W5 _).drew) hown1 hg1 (hat1.imp id fun h => ⟨_, h, by simp⟩); clear hown1 hg1 hat1) | (refine step_append_own rfl (.tmp 117) (.tmp 121) 28 rfl 34 i0 (.agg #[.int .i64 0, .int .i64 0, .string ⟨#[]⟩]) 3 32 Try.underlying28 hi hz0 hz1 hz2 rfl (by decide) v1 m (pktCells (L.take m)) (by simp [Act.eval]) HW6.out.1 A (L.length - (m + 1)) (cv - (m + 1)) (pktCells (L.drop (m + 1))) (by simp [Act.eval]) s2.out (htail.out _ ((HW6.out.2.1.block g H5.out.2.2 (by simp)).trans H5.out.2.1)) (pkts_oneCell _) (by unfold maxLen; omega) (by omega) ?_; intro v2 w7 hown2 hg2 hat2; have HW7 := seg_second HW6.out hown2 hg2 hat2 hm; clear hown2 hg2 hat2))
                have H7 : Hid (Sep w w7 [pktThing v2 (L.eraseIdx m), netThing 81 n (L.eraseIdx m) 0]) :=
                  H5.out.1.drop.add (t := pktThing v2 (L.eraseIdx m)) HW7.out.2.1 HW7.out.1 HW7.out.2.2
                clear HW6 HW7 H5 htail hhead hwr hp0 hp1 hp2 hA
                go_wp2_with fail
                go_roundw
                case rel => exact ⟨j + 1, L.eraseIdx m, by omega, Nat.le_trans (List.length_eraseIdx_le _ _) hLL, by go_num, fun p hp => hears1.out p (List.mem_of_mem_eraseIdx hp), H7⟩
                case measure => simp [intOf]; omega
            · have hlt2 : (picks.length : Int) ≤ (j : Int) := by omega
              clear hlt
              go_wp2_with fail
              refine (list_sep [pktThing (.slice av L.length cv) L] [] n L 0 _ hsep1.out (by omega)).mono ?_
              rintro e w4 ⟨v4, rfl, h4⟩
              obtain ⟨FP1, hF1, -, -⟩ := h4.pick [] (pktThing v4 L) _
              obtain ⟨FP2, hF2, -, -⟩ := h4.pick [pktThing v4 L] (pktThing (.slice av L.length cv) L) _
              have hp4 := pktsAt_own hF1.1
              have hp5 := pktsAt_own hF2.1
              have H4 := Lib.hid h4; clear h4 hF1 hF2
              have HP4 := Lib.hid (And.intro hp4 hp5); clear hp4 hp5
              go_wp2_with fail
              refine (same_is v4 _ L L _ HP4.out.1 HP4.out.2 (by omega) (by omega) true (decide_eq_true rfl)).mono ?_
              rintro e w5 ⟨rfl, q5, rfl⟩
              go_wp2_with fail
              go_ret
              exact ⟨rfl, below_drewN' H4.out.below q5⟩
    · have hp2 : decide ((30 : Int) < (picks.length : Int)) = true := decide_eq_true (by omega)
      go_enter Try.func3, Try.ntmps3
      go_wp2_with fail
      refine (small_any _).mono ?_
      rintro e w1 ⟨rfl, h1⟩
      have H1 := Lib.hid ((Sep.start w).quiet h1); clear h1
      go_wp2_with fail
      refine (new_fresh w [] _ H1.out).mono ?_
      rintro e w2 ⟨n, rfl, h2⟩
      have H2 := Lib.hid h2; clear h2
      go_wp2_with fail
      refine (few_is a cap ops 30 _ (HO.out.below H2.out.below) true HF.out).mono ?_
      rintro e w3 ⟨rfl, rfl⟩
      go_wp2_with fail
      go_ret
      exact ⟨rfl, H2.out.below⟩

end Go.Proofs.Ytmikjninonpejaa

/- Contracts of the reference for net: remove, Drop, Double, Copy. -/
namespace Go.Proofs.Ytmikjninonpejaa
open Go.RowKit Go.Proofs.YtmikjninonpejaaMem

/-- The new list, made apart, is stored into the struct. -/
theorem obj_replaced {w w7 : World} {b : Nat} {v v2 : Value} {l' : List Pkt} {s : Int} (hb : w.heap[b]? = some (.cells #[v, .int .i64 s] 51 (0, 0)))
    (h7 : (pktThing v2 l').holds w7 v2.ownBlock.toList ∧ Turns [] w w7 ∧ (∀ x ∈ v2.ownBlock.toList, w.heap.size ≤ x)) :
    w7.cell? ⟨b, 0, none⟩ = some v ∧ w7.frozen? ⟨b, 0, none⟩ = false ∧
    Hid (NetObj 51 (w7.setCell ⟨b, 0, none⟩ v2) b (b :: v2.ownBlock.toList) l' s ∧ Evolves (b :: v.ownBlock.toList) (b :: v2.ownBlock.toList) w (w7.setCell ⟨b, 0, none⟩ v2)) := by
  have hb7 : w7.heap[b]? = some (.cells #[v, .int .i64 s] 51 (0, 0)) := by rw [h7.2.1.block b (lt_of_at hb) (by simp)]; exact hb
  refine ⟨cell_at hb7 0, free_at hb7 0, obj_stored (by decide) hb7 h7.1.1, (h7.2.1.mono (by simp)).trans (Turns.setCell _ _ _ (by simp)), fun x hx => ?_⟩
  rcases List.mem_cons.1 hx with rfl | hx
  · exact Or.inl (by simp)
  · exact Or.inr (h7.2.2 x hx)

set_option maxHeartbeats 1600000 in
set_option maxRecDepth 100000 in
theorem rremove_any (b : Nat) (FP : List Nat) (l : List Pkt) (s : Int) (m : Nat) (w : World) (hn : NetObj 51 w b FP l s) (hm : m < l.length) (hl : l.length ≤ 1000) :
    Calls Try.prog 83 #[.pointer (some ⟨b, 0, none⟩), .int .i64 m] w fun e w' => e = .returned (.tuple #[]) ∧ ∃ FP', NetObj 51 w' b FP' (l.eraseIdx m) s ∧ Evolves FP FP' w w' := by
  obtain ⟨v, hb, ho, e⟩ := hn
  have HE := Lib.hid e; clear e
  rcases id ho.2 with ⟨_, h0⟩ | ⟨g, cap, cur, rfl, _, hg, hcap, hmax, hsz, htake⟩
  · omega
  have hbs : b < w.heap.size := lt_of_at hb
  have hgs : g < w.heap.size := lt_of_at hg
  have HB := Lib.hid hb
  have c0 : w.cell? ⟨b, 0, none⟩ = some (.slice (some ⟨g, 0, none⟩) l.length cap) := cell_at hb 0
  have ca : ∀ o, (w.alloc o).cell? ⟨b, 0, none⟩ = some (.slice (some ⟨g, 0, none⟩) l.length cap) := fun o => by rw [World.cell?_alloc_past _ _ _ hbs]; exact cell_at hb 0
  obtain ⟨A, hA, htail⟩ := tail_at hg hcap htake hm
  have hhead := head_at hg htake (Nat.le_of_lt hm)
  have hcap9 : cap ≤ 9223372036854775807 := by unfold maxLen at hmax; omega
  have HNIL : Hid ((w.alloc (.cells #[] 34)).ownsRow w.heap.size 34 3 (.slice (some ⟨w.heap.size, 0, none⟩) 0 0) 0 []) := World.ownsRow_made w #[] 0 (Nat.le_refl _) (by unfold maxLen; omega) rfl
  have hwr : IntKind.i64.wrap ((m : Int) + 1) = (m : Int) + 1 := by rw [IntKind.wrap_i64]; omega
  have hp0 : (0 : Int) ≤ (m : Int) + 1 := by omega
  have hp1 : (m : Int) + 1 ≤ (l.length : Int) := by omega
  have hp2 : ((m : Int) + 1).toNat = m + 1 := by omega
  have hmc : m ≤ cap := by omega
  have s1 : Hid ((pktCells (l.take m)).length = m * 3) := by show _ = _; rw [pktCells_length]; simp; omega
  have s2 : Hid ((pktCells (l.drop (m + 1))).length = (l.length - (m + 1)) * 3) := by show _ = _; rw [pktCells_length]; simp
  obtain ⟨i0, hi, hz0, hz1, hz2⟩ := info_parts Try.info34
  clear hb ho hg htake hsz hmax
  go_enter Try.func83, Try.ntmps83
  go_wp2_with fail
  go_region_law (first | (refine step_append_own rfl (.tmp 5) (.tmp 11) 28 rfl 34 i0 (.agg #[.int .i64 0, .int .i64 0, .string ⟨#[]⟩]) 3 32 Try.underlying28 hi hz0 hz1 hz2 rfl (by decide) (.slice (some ⟨w.heap.size, 0, none⟩) 0 0) 0 [] (by simp [Act.eval, Act.put]) (own_base HNIL.out (Nat.zero_le _)) ⟨g, 0, none⟩ m cap (pktCells (l.take m)) (by simp [Act.eval, Act.put]) s1.out (hhead.out _ (Below.heap_alloc _ _ _ hgs)) (pkts_oneCell _) (by unfold maxLen; omega) (by omega) ?_; intro v1 w6 hown1 hg1 hat1; have HW6 := seg_first ((Turns.alloc [] w _).drew) hown1 hg1 (hat1.imp id fun h => ⟨_, h, by simp⟩); clear hown1 hg1 hat1; have c6 : w6.cell? ⟨b, 0, none⟩ = some (.slice (some ⟨g, 0, none⟩) l.length cap) := (HW6.out.2.1.cell (a := ⟨b, 0, none⟩) hbs (by simp)).trans (cell_at HB.out 0)) | (refine step_append_own rfl (.tmp 12) (.tmp 19) 28 rfl 34 i0 (.agg #[.int .i64 0, .int .i64 0, .string ⟨#[]⟩]) 3 32 Try.underlying28 hi hz0 hz1 hz2 rfl (by decide) v1 m (pktCells (l.take m)) (by simp [Act.eval, Act.put]) HW6.out.1 A (l.length - (m + 1)) (cap - (m + 1)) (pktCells (l.drop (m + 1))) (by simp [Act.eval, Act.put]) s2.out (htail.out _ (HW6.out.2.1.block g hgs (by simp))) (pkts_oneCell _) (by unfold maxLen; omega) (by omega) ?_; intro v2 w7 hown2 hg2 hat2; have HW7 := seg_second HW6.out hown2 hg2 hat2 hm; clear hown2 hg2 hat2; obtain ⟨a', c', hv', -⟩ := own_shape HW7.out.1.1; subst hv'; obtain ⟨k0, k1, HF⟩ := obj_replaced HB.out HW7.out; clear HW7))

  all_goals
    go_wp2
    go_end0
    exact ⟨rfl, _, HF.out.1, HE.out ▸ HF.out.2⟩

end Go.Proofs.Ytmikjninonpejaa

/- Contracts of the reference for net: Drop, Copy. -/
namespace Go.Proofs.Ytmikjninonpejaa
open Go.RowKit Go.Proofs.YtmikjninonpejaaMem

/-- append onto a slice that the call owns, from nil or a known slice: one step of a region that draws. -/
theorem step_append_src {P : Program} {ops : Array Oper} {o : Oper} {a : Act} {w : World} {K : Act → World → Prop} {Q : Exit → Act → World → Prop} {E : Prop}
    (hg : o.guard = none) (s x : Operand) (t : TypeId) (hop : o.op = Op.call { callee := Callee.builtin Builtin.append, args := #[s, x], argTypes := #[t, t] })
    (e : TypeId) (i : TypeInfo) (z : Value) (size bytes : Nat) (ht : P.underlying t = some (.slice e)) (hi : P.info? e = some i) (hz : i.zero = some z)
    (hsize : i.size = size) (hby : i.bytes = bytes) (hzs : z.cells.size = size) (hsz : 0 < size)
    (v : Value) (n : Nat) (xs : List Value) (hs : a.eval s = v) (hown : w.ownsRow 0 e size v n xs)
    (u : Value) (m : Nat) (news : List Value) (hx : a.eval x = u) (hsrc : SrcAt w u m news) (hl : news.length = m * size) (h1 : ∀ u ∈ news, u.oneCell' = true)
    (h63 : n + m ≤ maxLen) (hbytes : (n + m) * bytes ≤ 140737488355328)
    (hK : ∀ v' w', w'.ownsRow 0 e size v' (n + m) (xs ++ news) → w.grownBy w' v.ownBlock → (v'.ownBlock = v.ownBlock ∨ v'.ownBlock = some w.heap.size) → K (a.put o.dst v') w') :
    if Region.wanted o (yielded ops a.tmps) = true then Oper.wp P o a w K Q else E := by
  have hw : Region.wanted o (yielded ops a.tmps) = true := by simp [Region.wanted, hg]
  rw [if_pos hw]
  obtain ⟨v', w', hr, h2, h3, h5⟩ := run_append_src (P := P) w t o.type e i z size bytes ht hi hz hsize hby hzs hsz v n xs hown u m news hsrc hl h1 h63 hbytes
  unfold Oper.wp
  simp [execOp, hop, resolve, invoke, builtin, hs, hx, hr, Result.andThen]
  exact hK _ _ h2 h3 h5

theorem own_above {w : World} {B : Nat} {e : TypeId} {size : Nat} {v : Value} {n : Nat} {xs : List Value} (h : w.ownsRow 0 e size v n xs) (hb : ∀ x ∈ v.ownBlock.toList, B ≤ x) : w.ownsRow B e size v n xs := by
  refine ⟨h.1, ?_⟩
  rcases h.2 with hn | ⟨g, cap, cur, rfl, hg, r⟩
  · exact .inl hn
  · exact .inr ⟨g, cap, cur, rfl, hb g (by simp [Value.ownBlock]), r⟩
/-- append([]T{}, l...): what it leaves. -/
theorem appended_here {W Wx w6 : World} {v1 : Value} {l : List Pkt} (h0 : Turns [] W Wx) (hown : w6.ownsRow 0 34 3 v1 (0 + l.length) ([] ++ pktCells l)) (hg : Wx.grownBy w6 (Value.slice (some ⟨W.heap.size, 0, none⟩) 0 0).ownBlock)
    (hat : v1.ownBlock = (Value.slice (some ⟨W.heap.size, 0, none⟩) 0 0).ownBlock ∨ ∃ k, v1.ownBlock = some k ∧ W.heap.size ≤ k) :
    w6.ownsRow W.heap.size 34 3 v1 l.length (pktCells l) ∧ Turns [] W w6 ∧ (∀ x ∈ v1.ownBlock.toList, W.heap.size ≤ x) := by
  have hb : ∀ x ∈ v1.ownBlock.toList, W.heap.size ≤ x := fun x hx => by
    rcases hat with h | ⟨k, h, hk⟩
    · rw [h] at hx; simp [Value.ownBlock] at hx; omega
    · rw [h] at hx; simp at hx; omega
  refine ⟨own_above (by simpa using hown) hb, h0.trans_new (Turns.of_grown (S := [W.heap.size]) hg (fun k hk => Or.inl (by simp [Value.ownBlock] at hk; simp [hk]))) (fun x hx => Or.inr (by simp at hx; omega)), hb⟩

set_option maxHeartbeats 400000 in
theorem rdrop_none (b : Nat) (FP : List Nat) (l : List Pkt) (s i : Int) (w : World) (hn : NetObj 51 w b FP l s) (h : i < 0 ∨ (l.length : Int) ≤ i) :
    Calls Try.prog 58 #[.pointer (some ⟨b, 0, none⟩), .int .i64 i] w fun e w' => e = .returned (.int .i64 4) ∧ w = w' := by
  obtain ⟨v, hb, ho, e⟩ := hn
  obtain ⟨a, c, rfl, hc, hm⟩ := own_shape ho
  have c0 : w.cell? ⟨b, 0, none⟩ = some (.slice a l.length c) := cell_at hb 0
  clear hb ho e
  rcases h with h | h
  · have hd : decide (i < 0) = true := decide_eq_true h
    go_enter Try.func58, Try.ntmps58
    go_wp2_with fail
    go_ret
    exact ⟨rfl, rfl⟩
  · have hd : decide (i < 0) = false := decide_eq_false (by omega)
    have hd2 : decide ((l.length : Int) ≤ i) = true := decide_eq_true h
    go_enter Try.func58, Try.ntmps58
    go_wp2_with fail
    go_ret
    exact ⟨rfl, rfl⟩

set_option maxHeartbeats 400000 in
theorem rdrop_some (b : Nat) (FP : List Nat) (l : List Pkt) (s : Int) (k : Nat) (w : World) (hn : NetObj 51 w b FP l s) (hk : k < l.length) (hl : l.length ≤ 1000) :
    Calls Try.prog 58 #[.pointer (some ⟨b, 0, none⟩), .int .i64 k] w fun e w' => e = .returned (.int .i64 0) ∧ ∃ FP', NetObj 51 w' b FP' (l.eraseIdx k) s ∧ Evolves FP FP' w w' := by
  have HN := Lib.hid hn
  obtain ⟨v, hb, ho, e⟩ := hn
  obtain ⟨a, c, rfl, hc, hm⟩ := own_shape ho
  have c0 : w.cell? ⟨b, 0, none⟩ = some (.slice a l.length c) := cell_at hb 0
  clear hb ho e
  have hd : decide ((k : Int) < 0) = false := decide_eq_false (by omega)
  have hd2 : decide ((l.length : Int) ≤ (k : Int)) = false := decide_eq_false (by omega)
  go_enter Try.func58, Try.ntmps58
  go_wp2_with fail
  refine (rremove_any b FP l s k _ HN.out hk hl).mono ?_
  rintro e w1 ⟨rfl, FP1, hn1, hev⟩
  have HN1 := Lib.hid (And.intro hn1 hev); clear hn1 hev
  go_wp2_with fail
  go_ret
  exact ⟨rfl, FP1, HN1.out.1, HN1.out.2⟩

set_option maxHeartbeats 800000 in
set_option maxRecDepth 100000 in
theorem rcopy_any (b : Nat) (FP : List Nat) (l : List Pkt) (s : Int) (w : World) (hn : NetObj 51 w b FP l s) (hl : l.length ≤ 1000) : Calls Try.prog 27 #[.pointer (some ⟨b, 0, none⟩)] w (FreshObj 51 l s w) := by
  obtain ⟨v, hb, ho, -⟩ := hn
  have hbs : b < w.heap.size := lt_of_at hb
  have HB := Lib.hid hb
  have HSRC : Hid (∀ w' : World, (∀ k ∈ v.ownBlock.toList, w'.heap[k]? = w.heap[k]?) → SrcAt w' v l.length (pktCells l)) := fun w' hw => SrcAt.of_own ho hw
  have HLT : Hid (∀ k ∈ v.ownBlock.toList, k < w.heap.size) := own_lt ho
  have HNIL : Hid ((w.alloc (.cells #[] 34)).ownsRow w.heap.size 34 3 (.slice (some ⟨w.heap.size, 0, none⟩) 0 0) 0 []) := World.ownsRow_made w #[] 0 (Nat.le_refl _) (by unfold maxLen; omega) rfl
  obtain ⟨a, c, rfl, hc, hm⟩ := own_shape ho
  have c0 : w.cell? ⟨b, 0, none⟩ = some (.slice a l.length c) := cell_at hb 0
  have c1 : w.cell? ⟨b, 1, none⟩ = some (.int .i64 s) := cell_at hb 1
  have ca : ∀ o, (w.alloc o).cell? ⟨b, 0, none⟩ = some (.slice a l.length c) := fun o => by rw [World.cell?_alloc_past _ _ _ hbs]; exact cell_at hb 0
  have cb : ∀ o, (w.alloc o).cell? ⟨b, 1, none⟩ = some (.int .i64 s) := fun o => by rw [World.cell?_alloc_past _ _ _ hbs]; exact cell_at hb 1
  clear hb ho
  obtain ⟨i0, hi, hz0, hz1, hz2⟩ := info_parts Try.info34
  go_enter Try.func27, Try.ntmps27
  go_wp2_with fail
  go_region_law (refine step_append_src rfl (.tmp 3) (.tmp 7) 28 rfl 34 i0 (.agg #[.int .i64 0, .int .i64 0, .string ⟨#[]⟩]) 3 32 Try.underlying28 hi hz0 hz1 hz2 rfl (by decide) (.slice (some ⟨w.heap.size, 0, none⟩) 0 0) 0 [] (by simp [Act.eval]) (own_base HNIL.out (Nat.zero_le _)) (.slice a l.length c) l.length (pktCells l) (by simp [Act.eval]) (HSRC.out _ (fun k hk => Below.heap_alloc _ _ _ (HLT.out k hk))) (pktCells_length l) (pkts_oneCell _) (by unfold maxLen; omega) (by omega) ?_; intro v1 w6 hown1 hg1 hat1; have HW6 := Lib.hid (appended_here ((Turns.alloc [] w _).drew) hown1 hg1 (hat1.imp id fun h => ⟨_, h, by simp⟩)); clear hown1 hg1 hat1; obtain ⟨a1, n1, hv1, -⟩ := own_shape HW6.out.1; subst hv1; have c6 : w6.cell? ⟨b, 1, none⟩ = some (.int .i64 s) := (HW6.out.2.1.cell (a := ⟨b, 1, none⟩) hbs (by simp)).trans (cell_at HB.out 1))
  all_goals
    go_wp2
    go_ret
    exact freshObj_of (n := 0) HW6.out.1 HW6.out.2.1 rfl

end Go.Proofs.Ytmikjninonpejaa
