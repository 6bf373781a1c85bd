/- Contracts and lemmas (texts RefY2, RefZ2, RefA3, RefB3, RelA, RelB, joined by a program). -/
import Derived.Test.YtdcgdnlpagadcaaDoorMq3
/- Contracts of the reference for disk: comes, whole. -/
namespace Go.Proofs.YtdcgdnlpagadcaaDoor
open Go.RowKit Go.Proofs.YtdcgdnlpagadcaaDoorMem Go.Maps

theorem wrS_not {st : DS} {f a : Int} {s : ByteArray} (h : wrCode st f a s ≠ 0) : wrS st f a s = st := by rw [wrS, if_neg (fun hh => h hh.1)]
section
variable {w0 w : World} {b : Nat} {kv : Value} {st : DS} {K : List Int} {post : List Thing}
theorem rcomes_any (f a : Int) (s : ByteArray) (h : RefAt w0 w b kv st (rowThing 3 1 kv K.length (intCells K) :: post)) (hI : DInv st) (hQ : st.Q.length ≤ 300000) (hK : K.length ≤ 1000000) (hs : s.size ≤ 100000000) :
    Calls Tryd.prog 46 #[.pointer (some ⟨b, 0, none⟩), .int .i64 f, .int .i64 a, .string s] w fun e w' => e = .returned (.tuple #[]) ∧ RefAt w0 w' b kv (comesS st K f a s) (rowThing 3 1 kv K.length (intCells K) :: post) := by
  cases hd : st.down
  rotate_left
  · have e : comesS st K f a s = st := by simp [comesS, endsB, endsS, hd]
    rw [e]
    exact rcomes_down f a s h hd
  have harm := hI.armed
  by_cases h0 : st.armed = 0
  · have e : comesS st K f a s = st := by simp [comesS, endsB, endsS, h0]
    rw [e]
    exact rcomes_idle f a s h hd h0
  by_cases h1 : st.armed = 1
  rotate_left
  · have e : comesS st K f a s = { st with armed := st.armed - 1 } := by simp [comesS, endsB, endsS, h0, h1, hd]
    rw [e]
    exact rcomes_far f a s h hd (by omega) (by omega)
  have e : comesS st K f a s = crashS (wrS { st with armed := 0 } f a s) K := by simp [comesS, endsB, endsS, h1, hd]
  rw [e]
  by_cases f0 : f < 0
  · rw [wrS_not (st := { st with armed := 0 }) (by
      have hm : mayCode { st with armed := 0 } f = 1 := by simp [mayCode, hd, f0]
      rw [wrCode, hm, if_pos (by decide)]; decide)]
    exact rcomes_neg f a s h hd h1 hI (by omega) hK f0
  by_cases f1 : 15 < f
  · rw [wrS_not (st := { st with armed := 0 }) (by
      have hm : mayCode { st with armed := 0 } f = 1 := by simp [mayCode, hd]; omega
      rw [wrCode, hm, if_pos (by decide)]; decide)]
    exact rcomes_big f a s h hd h1 hI (by omega) hK (by omega) f1
  have hm : mayCode { st with armed := 0 } f = 0 := may_of hd (by omega) (by omega)
  by_cases hfit : 0 ≤ a ∧ a ≤ 16777216 ∧ a + (s.size : Int) ≤ 16777216
  · obtain ⟨n, rfl⟩ := Int.eq_ofNat_of_zero_le hfit.1
    exact rcomes_fit f n s h hd h1 hI hQ hK (by omega) (by omega) n rfl (by omega)
  · rw [wrS_not (st := { st with armed := 0 }) (by
      rw [wrCode, if_neg (by simp [hm])]
      split
      · decide
      · split
        · decide
        · omega)]
    exact rcomes_unfit f a s h hd h1 hI (by omega) hK (by omega) (by omega) hs (by
      unfold fitsB
      cases c1 : decide (0 ≤ a)
      · rfl
      · cases c2 : decide (a ≤ 16777216)
        · rfl
        · cases c3 : decide (a + (s.size : Int) ≤ 16777216)
          · rfl
          · exact absurd ⟨of_decide_eq_true c1, of_decide_eq_true c2, of_decide_eq_true c3⟩ hfit)
end
end Go.Proofs.YtdcgdnlpagadcaaDoor

/- Contracts of the reference for disk: Write. -/
namespace Go.Proofs.YtdcgdnlpagadcaaDoor
open Go.RowKit Go.Proofs.YtdcgdnlpagadcaaDoorMem Go.Maps

theorem comes_may {st : DS} {K : List Int} {f a : Int} {s : ByteArray} (h : mayCode (comesS st K f a s) f = 0) : endsB st = false ∧ comesS st K f a s = endsS st := by
  cases hE : endsB st
  · exact ⟨rfl, by simp [comesS, hE]⟩
  · exfalso
    have hd : (comesS st K f a s).down = true := by
      simp only [comesS, hE, if_true]
      unfold crashS
      split
      · assumption
      · rfl
    rw [mayCode, if_pos hd] at h
    cases h
theorem comes_stop {st : DS} {K : List Int} {f a : Int} {s : ByteArray} (h : mayCode (comesS st K f a s) f ≠ 0) : writeCode st f a s = mayCode (comesS st K f a s) f ∧ writeS st K f a s = comesS st K f a s := by
  cases hE : endsB st
  · have e : comesS st K f a s = endsS st := by simp [comesS, hE]
    rw [e] at h ⊢
    have hc : wrCode (endsS st) f a s = mayCode (endsS st) f := by rw [wrCode, if_pos h]
    exact ⟨by simp [writeCode, hE, hc], by simp only [writeS, hE, Bool.false_eq_true, if_false]; exact wrS_not (by rw [hc]; exact h)⟩
  · have hd : (comesS st K f a s).down = true := by
      simp only [comesS, hE, if_true]
      unfold crashS
      split
      · assumption
      · rfl
    exact ⟨by rw [mayCode, if_pos hd]; simp [writeCode, hE], by simp [writeS, comesS, hE]⟩

section
variable {w0 w : World} {b : Nat} {kv : Value} {st : DS} {K : List Int} {post : List Thing}
set_option maxHeartbeats 1600000 in
set_option maxRecDepth 100000 in
theorem rwrite_any (f a : Int) (s : ByteArray) (h : RefAt w0 w b kv st (rowThing 3 1 kv K.length (intCells K) :: post)) (hI : DInv st) (hQ : st.Q.length ≤ 300000) (hK : K.length ≤ 1000000) (hs : s.size ≤ 100000000) :
    Calls Tryd.prog 33 #[.pointer (some ⟨b, 0, none⟩), .int .i64 f, .int .i64 a, .string s] w fun e w' => e = .returned (.int .i64 (writeCode st f a s)) ∧ RefAt w0 w' b kv (writeS st K f a s) (rowThing 3 1 kv K.length (intCells K) :: post) := by
  have HC := Lib.hid (rcomes_any f a s h hI hQ hK hs)
  have HI := Lib.hid (And.intro hI (And.intro hQ hs)); clear h hI hQ hs hK
  go_enter Tryd.func33, Tryd.ntmps33
  go_wp2_with fail
  refine HC.out.mono ?_
  rintro e W1 ⟨rfl, h1⟩
  have H1 := Lib.hid h1; clear h1 HC
  obtain ⟨st1, hst1⟩ : ∃ x, x = comesS st K f a s := ⟨_, rfl⟩
  rw [← hst1] at H1
  have HS1 := Lib.hid hst1; clear hst1
  go_wp2_with fail
  refine (rmay_any f H1.out).mono ?_
  rintro e W2 ⟨rfl, rfl⟩
  obtain ⟨m, hm⟩ : ∃ m, m = mayCode st1 f := ⟨_, rfl⟩
  rw [← hm]
  have HM := Lib.hid hm; clear hm
  by_cases hm0 : m = 0
  rotate_left
  · go_wp2_with fail
    go_ret
    have hne : mayCode (comesS st K f a s) f ≠ 0 := by rw [← HS1.out, ← HM.out]; exact hm0
    obtain ⟨e1, e2⟩ := comes_stop hne
    rw [e1, e2, ← HS1.out, ← HM.out]
    exact ⟨rfl, H1.out⟩
  subst hm0
  have hz : mayCode st1 f = 0 := HM.out.symm
  have HZ : Hid (endsB st = false ∧ st1 = endsS st) := by
    have := comes_may (K := K) (a := a) (s := s) (st := st) (f := f) (by rw [← HS1.out]; exact hz)
    exact ⟨this.1, HS1.out.trans this.2⟩
  have HW : Hid (writeCode st f a s = wrCode st1 f a s ∧ writeS st K f a s = wrS st1 f a s) := by
    obtain ⟨z1, z2⟩ := HZ.out
    exact ⟨by simp [writeCode, z1, z2], by simp [writeS, z1, z2]⟩
  have HMZ := Lib.hid hz; clear hz HM
  by_cases ha : a < 0
  · have d0 : decide (a < 0) = true := decide_eq_true ha
    go_wp2_with fail
    go_ret
    have hc : wrCode st1 f a s = 1 := by rw [wrCode, if_neg (by simp [HMZ.out]), if_pos ha]
    rw [HW.out.1, HW.out.2, wrS_not (by rw [hc]; decide), hc]
    exact ⟨rfl, H1.out⟩
  have d0 : decide (a < 0) = false := decide_eq_false ha
  go_wp2_with fail
  refine (rfits_any a s _ HI.out.2.2).mono ?_
  rintro e W3 ⟨rfl, rfl⟩
  by_cases hfit : a ≤ 16777216 ∧ a + (s.size : Int) ≤ 16777216
  · rw [show fitsB a s = true by simp [fitsB]; omega]
    obtain ⟨n, rfl⟩ := Int.eq_ofNat_of_zero_le (show 0 ≤ a by omega)
    go_wp2_with fail
    have hI1 : DInv st1 := by rw [HZ.out.2]; exact HI.out.1.ends
    have hQ1 : st1.Q.length ≤ 600000 := by
      rw [HZ.out.2]; unfold endsS; have := HI.out.2.1; split <;> (show st.Q.length ≤ 600000; omega)
    refine (radd_any f n s H1.out HMZ.out (by omega) hI1 hQ1).mono ?_
    rintro e W4 ⟨rfl, h4⟩
    have H4 := Lib.hid h4; clear h4
    go_wp2_with fail
    go_ret
    have hc : wrCode st1 f (n : Int) s = 0 := by rw [wrCode, if_neg (by simp [HMZ.out]), if_neg (by omega), if_neg (by omega)]
    rw [HW.out.1, HW.out.2, hc]
    exact ⟨rfl, H4.out⟩
  · rw [show fitsB a s = false by
      unfold fitsB
      cases c2 : decide (a ≤ 16777216)
      · simp
      · cases c3 : decide (a + (s.size : Int) ≤ 16777216)
        · simp
        · exact absurd ⟨of_decide_eq_true c2, of_decide_eq_true c3⟩ hfit]
    go_wp2_with fail
    go_ret
    have hc : wrCode st1 f a s = 6 := by rw [wrCode, if_neg (by simp [HMZ.out]), if_neg (by omega), if_pos (by omega)]
    rw [HW.out.1, HW.out.2, wrS_not (by rw [hc]; decide), hc]
    exact ⟨rfl, H1.out⟩
end
end Go.Proofs.YtdcgdnlpagadcaaDoor

/- Contracts of the reference for disk: Sync. -/
namespace Go.Proofs.YtdcgdnlpagadcaaDoor
open Go.RowKit Go.Proofs.YtdcgdnlpagadcaaDoorMem Go.Maps

theorem comes_end (st : DS) (K : List Int) : comesS st K 0 0 ⟨#[]⟩ = endS st K := by
  unfold comesS endS
  rw [show wrS (endsS st) 0 0 ⟨#[]⟩ = endsS st by rw [wrS, if_neg (fun hh => absurd hh.2 (by decide))]]
theorem end_queue (st : DS) (K : List Int) : (endS st K).Q.length ≤ st.Q.length := by
  unfold endS endsS crashS
  split <;> split <;> (try split) <;> simp
section
variable {w0 w : World} {b : Nat} {kv : Value} {st : DS} {K : List Int} {post : List Thing}
set_option maxHeartbeats 1600000 in
set_option maxRecDepth 100000 in
theorem rsync_any (f : Int) (h : RefAt w0 w b kv st (rowThing 3 1 kv K.length (intCells K) :: post)) (hI : DInv st) (hQ : st.Q.length ≤ 300000) (hK : K.length ≤ 1000000) :
    Calls Tryd.prog 38 #[.pointer (some ⟨b, 0, none⟩), .int .i64 f] w fun e w' => e = .returned (.int .i64 (syncCode st K f)) ∧ RefAt w0 w' b kv (syncS st K f) (rowThing 3 1 kv K.length (intCells K) :: post) := by
  have hc := rcomes_any 0 0 ⟨#[]⟩ h hI hQ hK (by decide)
  rw [comes_end] at hc
  have HC := Lib.hid hc
  have hq := end_queue st K
  have HI := Lib.hid (And.intro (hI.end K) (Nat.le_trans hq hQ)); clear h hI hQ hK hc hq
  have e1 : syncCode st K f = if mayCode (endS st K) f ≠ 0 then mayCode (endS st K) f else if 0 < (endS st K).lost then 10 else 0 := by
    have hl := endS_lost st K
    rw [syncCode, hl]
  have e2 : syncS st K f = if mayCode (endS st K) f ≠ 0 then endS st K else if 0 < (endS st K).lost then { endS st K with lost := (endS st K).lost - 1 } else settleS (endS st K) f ((endS st K).F f).now := rfl
  have E1 := Lib.hid e1; clear e1
  have E2 := Lib.hid e2; clear e2
  generalize endS st K = st1 at *
  go_enter Tryd.func38, Tryd.ntmps38
  go_wp2_with fail
  refine HC.out.mono ?_
  rintro e W1 ⟨rfl, h1⟩
  have H1 := Lib.hid h1; clear h1 HC
  go_wp2_with fail
  refine (rmay_any f H1.out).mono ?_
  rintro e W2 ⟨rfl, rfl⟩
  obtain ⟨m, hm⟩ : ∃ m, m = mayCode st1 f := ⟨_, rfl⟩
  rw [← hm]
  have HM := Lib.hid hm; clear hm
  by_cases hm0 : m = 0
  rotate_left
  · go_wp2_with fail
    go_ret
    rw [E1.out, E2.out, ← HM.out]
    simp only [ne_eq, hm0, not_false_eq_true, if_true]
    exact ⟨rfl, H1.out⟩
  subst hm0
  obtain ⟨fv, qv, hb⟩ := H1.out.block
  have c2 : W1.cell? ⟨b, 2, none⟩ = some (.int .i64 st1.lost) := cell_at hb 2
  have f2 : W1.frozen? ⟨b, 2, none⟩ = false := free_at hb 2
  clear hb
  have hlo := HI.out.1.lost
  by_cases hl : 0 < st1.lost
  · have H2 := Lib.hid (H1.out.set (st' := { st1 with lost := st1.lost - 1 }) (kv' := kv) 2 (.int .i64 (st1.lost - 1)) rfl rfl (fun _ _ => rfl))
    have HL := Lib.hid (And.intro hl hlo)
    have hlo2 := hlo.2
    obtain ⟨q, hq⟩ : ∃ q, q = st1.lost := ⟨_, rfl⟩
    rw [← hq] at c2 hl hlo2 H2
    have HQ := Lib.hid hq; clear hq hlo
    go_wp2_with fail
    go_ret
    rw [E1.out, E2.out, ← HM.out, ← HQ.out]
    simp only [ne_eq, not_true_eq_false, if_false, hl, if_true]
    exact ⟨rfl, H2.out⟩
  · have HL := Lib.hid hl
    obtain ⟨x, hx, hc⟩ := H1.out.get f
    have HG := Lib.hid hc; clear hc
    have HX := Lib.hid hx; clear hx hlo
    have hfl := field_rnow
    go_wp2_with fail
    refine HG.out.mono ?_
    rintro e W3 ⟨rfl, ht⟩
    unfold RF.val
    have H3 := Lib.hid (H1.out.quiet ht); clear ht c2 f2
    go_wp2_with fail
    obtain ⟨_, r0, r1⟩ := may_zero HM.out.symm
    refine (rsettle_sep f x.now H3.out ⟨r0, r1⟩ (by have := HI.out.2; omega)).mono ?_
    rintro e W4 ⟨rfl, h4⟩
    have H4 := Lib.hid h4; clear h4
    go_wp2_with fail
    go_ret
    rw [E1.out, E2.out, ← HM.out, ← HX.out]
    have hnn : ¬ 0 < st1.lost := by have := HL.out; omega
    simp only [ne_eq, not_true_eq_false, if_false, hnn]
    exact ⟨rfl, H4.out⟩
end
end Go.Proofs.YtdcgdnlpagadcaaDoor

/- Contracts of the reference for disk: Arm. -/
namespace Go.Proofs.YtdcgdnlpagadcaaDoor
open Go.RowKit Go.Proofs.YtdcgdnlpagadcaaDoorMem Go.Maps

theorem RefK.arm {w0 w w1 : World} {b : Nat} {kv v' : Value} {st : DS} {K C : List Int} {post : List Thing} (h : RefAt w0 w b kv st (rowThing 3 1 kv K.length (intCells K) :: post)) (ht : Turns [] w w1)
    (ho : w1.ownsRow w.heap.size 3 1 v' C.length (intCells C)) : RefAt w0 (w1.setCell ⟨b, 5, none⟩ v') b v' st (rowThing 3 1 v' C.length (intCells C) :: post) := by
  obtain ⟨fv, qv, L, hR, hs⟩ := h
  have h1 : Sep w0 w1 (rowThing 3 1 v' C.length (intCells C) :: refL b fv qv kv st L (rowThing 3 1 kv K.length (intCells K) :: post)) :=
    Sep.add (t := rowThing 3 1 v' C.length (intCells C)) (FP := v'.ownBlock.toList) hs ht ⟨own_base ho (Nat.zero_le _), rfl⟩ (fun x hx => by
      rcases ho.2 with ⟨rfl, _⟩ | ⟨g, cap, cur, rfl, hg, _⟩
      · simp [Value.ownBlock] at hx
      · simp [Value.ownBlock] at hx; omega)
  have h2 := Sep.block_turned (o' := refObj fv qv v' st) [_] _ h1 (Turns.setCell w1 ⟨b, 5, none⟩ v' (by simp)) (heap_setCell_at (Sep.block [_] _ h1) 5 v')
  have h3 := (Sep.toFront [_, _, _, _] _ h2).drop
  exact ⟨fv, qv, L, hR, Sep.fromFront [_, _, _] _ h3⟩

/-- What an append takes from: a slice without an address, or one whose cells are known. -/
def SrcAny (w : World) (u : Value) (m : Nat) (news : List Value) : Prop :=
  (∃ c, u = .slice none 0 c ∧ m = 0 ∧ news = []) ∨ ∃ ad c, u = .slice (some ad) m c ∧ ∀ j x, news[j]? = some x → w.cell? (ad.add j) = some x
theorem run_append_none (P : Program) (w : World) (t ty e : TypeId) (i : TypeInfo) (size : Nat) (ht : P.underlying t = some (.slice e)) (hi : P.info? e = some i)
    (v : Value) (n : Nat) (xs : List Value) (hown : w.ownsRow 0 e size v n xs) (c : Nat) :
    (Builtin.append_ #[t, t] ty #[v, .slice none 0 c]).run P w = .ok v w := by
  rcases hown.2 with ⟨rfl, rfl⟩ | ⟨g, cap, cur, rfl, _, _, hnc, _⟩
  · simp [Builtin.append_, run_underlying ht, sizeOf, typeInfo, hi, Builtin.lenOf, Builtin.firstCells]
  · simp [Builtin.append_, run_underlying ht, sizeOf, typeInfo, hi, Builtin.lenOf, Builtin.firstCells, hnc, storeCells]
theorem run_append_any {P : Program} (w : World) (t ty e : TypeId) (i : TypeInfo) (z : Value) (size bytes : Nat) (ht : P.underlying t = some (.slice e)) (hi : P.info? e = some i) (hz : i.zero = some z)
    (hsize : i.size = size) (hby : i.bytes = bytes) (hzs : z.cells.size = size) (hsz : 0 < size)
    (v : Value) (n : Nat) (xs : List Value) (hown : w.ownsRow 0 e size v n xs)
    (u : Value) (m : Nat) (news : List Value) (hsrc : SrcAny w u m news) (hl : news.length = m * size) (h1 : ∀ u ∈ news, u.oneCell' = true)
    (h63 : n + m ≤ maxLen) (hbytes : (n + m) * bytes ≤ 140737488355328) :
    ∃ v' w', (Builtin.append_ #[t, t] ty #[v, u]).run P w = .ok v' w' ∧ w'.ownsRow 0 e size v' (n + m) (xs ++ news) ∧ w.grownBy w' v.ownBlock ∧ (v'.ownBlock = v.ownBlock ∨ v'.ownBlock = some w.heap.size) := by
  rcases hsrc with ⟨c, rfl, rfl, rfl⟩ | ⟨ad, c, rfl, hc⟩
  · exact ⟨v, w, run_append_none P w t ty e i size ht hi v n xs hown c, by simpa using hown, World.grownBy.refl _ _, Or.inl rfl⟩
  · obtain ⟨v', w', hr, h2, h3, _, h5⟩ := run_append_own_at (P := P) w 0 t ty e i z size bytes ht hi hz hsize hby hzs hsz v n xs hown ad m c news hl hc h1 h63 hbytes (Nat.zero_le _)
    exact ⟨v', w', hr, h2, h3, h5⟩
theorem wpList_append_any {P : Program} (w : World) {ops : Array Oper} {rest : List Oper} {o : Oper} {a : Act} {Q : Exit → Act → World → Prop} (hgd : o.guard = none) (s x : Operand) (t : TypeId)
    (ho : o.op = .call { callee := .builtin .append, args := #[s, x], argTypes := #[t, t] })
    (e : TypeId) (i : TypeInfo) (z : Value) (size bytes : Nat) (ht : P.underlying t = some (.slice e)) (hi : P.info? e = some i) (hz : i.zero = some z)
    (hsize : i.size = size) (hby : i.bytes = bytes) (hzs : z.cells.size = size) (hsz : 0 < size)
    (v : Value) (n : Nat) (xs : List Value) (hs : a.eval s = v) (hown : w.ownsRow 0 e size v n xs)
    (u : Value) (m : Nat) (news : List Value) (hx : a.eval x = u) (hsrc : SrcAny w u m news) (hl : news.length = m * size) (h1 : ∀ u ∈ news, u.oneCell' = true)
    (h63 : n + m ≤ maxLen) (hbytes : (n + m) * bytes ≤ 140737488355328)
    (h : ∀ v' w', w'.ownsRow 0 e size v' (n + m) (xs ++ news) → w.grownBy w' v.ownBlock → (v'.ownBlock = v.ownBlock ∨ v'.ownBlock = some w.heap.size) → wpList P ops Q rest (a.put o.dst v') w') :
    wpList P ops Q (o :: rest) a w := by
  refine wpList_plain hgd fun K hK => ?_
  obtain ⟨v', w', hr, h2, h3, h5⟩ := run_append_any (P := P) w t o.type e i z size bytes ht hi hz hsize hby hzs hsz v n xs hown u m news hsrc hl h1 h63 hbytes
  unfold Oper.wp execOp
  simp only [ho, resolve, invoke, builtin, Sem.run_bind, Sem.run_pure, Result.andThen_ok, List.map_toArray, List.map_cons, List.map_nil, hs, hx, hr]
  exact hK _ _ (h v' w' h2 h3 h5)
theorem srcAny_ints {w : World} {a : Option Addr} {C : List Int} (c : Nat) (hat : IntsAt w a C) : SrcAny w (.slice a C.length c) C.length (intCells C) := by
  cases a with
  | none =>
    have : C = [] := by
      cases C with
      | nil => rfl
      | cons x C => obtain ⟨b, off, h0, _⟩ := hat 0 (by simp); cases h0
    subst this
    exact .inl ⟨c, rfl, rfl, rfl⟩
  | some ad =>
    refine .inr ⟨ad, c, rfl, fun j u hu => ?_⟩
    have hj : j < C.length := by have := (List.getElem?_eq_some_iff.1 hu).1; simpa [intCells] using this
    obtain ⟨b, off, h0, h1⟩ := hat j hj
    obtain rfl := Option.some.inj h0
    rw [add_plain', h1]
    simpa [intCells, hj] using hu
theorem SrcAny.kept {w w' : World} {u : Value} {m : Nat} {news : List Value} (h : SrcAny w u m news) (ht : Turns [] w w') : SrcAny w' u m news := by
  rcases h with h | ⟨ad, c, e, hx⟩
  · exact .inl h
  · exact .inr ⟨ad, c, e, fun j x hj => (ht.cell (World.block_lt_of_cell? _ _ (hx j x hj)) (by simp)).trans (hx j x hj)⟩

set_option maxHeartbeats 800000 in
set_option maxRecDepth 100000 in
theorem rarm_any {w0 w : World} {b : Nat} {kv : Value} {st : DS} {K C : List Int} {post : List Thing} (n : Int) (v : Value) (h : RefAt w0 w b kv st (rowThing 3 1 kv K.length (intCells K) :: post)) (hv : IntsV w0 v C) (hC : C.length ≤ 1000000) :
    Calls Tryd.prog 22 #[.pointer (some ⟨b, 0, none⟩), .int .i64 n, v] w fun e w' => e = .returned (.tuple #[]) ∧ RefK w0 w' b { st with armed := max n 0 } C post := by
  obtain ⟨i0, hi, hz0, hz1, hz2⟩ := info_parts Tryd.info3
  obtain ⟨a, c, rfl, hat⟩ := hv
  have h1 := h.set (st' := { st with armed := max n 0 }) (kv' := kv) 4 (.int .i64 (max n 0)) rfl rfl (fun _ _ => rfl)
  have hb := h.block
  obtain ⟨fv, qv, hb⟩ := hb
  have c4 : w.cell? ⟨b, 4, none⟩ = some (.int .i64 st.armed) := cell_at hb 4
  have f4 : w.frozen? ⟨b, 4, none⟩ = false := free_at hb 4
  have H1 := Lib.hid h1; clear h h1 hb
  obtain ⟨q, hq⟩ : ∃ q, q = max n 0 := ⟨_, rfl⟩
  rw [← hq] at H1 ⊢
  have d0 : n < 0 ∨ 0 ≤ n := by omega
  have key : ∀ W : World, RefAt w0 W b kv { st with armed := q } (rowThing 3 1 kv K.length (intCells K) :: post) → SrcAny (W.alloc (.cells #[] 3)) (.slice a C.length c) C.length (intCells C) := by
    intro W hW
    obtain ⟨_, _, _, _, hs⟩ := hW
    exact (srcAny_ints c (hat.below hs.below)).kept (Turns.alloc [] W _)
  have HK := Lib.hid key; clear key
  have HNIL : Hid (∀ W : World, (W.alloc (.cells #[] 3)).ownsRow 0 3 1 (.slice (some ⟨W.heap.size, 0, none⟩) 0 0) 0 []) := fun W => own_base (World.ownsRow_made W #[] 0 (Nat.le_refl _) (by unfold maxLen; omega) rfl) (Nat.zero_le _)
  clear hat
  rcases d0 with d0 | d0
  · obtain rfl : q = 0 := by omega
    clear hq
    go_enter Tryd.func22, Tryd.ntmps22
    go_wp2_with (at_builtin; refine wpList_append_any _ rfl (.tmp 12) (.tmp 13) 23 rfl 3 i0 (.int .i64 0) 1 8 Tryd.underlying23 hi hz0 hz1 hz2 rfl (by decide) _ 0 [] rfl ?own _ C.length (intCells C) rfl (HK.out _ H1.out) ?c1 ?c3 ?c4 ?c5 ?_)
    case own =>
      have := HNIL.out (w.setCell ⟨b, 4, none⟩ (.int .i64 0))
      rw [World.size_setCell] at this
      exact this
    case c1 => simp [intCells]
    case c3 => intro u hu; obtain ⟨x, _, rfl⟩ := List.mem_map.1 hu; rfl
    case c4 => unfold maxLen; omega
    case c5 => omega
    intro v' w1 hown hgr hat2
    have hge : ∀ x ∈ v'.ownBlock.toList, (w.setCell ⟨b, 4, none⟩ (.int .i64 0)).heap.size ≤ x := fun x hx => by
      rw [World.size_setCell]
      rcases hat2 with h | h
      · rw [h] at hx; simp [Value.ownBlock] at hx; omega
      · rw [h] at hx; simp at hx; omega
    have ht : Turns [] (w.setCell ⟨b, 4, none⟩ (.int .i64 0)) w1 := (Turns.alloc _ _ _).trans_new (Turns.of_grown (S := [w.heap.size]) hgr (fun k hk => by simp [Value.ownBlock] at hk; simp [hk])) (fun x hx => by simp at hx; rw [World.size_setCell]; exact Or.inr (by omega))
    have HO := Lib.hid (And.intro (own_above hown hge) ht)
    clear hown hgr hat2 hge ht c4 f4
    obtain ⟨fv2, qv2, hb2⟩ := (H1.out.quiet HO.out.2).block
    have c5 : w1.cell? ⟨b, 5, none⟩ = some kv := cell_at hb2 5
    have f5 : w1.frozen? ⟨b, 5, none⟩ = false := free_at hb2 5
    clear hb2
    obtain ⟨a', c', rfl, -⟩ := own_shape (own_base HO.out.1 (Nat.zero_le _))
    go_wp2
    go_end0
    exact ⟨rfl, _, RefK.arm H1.out HO.out.2 HO.out.1⟩
  · obtain rfl : q = n := by omega
    clear hq
    go_enter Tryd.func22, Tryd.ntmps22
    go_wp2_with (at_builtin; refine wpList_append_any _ rfl (.tmp 12) (.tmp 13) 23 rfl 3 i0 (.int .i64 0) 1 8 Tryd.underlying23 hi hz0 hz1 hz2 rfl (by decide) _ 0 [] rfl ?own _ C.length (intCells C) rfl (HK.out _ H1.out) ?c1 ?c3 ?c4 ?c5 ?_)
    case own =>
      have := HNIL.out (w.setCell ⟨b, 4, none⟩ (.int .i64 q))
      rw [World.size_setCell] at this
      exact this
    case c1 => simp [intCells]
    case c3 => intro u hu; obtain ⟨x, _, rfl⟩ := List.mem_map.1 hu; rfl
    case c4 => unfold maxLen; omega
    case c5 => omega
    intro v' w1 hown hgr hat2
    have hge : ∀ x ∈ v'.ownBlock.toList, (w.setCell ⟨b, 4, none⟩ (.int .i64 q)).heap.size ≤ x := fun x hx => by
      rw [World.size_setCell]
      rcases hat2 with h | h
      · rw [h] at hx; simp [Value.ownBlock] at hx; omega
      · rw [h] at hx; simp at hx; omega
    have ht : Turns [] (w.setCell ⟨b, 4, none⟩ (.int .i64 q)) w1 := (Turns.alloc _ _ _).trans_new (Turns.of_grown (S := [w.heap.size]) hgr (fun k hk => by simp [Value.ownBlock] at hk; simp [hk])) (fun x hx => by simp at hx; rw [World.size_setCell]; exact Or.inr (by omega))
    have HO := Lib.hid (And.intro (own_above hown hge) ht)
    clear hown hgr hat2 hge ht c4 f4
    obtain ⟨fv2, qv2, hb2⟩ := (H1.out.quiet HO.out.2).block
    have c5 : w1.cell? ⟨b, 5, none⟩ = some kv := cell_at hb2 5
    have f5 : w1.frozen? ⟨b, 5, none⟩ = false := free_at hb2 5
    clear hb2
    obtain ⟨a', c', rfl, -⟩ := own_shape (own_base HO.out.1 (Nat.zero_le _))
    go_wp2
    go_end0
    exact ⟨rfl, _, RefK.arm H1.out HO.out.2 HO.out.1⟩
end Go.Proofs.YtdcgdnlpagadcaaDoor

/- Contracts of the reference for cell: the object, Get, begin. -/
namespace Go.Proofs.YtdcgdnlpagadcaaDoor
open Go.RowKit Go.Proofs.YtdcgdnlpagadcaaDoorMem Go.Maps

def rcellObj (d : Nat) (f : Int) (c : CS) : Obj := .cells #[.pointer (some ⟨d, 0, none⟩), .int .i64 f, .int .i64 c.slot, .string c.value, .bool c.sure] 74 (0, 0)

/-- The reference's things stand ahead of the others. -/
theorem RefK.split {w0 w : World} {b : Nat} {st : DS} {K : List Int} {post : List Thing} (h : RefK w0 w b st K post) :
    ∃ pre, Sep w0 w (pre ++ post) ∧ ∀ w' post', Sep w0 w' (pre ++ post') → RefK w0 w' b st K post' := by
  obtain ⟨kv, fv, qv, L, hR, hs⟩ := h
  exact ⟨[_, _, _, _], hs, fun w' post' h' => ⟨kv, fv, qv, L, hR, h'⟩⟩
theorem RefK.turns {w0 w : World} {b : Nat} {st : DS} {K : List Int} {post : List Thing} (h : RefK w0 w b st K post) : Turns [] w0 w := by
  obtain ⟨pre, hs, _⟩ := h.split
  exact YtdcgdnlpagadcaaDoorMem.Sep.turns hs
theorem RefK.quiet {w0 w w' : World} {b : Nat} {st : DS} {K : List Int} {post : List Thing} (h : RefK w0 w b st K post) (ht : Turns [] w w') : RefK w0 w' b st K post := by
  obtain ⟨kv, h⟩ := h
  exact ⟨kv, h.quiet ht⟩
theorem RefK.perm {w0 w : World} {b : Nat} {st : DS} {K : List Int} {post post' : List Thing} (h : RefK w0 w b st K post) (hp : post.Perm post') : RefK w0 w b st K post' := by
  obtain ⟨pre, hs, hback⟩ := h.split
  exact hback w post' (Sep.perm' hs (hp.append_left pre))
theorem RefK.drop {w0 w : World} {b : Nat} {st : DS} {K : List Int} {t : Thing} {post : List Thing} (h : RefK w0 w b st K (t :: post)) : RefK w0 w b st K post := by
  obtain ⟨pre, hs, hback⟩ := h.split
  exact hback w post (YtdcgdnlpagadcaaDoorMem.Sep.drop (Sep.toFront pre post hs))
theorem RefK.alloc {w0 w : World} {b : Nat} {st : DS} {K : List Int} {post : List Thing} (h : RefK w0 w b st K post) (cs : Array Value) (t : TypeId) : RefK w0 (w.alloc (.cells cs t)) b st K (blockThing w.heap.size (.cells cs t (0, 0)) :: post) := by
  obtain ⟨pre, hs, hback⟩ := h.split
  exact hback _ _ (Sep.fromFront pre post (Sep.alloc hs _))
theorem RefK.block {w0 w : World} {b c : Nat} {o : Obj} {st : DS} {K : List Int} {post : List Thing} (h : RefK w0 w b st K (blockThing c o :: post)) : w.heap[c]? = some o := by
  obtain ⟨pre, hs, hback⟩ := h.split
  exact Sep.block pre post hs
theorem RefK.turned {w0 w w1 : World} {b c : Nat} {o o' : Obj} {st : DS} {K : List Int} {post : List Thing} (h : RefK w0 w b st K (blockThing c o :: post)) (ht : Turns [c] w w1) (hb : w1.heap[c]? = some o') : RefK w0 w1 b st K (blockThing c o' :: post) := by
  obtain ⟨pre, hs, hback⟩ := h.split
  exact hback _ _ (Sep.block_turned pre post hs ht hb)

theorem rcell_get (b d : Nat) (f : Int) (c : CS) (w : World) (h : w.heap[b]? = some (rcellObj d f c)) :
    Calls Tryd.prog 25 #[.pointer (some ⟨b, 0, none⟩)] w fun e w' => e = .returned (.tuple #[.string c.value, .bool (decide (c.slot ≠ 0))]) ∧ Turns [] w w' := by
  have c2 : w.cell? ⟨b, 2, none⟩ = some (.int .i64 c.slot) := cell_at h 2
  have c3 : w.cell? ⟨b, 3, none⟩ = some (.string c.value) := cell_at h 3
  clear h
  have hne : (c.slot != 0) = decide (c.slot ≠ 0) := by
    by_cases h : c.slot = 0 <;> simp [h]
  rw [← hne]
  clear hne
  go_enter Tryd.func25, Tryd.ntmps25
  go_wp2_with fail
  go_region
  go_wp2_with fail
  go_ret2
  exact ⟨rfl, (Turns.refl _ _).drew⟩
theorem rbegin_any (k : Int) (w : World) (hk : k = 1 ∨ k = 2) : Calls Tryd.prog 37 #[.int .i64 k] w fun e w' => e = .returned (.int .i64 ((off k : Nat) : Int)) ∧ w = w' := by
  rcases hk with rfl | rfl
  · go_enter Tryd.func37, Tryd.ntmps37
    go_wp2_with fail
    go_ret
    exact ⟨rfl, rfl⟩
  · go_enter Tryd.func37, Tryd.ntmps37
    go_wp2_with fail
    go_ret
    exact ⟨rfl, rfl⟩
end Go.Proofs.YtdcgdnlpagadcaaDoor

/- Contract of the reference for cell: Open. -/
namespace Go.Proofs.YtdcgdnlpagadcaaDoor
open Go.RowKit Go.Proofs.YtdcgdnlpagadcaaDoorMem Go.Maps

/-- What the reference's Open leaves. -/
def ROpenPost (w0 : World) (r : Nat) (f : Int) (st : DS) (K : List Int) (post : List Thing) (e : Ending) (w' : World) : Prop :=
  (openC st f ≠ 0 ∧ e = .returned (.tuple #[.pointer none, .int .i64 (openC st f)]) ∧ RefK w0 w' r st K post) ∨
  (openC st f = 0 ∧ ∃ cb, e = .returned (.tuple #[.pointer (some ⟨cb, 0, none⟩), .int .i64 0]) ∧ RefK w0 w' r st K (blockThing cb (rcellObj r f (openV st f)) :: post))
section
variable {w0 w : World} {r : Nat} {f : Int} {st : DS} {K : List Int} {post : List Thing}
theorem rk_rread (f a z : Int) (h : RefK w0 w r st K post) (hI : DInv st) (haw : a ≤ 9223372036854775807) (hzw : z ≤ 9223372036854775807) :
    Calls Tryd.prog 30 #[.pointer (some ⟨r, 0, none⟩), .int .i64 f, .int .i64 a, .int .i64 z] w fun e w' => e = .returned (.tuple #[.string (readStr st f a z), .int .i64 (readCode st f a z)]) ∧ RefK w0 w' r st K post := by
  obtain ⟨kv, h⟩ := h
  exact (rread_any f a z h (hI.size f).2 haw hzw).mono fun e w' ⟨h1, h2⟩ => ⟨h1, kv, h.quiet h2⟩

set_option maxHeartbeats 3200000 in
set_option maxRecDepth 100000 in
theorem ropen_bad (h : RefK w0 w r st K post) (hI : DInv st) (h0 : readCode st f 0 5 ≠ 0) :
    Calls Tryd.prog 19 #[.pointer (some ⟨r, 0, none⟩), .int .i64 f] w (ROpenPost w0 r f st K post) := by
  have e1 : openC st f = readCode st f 0 5 := by rw [openC, if_pos h0]
  have HS := Lib.hid h; clear h
  have HI := Lib.hid hI; clear hI
  go_enter Tryd.func19, Tryd.ntmps19
  go_wp2_with fail
  refine (rk_rread f 0 5 HS.out HI.out (by omega) (by omega)).mono ?_
  rintro e W1 ⟨rfl, h1⟩
  have H1 := Lib.hid h1; clear h1 HS
  generalize readCode st f 0 5 = x at *
  generalize readStr st f 0 5 = hd at *
  go_wp2_with fail
  go_ret2
  exact Or.inl ⟨by rw [e1]; exact h0, by rw [e1]; rfl, H1.out⟩

set_option maxHeartbeats 3200000 in
set_option maxRecDepth 100000 in
theorem ropen_none0 (h : RefK w0 w r st K post) (hI : DInv st) (h0 : readCode st f 0 5 = 0) (h1 : (readStr st f 0 5).size = 0) :
    Calls Tryd.prog 19 #[.pointer (some ⟨r, 0, none⟩), .int .i64 f] w (ROpenPost w0 r f st K post) := by
  have e1 : openC st f = 0 := by rw [openC, if_neg (by simp [h0]), if_pos (Or.inl h1)]
  have e2 : openV st f = ⟨0, ⟨#[]⟩, false⟩ := by rw [openV, if_pos (Or.inl h1)]
  have HS := Lib.hid h; clear h
  have HI := Lib.hid hI; clear hI
  go_enter Tryd.func19, Tryd.ntmps19
  go_wp2_with fail
  refine (rk_rread f 0 5 HS.out HI.out (by omega) (by omega)).mono ?_
  rintro e W1 ⟨rfl, h1⟩
  have H1 := Lib.hid h1; clear h1 HS
  rw [h0, emptyB h1]
  clear h0 h1
  go_wp2_with fail
  go_ret2
  exact Or.inr ⟨e1, _, rfl, by rw [e2]; exact RefK.alloc H1.out _ _⟩

set_option maxHeartbeats 3200000 in
set_option maxRecDepth 100000 in
theorem ropen_none1 (h : RefK w0 w r st K post) (hI : DInv st) (h0 : readCode st f 0 5 = 0) (h1 : 0 < (readStr st f 0 5).size) (h2 : byteA (readStr st f 0 5) 0 = 0) :
    Calls Tryd.prog 19 #[.pointer (some ⟨r, 0, none⟩), .int .i64 f] w (ROpenPost w0 r f st K post) := by
  have e1 : openC st f = 0 := by rw [openC, if_neg (by simp [h0]), if_pos (Or.inr h2)]
  have e2 : openV st f = ⟨0, ⟨#[]⟩, false⟩ := by rw [openV, if_pos (Or.inr h2)]
  have HS := Lib.hid h; clear h
  have HI := Lib.hid hI; clear hI
  go_enter Tryd.func19, Tryd.ntmps19
  go_wp2_with fail
  refine (rk_rread f 0 5 HS.out HI.out (by omega) (by omega)).mono ?_
  rintro e W1 ⟨rfl, h1⟩
  have H1 := Lib.hid h1; clear h1 HS
  rw [h0]
  clear h0
  generalize readStr st f 0 5 = hd at *
  have hne := notEmptyB h1
  have hget : ∀ w', (Instr.index 9 (.string hd) (.int .i64 0)).run Tryd.prog w' = .ok (.int .u8 0) w' := fun w' => by
    have := index_byte hd 0 h1 w'
    rw [h2] at this
    exact this
  go_wp2_with fail
  go_ret2
  exact Or.inr ⟨e1, _, rfl, by rw [e2]; exact RefK.alloc H1.out _ _⟩

set_option maxHeartbeats 3200000 in
set_option maxRecDepth 100000 in
theorem ropen_short (h : RefK w0 w r st K post) (hI : DInv st) (h0 : readCode st f 0 5 = 0) (h1 : 0 < (readStr st f 0 5).size) (h2 : byteA (readStr st f 0 5) 0 ≠ 0) (h3 : (readStr st f 0 5).size < 5) :
    Calls Tryd.prog 19 #[.pointer (some ⟨r, 0, none⟩), .int .i64 f] w (ROpenPost w0 r f st K post) := by
  have e1 : openC st f = 2 := by rw [openC, if_neg (by simp [h0]), if_neg (by intro hh; exact hh.elim (fun hh => by omega) h2), if_pos (Or.inl h3)]
  have HS := Lib.hid h; clear h
  have HI := Lib.hid hI; clear hI
  go_enter Tryd.func19, Tryd.ntmps19
  go_wp2_with fail
  refine (rk_rread f 0 5 HS.out HI.out (by omega) (by omega)).mono ?_
  rintro e W1 ⟨rfl, h1⟩
  have H1 := Lib.hid h1; clear h1 HS
  rw [h0]
  clear h0
  generalize readStr st f 0 5 = hd at *
  have hne := notEmptyB h1
  have hget : ∀ w', (Instr.index 9 (.string hd) (.int .i64 0)).run Tryd.prog w' = .ok (.int .u8 ((byteA hd 0).toNat : Int)) w' := index_byte hd 0 h1
  have h4 : (((byteA hd 0).toNat : Int) == 0) = false := by rw [beq_eq_false_iff_ne]; intro hh; exact h2 (byte_num (n := 0) (by omega) hh)
  generalize ((byteA hd 0).toNat : Int) = b0 at *
  have h6 : (hd.size : Int) < 5 := by omega
  clear h2 h1
  go_wp2_with fail
  go_ret2
  exact Or.inl ⟨by rw [e1]; decide, by rw [e1]; rfl, RefK.drop (RefK.alloc H1.out _ _)⟩

set_option maxHeartbeats 3200000 in
set_option maxRecDepth 100000 in
theorem ropen_form (h : RefK w0 w r st K post) (hI : DInv st) (h0 : readCode st f 0 5 = 0) (h1 : 0 < (readStr st f 0 5).size) (h2 : byteA (readStr st f 0 5) 0 ≠ 0) (h3 : 5 ≤ (readStr st f 0 5).size) (h5 : ¬ (byteA (readStr st f 0 5) 0 = 1 ∨ byteA (readStr st f 0 5) 0 = 2)) :
    Calls Tryd.prog 19 #[.pointer (some ⟨r, 0, none⟩), .int .i64 f] w (ROpenPost w0 r f st K post) := by
  have e1 : openC st f = 2 := by rw [openC, if_neg (by simp [h0]), if_neg (by intro hh; exact hh.elim (fun hh => by omega) h2), if_pos (Or.inr h5)]
  have HS := Lib.hid h; clear h
  have HI := Lib.hid hI; clear hI
  go_enter Tryd.func19, Tryd.ntmps19
  go_wp2_with fail
  refine (rk_rread f 0 5 HS.out HI.out (by omega) (by omega)).mono ?_
  rintro e W1 ⟨rfl, h1⟩
  have H1 := Lib.hid h1; clear h1 HS
  rw [h0]
  clear h0
  generalize readStr st f 0 5 = hd at *
  have hne := notEmptyB h1
  have hget : ∀ w', (Instr.index 9 (.string hd) (.int .i64 0)).run Tryd.prog w' = .ok (.int .u8 ((byteA hd 0).toNat : Int)) w' := index_byte hd 0 h1
  have h4 : (((byteA hd 0).toNat : Int) == 0) = false := by rw [beq_eq_false_iff_ne]; intro hh; exact h2 (byte_num (n := 0) (by omega) hh)
  have h6 : ¬ (hd.size : Int) < 5 := by omega
  have k1 : (((byteA hd 0).toNat : Int) != 1) = true := by rw [bne_iff_ne]; intro hh; exact h5 (Or.inl (byte_num (n := 1) (by omega) hh))
  have k2 : (((byteA hd 0).toNat : Int) != 2) = true := by rw [bne_iff_ne]; intro hh; exact h5 (Or.inr (byte_num (n := 2) (by omega) hh))
  have hgets : ∀ (i : Nat), i < 5 → ∀ w', (Instr.index 9 (.string hd) (.int .i64 (i : Int))).run Tryd.prog w' = .ok (.int .u8 ((byteA hd i).toNat : Int)) w' := fun i hi => index_byte hd i (by omega)
  have hg1 : ∀ w', (Instr.index 9 (.string hd) (.int .i64 1)).run Tryd.prog w' = .ok (.int .u8 ((byteA hd 1).toNat : Int)) w' := hgets 1 (by omega)
  have hg2 : ∀ w', (Instr.index 9 (.string hd) (.int .i64 2)).run Tryd.prog w' = .ok (.int .u8 ((byteA hd 2).toNat : Int)) w' := hgets 2 (by omega)
  have hg3 : ∀ w', (Instr.index 9 (.string hd) (.int .i64 3)).run Tryd.prog w' = .ok (.int .u8 ((byteA hd 3).toNat : Int)) w' := hgets 3 (by omega)
  have hg4 : ∀ w', (Instr.index 9 (.string hd) (.int .i64 4)).run Tryd.prog w' = .ok (.int .u8 ((byteA hd 4).toNat : Int)) w' := hgets 4 (by omega)
  clear hgets
  have b1 := (byteA hd 1).toNat_lt
  have b2 := (byteA hd 2).toNat_lt
  have b3 := (byteA hd 3).toNat_lt
  have b4 := (byteA hd 4).toNat_lt
  have hNe : (hN hd : Nat) = (byteA hd 1).toNat + 256 * (byteA hd 2).toNat + 65536 * (byteA hd 3).toNat + 16777216 * (byteA hd 4).toNat := rfl
  generalize (byteA hd 1).toNat = n1 at *
  generalize (byteA hd 2).toNat = n2 at *
  generalize (byteA hd 3).toNat = n3 at *
  generalize (byteA hd 4).toNat = n4 at *
  generalize ((byteA hd 0).toNat : Int) = b0 at *
  clear h2 h1 h5 hNe
  go_wp2_with fail
  go_region
  go_wp2_with fail
  go_ret2
  exact Or.inl ⟨by rw [e1]; decide, by rw [e1]; rfl, RefK.drop (RefK.alloc (RefK.quiet H1.out (Turns.refl [] _).drew) _ _)⟩

set_option maxHeartbeats 3200000 in
set_option maxRecDepth 100000 in
theorem ropen_some1 (h : RefK w0 w r st K post) (hI : DInv st) (h0 : readCode st f 0 5 = 0) (h1 : 5 ≤ (readStr st f 0 5).size) (h2 : byteA (readStr st f 0 5) 0 = 1) :
    Calls Tryd.prog 19 #[.pointer (some ⟨r, 0, none⟩), .int .i64 f] w (ROpenPost w0 r f st K post) := by
  have hm := read_may h0
  have HO : Hid ((65536 < hN (readStr st f 0 5) → openC st f = 2) ∧ (¬ 65536 < hN (readStr st f 0 5) →
      ((readStr st f 64 (hN (readStr st f 0 5) : Nat)).size < hN (readStr st f 0 5) → openC st f = 2) ∧ (¬ (readStr st f 64 (hN (readStr st f 0 5) : Nat)).size < hN (readStr st f 0 5) → openC st f = 0 ∧ openV st f = ⟨1, readStr st f 64 (hN (readStr st f 0 5) : Nat), false⟩))) := by
    have n1 : ¬ ((readStr st f 0 5).size = 0 ∨ byteA (readStr st f 0 5) 0 = 0) := by rw [h2]; intro hh; exact hh.elim (fun hh => by omega) (fun hh => by revert hh; decide)
    have n2 : ¬ ((readStr st f 0 5).size < 5 ∨ ¬ (byteA (readStr st f 0 5) 0 = 1 ∨ byteA (readStr st f 0 5) 0 = 2)) := by rw [h2]; intro hh; exact hh.elim (fun hh => by omega) (fun hh => hh (by decide))
    have k1 : ((byteA (readStr st f 0 5) 0).toNat : Int) = 1 := by rw [h2]; rfl
    have k2 : ((off ((byteA (readStr st f 0 5) 0).toNat : Int) : Nat) : Int) = 64 := by rw [k1]; rfl
    rw [openC, if_neg (by simp [h0]), if_neg n1, if_neg n2, openV, if_neg n1, k2, k1]
    refine ⟨fun hh => by rw [if_pos hh], fun hh => ⟨fun h3 => by rw [if_neg hh, if_pos h3], fun h3 => ⟨by rw [if_neg hh, if_neg h3], rfl⟩⟩⟩
  have HS := Lib.hid h; clear h
  have HI := Lib.hid hI; clear hI
  go_enter Tryd.func19, Tryd.ntmps19
  go_wp2_with fail
  refine (rk_rread f 0 5 HS.out HI.out (by omega) (by omega)).mono ?_
  rintro e W1 ⟨rfl, h1⟩
  have H1 := Lib.hid h1; clear h1 HS
  rw [h0]
  clear h0
  obtain ⟨hd, hhd⟩ : ∃ hd, hd = readStr st f 0 5 := ⟨_, rfl⟩
  rw [← hhd] at HO h1 h2 ⊢
  have hne := notEmptyB (show 0 < hd.size by omega)
  have hget : ∀ w', (Instr.index 9 (.string hd) (.int .i64 0)).run Tryd.prog w' = .ok (.int .u8 1) w' := fun w' => by
    have := index_byte hd 0 (by omega) w'
    rw [h2] at this
    exact this
  have h6 : ¬ (hd.size : Int) < 5 := by omega
  have hgets : ∀ (i : Nat), i < 5 → ∀ w', (Instr.index 9 (.string hd) (.int .i64 (i : Int))).run Tryd.prog w' = .ok (.int .u8 ((byteA hd i).toNat : Int)) w' := fun i hi => index_byte hd i (by omega)
  have hg1 : ∀ w', (Instr.index 9 (.string hd) (.int .i64 1)).run Tryd.prog w' = .ok (.int .u8 ((byteA hd 1).toNat : Int)) w' := hgets 1 (by omega)
  have hg2 : ∀ w', (Instr.index 9 (.string hd) (.int .i64 2)).run Tryd.prog w' = .ok (.int .u8 ((byteA hd 2).toNat : Int)) w' := hgets 2 (by omega)
  have hg3 : ∀ w', (Instr.index 9 (.string hd) (.int .i64 3)).run Tryd.prog w' = .ok (.int .u8 ((byteA hd 3).toNat : Int)) w' := hgets 3 (by omega)
  have hg4 : ∀ w', (Instr.index 9 (.string hd) (.int .i64 4)).run Tryd.prog w' = .ok (.int .u8 ((byteA hd 4).toNat : Int)) w' := hgets 4 (by omega)
  clear hgets
  have b1 := (byteA hd 1).toNat_lt
  have b2 := (byteA hd 2).toNat_lt
  have b3 := (byteA hd 3).toNat_lt
  have b4 := (byteA hd 4).toNat_lt
  have hNe : (hN hd : Nat) = (byteA hd 1).toNat + 256 * (byteA hd 2).toNat + 65536 * (byteA hd 3).toNat + 16777216 * (byteA hd 4).toNat := rfl
  generalize (byteA hd 1).toNat = n1 at *
  generalize (byteA hd 2).toNat = n2 at *
  generalize (byteA hd 3).toNat = n3 at *
  generalize (byteA hd 4).toNat = n4 at *
  have HE := Lib.hid (And.intro hm (And.intro h1 (And.intro h2 hhd))); clear hm h2 hhd
  obtain ⟨N, hN1⟩ : ∃ N, N = hN hd := ⟨_, rfl⟩
  rw [← hN1] at HO hNe
  have hNI : Hid ((n1 : Int) + 256 * (n2 : Int) + 65536 * (n3 : Int) + 16777216 * (n4 : Int) = (N : Int)) := by show _ = _; omega
  have HN := Lib.hid hN1
  clear hN1 hNe
  go_wp2_with fail
  go_region
  rw [hNI.out]
  clear hNI hg1 hg2 hg3 hg4 b1 b2 b3 b4
  by_cases hbig : 65536 < N
  · have hbigI : (65536 : Int) < (N : Int) := by omega
    go_wp2_with fail
    go_ret2
    exact Or.inl ⟨by rw [HO.out.1 hbig]; decide, by rw [HO.out.1 hbig]; rfl, RefK.drop (RefK.alloc (RefK.quiet H1.out (Turns.refl [] _).drew) _ _)⟩
  · have hbigI : ¬ (65536 : Int) < (N : Int) := by omega
    go_wp2_with fail
    have HA : Hid (RefK w0 (W1.alloc (.cells #[.pointer (some ⟨r, 0, none⟩), .int .i64 f, .int .i64 1, .string ⟨#[]⟩, .bool false] 74)).drew r st K (blockThing W1.heap.size (rcellObj r f ⟨1, ⟨#[]⟩, false⟩) :: post)) := RefK.quiet (RefK.alloc H1.out _ _) (Turns.refl [] _).drew
    generalize (W1.alloc (.cells #[.pointer (some ⟨r, 0, none⟩), .int .i64 f, .int .i64 1, .string ⟨#[]⟩, .bool false] 74)).drew = W2 at *
    generalize W1.heap.size = cb at *
    clear H1
    refine (rbegin_any 1 W2 (by decide)).mono ?_
    rintro e W3 ⟨rfl, rfl⟩
    rw [show ((off 1 : Nat) : Int) = 64 from rfl]
    go_wp2_with fail
    refine (rk_rread f 64 (N : Nat) HA.out HI.out (by omega) (by omega)).mono ?_
    rintro e W3 ⟨rfl, h3⟩
    have H3 := Lib.hid h3; clear h3 HA
    have hrc : readCode st f 64 (N : Nat) = 0 := (read_part HE.out.1 64 N).1
    have hrs : (readStr st f 64 (N : Nat)).size ≤ N := by
      have e := (read_part HE.out.1 64 N).2
      simp only [show ((64 : Nat) : Int) = 64 from rfl] at e
      rw [e, extract_size]; omega
    rw [hrc]
    have HF := Lib.hid (HO.out.2 hbig); clear hrc HO
    obtain ⟨v, hv⟩ : ∃ v, v = readStr st f 64 (N : Nat) := ⟨_, rfl⟩
    rw [← hv] at HF hrs ⊢
    clear hv
    have hb := RefK.block H3.out
    have z3 : W3.frozen? ⟨cb, 3, none⟩ = false := free_at hb 3
    have y3 : W3.cell? ⟨cb, 3, none⟩ = some (.string ⟨#[]⟩) := cell_at hb 3
    have HB := Lib.hid hb; clear hb
    by_cases hsh : v.size < N
    · have hshI : ((v.size : Int) != (N : Int)) = true := by rw [bne_iff_ne]; omega
      clear hrs
      go_wp2_with fail
      go_ret2
      refine Or.inl ⟨?_, ?_, RefK.drop (RefK.turned H3.out (Turns.setCell _ _ _ (by simp)) (heap_setCell_at HB.out 3 _))⟩
      · rw [HF.out.1 hsh]; decide
      · rw [HF.out.1 hsh]; rfl
    · have hshI : ((v.size : Int) != (N : Int)) = false := by rw [bne_eq_false_iff_eq]; omega
      clear hrs
      go_wp2_with fail
      go_ret2
      refine Or.inr ⟨(HF.out.2 hsh).1, cb, rfl, ?_⟩
      rw [(HF.out.2 hsh).2]
      exact RefK.turned H3.out (Turns.setCell _ _ _ (by simp)) (heap_setCell_at HB.out 3 _)

set_option maxHeartbeats 3200000 in
set_option maxRecDepth 100000 in
theorem ropen_some2 (h : RefK w0 w r st K post) (hI : DInv st) (h0 : readCode st f 0 5 = 0) (h1 : 5 ≤ (readStr st f 0 5).size) (h2 : byteA (readStr st f 0 5) 0 = 2) :
    Calls Tryd.prog 19 #[.pointer (some ⟨r, 0, none⟩), .int .i64 f] w (ROpenPost w0 r f st K post) := by
  have hm := read_may h0
  have HO : Hid ((65536 < hN (readStr st f 0 5) → openC st f = 2) ∧ (¬ 65536 < hN (readStr st f 0 5) →
      ((readStr st f 131072 (hN (readStr st f 0 5) : Nat)).size < hN (readStr st f 0 5) → openC st f = 2) ∧ (¬ (readStr st f 131072 (hN (readStr st f 0 5) : Nat)).size < hN (readStr st f 0 5) → openC st f = 0 ∧ openV st f = ⟨2, readStr st f 131072 (hN (readStr st f 0 5) : Nat), false⟩))) := by
    have n1 : ¬ ((readStr st f 0 5).size = 0 ∨ byteA (readStr st f 0 5) 0 = 0) := by rw [h2]; intro hh; exact hh.elim (fun hh => by omega) (fun hh => by revert hh; decide)
    have n2 : ¬ ((readStr st f 0 5).size < 5 ∨ ¬ (byteA (readStr st f 0 5) 0 = 1 ∨ byteA (readStr st f 0 5) 0 = 2)) := by rw [h2]; intro hh; exact hh.elim (fun hh => by omega) (fun hh => hh (by decide))
    have k1 : ((byteA (readStr st f 0 5) 0).toNat : Int) = 2 := by rw [h2]; rfl
    have k2 : ((off ((byteA (readStr st f 0 5) 0).toNat : Int) : Nat) : Int) = 131072 := by rw [k1]; rfl
    rw [openC, if_neg (by simp [h0]), if_neg n1, if_neg n2, openV, if_neg n1, k2, k1]
    refine ⟨fun hh => by rw [if_pos hh], fun hh => ⟨fun h3 => by rw [if_neg hh, if_pos h3], fun h3 => ⟨by rw [if_neg hh, if_neg h3], rfl⟩⟩⟩
  have HS := Lib.hid h; clear h
  have HI := Lib.hid hI; clear hI
  go_enter Tryd.func19, Tryd.ntmps19
  go_wp2_with fail
  refine (rk_rread f 0 5 HS.out HI.out (by omega) (by omega)).mono ?_
  rintro e W1 ⟨rfl, h1⟩
  have H1 := Lib.hid h1; clear h1 HS
  rw [h0]
  clear h0
  obtain ⟨hd, hhd⟩ : ∃ hd, hd = readStr st f 0 5 := ⟨_, rfl⟩
  rw [← hhd] at HO h1 h2 ⊢
  have hne := notEmptyB (show 0 < hd.size by omega)
  have hget : ∀ w', (Instr.index 9 (.string hd) (.int .i64 0)).run Tryd.prog w' = .ok (.int .u8 2) w' := fun w' => by
    have := index_byte hd 0 (by omega) w'
    rw [h2] at this
    exact this
  have h6 : ¬ (hd.size : Int) < 5 := by omega
  have hgets : ∀ (i : Nat), i < 5 → ∀ w', (Instr.index 9 (.string hd) (.int .i64 (i : Int))).run Tryd.prog w' = .ok (.int .u8 ((byteA hd i).toNat : Int)) w' := fun i hi => index_byte hd i (by omega)
  have hg1 : ∀ w', (Instr.index 9 (.string hd) (.int .i64 1)).run Tryd.prog w' = .ok (.int .u8 ((byteA hd 1).toNat : Int)) w' := hgets 1 (by omega)
  have hg2 : ∀ w', (Instr.index 9 (.string hd) (.int .i64 2)).run Tryd.prog w' = .ok (.int .u8 ((byteA hd 2).toNat : Int)) w' := hgets 2 (by omega)
  have hg3 : ∀ w', (Instr.index 9 (.string hd) (.int .i64 3)).run Tryd.prog w' = .ok (.int .u8 ((byteA hd 3).toNat : Int)) w' := hgets 3 (by omega)
  have hg4 : ∀ w', (Instr.index 9 (.string hd) (.int .i64 4)).run Tryd.prog w' = .ok (.int .u8 ((byteA hd 4).toNat : Int)) w' := hgets 4 (by omega)
  clear hgets
  have b1 := (byteA hd 1).toNat_lt
  have b2 := (byteA hd 2).toNat_lt
  have b3 := (byteA hd 3).toNat_lt
  have b4 := (byteA hd 4).toNat_lt
  have hNe : (hN hd : Nat) = (byteA hd 1).toNat + 256 * (byteA hd 2).toNat + 65536 * (byteA hd 3).toNat + 16777216 * (byteA hd 4).toNat := rfl
  generalize (byteA hd 1).toNat = n1 at *
  generalize (byteA hd 2).toNat = n2 at *
  generalize (byteA hd 3).toNat = n3 at *
  generalize (byteA hd 4).toNat = n4 at *
  have HE := Lib.hid (And.intro hm (And.intro h1 (And.intro h2 hhd))); clear hm h2 hhd
  obtain ⟨N, hN1⟩ : ∃ N, N = hN hd := ⟨_, rfl⟩
  rw [← hN1] at HO hNe
  have hNI : Hid ((n1 : Int) + 256 * (n2 : Int) + 65536 * (n3 : Int) + 16777216 * (n4 : Int) = (N : Int)) := by show _ = _; omega
  have HN := Lib.hid hN1
  clear hN1 hNe
  go_wp2_with fail
  go_region
  rw [hNI.out]
  clear hNI hg1 hg2 hg3 hg4 b1 b2 b3 b4
  by_cases hbig : 65536 < N
  · have hbigI : (65536 : Int) < (N : Int) := by omega
    go_wp2_with fail
    go_ret2
    exact Or.inl ⟨by rw [HO.out.1 hbig]; decide, by rw [HO.out.1 hbig]; rfl, RefK.drop (RefK.alloc (RefK.quiet H1.out (Turns.refl [] _).drew) _ _)⟩
  · have hbigI : ¬ (65536 : Int) < (N : Int) := by omega
    go_wp2_with fail
    have HA : Hid (RefK w0 (W1.alloc (.cells #[.pointer (some ⟨r, 0, none⟩), .int .i64 f, .int .i64 2, .string ⟨#[]⟩, .bool false] 74)).drew r st K (blockThing W1.heap.size (rcellObj r f ⟨2, ⟨#[]⟩, false⟩) :: post)) := RefK.quiet (RefK.alloc H1.out _ _) (Turns.refl [] _).drew
    generalize (W1.alloc (.cells #[.pointer (some ⟨r, 0, none⟩), .int .i64 f, .int .i64 2, .string ⟨#[]⟩, .bool false] 74)).drew = W2 at *
    generalize W1.heap.size = cb at *
    clear H1
    refine (rbegin_any 2 W2 (by decide)).mono ?_
    rintro e W3 ⟨rfl, rfl⟩
    rw [show ((off 2 : Nat) : Int) = 131072 from rfl]
    go_wp2_with fail
    refine (rk_rread f 131072 (N : Nat) HA.out HI.out (by omega) (by omega)).mono ?_
    rintro e W3 ⟨rfl, h3⟩
    have H3 := Lib.hid h3; clear h3 HA
    have hrc : readCode st f 131072 (N : Nat) = 0 := (read_part HE.out.1 131072 N).1
    have hrs : (readStr st f 131072 (N : Nat)).size ≤ N := by
      have e := (read_part HE.out.1 131072 N).2
      simp only [show ((131072 : Nat) : Int) = 131072 from rfl] at e
      rw [e, extract_size]; omega
    rw [hrc]
    have HF := Lib.hid (HO.out.2 hbig); clear hrc HO
    obtain ⟨v, hv⟩ : ∃ v, v = readStr st f 131072 (N : Nat) := ⟨_, rfl⟩
    rw [← hv] at HF hrs ⊢
    clear hv
    have hb := RefK.block H3.out
    have z3 : W3.frozen? ⟨cb, 3, none⟩ = false := free_at hb 3
    have y3 : W3.cell? ⟨cb, 3, none⟩ = some (.string ⟨#[]⟩) := cell_at hb 3
    have HB := Lib.hid hb; clear hb
    by_cases hsh : v.size < N
    · have hshI : ((v.size : Int) != (N : Int)) = true := by rw [bne_iff_ne]; omega
      clear hrs
      go_wp2_with fail
      go_ret2
      refine Or.inl ⟨?_, ?_, RefK.drop (RefK.turned H3.out (Turns.setCell _ _ _ (by simp)) (heap_setCell_at HB.out 3 _))⟩
      · rw [HF.out.1 hsh]; decide
      · rw [HF.out.1 hsh]; rfl
    · have hshI : ((v.size : Int) != (N : Int)) = false := by rw [bne_eq_false_iff_eq]; omega
      clear hrs
      go_wp2_with fail
      go_ret2
      refine Or.inr ⟨(HF.out.2 hsh).1, cb, rfl, ?_⟩
      rw [(HF.out.2 hsh).2]
      exact RefK.turned H3.out (Turns.setCell _ _ _ (by simp)) (heap_setCell_at HB.out 3 _)

theorem ropen_any (h : RefK w0 w r st K post) (hI : DInv st) :
    Calls Tryd.prog 19 #[.pointer (some ⟨r, 0, none⟩), .int .i64 f] w (ROpenPost w0 r f st K post) := by
  by_cases h0 : readCode st f 0 5 = 0
  · by_cases h1 : (readStr st f 0 5).size = 0
    · exact ropen_none0 h hI h0 h1
    · by_cases h2 : byteA (readStr st f 0 5) 0 = 0
      · exact ropen_none1 h hI h0 (by omega) h2
      · by_cases h3 : (readStr st f 0 5).size < 5
        · exact ropen_short h hI h0 (by omega) h2 h3
        · by_cases h5 : byteA (readStr st f 0 5) 0 = 1 ∨ byteA (readStr st f 0 5) 0 = 2
          · rcases h5 with h5 | h5
            · exact ropen_some1 h hI h0 (by omega) h5
            · exact ropen_some2 h hI h0 (by omega) h5
          · exact ropen_form h hI h0 (by omega) h2 (by omega) h5
  · exact ropen_bad h hI h0
end
end Go.Proofs.YtdcgdnlpagadcaaDoor
