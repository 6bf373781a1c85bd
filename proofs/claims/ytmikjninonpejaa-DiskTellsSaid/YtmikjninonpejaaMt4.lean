/- Contracts and lemmas (texts RefY2, RefZ2, RefA3, RefB3, RefC3, RefD3, DoG, RefE3, joined by a program). -/
import Derived.Test.YtmikjninonpejaaMt3
/- Contracts of the reference for disk: comes, whole. -/
namespace Go.Proofs.Ytmikjninonpejaa
open Go.RowKit Go.Proofs.YtmikjninonpejaaMem Go.Maps

theorem wrS_not {st : DS} {f a : Int} {s : ByteArray} (h : wrCode st f a s ≠ 0) : wrS st f a s = st := by rw [wrS, if_neg (fun hh => h hh.1)]
section
variable {w0 w : World} {b : Nat} {kv : Value} {st : DS} {K : List Int} {post : List Thing}
theorem rcomes_any (f a : Int) (s : ByteArray) (h : RefAt w0 w b kv st (rowThing 3 1 kv K.length (intCells K) :: post)) (hI : DInv st) (hQ : st.Q.length ≤ 300000) (hK : K.length ≤ 1000000) (hs : s.size ≤ 100000000) :
    Calls Try.prog 84 #[.pointer (some ⟨b, 0, none⟩), .int .i64 f, .int .i64 a, .string s] w fun e w' => e = .returned (.tuple #[]) ∧ RefAt w0 w' b kv (comesS st K f a s) (rowThing 3 1 kv K.length (intCells K) :: post) := by
  cases hd : st.down
  rotate_left
  · have e : comesS st K f a s = st := by simp [comesS, endsB, endsS, hd]
    rw [e]
    exact rcomes_down f a s h hd
  have harm := hI.armed
  by_cases h0 : st.armed = 0
  · have e : comesS st K f a s = st := by simp [comesS, endsB, endsS, h0]
    rw [e]
    exact rcomes_idle f a s h hd h0
  by_cases h1 : st.armed = 1
  rotate_left
  · have e : comesS st K f a s = { st with armed := st.armed - 1 } := by simp [comesS, endsB, endsS, h0, h1, hd]
    rw [e]
    exact rcomes_far f a s h hd (by omega) (by omega)
  have e : comesS st K f a s = crashS (wrS { st with armed := 0 } f a s) K := by simp [comesS, endsB, endsS, h1, hd]
  rw [e]
  by_cases f0 : f < 0
  · rw [wrS_not (st := { st with armed := 0 }) (by
      have hm : mayCode { st with armed := 0 } f = 1 := by simp [mayCode, hd, f0]
      rw [wrCode, hm, if_pos (by decide)]; decide)]
    exact rcomes_neg f a s h hd h1 hI (by omega) hK f0
  by_cases f1 : 15 < f
  · rw [wrS_not (st := { st with armed := 0 }) (by
      have hm : mayCode { st with armed := 0 } f = 1 := by simp [mayCode, hd]; omega
      rw [wrCode, hm, if_pos (by decide)]; decide)]
    exact rcomes_big f a s h hd h1 hI (by omega) hK (by omega) f1
  have hm : mayCode { st with armed := 0 } f = 0 := may_of hd (by omega) (by omega)
  by_cases hfit : 0 ≤ a ∧ a ≤ 16777216 ∧ a + (s.size : Int) ≤ 16777216
  · obtain ⟨n, rfl⟩ := Int.eq_ofNat_of_zero_le hfit.1
    exact rcomes_fit f n s h hd h1 hI hQ hK (by omega) (by omega) n rfl (by omega)
  · rw [wrS_not (st := { st with armed := 0 }) (by
      rw [wrCode, if_neg (by simp [hm])]
      split
      · decide
      · split
        · decide
        · omega)]
    exact rcomes_unfit f a s h hd h1 hI (by omega) hK (by omega) (by omega) hs (by
      unfold fitsB
      cases c1 : decide (0 ≤ a)
      · rfl
      · cases c2 : decide (a ≤ 16777216)
        · rfl
        · cases c3 : decide (a + (s.size : Int) ≤ 16777216)
          · rfl
          · exact absurd ⟨of_decide_eq_true c1, of_decide_eq_true c2, of_decide_eq_true c3⟩ hfit)
end
end Go.Proofs.Ytmikjninonpejaa

/- Contracts of the reference for disk: Write. -/
namespace Go.Proofs.Ytmikjninonpejaa
open Go.RowKit Go.Proofs.YtmikjninonpejaaMem Go.Maps

theorem comes_may {st : DS} {K : List Int} {f a : Int} {s : ByteArray} (h : mayCode (comesS st K f a s) f = 0) : endsB st = false ∧ comesS st K f a s = endsS st := by
  cases hE : endsB st
  · exact ⟨rfl, by simp [comesS, hE]⟩
  · exfalso
    have hd : (comesS st K f a s).down = true := by
      simp only [comesS, hE, if_true]
      unfold crashS
      split
      · assumption
      · rfl
    rw [mayCode, if_pos hd] at h
    cases h
theorem comes_stop {st : DS} {K : List Int} {f a : Int} {s : ByteArray} (h : mayCode (comesS st K f a s) f ≠ 0) : writeCode st f a s = mayCode (comesS st K f a s) f ∧ writeS st K f a s = comesS st K f a s := by
  cases hE : endsB st
  · have e : comesS st K f a s = endsS st := by simp [comesS, hE]
    rw [e] at h ⊢
    have hc : wrCode (endsS st) f a s = mayCode (endsS st) f := by rw [wrCode, if_pos h]
    exact ⟨by simp [writeCode, hE, hc], by simp only [writeS, hE, Bool.false_eq_true, if_false]; exact wrS_not (by rw [hc]; exact h)⟩
  · have hd : (comesS st K f a s).down = true := by
      simp only [comesS, hE, if_true]
      unfold crashS
      split
      · assumption
      · rfl
    exact ⟨by rw [mayCode, if_pos hd]; simp [writeCode, hE], by simp [writeS, comesS, hE]⟩

section
variable {w0 w : World} {b : Nat} {kv : Value} {st : DS} {K : List Int} {post : List Thing}
set_option maxHeartbeats 1600000 in
set_option maxRecDepth 100000 in
theorem rwrite_any (f a : Int) (s : ByteArray) (h : RefAt w0 w b kv st (rowThing 3 1 kv K.length (intCells K) :: post)) (hI : DInv st) (hQ : st.Q.length ≤ 300000) (hK : K.length ≤ 1000000) (hs : s.size ≤ 100000000) :
    Calls Try.prog 70 #[.pointer (some ⟨b, 0, none⟩), .int .i64 f, .int .i64 a, .string s] w fun e w' => e = .returned (.int .i64 (writeCode st f a s)) ∧ RefAt w0 w' b kv (writeS st K f a s) (rowThing 3 1 kv K.length (intCells K) :: post) := by
  have HC := Lib.hid (rcomes_any f a s h hI hQ hK hs)
  have HI := Lib.hid (And.intro hI (And.intro hQ hs)); clear h hI hQ hs hK
  go_enter Try.func70, Try.ntmps70
  go_wp2_with fail
  refine HC.out.mono ?_
  rintro e W1 ⟨rfl, h1⟩
  have H1 := Lib.hid h1; clear h1 HC
  obtain ⟨st1, hst1⟩ : ∃ x, x = comesS st K f a s := ⟨_, rfl⟩
  rw [← hst1] at H1
  have HS1 := Lib.hid hst1; clear hst1
  go_wp2_with fail
  refine (rmay_any f H1.out).mono ?_
  rintro e W2 ⟨rfl, rfl⟩
  obtain ⟨m, hm⟩ : ∃ m, m = mayCode st1 f := ⟨_, rfl⟩
  rw [← hm]
  have HM := Lib.hid hm; clear hm
  by_cases hm0 : m = 0
  rotate_left
  · go_wp2_with fail
    go_ret
    have hne : mayCode (comesS st K f a s) f ≠ 0 := by rw [← HS1.out, ← HM.out]; exact hm0
    obtain ⟨e1, e2⟩ := comes_stop hne
    rw [e1, e2, ← HS1.out, ← HM.out]
    exact ⟨rfl, H1.out⟩
  subst hm0
  have hz : mayCode st1 f = 0 := HM.out.symm
  have HZ : Hid (endsB st = false ∧ st1 = endsS st) := by
    have := comes_may (K := K) (a := a) (s := s) (st := st) (f := f) (by rw [← HS1.out]; exact hz)
    exact ⟨this.1, HS1.out.trans this.2⟩
  have HW : Hid (writeCode st f a s = wrCode st1 f a s ∧ writeS st K f a s = wrS st1 f a s) := by
    obtain ⟨z1, z2⟩ := HZ.out
    exact ⟨by simp [writeCode, z1, z2], by simp [writeS, z1, z2]⟩
  have HMZ := Lib.hid hz; clear hz HM
  by_cases ha : a < 0
  · have d0 : decide (a < 0) = true := decide_eq_true ha
    go_wp2_with fail
    go_ret
    have hc : wrCode st1 f a s = 1 := by rw [wrCode, if_neg (by simp [HMZ.out]), if_pos ha]
    rw [HW.out.1, HW.out.2, wrS_not (by rw [hc]; decide), hc]
    exact ⟨rfl, H1.out⟩
  have d0 : decide (a < 0) = false := decide_eq_false ha
  go_wp2_with fail
  refine (rfits_any a s _ HI.out.2.2).mono ?_
  rintro e W3 ⟨rfl, rfl⟩
  by_cases hfit : a ≤ 16777216 ∧ a + (s.size : Int) ≤ 16777216
  · rw [show fitsB a s = true by simp [fitsB]; omega]
    obtain ⟨n, rfl⟩ := Int.eq_ofNat_of_zero_le (show 0 ≤ a by omega)
    go_wp2_with fail
    have hI1 : DInv st1 := by rw [HZ.out.2]; exact HI.out.1.ends
    have hQ1 : st1.Q.length ≤ 600000 := by
      rw [HZ.out.2]; unfold endsS; have := HI.out.2.1; split <;> (show st.Q.length ≤ 600000; omega)
    refine (radd_any f n s H1.out HMZ.out (by omega) hI1 hQ1).mono ?_
    rintro e W4 ⟨rfl, h4⟩
    have H4 := Lib.hid h4; clear h4
    go_wp2_with fail
    go_ret
    have hc : wrCode st1 f (n : Int) s = 0 := by rw [wrCode, if_neg (by simp [HMZ.out]), if_neg (by omega), if_neg (by omega)]
    rw [HW.out.1, HW.out.2, hc]
    exact ⟨rfl, H4.out⟩
  · rw [show fitsB a s = false by
      unfold fitsB
      cases c2 : decide (a ≤ 16777216)
      · simp
      · cases c3 : decide (a + (s.size : Int) ≤ 16777216)
        · simp
        · exact absurd ⟨of_decide_eq_true c2, of_decide_eq_true c3⟩ hfit]
    go_wp2_with fail
    go_ret
    have hc : wrCode st1 f a s = 6 := by rw [wrCode, if_neg (by simp [HMZ.out]), if_neg (by omega), if_pos (by omega)]
    rw [HW.out.1, HW.out.2, wrS_not (by rw [hc]; decide), hc]
    exact ⟨rfl, H1.out⟩
end
end Go.Proofs.Ytmikjninonpejaa

/- Contracts of the reference for disk: Sync. -/
namespace Go.Proofs.Ytmikjninonpejaa
open Go.RowKit Go.Proofs.YtmikjninonpejaaMem Go.Maps

theorem comes_end (st : DS) (K : List Int) : comesS st K 0 0 ⟨#[]⟩ = endS st K := by
  unfold comesS endS
  rw [show wrS (endsS st) 0 0 ⟨#[]⟩ = endsS st by rw [wrS, if_neg (fun hh => absurd hh.2 (by decide))]]
theorem end_queue (st : DS) (K : List Int) : (endS st K).Q.length ≤ st.Q.length := by
  unfold endS endsS crashS
  split <;> split <;> (try split) <;> simp
section
variable {w0 w : World} {b : Nat} {kv : Value} {st : DS} {K : List Int} {post : List Thing}
set_option maxHeartbeats 1600000 in
set_option maxRecDepth 100000 in
theorem rsync_any (f : Int) (h : RefAt w0 w b kv st (rowThing 3 1 kv K.length (intCells K) :: post)) (hI : DInv st) (hQ : st.Q.length ≤ 300000) (hK : K.length ≤ 1000000) :
    Calls Try.prog 64 #[.pointer (some ⟨b, 0, none⟩), .int .i64 f] w fun e w' => e = .returned (.int .i64 (syncCode st K f)) ∧ RefAt w0 w' b kv (syncS st K f) (rowThing 3 1 kv K.length (intCells K) :: post) := by
  have hc := rcomes_any 0 0 ⟨#[]⟩ h hI hQ hK (by decide)
  rw [comes_end] at hc
  have HC := Lib.hid hc
  have hq := end_queue st K
  have HI := Lib.hid (And.intro (hI.end K) (Nat.le_trans hq hQ)); clear h hI hQ hK hc hq
  have e1 : syncCode st K f = if mayCode (endS st K) f ≠ 0 then mayCode (endS st K) f else if 0 < (endS st K).lost then 10 else 0 := by
    have hl := endS_lost st K
    rw [syncCode, hl]
  have e2 : syncS st K f = if mayCode (endS st K) f ≠ 0 then endS st K else if 0 < (endS st K).lost then { endS st K with lost := (endS st K).lost - 1 } else settleS (endS st K) f ((endS st K).F f).now := rfl
  have E1 := Lib.hid e1; clear e1
  have E2 := Lib.hid e2; clear e2
  generalize endS st K = st1 at *
  go_enter Try.func64, Try.ntmps64
  go_wp2_with fail
  refine HC.out.mono ?_
  rintro e W1 ⟨rfl, h1⟩
  have H1 := Lib.hid h1; clear h1 HC
  go_wp2_with fail
  refine (rmay_any f H1.out).mono ?_
  rintro e W2 ⟨rfl, rfl⟩
  obtain ⟨m, hm⟩ : ∃ m, m = mayCode st1 f := ⟨_, rfl⟩
  rw [← hm]
  have HM := Lib.hid hm; clear hm
  by_cases hm0 : m = 0
  rotate_left
  · go_wp2_with fail
    go_ret
    rw [E1.out, E2.out, ← HM.out]
    simp only [ne_eq, hm0, not_false_eq_true, if_true]
    exact ⟨rfl, H1.out⟩
  subst hm0
  obtain ⟨fv, qv, hb⟩ := H1.out.block
  have c2 : W1.cell? ⟨b, 2, none⟩ = some (.int .i64 st1.lost) := cell_at hb 2
  have f2 : W1.frozen? ⟨b, 2, none⟩ = false := free_at hb 2
  clear hb
  have hlo := HI.out.1.lost
  by_cases hl : 0 < st1.lost
  · have H2 := Lib.hid (H1.out.set (st' := { st1 with lost := st1.lost - 1 }) (kv' := kv) 2 (.int .i64 (st1.lost - 1)) rfl rfl (fun _ _ => rfl))
    have HL := Lib.hid (And.intro hl hlo)
    have hlo2 := hlo.2
    obtain ⟨q, hq⟩ : ∃ q, q = st1.lost := ⟨_, rfl⟩
    rw [← hq] at c2 hl hlo2 H2
    have HQ := Lib.hid hq; clear hq hlo
    go_wp2_with fail
    go_ret
    rw [E1.out, E2.out, ← HM.out, ← HQ.out]
    simp only [ne_eq, not_true_eq_false, if_false, hl, if_true]
    exact ⟨rfl, H2.out⟩
  · have HL := Lib.hid hl
    obtain ⟨x, hx, hc⟩ := H1.out.get f
    have HG := Lib.hid hc; clear hc
    have HX := Lib.hid hx; clear hx hlo
    have hfl := field_rnow
    go_wp2_with fail
    refine HG.out.mono ?_
    rintro e W3 ⟨rfl, ht⟩
    unfold RF.val
    have H3 := Lib.hid (H1.out.quiet ht); clear ht c2 f2
    go_wp2_with fail
    obtain ⟨_, r0, r1⟩ := may_zero HM.out.symm
    refine (rsettle_sep f x.now H3.out ⟨r0, r1⟩ (by have := HI.out.2; omega)).mono ?_
    rintro e W4 ⟨rfl, h4⟩
    have H4 := Lib.hid h4; clear h4
    go_wp2_with fail
    go_ret
    rw [E1.out, E2.out, ← HM.out, ← HX.out]
    have hnn : ¬ 0 < st1.lost := by have := HL.out; omega
    simp only [ne_eq, not_true_eq_false, if_false, hnn]
    exact ⟨rfl, H4.out⟩
end
end Go.Proofs.Ytmikjninonpejaa

/- Contracts of the reference for disk: Arm. -/
namespace Go.Proofs.Ytmikjninonpejaa
open Go.RowKit Go.Proofs.YtmikjninonpejaaMem Go.Maps

theorem RefK.arm {w0 w w1 : World} {b : Nat} {kv v' : Value} {st : DS} {K C : List Int} {post : List Thing} (h : RefAt w0 w b kv st (rowThing 3 1 kv K.length (intCells K) :: post)) (ht : Turns [] w w1)
    (ho : w1.ownsRow w.heap.size 3 1 v' C.length (intCells C)) : RefAt w0 (w1.setCell ⟨b, 5, none⟩ v') b v' st (rowThing 3 1 v' C.length (intCells C) :: post) := by
  obtain ⟨fv, qv, L, hR, hs⟩ := h
  have h1 : Sep w0 w1 (rowThing 3 1 v' C.length (intCells C) :: refL b fv qv kv st L (rowThing 3 1 kv K.length (intCells K) :: post)) :=
    Sep.add (t := rowThing 3 1 v' C.length (intCells C)) (FP := v'.ownBlock.toList) hs ht ⟨own_base ho (Nat.zero_le _), rfl⟩ (fun x hx => by
      rcases ho.2 with ⟨rfl, _⟩ | ⟨g, cap, cur, rfl, hg, _⟩
      · simp [Value.ownBlock] at hx
      · simp [Value.ownBlock] at hx; omega)
  have h2 := Sep.block_turned (o' := refObj fv qv v' st) [_] _ h1 (Turns.setCell w1 ⟨b, 5, none⟩ v' (by simp)) (heap_setCell_at (Sep.block [_] _ h1) 5 v')
  have h3 := (Sep.toFront [_, _, _, _] _ h2).drop
  exact ⟨fv, qv, L, hR, Sep.fromFront [_, _, _] _ h3⟩

/-- What an append takes from: a slice without an address, or one whose cells are known. -/
def SrcAny (w : World) (u : Value) (m : Nat) (news : List Value) : Prop :=
  (∃ c, u = .slice none 0 c ∧ m = 0 ∧ news = []) ∨ ∃ ad c, u = .slice (some ad) m c ∧ ∀ j x, news[j]? = some x → w.cell? (ad.add j) = some x
theorem run_append_none (P : Program) (w : World) (t ty e : TypeId) (i : TypeInfo) (size : Nat) (ht : P.underlying t = some (.slice e)) (hi : P.info? e = some i)
    (v : Value) (n : Nat) (xs : List Value) (hown : w.ownsRow 0 e size v n xs) (c : Nat) :
    (Builtin.append_ #[t, t] ty #[v, .slice none 0 c]).run P w = .ok v w := by
  rcases hown.2 with ⟨rfl, rfl⟩ | ⟨g, cap, cur, rfl, _, _, hnc, _⟩
  · simp [Builtin.append_, run_underlying ht, sizeOf, typeInfo, hi, Builtin.lenOf, Builtin.firstCells]
  · simp [Builtin.append_, run_underlying ht, sizeOf, typeInfo, hi, Builtin.lenOf, Builtin.firstCells, hnc, storeCells]
theorem run_append_any {P : Program} (w : World) (t ty e : TypeId) (i : TypeInfo) (z : Value) (size bytes : Nat) (ht : P.underlying t = some (.slice e)) (hi : P.info? e = some i) (hz : i.zero = some z)
    (hsize : i.size = size) (hby : i.bytes = bytes) (hzs : z.cells.size = size) (hsz : 0 < size)
    (v : Value) (n : Nat) (xs : List Value) (hown : w.ownsRow 0 e size v n xs)
    (u : Value) (m : Nat) (news : List Value) (hsrc : SrcAny w u m news) (hl : news.length = m * size) (h1 : ∀ u ∈ news, u.oneCell' = true)
    (h63 : n + m ≤ maxLen) (hbytes : (n + m) * bytes ≤ 140737488355328) :
    ∃ v' w', (Builtin.append_ #[t, t] ty #[v, u]).run P w = .ok v' w' ∧ w'.ownsRow 0 e size v' (n + m) (xs ++ news) ∧ w.grownBy w' v.ownBlock ∧ (v'.ownBlock = v.ownBlock ∨ v'.ownBlock = some w.heap.size) := by
  rcases hsrc with ⟨c, rfl, rfl, rfl⟩ | ⟨ad, c, rfl, hc⟩
  · exact ⟨v, w, run_append_none P w t ty e i size ht hi v n xs hown c, by simpa using hown, World.grownBy.refl _ _, Or.inl rfl⟩
  · obtain ⟨v', w', hr, h2, h3, _, h5⟩ := run_append_own_at (P := P) w 0 t ty e i z size bytes ht hi hz hsize hby hzs hsz v n xs hown ad m c news hl hc h1 h63 hbytes (Nat.zero_le _)
    exact ⟨v', w', hr, h2, h3, h5⟩
theorem wpList_append_any {P : Program} (w : World) {ops : Array Oper} {rest : List Oper} {o : Oper} {a : Act} {Q : Exit → Act → World → Prop} (hgd : o.guard = none) (s x : Operand) (t : TypeId)
    (ho : o.op = .call { callee := .builtin .append, args := #[s, x], argTypes := #[t, t] })
    (e : TypeId) (i : TypeInfo) (z : Value) (size bytes : Nat) (ht : P.underlying t = some (.slice e)) (hi : P.info? e = some i) (hz : i.zero = some z)
    (hsize : i.size = size) (hby : i.bytes = bytes) (hzs : z.cells.size = size) (hsz : 0 < size)
    (v : Value) (n : Nat) (xs : List Value) (hs : a.eval s = v) (hown : w.ownsRow 0 e size v n xs)
    (u : Value) (m : Nat) (news : List Value) (hx : a.eval x = u) (hsrc : SrcAny w u m news) (hl : news.length = m * size) (h1 : ∀ u ∈ news, u.oneCell' = true)
    (h63 : n + m ≤ maxLen) (hbytes : (n + m) * bytes ≤ 140737488355328)
    (h : ∀ v' w', w'.ownsRow 0 e size v' (n + m) (xs ++ news) → w.grownBy w' v.ownBlock → (v'.ownBlock = v.ownBlock ∨ v'.ownBlock = some w.heap.size) → wpList P ops Q rest (a.put o.dst v') w') :
    wpList P ops Q (o :: rest) a w := by
  refine wpList_plain hgd fun K hK => ?_
  obtain ⟨v', w', hr, h2, h3, h5⟩ := run_append_any (P := P) w t o.type e i z size bytes ht hi hz hsize hby hzs hsz v n xs hown u m news hsrc hl h1 h63 hbytes
  unfold Oper.wp execOp
  simp only [ho, resolve, invoke, builtin, Sem.run_bind, Sem.run_pure, Result.andThen_ok, List.map_toArray, List.map_cons, List.map_nil, hs, hx, hr]
  exact hK _ _ (h v' w' h2 h3 h5)
theorem srcAny_ints {w : World} {a : Option Addr} {C : List Int} (c : Nat) (hat : IntsAt w a C) : SrcAny w (.slice a C.length c) C.length (intCells C) := by
  cases a with
  | none =>
    have : C = [] := by
      cases C with
      | nil => rfl
      | cons x C => obtain ⟨b, off, h0, _⟩ := hat 0 (by simp); cases h0
    subst this
    exact .inl ⟨c, rfl, rfl, rfl⟩
  | some ad =>
    refine .inr ⟨ad, c, rfl, fun j u hu => ?_⟩
    have hj : j < C.length := by have := (List.getElem?_eq_some_iff.1 hu).1; simpa [intCells] using this
    obtain ⟨b, off, h0, h1⟩ := hat j hj
    obtain rfl := Option.some.inj h0
    rw [add_plain', h1]
    simpa [intCells, hj] using hu
theorem SrcAny.kept {w w' : World} {u : Value} {m : Nat} {news : List Value} (h : SrcAny w u m news) (ht : Turns [] w w') : SrcAny w' u m news := by
  rcases h with h | ⟨ad, c, e, hx⟩
  · exact .inl h
  · exact .inr ⟨ad, c, e, fun j x hj => (ht.cell (World.block_lt_of_cell? _ _ (hx j x hj)) (by simp)).trans (hx j x hj)⟩

set_option maxHeartbeats 800000 in
set_option maxRecDepth 100000 in
theorem rarm_any {w0 w : World} {b : Nat} {kv : Value} {st : DS} {K C : List Int} {post : List Thing} (n : Int) (v : Value) (h : RefAt w0 w b kv st (rowThing 3 1 kv K.length (intCells K) :: post)) (hv : IntsV w0 v C) (hC : C.length ≤ 1000000) :
    Calls Try.prog 67 #[.pointer (some ⟨b, 0, none⟩), .int .i64 n, v] w fun e w' => e = .returned (.tuple #[]) ∧ RefK w0 w' b { st with armed := max n 0 } C post := by
  obtain ⟨i0, hi, hz0, hz1, hz2⟩ := info_parts Try.info3
  obtain ⟨a, c, rfl, hat⟩ := hv
  have h1 := h.set (st' := { st with armed := max n 0 }) (kv' := kv) 4 (.int .i64 (max n 0)) rfl rfl (fun _ _ => rfl)
  have hb := h.block
  obtain ⟨fv, qv, hb⟩ := hb
  have c4 : w.cell? ⟨b, 4, none⟩ = some (.int .i64 st.armed) := cell_at hb 4
  have f4 : w.frozen? ⟨b, 4, none⟩ = false := free_at hb 4
  have H1 := Lib.hid h1; clear h h1 hb
  obtain ⟨q, hq⟩ : ∃ q, q = max n 0 := ⟨_, rfl⟩
  rw [← hq] at H1 ⊢
  have d0 : n < 0 ∨ 0 ≤ n := by omega
  have key : ∀ W : World, RefAt w0 W b kv { st with armed := q } (rowThing 3 1 kv K.length (intCells K) :: post) → SrcAny (W.alloc (.cells #[] 3)) (.slice a C.length c) C.length (intCells C) := by
    intro W hW
    obtain ⟨_, _, _, _, hs⟩ := hW
    exact (srcAny_ints c (hat.below hs.below)).kept (Turns.alloc [] W _)
  have HK := Lib.hid key; clear key
  have HNIL : Hid (∀ W : World, (W.alloc (.cells #[] 3)).ownsRow 0 3 1 (.slice (some ⟨W.heap.size, 0, none⟩) 0 0) 0 []) := fun W => own_base (World.ownsRow_made W #[] 0 (Nat.le_refl _) (by unfold maxLen; omega) rfl) (Nat.zero_le _)
  clear hat
  rcases d0 with d0 | d0
  · obtain rfl : q = 0 := by omega
    clear hq
    go_enter Try.func67, Try.ntmps67
    go_wp2_with (at_builtin; refine wpList_append_any _ rfl (.tmp 12) (.tmp 13) 23 rfl 3 i0 (.int .i64 0) 1 8 Try.underlying23 hi hz0 hz1 hz2 rfl (by decide) _ 0 [] rfl ?own _ C.length (intCells C) rfl (HK.out _ H1.out) ?c1 ?c3 ?c4 ?c5 ?_)
    case own =>
      have := HNIL.out (w.setCell ⟨b, 4, none⟩ (.int .i64 0))
      rw [World.size_setCell] at this
      exact this
    case c1 => simp [intCells]
    case c3 => intro u hu; obtain ⟨x, _, rfl⟩ := List.mem_map.1 hu; rfl
    case c4 => unfold maxLen; omega
    case c5 => omega
    intro v' w1 hown hgr hat2
    have hge : ∀ x ∈ v'.ownBlock.toList, (w.setCell ⟨b, 4, none⟩ (.int .i64 0)).heap.size ≤ x := fun x hx => by
      rw [World.size_setCell]
      rcases hat2 with h | h
      · rw [h] at hx; simp [Value.ownBlock] at hx; omega
      · rw [h] at hx; simp at hx; omega
    have ht : Turns [] (w.setCell ⟨b, 4, none⟩ (.int .i64 0)) w1 := (Turns.alloc _ _ _).trans_new (Turns.of_grown (S := [w.heap.size]) hgr (fun k hk => by simp [Value.ownBlock] at hk; simp [hk])) (fun x hx => by simp at hx; rw [World.size_setCell]; exact Or.inr (by omega))
    have HO := Lib.hid (And.intro (own_above hown hge) ht)
    clear hown hgr hat2 hge ht c4 f4
    obtain ⟨fv2, qv2, hb2⟩ := (H1.out.quiet HO.out.2).block
    have c5 : w1.cell? ⟨b, 5, none⟩ = some kv := cell_at hb2 5
    have f5 : w1.frozen? ⟨b, 5, none⟩ = false := free_at hb2 5
    clear hb2
    obtain ⟨a', c', rfl, -⟩ := own_shape (own_base HO.out.1 (Nat.zero_le _))
    go_wp2
    go_end0
    exact ⟨rfl, _, RefK.arm H1.out HO.out.2 HO.out.1⟩
  · obtain rfl : q = n := by omega
    clear hq
    go_enter Try.func67, Try.ntmps67
    go_wp2_with (at_builtin; refine wpList_append_any _ rfl (.tmp 12) (.tmp 13) 23 rfl 3 i0 (.int .i64 0) 1 8 Try.underlying23 hi hz0 hz1 hz2 rfl (by decide) _ 0 [] rfl ?own _ C.length (intCells C) rfl (HK.out _ H1.out) ?c1 ?c3 ?c4 ?c5 ?_)
    case own =>
      have := HNIL.out (w.setCell ⟨b, 4, none⟩ (.int .i64 q))
      rw [World.size_setCell] at this
      exact this
    case c1 => simp [intCells]
    case c3 => intro u hu; obtain ⟨x, _, rfl⟩ := List.mem_map.1 hu; rfl
    case c4 => unfold maxLen; omega
    case c5 => omega
    intro v' w1 hown hgr hat2
    have hge : ∀ x ∈ v'.ownBlock.toList, (w.setCell ⟨b, 4, none⟩ (.int .i64 q)).heap.size ≤ x := fun x hx => by
      rw [World.size_setCell]
      rcases hat2 with h | h
      · rw [h] at hx; simp [Value.ownBlock] at hx; omega
      · rw [h] at hx; simp at hx; omega
    have ht : Turns [] (w.setCell ⟨b, 4, none⟩ (.int .i64 q)) w1 := (Turns.alloc _ _ _).trans_new (Turns.of_grown (S := [w.heap.size]) hgr (fun k hk => by simp [Value.ownBlock] at hk; simp [hk])) (fun x hx => by simp at hx; rw [World.size_setCell]; exact Or.inr (by omega))
    have HO := Lib.hid (And.intro (own_above hown hge) ht)
    clear hown hgr hat2 hge ht c4 f4
    obtain ⟨fv2, qv2, hb2⟩ := (H1.out.quiet HO.out.2).block
    have c5 : w1.cell? ⟨b, 5, none⟩ = some kv := cell_at hb2 5
    have f5 : w1.frozen? ⟨b, 5, none⟩ = false := free_at hb2 5
    clear hb2
    obtain ⟨a', c', rfl, -⟩ := own_shape (own_base HO.out.1 (Nat.zero_le _))
    go_wp2
    go_end0
    exact ⟨rfl, _, RefK.arm H1.out HO.out.2 HO.out.1⟩
end Go.Proofs.Ytmikjninonpejaa

/- Contracts of the reference for disk: Truncate. -/
namespace Go.Proofs.Ytmikjninonpejaa
open Go.RowKit Go.Proofs.YtmikjninonpejaaMem Go.Maps

section
variable {w0 w : World} {b : Nat} {kv : Value} {st : DS} {K : List Int} {post : List Thing}
set_option maxHeartbeats 1600000 in
set_option maxRecDepth 100000 in
theorem rtrunc_any (f z : Int) (h : RefAt w0 w b kv st (rowThing 3 1 kv K.length (intCells K) :: post)) (hI : DInv st) (hQ : st.Q.length ≤ 300000) (hK : K.length ≤ 1000000) :
    Calls Try.prog 65 #[.pointer (some ⟨b, 0, none⟩), .int .i64 f, .int .i64 z] w fun e w' => e = .returned (.int .i64 (truncCode st K f z)) ∧ RefAt w0 w' b kv (truncS st K f z) (rowThing 3 1 kv K.length (intCells K) :: post) := by
  have hc := rcomes_any 0 0 ⟨#[]⟩ h hI hQ hK (by decide)
  rw [comes_end] at hc
  have HC := Lib.hid hc
  have hq := end_queue st K
  have HI := Lib.hid (And.intro (hI.end K) (Nat.le_trans hq hQ)); clear h hI hQ hK hc hq
  have e1 : truncCode st K f z = if mayCode (endS st K) f ≠ 0 then mayCode (endS st K) f else if z < 0 ∨ (((endS st K).F f).now.size : Int) < z then 1 else 0 := rfl
  have e2 : truncS st K f z = if mayCode (endS st K) f ≠ 0 then endS st K else if z < 0 ∨ (((endS st K).F f).now.size : Int) < z then endS st K else settleS (endS st K) f (((endS st K).F f).now.extract 0 z.toNat) := rfl
  have E1 := Lib.hid e1; clear e1
  have E2 := Lib.hid e2; clear e2
  generalize endS st K = st1 at *
  go_enter Try.func65, Try.ntmps65
  go_wp2_with fail
  refine HC.out.mono ?_
  rintro e W1 ⟨rfl, h1⟩
  have H1 := Lib.hid h1; clear h1 HC
  go_wp2_with fail
  refine (rmay_any f H1.out).mono ?_
  rintro e W2 ⟨rfl, rfl⟩
  obtain ⟨m, hm⟩ : ∃ m, m = mayCode st1 f := ⟨_, rfl⟩
  rw [← hm]
  have HM := Lib.hid hm; clear hm
  by_cases hm0 : m = 0
  rotate_left
  · go_wp2_with fail
    go_ret
    rw [E1.out, E2.out, ← HM.out]
    simp only [ne_eq, hm0, not_false_eq_true, if_true]
    exact ⟨rfl, H1.out⟩
  subst hm0
  obtain ⟨x, hx, hc⟩ := H1.out.get f
  have HG := Lib.hid hc; clear hc
  have HX := Lib.hid hx; clear hx
  have hfl := field_rnow
  go_wp2_with fail
  refine HG.out.mono ?_
  rintro e W3 ⟨rfl, ht⟩
  unfold RF.val
  have H3 := Lib.hid (H1.out.quiet ht); clear ht
  by_cases hz : z < 0
  · have d0 : decide (z < 0) = true := decide_eq_true hz
    have HZ := Lib.hid hz; clear hz
    go_wp2_with fail
    go_ret
    have hor : z < 0 ∨ ((st1.F f).now.size : Int) < z := Or.inl HZ.out
    rw [E1.out, E2.out, ← HM.out]
    simp only [ne_eq, not_true_eq_false, if_false, if_pos hor]
    exact ⟨rfl, H3.out⟩
  have d0 : decide (z < 0) = false := decide_eq_false hz
  by_cases hs : (x.now.size : Int) < z
  · have d1 : decide ((x.now.size : Int) < z) = true := decide_eq_true hs
    have HZ := Lib.hid (And.intro hz hs); clear hz hs
    go_wp2_with fail
    go_ret
    have hor : z < 0 ∨ ((st1.F f).now.size : Int) < z := Or.inr (by rw [← HX.out]; exact HZ.out.2)
    rw [E1.out, E2.out, ← HM.out]
    simp only [ne_eq, not_true_eq_false, if_false, if_pos hor]
    exact ⟨rfl, H3.out⟩
  · have d1 : decide ((x.now.size : Int) < z) = false := decide_eq_false hs
    have hz0 : 0 ≤ z := by omega
    have hz1 : z ≤ (x.now.size : Int) := by omega
    have HZ := Lib.hid (And.intro hz hs); clear hz hs
    go_wp2_with fail
    obtain ⟨_, r0, r1⟩ := may_zero HM.out.symm
    refine (rsettle_sep f _ H3.out ⟨r0, r1⟩ (by have := HI.out.2; omega)).mono ?_
    rintro e W4 ⟨rfl, h4⟩
    have H4 := Lib.hid h4; clear h4
    go_wp2_with fail
    go_ret
    have hor : ¬ (z < 0 ∨ ((st1.F f).now.size : Int) < z) := by rw [← HX.out]; have := HZ.out; omega
    rw [E1.out, E2.out, ← HM.out, ← HX.out]
    rw [← HX.out] at hor
    simp only [ne_eq, not_true_eq_false, if_false, if_neg hor]
    exact ⟨rfl, H4.out⟩
end
end Go.Proofs.Ytmikjninonpejaa

/- Contracts of the reference for disk: tell. -/
namespace Go.Proofs.Ytmikjninonpejaa
open Go.RowKit Go.Proofs.YtmikjninonpejaaMem Go.Maps

section
variable {w0 w : World} {b : Nat} {kv av : Value} {st : DS} {K : List Int} {post : List Thing}
set_option maxHeartbeats 3200000 in
set_option maxRecDepth 100000 in
theorem rtell_sync (a : DAct) (h : RefAt w0 w b kv st (rowThing 3 1 kv K.length (intCells K) :: post)) (ha : IntsV w0 av a.keep) (hI : DInv st) (hQ : st.Q.length ≤ 300000) (hK : K.length ≤ 1000000) (hs : a.s.size ≤ 100000000) (hK2 : a.keep.length ≤ 1000000) (h7 : a.doo % 8 = 2) :
    Calls Try.prog 35 #[.pointer (some ⟨b, 0, none⟩), .agg #[.int .i64 a.doo, .int .i64 a.f, .int .i64 a.n, .string a.s, av]] w fun e w' => e = .returned (.int .i64 (doC st K a)) ∧ RefK w0 w' b (doS st K a) (doK K a) post := by
  have e1 : doC st K a = syncCode st K a.f := by simp [doC, h7]
  have e2 : doS st K a = (syncS st K a.f) := by simp [doS, h7]
  have e3 : doK K a = K := by simp [doK, h7]
  rw [e1, e2, e3]
  clear e1 e2 e3
  have hand : bits .and .i64 a.doo 7 = 2 := by rw [and7, h7]
  have HV := Lib.hid (h.quiet (Turns.alloc [] w (.cells #[.int .i64 a.doo, .int .i64 a.f, .int .i64 a.n, .string a.s, av] 63)))
  have HA := Lib.hid ha
  have HX := Lib.hid (And.intro hI (And.intro hQ (And.intro hK (And.intro hs hK2))))
  obtain ⟨ka, kc, rfl, -⟩ := ha
  clear h h7 hI hQ hK hs hK2
  go_enter Try.func35, Try.ntmps35
  go_wp2_with fail
  obtain ⟨hI, hQ, hK, hs, hK2⟩ := HX.out
  refine (rsync_any a.f HV.out hI hQ hK).mono ?_
  rintro e w1 ⟨rfl, hP⟩
  have HP : Hid (RefK w0 w1 b (syncS st K a.f) K post) := ⟨kv, hP⟩
  clear hP
  go_wp2_with fail
  go_ret
  exact ⟨rfl, HP.out⟩

set_option maxHeartbeats 3200000 in
set_option maxRecDepth 100000 in
theorem rtell_trunc (a : DAct) (h : RefAt w0 w b kv st (rowThing 3 1 kv K.length (intCells K) :: post)) (ha : IntsV w0 av a.keep) (hI : DInv st) (hQ : st.Q.length ≤ 300000) (hK : K.length ≤ 1000000) (hs : a.s.size ≤ 100000000) (hK2 : a.keep.length ≤ 1000000) (h7 : a.doo % 8 = 3) :
    Calls Try.prog 35 #[.pointer (some ⟨b, 0, none⟩), .agg #[.int .i64 a.doo, .int .i64 a.f, .int .i64 a.n, .string a.s, av]] w fun e w' => e = .returned (.int .i64 (doC st K a)) ∧ RefK w0 w' b (doS st K a) (doK K a) post := by
  have e1 : doC st K a = truncCode st K a.f a.n := by simp [doC, h7]
  have e2 : doS st K a = (truncS st K a.f a.n) := by simp [doS, h7]
  have e3 : doK K a = K := by simp [doK, h7]
  rw [e1, e2, e3]
  clear e1 e2 e3
  have hand : bits .and .i64 a.doo 7 = 3 := by rw [and7, h7]
  have HV := Lib.hid (h.quiet (Turns.alloc [] w (.cells #[.int .i64 a.doo, .int .i64 a.f, .int .i64 a.n, .string a.s, av] 63)))
  have HA := Lib.hid ha
  have HX := Lib.hid (And.intro hI (And.intro hQ (And.intro hK (And.intro hs hK2))))
  obtain ⟨ka, kc, rfl, -⟩ := ha
  clear h h7 hI hQ hK hs hK2
  go_enter Try.func35, Try.ntmps35
  go_wp2_with fail
  obtain ⟨hI, hQ, hK, hs, hK2⟩ := HX.out
  refine (rtrunc_any a.f a.n HV.out hI hQ hK).mono ?_
  rintro e w1 ⟨rfl, hP⟩
  have HP : Hid (RefK w0 w1 b (truncS st K a.f a.n) K post) := ⟨kv, hP⟩
  clear hP
  go_wp2_with fail
  go_ret
  exact ⟨rfl, HP.out⟩

set_option maxHeartbeats 3200000 in
set_option maxRecDepth 100000 in
theorem rtell_lose (a : DAct) (h : RefAt w0 w b kv st (rowThing 3 1 kv K.length (intCells K) :: post)) (ha : IntsV w0 av a.keep) (hI : DInv st) (hQ : st.Q.length ≤ 300000) (hK : K.length ≤ 1000000) (hs : a.s.size ≤ 100000000) (hK2 : a.keep.length ≤ 1000000) (h7 : a.doo % 8 = 4) :
    Calls Try.prog 35 #[.pointer (some ⟨b, 0, none⟩), .agg #[.int .i64 a.doo, .int .i64 a.f, .int .i64 a.n, .string a.s, av]] w fun e w' => e = .returned (.int .i64 (doC st K a)) ∧ RefK w0 w' b (doS st K a) (doK K a) post := by
  have e1 : doC st K a = 0 := by simp [doC, h7]
  have e2 : doS st K a = { st with lost := max (a.n % 4) 0 } := by simp [doS, h7]
  have e3 : doK K a = K := by simp [doK, h7]
  rw [e1, e2, e3]
  clear e1 e2 e3
  have hand : bits .and .i64 a.doo 7 = 4 := by rw [and7, h7]
  have hand2 := and3 a.n
  have HV := Lib.hid (h.quiet (Turns.alloc [] w (.cells #[.int .i64 a.doo, .int .i64 a.f, .int .i64 a.n, .string a.s, av] 63)))
  have HA := Lib.hid ha
  have HX := Lib.hid (And.intro hI (And.intro hQ (And.intro hK (And.intro hs hK2))))
  obtain ⟨ka, kc, rfl, -⟩ := ha
  clear h h7 hI hQ hK hs hK2
  go_enter Try.func35, Try.ntmps35
  go_wp2_with fail
  obtain ⟨hI, hQ, hK, hs, hK2⟩ := HX.out
  refine (rlose_any (a.n % 4) HV.out).mono ?_
  rintro e w1 ⟨rfl, hP⟩
  have HP : Hid (RefK w0 w1 b { st with lost := max (a.n % 4) 0 } K post) := ⟨kv, hP⟩
  clear hP
  go_wp2_with fail
  go_ret
  exact ⟨rfl, HP.out⟩

set_option maxHeartbeats 3200000 in
set_option maxRecDepth 100000 in
theorem rtell_arm (a : DAct) (h : RefAt w0 w b kv st (rowThing 3 1 kv K.length (intCells K) :: post)) (ha : IntsV w0 av a.keep) (hI : DInv st) (hQ : st.Q.length ≤ 300000) (hK : K.length ≤ 1000000) (hs : a.s.size ≤ 100000000) (hK2 : a.keep.length ≤ 1000000) (h7 : a.doo % 8 = 5) :
    Calls Try.prog 35 #[.pointer (some ⟨b, 0, none⟩), .agg #[.int .i64 a.doo, .int .i64 a.f, .int .i64 a.n, .string a.s, av]] w fun e w' => e = .returned (.int .i64 (doC st K a)) ∧ RefK w0 w' b (doS st K a) (doK K a) post := by
  have e1 : doC st K a = 0 := by simp [doC, h7]
  have e2 : doS st K a = { st with armed := max a.n 0 } := by simp [doS, h7]
  have e3 : doK K a = a.keep := by simp [doK, h7]
  rw [e1, e2, e3]
  clear e1 e2 e3
  have hand : bits .and .i64 a.doo 7 = 5 := by rw [and7, h7]
  have HV := Lib.hid (h.quiet (Turns.alloc [] w (.cells #[.int .i64 a.doo, .int .i64 a.f, .int .i64 a.n, .string a.s, av] 63)))
  have HA := Lib.hid ha
  have HX := Lib.hid (And.intro hI (And.intro hQ (And.intro hK (And.intro hs hK2))))
  obtain ⟨ka, kc, rfl, -⟩ := ha
  clear h h7 hI hQ hK hs hK2
  go_enter Try.func35, Try.ntmps35
  go_wp2_with fail
  obtain ⟨hI, hQ, hK, hs, hK2⟩ := HX.out
  refine (rarm_any a.n _ HV.out HA.out hK2).mono ?_
  rintro e w1 ⟨rfl, hP⟩
  have HP : Hid (RefK w0 w1 b { st with armed := max a.n 0 } a.keep post) := hP
  clear hP
  go_wp2_with fail
  go_ret
  exact ⟨rfl, HP.out⟩

set_option maxHeartbeats 3200000 in
set_option maxRecDepth 100000 in
theorem rtell_crash (a : DAct) (h : RefAt w0 w b kv st (rowThing 3 1 kv K.length (intCells K) :: post)) (ha : IntsV w0 av a.keep) (hI : DInv st) (hQ : st.Q.length ≤ 300000) (hK : K.length ≤ 1000000) (hs : a.s.size ≤ 100000000) (hK2 : a.keep.length ≤ 1000000) (h7 : a.doo % 8 = 6) :
    Calls Try.prog 35 #[.pointer (some ⟨b, 0, none⟩), .agg #[.int .i64 a.doo, .int .i64 a.f, .int .i64 a.n, .string a.s, av]] w fun e w' => e = .returned (.int .i64 (doC st K a)) ∧ RefK w0 w' b (doS st K a) (doK K a) post := by
  have e1 : doC st K a = 0 := by simp [doC, h7]
  have e2 : doS st K a = (crashS st a.keep) := by simp [doS, h7]
  have e3 : doK K a = K := by simp [doK, h7]
  rw [e1, e2, e3]
  clear e1 e2 e3
  have hand : bits .and .i64 a.doo 7 = 6 := by rw [and7, h7]
  have HV := Lib.hid (h.quiet (Turns.alloc [] w (.cells #[.int .i64 a.doo, .int .i64 a.f, .int .i64 a.n, .string a.s, av] 63)))
  have HA := Lib.hid ha
  have HX := Lib.hid (And.intro hI (And.intro hQ (And.intro hK (And.intro hs hK2))))
  obtain ⟨ka, kc, rfl, -⟩ := ha
  clear h h7 hI hQ hK hs hK2
  go_enter Try.func35, Try.ntmps35
  go_wp2_with fail
  obtain ⟨hI, hQ, hK, hs, hK2⟩ := HX.out
  refine ((rcrash_any _ a.keep ⟨kv, HV.out⟩ hI (by omega) hK2 HA.out)).mono ?_
  rintro e w1 ⟨rfl, hP⟩
  have HP : Hid (RefK w0 w1 b (crashS st a.keep) K post) := hP
  clear hP
  go_wp2_with fail
  go_ret
  exact ⟨rfl, HP.out⟩

set_option maxHeartbeats 3200000 in
set_option maxRecDepth 100000 in
theorem rtell_start (a : DAct) (h : RefAt w0 w b kv st (rowThing 3 1 kv K.length (intCells K) :: post)) (ha : IntsV w0 av a.keep) (hI : DInv st) (hQ : st.Q.length ≤ 300000) (hK : K.length ≤ 1000000) (hs : a.s.size ≤ 100000000) (hK2 : a.keep.length ≤ 1000000) (h7 : a.doo % 8 = 7) :
    Calls Try.prog 35 #[.pointer (some ⟨b, 0, none⟩), .agg #[.int .i64 a.doo, .int .i64 a.f, .int .i64 a.n, .string a.s, av]] w fun e w' => e = .returned (.int .i64 (doC st K a)) ∧ RefK w0 w' b (doS st K a) (doK K a) post := by
  have e1 : doC st K a = 0 := by simp [doC, h7]
  have e2 : doS st K a = { st with down := false } := by simp [doS, h7]
  have e3 : doK K a = K := by simp [doK, h7]
  rw [e1, e2, e3]
  clear e1 e2 e3
  have hand : bits .and .i64 a.doo 7 = 7 := by rw [and7, h7]
  have HV := Lib.hid (h.quiet (Turns.alloc [] w (.cells #[.int .i64 a.doo, .int .i64 a.f, .int .i64 a.n, .string a.s, av] 63)))
  have HA := Lib.hid ha
  have HX := Lib.hid (And.intro hI (And.intro hQ (And.intro hK (And.intro hs hK2))))
  obtain ⟨ka, kc, rfl, -⟩ := ha
  clear h h7 hI hQ hK hs hK2
  go_enter Try.func35, Try.ntmps35
  go_wp2_with fail
  obtain ⟨hI, hQ, hK, hs, hK2⟩ := HX.out
  refine (rstart_any HV.out).mono ?_
  rintro e w1 ⟨rfl, hP⟩
  have HP : Hid (RefK w0 w1 b { st with down := false } K post) := ⟨kv, hP⟩
  clear hP
  go_wp2_with fail
  go_ret
  exact ⟨rfl, HP.out⟩

set_option maxHeartbeats 3200000 in
set_option maxRecDepth 100000 in
theorem rtell_write0 (a : DAct) (h : RefAt w0 w b kv st (rowThing 3 1 kv K.length (intCells K) :: post)) (ha : IntsV w0 av a.keep) (hI : DInv st) (hQ : st.Q.length ≤ 300000) (hK : K.length ≤ 1000000) (hs : a.s.size ≤ 100000000) (hK2 : a.keep.length ≤ 1000000) (h7 : a.doo % 8 = 0) :
    Calls Try.prog 35 #[.pointer (some ⟨b, 0, none⟩), .agg #[.int .i64 a.doo, .int .i64 a.f, .int .i64 a.n, .string a.s, av]] w fun e w' => e = .returned (.int .i64 (doC st K a)) ∧ RefK w0 w' b (doS st K a) (doK K a) post := by
  have e1 : doC st K a = writeCode st a.f a.n a.s := by simp [doC, h7]
  have e2 : doS st K a = (writeS st K a.f a.n a.s) := by simp [doS, h7]
  have e3 : doK K a = K := by simp [doK, h7]
  rw [e1, e2, e3]
  clear e1 e2 e3
  have hand : bits .and .i64 a.doo 7 = 0 := by rw [and7, h7]
  have HV := Lib.hid (h.quiet (Turns.alloc [] w (.cells #[.int .i64 a.doo, .int .i64 a.f, .int .i64 a.n, .string a.s, av] 63)))
  have HA := Lib.hid ha
  have HX := Lib.hid (And.intro hI (And.intro hQ (And.intro hK (And.intro hs hK2))))
  obtain ⟨ka, kc, rfl, -⟩ := ha
  clear h h7 hI hQ hK hs hK2
  go_enter Try.func35, Try.ntmps35
  go_wp2_with fail
  obtain ⟨hI, hQ, hK, hs, hK2⟩ := HX.out
  refine (rwrite_any a.f a.n a.s HV.out hI hQ hK hs).mono ?_
  rintro e w1 ⟨rfl, hP⟩
  have HP : Hid (RefK w0 w1 b (writeS st K a.f a.n a.s) K post) := ⟨kv, hP⟩
  clear hP
  go_wp2_with fail
  go_ret
  exact ⟨rfl, HP.out⟩

set_option maxHeartbeats 3200000 in
set_option maxRecDepth 100000 in
theorem rtell_write1 (a : DAct) (h : RefAt w0 w b kv st (rowThing 3 1 kv K.length (intCells K) :: post)) (ha : IntsV w0 av a.keep) (hI : DInv st) (hQ : st.Q.length ≤ 300000) (hK : K.length ≤ 1000000) (hs : a.s.size ≤ 100000000) (hK2 : a.keep.length ≤ 1000000) (h7 : a.doo % 8 = 1) :
    Calls Try.prog 35 #[.pointer (some ⟨b, 0, none⟩), .agg #[.int .i64 a.doo, .int .i64 a.f, .int .i64 a.n, .string a.s, av]] w fun e w' => e = .returned (.int .i64 (doC st K a)) ∧ RefK w0 w' b (doS st K a) (doK K a) post := by
  have e1 : doC st K a = writeCode st a.f a.n a.s := by simp [doC, h7]
  have e2 : doS st K a = (writeS st K a.f a.n a.s) := by simp [doS, h7]
  have e3 : doK K a = K := by simp [doK, h7]
  rw [e1, e2, e3]
  clear e1 e2 e3
  have hand : bits .and .i64 a.doo 7 = 1 := by rw [and7, h7]
  have HV := Lib.hid (h.quiet (Turns.alloc [] w (.cells #[.int .i64 a.doo, .int .i64 a.f, .int .i64 a.n, .string a.s, av] 63)))
  have HA := Lib.hid ha
  have HX := Lib.hid (And.intro hI (And.intro hQ (And.intro hK (And.intro hs hK2))))
  obtain ⟨ka, kc, rfl, -⟩ := ha
  clear h h7 hI hQ hK hs hK2
  go_enter Try.func35, Try.ntmps35
  go_wp2_with fail
  obtain ⟨hI, hQ, hK, hs, hK2⟩ := HX.out
  refine (rwrite_any a.f a.n a.s HV.out hI hQ hK hs).mono ?_
  rintro e w1 ⟨rfl, hP⟩
  have HP : Hid (RefK w0 w1 b (writeS st K a.f a.n a.s) K post) := ⟨kv, hP⟩
  clear hP
  go_wp2_with fail
  go_ret
  exact ⟨rfl, HP.out⟩

theorem rtell_any (a : DAct) (h : RefK w0 w b st K post) (ha : IntsV w0 av a.keep) (hI : DInv st) (hQ : st.Q.length ≤ 300000) (hK : K.length ≤ 1000000) (hs : a.s.size ≤ 100000000) (hK2 : a.keep.length ≤ 1000000) :
    Calls Try.prog 35 #[.pointer (some ⟨b, 0, none⟩), .agg #[.int .i64 a.doo, .int .i64 a.f, .int .i64 a.n, .string a.s, av]] w fun e w' => e = .returned (.int .i64 (doC st K a)) ∧ RefK w0 w' b (doS st K a) (doK K a) post := by
  obtain ⟨kv, h⟩ := h
  rcases (by omega : a.doo % 8 = 0 ∨ a.doo % 8 = 1 ∨ a.doo % 8 = 2 ∨ a.doo % 8 = 3 ∨ a.doo % 8 = 4 ∨ a.doo % 8 = 5 ∨ a.doo % 8 = 6 ∨ a.doo % 8 = 7) with e | e | e | e | e | e | e | e
  · exact rtell_write0 a h ha hI hQ hK hs hK2 e
  · exact rtell_write1 a h ha hI hQ hK hs hK2 e
  · exact rtell_sync a h ha hI hQ hK hs hK2 e
  · exact rtell_trunc a h ha hI hQ hK hs hK2 e
  · exact rtell_lose a h ha hI hQ hK hs hK2 e
  · exact rtell_arm a h ha hI hQ hK hs hK2 e
  · exact rtell_crash a h ha hI hQ hK hs hK2 e
  · exact rtell_start a h ha hI hQ hK hs hK2 e
end
end Go.Proofs.Ytmikjninonpejaa

/- Statements about the disk: DiskSynced, the walk. -/
namespace Go.Proofs.Ytmikjninonpejaa
open Go.RowKit Go.Proofs.YtmikjninonpejaaMem Go.Maps

theorem ActsAt.get {w0 w : World} {a : Option Addr} {l : List DAct} (h : ActsAt w0 a l) (ht : Turns [] w0 w) {i : Nat} (hi : i < l.length) :
    ∃ b off kv, a = some ⟨b, off, none⟩ ∧ w.cell? ⟨b, off + i * 5, none⟩ = some (.int .i64 l[i].doo) ∧ w.cell? ⟨b, off + i * 5 + 1, none⟩ = some (.int .i64 l[i].f) ∧
    w.cell? ⟨b, off + i * 5 + 2, none⟩ = some (.int .i64 l[i].n) ∧ w.cell? ⟨b, off + i * 5 + 3, none⟩ = some (.string l[i].s) ∧ w.cell? ⟨b, off + i * 5 + 4, none⟩ = some kv ∧ IntsV w0 kv l[i].keep ∧ l[i].wf := by
  obtain ⟨hw, b, off, kv, rfl, h0, h1, h2, h3, h4, hk⟩ := h i hi
  exact ⟨b, off, kv, rfl, (ht.cell (World.block_lt_of_cell? _ _ h0) (by simp)).trans h0, (ht.cell (World.block_lt_of_cell? _ _ h1) (by simp)).trans h1, (ht.cell (World.block_lt_of_cell? _ _ h2) (by simp)).trans h2,
    (ht.cell (World.block_lt_of_cell? _ _ h3) (by simp)).trans h3, (ht.cell (World.block_lt_of_cell? _ _ h4) (by simp)).trans h4, hk, hw⟩
theorem Sep.mach_more {w0 w : World} {b B C : Nat} {st st' : DS} {K K' : List Int} (pre post : List Thing) (h : Sep w0 w (pre ++ machThing b B st K :: post)) (hm : B ≤ C) (e1 : st' = st) (e2 : K' = K) : Sep w0 w (pre ++ machThing b C st' K' :: post) := by
  subst e1 e2
  obtain ⟨FP, hM, _, step⟩ := h.pick pre _ post
  refine step w FP (machThing b C _ _) (Evolves.of_same (Turns.refl _ _)) ?_
  obtain ⟨kv, FP0, q1, q2, q3, q4⟩ := hM
  exact ⟨kv, FP0, q1.more hm, q2, q3, q4⟩

set_option maxHeartbeats 6400000 in
set_option maxRecDepth 100000 in
theorem synced_few (a1 a2 : Option Addr) (c1 c2 : Nat) (l m : List DAct) (f : Int) (kv : Value) (C : List Int) (w : World) (h1 : ActsAt w a1 l) (h2 : ActsAt w a2 m) (hk : IntsV w kv C)
    (hl1 : l.length ≤ maxLen) (hl2 : m.length ≤ maxLen) (hno : ¬ (fewD l = true ∧ fewD m = true ∧ C.length ≤ 60)) :
    Calls Try.prog 9 #[.slice a1 l.length c1, .int .i64 f, .slice a2 m.length c2, kv] w fun e w' => e = .returned (.bool true) ∧ Turns [] w w' := by
  have H1 := Lib.hid h1; clear h1
  have H2 := Lib.hid h2; clear h2
  obtain ⟨ka, kc, rfl, -⟩ := hk
  cases hfl : fewD l
  · have HL := Lib.hid hfl; clear hfl hno
    go_enter Try.func9, Try.ntmps9
    go_wp2_with fail
    refine (small_disk _).mono ?_
    rintro e w1 ⟨rfl, ht1⟩
    have HT := Lib.hid ht1; clear ht1
    go_wp2_with fail
    refine (few_acts a1 c1 l _ (H1.out.kept HT.out) hl1).mono ?_
    rintro e w2 ⟨rfl, rfl⟩
    rw [HL.out]
    go_wp2_with fail
    go_ret
    exact ⟨rfl, HT.out⟩
  · cases hfm : fewD m
    · have HL := Lib.hid hfl
      have HM := Lib.hid hfm
      clear hfl hfm hno
      go_enter Try.func9, Try.ntmps9
      go_wp2_with fail
      refine (small_disk _).mono ?_
      rintro e w1 ⟨rfl, ht1⟩
      have HT := Lib.hid ht1; clear ht1
      go_wp2_with fail
      refine (few_acts a1 c1 l _ (H1.out.kept HT.out) hl1).mono ?_
      rintro e w2 ⟨rfl, rfl⟩
      rw [HL.out]
      go_wp2_with fail
      refine (few_acts a2 c2 m _ (H2.out.kept HT.out) hl2).mono ?_
      rintro e w2 ⟨rfl, rfl⟩
      rw [HM.out]
      go_wp2_with fail
      go_ret
      exact ⟨rfl, HT.out⟩
    · have hC : decide ((60 : Int) < (C.length : Int)) = true := decide_eq_true (by
        have : ¬ C.length ≤ 60 := fun h => hno ⟨hfl, hfm, h⟩
        omega)
      have HL := Lib.hid hfl
      have HM := Lib.hid hfm
      clear hfl hfm hno
      go_enter Try.func9, Try.ntmps9
      go_wp2_with fail
      refine (small_disk _).mono ?_
      rintro e w1 ⟨rfl, ht1⟩
      have HT := Lib.hid ht1; clear ht1
      go_wp2_with fail
      refine (few_acts a1 c1 l _ (H1.out.kept HT.out) hl1).mono ?_
      rintro e w2 ⟨rfl, rfl⟩
      rw [HL.out]
      go_wp2_with fail
      refine (few_acts a2 c2 m _ (H2.out.kept HT.out) hl2).mono ?_
      rintro e w2 ⟨rfl, rfl⟩
      rw [HM.out]
      go_wp2_with fail
      go_ret
      exact ⟨rfl, HT.out⟩

set_option maxHeartbeats 6400000 in
set_option maxRecDepth 100000 in
theorem synced_run (a1 a2 : Option Addr) (c1 c2 : Nat) (l m : List DAct) (f : Int) (kv : Value) (C : List Int) (w : World) (h1 : ActsAt w a1 l) (h2 : ActsAt w a2 m) (hk : IntsV w kv C) (hf : (Lit.int .i64 f).wf = true)
    (hfl : fewD l = true) (hfm : fewD m = true) (hC : C.length ≤ 60) :
    Calls Try.prog 9 #[.slice a1 l.length c1, .int .i64 f, .slice a2 m.length c2, kv] w fun e w' => e = .returned (.bool true) ∧ Turns [] w w' := by
  have H1 := Lib.hid h1; clear h1
  have H2 := Lib.hid h2; clear h2
  have HKV := Lib.hid hk
  obtain ⟨ka, kc, rfl, -⟩ := hk
  have HL := Lib.hid hfl; clear hfl
  have HM := Lib.hid hfm; clear hfm
  have hll := fewD_len HL.out
  have hml := fewD_len HM.out
  have hd60 : decide ((60 : Int) < (C.length : Int)) = false := decide_eq_false (by omega)
  have hkk := playTo_keep HL.out DS.new [] (by simp) l.length (Nat.le_refl _)
  go_enter Try.func9, Try.ntmps9
  go_wp2_with fail
  refine (small_disk _).mono ?_
  rintro e w1 ⟨rfl, ht1⟩
  have HT := Lib.hid ht1; clear ht1
  go_wp2_with fail
  refine (few_acts a1 c1 l _ (H1.out.kept HT.out) (by unfold maxLen; omega)).mono ?_
  rintro e w2 ⟨rfl, rfl⟩
  rw [HL.out]
  go_wp2_with fail
  refine (few_acts a2 c2 m _ (H2.out.kept HT.out) (by unfold maxLen; omega)).mono ?_
  rintro e w2 ⟨rfl, rfl⟩
  rw [HM.out]
  go_wp2_with fail
  refine (played_any [] a1 c1 l _ ((Sep.start w).quiet HT.out) H1.out HL.out).mono ?_
  rintro e w2 ⟨b, rfl, hs2⟩
  generalize (playTo DS.new [] l l.length).1 = st at hs2
  generalize (playTo DS.new [] l l.length).2 = K at hs2 hkk
  have HS2 := Lib.hid (Sep.mach_more (C := 12400) [] [] hs2 (by omega) rfl rfl); clear hs2
  go_wp2_with fail
  refine (dread_sep [] [] f 0 16777216 HS2.out hf).mono ?_
  rintro e w3 ⟨rfl, rfl⟩
  go_wp2_with fail
  refine (dsync_sep [] [] f HS2.out hf (by omega) (by omega)).mono ?_
  rintro e w3 ⟨rfl, hs3⟩
  have HS3 := Lib.hid hs3; clear hs3
  by_cases hz : syncCode st K f = 0
  · obtain ⟨q1, q2, q3⟩ := sync_ok hz
    obtain ⟨r1, r2⟩ := read_whole q1
    obtain ⟨r3, r4⟩ := read_whole q2
    rw [q3.1] at r4
    dsimp only at r4
    rw [hz, r2]
    have HQ := Lib.hid (And.intro q2 (And.intro q3 (And.intro r3 r4)))
    clear q1 q2 q3 r1 r2 r3 r4 hz
    generalize syncS st K f = st1 at HS3 HQ
    generalize (st.F f).now = n at HQ ⊢
    clear HS2
    go_wp2_with fail
    refine (dread_sep [] [] f 0 16777216 HS3.out hf).mono ?_
    rintro e w4 ⟨rfl, rfl⟩
    rw [HQ.out.2.2.1, HQ.out.2.2.2]
    go_wp2_with fail
    go_loopw [15] (fun i wr => ∃ k : Nat, k ≤ m.length ∧ i = .int .i64 k ∧ Hid (∃ st', Quiet st' f n ∧ Sep w wr [machThing b (12401 + k * 310) st' K])) (fun i _ => m.length - (intOf i).toNat)
    case atStart => exact ⟨0, Nat.zero_le _, rfl, st1, HQ.out.2.1, HS3.out⟩
    case round =>
      obtain ⟨k, hk, rfl, HR⟩ := hrel
      obtain ⟨st', hq, hs⟩ := HR.out
      have HQ' := Lib.hid hq
      have HS := Lib.hid hs
      clear hq hs
      by_cases hlt : k < m.length
      · obtain ⟨bb, off, kv', rfl, c0, c1', c2', c3, c4, hkv, hwf⟩ := H2.out.get HS.out.turns hlt
        obtain ⟨ka', kc', rfl, -⟩ := id hkv
        obtain ⟨x, hx⟩ : ∃ x, x = m[k] := ⟨_, rfl⟩
        have hsz := fewD_act HM.out hlt
        rw [← hx] at c0 c1' c2' c3 c4 hkv hwf hsz
        have HX := Lib.hid (And.intro hx (And.intro hkv hwf)); clear hx hkv hwf
        have hltI : (k : Int) < (m.length : Int) := by omega
        have hand := and7 x.doo
        have hskip : Hid (∃ st', Quiet st' f n ∧ Sep w wr [machThing b (12401 + (k + 1) * 310) st' K]) := ⟨st', HQ'.out, Sep.mach_more [] [] HS.out (by omega) rfl rfl⟩
        by_cases c4' : x.doo % 8 = 4
        · have t1 : decide (x.doo % 8 < 4) = false := decide_eq_false (by omega)
          have t2 : (x.doo % 8 == 4) = true := by simp [c4']
          have HG := Lib.hid (show x.doo % 8 < 4 ∧ x.f ≠ f ∨ x.doo % 8 = 4 from Or.inr c4')
          have HG5 : Hid (doK K x = K) := by show doK K x = K; rw [doK, if_neg (by omega)]
          clear c4' hskip
          go_wp2_with fail
          refine (do_sep [] [] x _ HS.out HX.out.2.1 HX.out.2.2 (by omega) (by omega) (by omega)).mono ?_
          rintro e w5 ⟨rfl, hs5⟩
          have HS5 : Hid (∃ st', Quiet st' f n ∧ Sep w w5 [machThing b (12401 + (k + 1) * 310) st' K]) := ⟨_, HQ'.out.do K x HG.out, Sep.mach_more [] [] hs5 (by omega) rfl HG5.out.symm⟩
          clear hs5
          go_wp2_with fail
          go_roundw
          case rel => exact ⟨k + 1, by omega, by go_num, HS5.out⟩
          case measure => simp [intOf]; omega
        · have t2 : (x.doo % 8 == 4) = false := by simpa using c4'
          by_cases cl : x.doo % 8 < 4
          · have t1 : decide (x.doo % 8 < 4) = true := decide_eq_true cl
            by_cases cf : x.f = f
            · have t3 : (x.f == f) = true := by simp [cf]
              have t4 : (x.f != f) = false := by simp [cf]
              clear cf cl c4'
              go_wp2_with fail
              go_roundw
              case rel => exact ⟨k + 1, by omega, by go_num, hskip.out⟩
              case measure => simp [intOf]; omega
            · have t3 : (x.f == f) = false := by simpa using cf
              have t4 : (x.f != f) = true := by simpa using cf
              have HG := Lib.hid (show x.doo % 8 < 4 ∧ x.f ≠ f ∨ x.doo % 8 = 4 from Or.inl ⟨cl, cf⟩)
              have HG5 : Hid (doK K x = K) := by show doK K x = K; rw [doK, if_neg (by omega)]
              clear c4' hskip cf cl
              go_wp2_with fail
              refine (do_sep [] [] x _ HS.out HX.out.2.1 HX.out.2.2 (by omega) (by omega) (by omega)).mono ?_
              rintro e w5 ⟨rfl, hs5⟩
              have HS5 : Hid (∃ st', Quiet st' f n ∧ Sep w w5 [machThing b (12401 + (k + 1) * 310) st' K]) := ⟨_, HQ'.out.do K x HG.out, Sep.mach_more [] [] hs5 (by omega) rfl HG5.out.symm⟩
              clear hs5
              go_wp2_with fail
              go_roundw
              case rel => exact ⟨k + 1, by omega, by go_num, HS5.out⟩
              case measure => simp [intOf]; omega
          · have t1 : decide (x.doo % 8 < 4) = false := decide_eq_false cl
            clear cl c4'
            go_wp2_with fail
            go_roundw
            case rel => exact ⟨k + 1, by omega, by go_num, hskip.out⟩
            case measure => simp [intOf]; omega
      · have hltI : decide ((k : Int) < (m.length : Int)) = false := decide_eq_false (by omega)
        go_wp2_with fail
        refine (dcrash_sep [] [] _ C HS.out HKV.out (by omega) (by omega)).mono ?_
        rintro e w5 ⟨rfl, hs5⟩
        have HS5 := Lib.hid hs5; clear hs5
        go_wp2_with fail
        refine (dstart_sep [] [] HS5.out).mono ?_
        rintro e w6 ⟨rfl, hs6⟩
        have HS6 := Lib.hid hs6; clear hs6
        go_wp2_with fail
        refine (dread_sep [] [] f 0 16777216 HS6.out hf).mono ?_
        rintro e w7 ⟨rfl, rfl⟩
        obtain ⟨_, f0, f1⟩ := may_zero HQ.out.1
        obtain ⟨r1, r2⟩ := read_whole (st := { crashS st' C with down := false }) (f := f) (may_of rfl f0 f1)
        have e1 : ({ crashS st' C with down := false } : DS).F f = ⟨n, n⟩ := (HQ'.out.crash C).1
        rw [e1] at r2
        dsimp only at r2
        rw [r1, r2]
        clear r1 r2 e1
        go_wp2_with fail
        go_ret
        exact ⟨rfl, HS6.out.turns⟩
  · have hz1 : (syncCode st K f == 0) = false := by simpa using hz
    have hz2 : (syncCode st K f != 0) = true := by simpa using hz
    clear hz
    go_wp2_with fail
    go_ret
    exact ⟨rfl, HS3.out.turns⟩

theorem synced_walk (a1 : Option Addr) (c1 : Nat) (l : List DAct) (f : Int) (a2 : Option Addr) (c2 : Nat) (m : List DAct) (ka : Option Addr) (kc : Nat) (C : List Int) (w : World) (h1 : ActsAt w a1 l) (hl1 : l.length ≤ maxLen) (hf : (Lit.int .i64 f).wf = true)
    (h2 : ActsAt w a2 m) (hl2 : m.length ≤ maxLen) (hk : IntsAt w ka C) :
    Calls Try.prog 9 #[.slice a1 l.length c1, .int .i64 f, .slice a2 m.length c2, .slice ka C.length kc] w fun e w' => e = .returned (.bool true) ∧ Below w.heap.size w w' := by
  have hkv : IntsV w (.slice ka C.length kc) C := ⟨ka, kc, rfl, hk⟩
  by_cases h : fewD l = true ∧ fewD m = true ∧ C.length ≤ 60
  · exact (synced_run a1 a2 c1 c2 l m f _ C w h1 h2 hkv hf h.1 h.2.1 h.2.2).mono fun e w' ⟨e1, e2⟩ => ⟨e1, e2.below (Nat.le_refl _) (by simp)⟩
  · exact (synced_few a1 a2 c1 c2 l m f _ C w h1 h2 hkv hl1 hl2 h).mono fun e w' ⟨e1, e2⟩ => ⟨e1, e2.below (Nat.le_refl _) (by simp)⟩

theorem synced_row (a1 : Option Addr) (c1 : Nat) (l : List DAct) (f : Int) (a2 : Option Addr) (c2 : Nat) (m : List DAct) (ka : Option Addr) (kc : Nat) (C : List Int) (w : World) (h1 : ActsIn w a1 l) (hf : (Lit.int .i64 f).wf = true)
    (h2 : ActsIn w a2 m) (hk : IntsIn w ka C) :
    Calls Try.prog 9 #[.slice a1 l.length c1, .int .i64 f, .slice a2 m.length c2, .slice ka C.length kc] w fun e w' => e = .returned (.bool true) ∧ Below w.heap.size w w' :=
  synced_walk a1 c1 l f a2 c2 m ka kc C w h1.2 h1.1 hf h2.2 h2.1 hk.2

end Go.Proofs.Ytmikjninonpejaa

/- Statements about the disk: the reference beside the disk; a copy that takes the disk's place. -/
namespace Go.Proofs.Ytmikjninonpejaa
open Go.RowKit Go.Proofs.YtmikjninonpejaaMem Go.Maps

/-- The reference's things stand ahead of the others. -/
theorem RefK.split {w0 w : World} {b : Nat} {st : DS} {K : List Int} {post : List Thing} (h : RefK w0 w b st K post) :
    ∃ pre, Sep w0 w (pre ++ post) ∧ ∀ w' post', Sep w0 w' (pre ++ post') → RefK w0 w' b st K post' := by
  obtain ⟨kv, fv, qv, L, hR, hs⟩ := h
  exact ⟨[_, _, _, _], hs, fun w' post' h' => ⟨kv, fv, qv, L, hR, h'⟩⟩
theorem RefK.turns {w0 w : World} {b : Nat} {st : DS} {K : List Int} {post : List Thing} (h : RefK w0 w b st K post) : Turns [] w0 w := by
  obtain ⟨pre, hs, _⟩ := h.split
  exact hs.turns
theorem RefK.quiet {w0 w w' : World} {b : Nat} {st : DS} {K : List Int} {post : List Thing} (h : RefK w0 w b st K post) (ht : Turns [] w w') : RefK w0 w' b st K post := by
  obtain ⟨kv, h⟩ := h
  exact ⟨kv, h.quiet ht⟩
theorem rnew_k {w0 w : World} {ts : List Thing} (h : Sep w0 w ts) :
    Calls Try.prog 33 #[] w fun e w' => ∃ b, e = .returned (.pointer (some ⟨b, 0, none⟩)) ∧ RefK w0 w' b DS.new [] ts := by
  refine (rnew_any h).mono fun e w' ⟨b, h1, fv, qv, L, hR, hs⟩ => ⟨b, h1, .slice none 0 0, fv, qv, L, hR, ?_⟩
  exact Sep.fromFront [_, _, _] _ (Sep.row_start hs 3 1)

section
variable {w0 w : World} {r b B : Nat} {sr st : DS} {Kr K : List Int}
theorem rk_do (a : DAct) (av : Value) (h : RefK w0 w r sr Kr [machThing b B st K]) (ha : IntsV w0 av a.keep) (hw : a.wf) (hB : B + a.s.size ≤ 700000) (hK : K.length ≤ 1000000) (hK2 : a.keep.length ≤ 1000000) :
    Calls Try.prog 34 #[.pointer (some ⟨b, 0, none⟩), .agg #[.int .i64 a.doo, .int .i64 a.f, .int .i64 a.n, .string a.s, av]] w fun e w' => e = .returned (.int .i64 (doC st K a)) ∧ RefK w0 w' r sr Kr [machThing b (B + 8 + a.s.size) (doS st K a) (doK K a)] := by
  obtain ⟨pre, hs, hback⟩ := h.split
  exact (do_sep pre [] a av hs ha hw hB hK hK2).mono fun e w' ⟨h1, h2⟩ => ⟨h1, hback w' _ h2⟩
theorem rk_read (f a z : Int) (h : RefK w0 w r sr Kr [machThing b B st K]) (hf : (Lit.int .i64 f).wf = true) :
    Calls Try.prog 42 #[.pointer (some ⟨b, 0, none⟩), .int .i64 f, .int .i64 a, .int .i64 z] w fun e w' => e = .returned (.tuple #[.string (readStr st f a z), .int .i64 (readCode st f a z)]) ∧ w = w' := by
  obtain ⟨pre, hs, hback⟩ := h.split
  exact dread_sep pre [] f a z hs hf
theorem rk_size (f : Int) (h : RefK w0 w r sr Kr [machThing b B st K]) (hf : (Lit.int .i64 f).wf = true) :
    Calls Try.prog 38 #[.pointer (some ⟨b, 0, none⟩), .int .i64 f] w fun e w' => e = .returned (.int .i64 (st.F f).now.size) ∧ w = w' := by
  obtain ⟨pre, hs, hback⟩ := h.split
  exact dsize_sep pre [] f hs hf
theorem rk_down (h : RefK w0 w r sr Kr [machThing b B st K]) :
    Calls Try.prog 36 #[.pointer (some ⟨b, 0, none⟩)] w fun e w' => e = .returned (.bool st.down) ∧ w = w' := by
  obtain ⟨pre, hs, hback⟩ := h.split
  exact ddown_sep pre [] hs
theorem rk_inv (h : RefK w0 w r sr Kr [machThing b B st K]) : DInv st ∧ st.Q.length ≤ B := by
  obtain ⟨pre, hs, hback⟩ := h.split
  obtain ⟨kv, FP0, ⟨hI, N, hN, _⟩, _⟩ := Sep.mach pre [] hs
  exact ⟨hI, by omega⟩
theorem rk_more {C : Nat} (h : RefK w0 w r sr Kr [machThing b B st K]) (hm : B ≤ C) : RefK w0 w r sr Kr [machThing b C st K] := by
  obtain ⟨pre, hs, hback⟩ := h.split
  exact hback _ _ (Sep.mach_more pre [] hs hm rfl rfl)
/-- Copy; behind whatever is then done to the disk, the copy stands in its place. -/
theorem rk_copy (h : RefK w0 w r sr Kr [machThing b B st K]) (hB : B ≤ 900000) :
    Calls Try.prog 40 #[.pointer (some ⟨b, 0, none⟩)] w fun e w' => ∃ c kv FP0, e = .returned (.pointer (some ⟨c, 0, none⟩)) ∧ DiskI w' b FP0 B st kv ∧ KeepV w' kv K FP0 ∧ (∀ x ∈ FP0, w0.heap.size ≤ x) ∧ Turns [] w w' ∧
      ∀ FP2 w2, Evolves FP0 FP2 w' w2 → RefK w0 w2 r sr Kr [machThing c B st K] := by
  obtain ⟨pre, hs, hback⟩ := h.split
  obtain ⟨FP, hM, hge, step⟩ := hs.pick pre _ []
  obtain ⟨kv, FP0, hD, ho, hd, rfl⟩ := hM
  refine (copy_raw hD (own_keep ho hd) hB).mono fun e w' ⟨c, FP', h1, h2, h3, h4⟩ => ⟨c, kv, FP0, h1, hD.kept h3 (by simp), (own_keep ho hd).kept h3, fun x hx => hge x (by simp [hx]), h3, fun FP2 w2 hev => hback _ _ ?_⟩
  have hlt := hD.lt
  have t02 : Turns FP0 w w2 := (h3.mono (by simp)).trans hev.1
  refine step w2 (FP' ++ kv.ownBlock.toList) (machThing c B st K) ⟨t02.mono (by intro x hx; simp [hx]), fun x hx => ?_⟩ ⟨kv, FP', h2.kept hev.1 (fun x hx hx' => by have := h4 x hx; have := hlt x hx'; omega), own_kept ho t02 hd, fun x hx hx' => ?_, rfl⟩
  · rcases List.mem_append.1 hx with hx | hx
    · exact Or.inr (h4 x hx)
    · exact Or.inl (List.mem_append.2 (Or.inr hx))
  · have := own_lt ho x hx
    have := h4 x hx'
    omega
end
end Go.Proofs.Ytmikjninonpejaa
