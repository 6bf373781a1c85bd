/- Contracts and lemmas (texts PureB, DiskW1, Ord, joined by a program). -/
import Derived.Test.YtmikjninonpejaaMb6
import Derived.Deep.RegionHeld3
import Derived.StillTail
import Derived.Lib.Hide
/- Plain: the disk's states: what is always so, and what a crash leaves. No program in sight. -/
namespace Go.Proofs.Ytmikjninonpejaa

/-- Whether sector n of file f survives among the first k pending ones. -/
def sv (K : List Int) (Q : List (Int × Int)) (f : Int) (n : Nat) : Nat → Bool
  | 0 => false
  | k + 1 => sv K Q f n k || (surv K k && Q[k]?.getD (0, 0) == (f, (n : Int)))

theorem sv_mem {K : List Int} {Q : List (Int × Int)} {f : Int} {n : Nat} : ∀ {k : Nat}, k ≤ Q.length → sv K Q f n k = true → (f, (n : Int)) ∈ Q
  | 0, _, h => by simp [sv] at h
  | k + 1, hk, h => by
    simp only [sv, Bool.or_eq_true, Bool.and_eq_true] at h
    rcases h with h | ⟨_, h⟩
    · exact sv_mem (by omega) h
    · rw [List.getElem?_eq_getElem (by omega)] at h
      simp only [Option.getD_some, beq_iff_eq] at h
      rw [← h]
      exact List.getElem_mem _
theorem sv_all {Q : List (Int × Int)} {K : List Int} (hK : ∀ i, surv K i = true) {f : Int} {n : Nat} : ∀ {k : Nat}, k ≤ Q.length → ∀ j, j < k → Q[j]? = some (f, (n : Int)) → sv K Q f n k = true
  | 0, _, j, hj, _ => by omega
  | k + 1, hk, j, hj, h => by
    simp only [sv, Bool.or_eq_true, Bool.and_eq_true]
    by_cases e : j = k
    · subst e
      exact Or.inr ⟨hK _, by rw [h]; simp⟩
    · exact Or.inl (sv_all hK (by omega) j (by omega) h)
theorem surv_one (i : Nat) : surv [1] i = true := by simp [surv, Nat.mod_one]
theorem surv_nil (i : Nat) : surv [] i = false := by simp [surv]

/-- What is so of a file behind the first k pending sectors. -/
structure Left (x R : File) (s : Nat → Bool) : Prop where
  now : R.now = x.now
  lo : x.last.size ≤ R.last.size
  hi : R.last.size ≤ max x.last.size x.now.size
  at' : ∀ i, byteA R.last i = if s (i / 64) = true ∧ i < x.now.size then byteA x.now i else byteA x.last i
  end' : ∀ n, s n = true → n * 64 < x.now.size → min (n * 64 + 64) x.now.size ≤ R.last.size

theorem left_to (K : List Int) (Q : List (Int × Int)) (F : Int → File) (f : Int) (hQ : ∀ p ∈ Q, 0 ≤ p.2) : ∀ k, k ≤ Q.length → Left (F f) (crashTo K Q F k f) (fun n => sv K Q f n k)
  | 0, _ => ⟨rfl, Nat.le_refl _, Nat.le_max_left _ _, fun i => by simp [sv, crashTo], fun n h => by simp [sv] at h⟩
  | k + 1, hk => by
    have ih := left_to K Q F f hQ k (by omega)
    have hp2 := hQ Q[k] (List.getElem_mem _)
    simp only [crashTo, sv, List.getElem?_eq_getElem (show k < Q.length by omega), Option.getD_some]
    generalize hGe : crashTo K Q F k = G at ih ⊢
    clear hGe
    obtain ⟨p, hp⟩ : ∃ p, p = Q[k] := ⟨_, rfl⟩
    rw [← hp] at hp2 ⊢
    obtain ⟨pf, pn⟩ := p
    simp only at hp2
    obtain ⟨n0, rfl⟩ := Int.eq_ofNat_of_zero_le hp2
    clear hp hp2
    unfold crashStep
    simp only
    by_cases hf : pf = f
    · subst hf
      by_cases hs : surv K k = true
      · by_cases ha : (n0 : Int) * 64 < ((G pf).now.size : Int)
        · rw [if_pos ⟨hs, ha⟩, updF_same]
          have e64 : ((n0 : Int) * 64).toNat = n0 * 64 := by omega
          rw [e64]
          have hts : ((G pf).now.extract (n0 * 64) (min (n0 * 64 + 64) (G pf).now.size)).size = min (n0 * 64 + 64) (G pf).now.size - n0 * 64 := by
            rw [extract_size]; omega
          have hnow := ih.now
          have hsz : (putB (G pf).last (n0 * 64) ((G pf).now.extract (n0 * 64) (min (n0 * 64 + 64) (G pf).now.size))).size = max (G pf).last.size (min (n0 * 64 + 64) (G pf).now.size) := by
            rw [putB_size, hts, if_neg (by omega)]; omega
          have hlo := ih.lo
          have hhi := ih.hi
          rw [hnow] at ha hsz hts
          refine ⟨hnow, ?_, ?_, fun i => ?_, fun n hn hlt => ?_⟩
          · show _ ≤ (putB _ _ _).size
            rw [hnow, hsz]; omega
          · show (putB _ _ _).size ≤ _
            rw [hnow, hsz]; omega
          · show byteA (putB _ _ _) i = _
            rw [hnow, putB_at, hts]
            by_cases h1 : n0 * 64 ≤ i ∧ i < n0 * 64 + (min (n0 * 64 + 64) (F pf).now.size - n0 * 64)
            · rw [if_pos h1, extract_at, if_pos (by omega)]
              have e1 : i / 64 = n0 := by omega
              rw [if_pos ⟨by simp [hs, e1], by omega⟩]
              congr 1
              omega
            · rw [if_neg h1, ih.at' i]
              by_cases h2 : i < (F pf).now.size
              · have e1 : ¬ i / 64 = n0 := by omega
                have e2 : ((pf, (n0 : Int)) == (pf, ((i / 64 : Nat) : Int))) = false := by
                  simp; omega
                simp only [e2, Bool.and_false, Bool.or_false]
              · rw [if_neg (by omega), if_neg (by omega)]
          · show _ ≤ (putB _ _ _).size
            rw [hnow, hsz]
            simp only [Bool.or_eq_true, Bool.and_eq_true] at hn
            rcases hn with hn | ⟨_, hn⟩
            · have := ih.end' n hn hlt; omega
            · have : n0 = n := by
                have h5 : (n0 : Int) = n := by simpa using hn
                omega
              subst this; omega
        · rw [if_neg (by simp [ha])]
          have hnow := ih.now
          rw [hnow] at ha
          refine ⟨hnow, ih.lo, ih.hi, fun i => ?_, fun n hn hlt => ?_⟩
          · rw [ih.at' i]
            by_cases h2 : i < (F pf).now.size
            · have e2 : ((pf, (n0 : Int)) == (pf, ((i / 64 : Nat) : Int))) = false := by
                simp; omega
              simp only [e2, Bool.and_false, Bool.or_false]
            · rw [if_neg (by omega), if_neg (by omega)]
          · simp only [Bool.or_eq_true, Bool.and_eq_true] at hn
            rcases hn with hn | ⟨_, hn⟩
            · exact ih.end' n hn hlt
            · have : n0 = n := by
                have h5 : (n0 : Int) = n := by simpa using hn
                omega
              subst this; omega
      · have hs' : surv K k = false := by simpa using hs
        rw [if_neg (by simp [hs])]
        simp only [hs', Bool.false_and, Bool.or_false]
        exact ih
    · have e2 : ∀ n : Nat, ((pf, (n0 : Int)) == (f, (n : Int))) = false := by
        intro n; simp; intro e; exact absurd e hf
      simp only [e2, Bool.and_false, Bool.or_false]
      split
      · rw [updF_other _ (fun e => hf e.symm)]; exact ih
      · exact ih

theorem crashTo_other {K : List Int} {Q : List (Int × Int)} {F : Int → File} {f : Int} (h : ∀ p ∈ Q, p.1 ≠ f) : ∀ k, k ≤ Q.length → crashTo K Q F k f = F f
  | 0, _ => rfl
  | k + 1, hk => by
    have hp := h Q[k] (List.getElem_mem _)
    simp only [crashTo, List.getElem?_eq_getElem (show k < Q.length by omega), Option.getD_some, crashStep]
    split
    · rw [updF_other _ (fun e => hp e.symm)]; exact crashTo_other h k (by omega)
    · exact crashTo_other h k (by omega)
theorem crashTo_nil (Q : List (Int × Int)) (F : Int → File) : ∀ k, crashTo [] Q F k = F
  | 0 => rfl
  | k + 1 => by rw [crashTo, crashTo_nil Q F k, crashStep, if_neg (by simp [surv_nil])]

theorem mem_addSec {Q : List (Int × Int)} {f n : Int} {p : Int × Int} : p ∈ addSec Q f n ↔ p ∈ Q ∨ p = (f, n) := by
  unfold addSec
  split
  · rename_i h
    exact ⟨Or.inl, fun h' => h'.elim id (fun e => e ▸ h)⟩
  · simp
theorem mem_addSecs {Q : List (Int × Int)} {f lo : Int} {p : Int × Int} : ∀ {k : Nat}, p ∈ addSecs Q f lo k ↔ p ∈ Q ∨ ∃ j : Nat, j < k ∧ p = (f, lo + j)
  | 0 => by simp [addSecs]
  | k + 1 => by
    rw [addSecs, mem_addSec, mem_addSecs]
    constructor
    · rintro ((h | ⟨j, hj, e⟩) | e)
      · exact Or.inl h
      · exact Or.inr ⟨j, by omega, e⟩
      · exact Or.inr ⟨k, by omega, e⟩
    · rintro (h | ⟨j, hj, e⟩)
      · exact Or.inl (Or.inl h)
      · by_cases hjk : j = k
        · subst hjk; exact Or.inr e
        · exact Or.inl (Or.inr ⟨j, by omega, e⟩)
theorem addSec_length (Q : List (Int × Int)) (f n : Int) : (addSec Q f n).length ≤ Q.length + 1 := by
  unfold addSec; split <;> simp
theorem addSecs_length (Q : List (Int × Int)) (f lo : Int) : ∀ k, (addSecs Q f lo k).length ≤ Q.length + k
  | 0 => by simp [addSecs]
  | k + 1 => by have := addSec_length (addSecs Q f lo k) f (lo + k); have := addSecs_length Q f lo k; simp only [addSecs]; omega

/-- What is always so of a disk's state. -/
structure DInv (st : DS) : Prop where
  size : ∀ f, (st.F f).last.size ≤ (st.F f).now.size ∧ (st.F f).now.size ≤ 16777216
  secs : ∀ p ∈ st.Q, 0 ≤ p.1 ∧ p.1 < 16 ∧ 0 ≤ p.2 ∧ p.2 < 262144
  cont : ∀ (f : Int) (i : Nat), i < (st.F f).now.size → (f, ((i / 64 : Nat) : Int)) ∈ st.Q ∨ byteA (st.F f).last i = byteA (st.F f).now i
  tail : ∀ f, (st.F f).last.size < (st.F f).now.size → (f, ((((st.F f).now.size - 1) / 64 : Nat) : Int)) ∈ st.Q
  armed : 0 ≤ st.armed ∧ st.armed ≤ 9223372036854775807
  lost : 0 ≤ st.lost ∧ st.lost ≤ 9223372036854775807

theorem noFile_now : noFile.now.size = 0 := rfl
theorem noFile_last : noFile.last.size = 0 := rfl
theorem DInv.new : DInv DS.new := ⟨fun f => by simp only [DS.new, noFile_now, noFile_last]; omega, fun p h => by simp [DS.new] at h, fun f i h => by simp only [DS.new, noFile_now] at h; omega, fun f h => absurd h (Nat.lt_irrefl _), by simp [DS.new], by simp [DS.new]⟩
theorem DInv.setLost {st : DS} (h : DInv st) (n : Int) (h0 : 0 ≤ n) (h1 : n ≤ 9223372036854775807) : DInv { st with lost := n } := ⟨h.size, h.secs, h.cont, h.tail, h.armed, ⟨h0, h1⟩⟩
theorem DInv.setArmed {st : DS} (h : DInv st) (n : Int) (h0 : 0 ≤ n) (h1 : n ≤ 9223372036854775807) : DInv { st with armed := n } := ⟨h.size, h.secs, h.cont, h.tail, ⟨h0, h1⟩, h.lost⟩
theorem DInv.setDown {st : DS} (h : DInv st) (b : Bool) : DInv { st with down := b } := ⟨h.size, h.secs, h.cont, h.tail, h.armed, h.lost⟩
theorem DInv.ends {st : DS} (h : DInv st) : DInv (endsS st) := by
  unfold endsS
  split
  · exact h
  · have := h.armed
    exact h.setArmed _ (by omega) (by omega)

theorem DInv.wr {st : DS} (h : DInv st) (f a : Int) (s : ByteArray) : DInv (wrS st f a s) := by
  unfold wrS
  split
  · rename_i hc
    obtain ⟨hc, hs⟩ := hc
    unfold wrCode at hc
    split at hc
    · contradiction
    split at hc
    · contradiction
    split at hc
    · contradiction
    rename_i hm ha hb
    have hm' : mayCode st f = 0 := by simpa using hm
    have hf : 0 ≤ f ∧ f < 16 := by
      unfold mayCode at hm'
      split at hm'
      · contradiction
      split at hm'
      · contradiction
      omega
    obtain ⟨n, rfl⟩ := Int.eq_ofNat_of_zero_le (show 0 ≤ a by omega)
    simp only [Int.toNat_natCast]
    have hps : (putB (st.F f).now n s).size = max (st.F f).now.size (n + s.size) := by rw [putB_size, if_neg (by omega)]
    have hz := h.size f
    refine ⟨fun g => ?_, fun p hp => ?_, fun g i hi => ?_, fun g hg => ?_, h.armed, h.lost⟩
    · simp only
      by_cases e : g = f
      · subst e; rw [updF_same]; simp only [hps]; omega
      · rw [updF_other _ e]; exact h.size g
    · rw [mem_addSecs] at hp
      rcases hp with hp | ⟨j, hj, rfl⟩
      · exact h.secs p hp
      · simp only; omega
    · simp only at hi ⊢
      by_cases e : g = f
      · subst e
        rw [updF_same] at hi ⊢
        simp only [hps] at hi ⊢
        rw [mem_addSecs, putB_at]
        by_cases h1 : n ≤ i ∧ i < n + s.size
        · refine Or.inl (Or.inr ⟨i / 64 - n / 64, by omega, ?_⟩)
          congr 1
          omega
        · rw [if_neg h1]
          by_cases h2 : i < (st.F g).now.size
          · rcases h.cont g i h2 with h3 | h3
            · exact Or.inl (Or.inl h3)
            · exact Or.inr h3
          · exact Or.inr (by rw [byteA_past (by omega), byteA_past (by omega)])
      · rw [updF_other _ e] at hi ⊢
        rw [mem_addSecs]
        rcases h.cont g i hi with h3 | h3
        · exact Or.inl (Or.inl h3)
        · exact Or.inr h3
    · simp only at hg ⊢
      by_cases e : g = f
      · subst e
        rw [updF_same] at hg ⊢
        simp only [hps] at hg ⊢
        rw [mem_addSecs]
        by_cases h1 : (st.F g).now.size ≤ n + s.size
        · refine Or.inr ⟨(n + s.size - 1) / 64 - n / 64, by omega, ?_⟩
          congr 1
          omega
        · rw [Nat.max_eq_left (by omega)] at hg ⊢
          exact Or.inl (h.tail g hg)
      · rw [updF_other _ e] at hg ⊢
        rw [mem_addSecs]
        exact Or.inl (h.tail g hg)
  · exact h

theorem DInv.crash {st : DS} (h : DInv st) (K : List Int) : DInv (crashS st K) := by
  unfold crashS
  split
  · exact h
  · have hL := fun f => left_to K st.Q st.F f (fun p hp => (h.secs p hp).2.2.1) st.Q.length (Nat.le_refl _)
    refine ⟨fun f => ?_, fun p hp => by simp at hp, fun f i hi => Or.inr rfl, fun f hf => absurd hf (Nat.lt_irrefl _), by simp, h.lost⟩
    have := (hL f).hi
    have := h.size f
    simp only [lastF]
    omega

theorem DInv.settle {st : DS} (h : DInv st) (f : Int) (s : ByteArray) (hs : s.size ≤ 16777216) : DInv (settleS st f s) := by
  unfold settleS
  refine ⟨fun g => ?_, fun p hp => ?_, fun g i hi => ?_, fun g hg => ?_, h.armed, h.lost⟩
  · simp only
    by_cases e : g = f
    · subst e; rw [updF_same]; exact ⟨Nat.le_refl _, hs⟩
    · rw [updF_other _ e]; exact h.size g
  · exact h.secs p (List.mem_filter.1 hp).1
  · simp only at hi ⊢
    by_cases e : g = f
    · subst e; rw [updF_same]; exact Or.inr rfl
    · rw [updF_other _ e] at hi ⊢
      rcases h.cont g i hi with h3 | h3
      · exact Or.inl (List.mem_filter.2 ⟨h3, by simpa using e⟩)
      · exact Or.inr h3
  · simp only at hg ⊢
    by_cases e : g = f
    · subst e; rw [updF_same] at hg; exact absurd hg (Nat.lt_irrefl _)
    · rw [updF_other _ e] at hg ⊢
      exact List.mem_filter.2 ⟨h.tail g hg, by simpa using e⟩

theorem DInv.end {st : DS} (h : DInv st) (K : List Int) : DInv (endS st K) := by
  unfold endS
  split
  · exact h.ends.crash K
  · exact h.ends
theorem DInv.write {st : DS} (h : DInv st) (K : List Int) (f a : Int) (s : ByteArray) : DInv (writeS st K f a s) := by
  unfold writeS
  split
  · exact (h.ends.wr f a s).crash K
  · exact h.ends.wr f a s
theorem DInv.sync {st : DS} (h : DInv st) (K : List Int) (f : Int) : DInv (syncS st K f) := by
  have hx := h.end K
  unfold syncS
  simp only
  split
  · exact hx
  split
  · have := hx.lost
    exact hx.setLost _ (by omega) (by omega)
  · exact hx.settle f _ (hx.size f).2
theorem DInv.trunc {st : DS} (h : DInv st) (K : List Int) (f z : Int) : DInv (truncS st K f z) := by
  have hx := h.end K
  unfold truncS
  simp only
  split
  · exact hx
  split
  · exact hx
  · refine hx.settle f _ ?_
    have := (hx.size f).2
    rw [extract_size]; omega

end Go.Proofs.Ytmikjninonpejaa

/- Contracts of package disk: write: a sector becomes pending. -/
namespace Go.Proofs.Ytmikjninonpejaa
open Go.RowKit Go.Proofs.YtmikjninonpejaaMem Go.Maps

theorem wf64 {n : Int} (h0 : -9223372036854775808 ≤ n) (h1 : n ≤ 9223372036854775807) : (Lit.int .i64 n).wf = true := by
  have e0 : IntKind.i64.min = -9223372036854775808 := by decide
  have e1 : IntKind.i64.max = 9223372036854775807 := by decide
  simp [Lit.wf, e0, e1]; omega
theorem FilesAt.more {w : World} {b n m : Nat} {F : Int → File} (h : FilesAt w b n F) (hm : n ≤ m) : FilesAt w b m F := by
  obtain ⟨D, ⟨es, clock, hb, F', hs, hD⟩, r⟩ := h
  exact ⟨D, ⟨es, clock, hb, F', Nat.le_trans hs hm, hD⟩, r⟩
theorem SetAt.more {w : World} {b n m : Nat} {S : Int → Int → Bool} (h : SetAt w b n S) (hm : n ≤ m) : SetAt w b m S := by
  obtain ⟨D, ⟨es, clock, hb, F', hs, hD⟩, r⟩ := h
  exact ⟨D, ⟨es, clock, hb, F', Nat.le_trans hs hm, hD⟩, r⟩
theorem DiskObj.more {w : World} {b N M : Nat} {FP : List Nat} {st : DS} {kv : Value} (h : DiskObj w b FP N st kv) (hm : N ≤ M) : DiskObj w b FP M st kv := by
  obtain ⟨fb, sb, qv, hb, hF, hS, r⟩ := h
  exact ⟨fb, sb, qv, hb, hF.more hm, hS.more hm, r⟩
theorem own_not_map {w : World} {base : Nat} {e : TypeId} {size : Nat} {v : Value} {n : Nat} {xs : List Value} (h : w.ownsRow base e size v n xs) {b : Nat} {es : Array MapEntry} {c : Nat}
    (hb : w.heap[b]? = some (.map es c)) : b ∉ v.ownBlock.toList := by
  intro hk
  rcases h.2 with ⟨rfl, _⟩ | ⟨g, cap, cur, rfl, _, hg, _⟩
  · simp [Value.ownBlock] at hk
  · simp [Value.ownBlock] at hk
    subst hk
    rw [hb] at hg
    simp at hg
theorem FilesAt.not_own {w : World} {base : Nat} {e : TypeId} {size : Nat} {v : Value} {n m b : Nat} {xs : List Value} {F : Int → File} (h : FilesAt w b m F) (ho : w.ownsRow base e size v n xs) : b ∉ v.ownBlock.toList := by
  obtain ⟨D, ⟨es, clock, hb, _⟩, _⟩ := h
  exact own_not_map ho hb
theorem SetAt.not_own {w : World} {base : Nat} {e : TypeId} {size : Nat} {v : Value} {n m b : Nat} {xs : List Value} {S : Int → Int → Bool} (h : SetAt w b m S) (ho : w.ownsRow base e size v n xs) : b ∉ v.ownBlock.toList := by
  obtain ⟨D, ⟨es, clock, hb, _⟩, _⟩ := h
  exact own_not_map ho hb

theorem _root_.Go.Proofs.YtmikjninonpejaaMem.Evolves.trans {A B C : List Nat} {a b c : World} (h : Evolves A B a b) (k : Evolves B C b c) : Evolves A C a c :=
  ⟨h.1.trans_new k.1 h.2, fun x hx => by
    rcases k.2 x hx with h1 | h1
    · exact h.2 x h1
    · exact Or.inr (Nat.le_trans h.1.size h1)⟩
theorem DiskPost.trans {a b c : World} {o N : Nat} {A B : List Nat} {st : DS} {kv : Value} (h : Evolves A B a b) (k : DiskPost b o B N st kv c) : DiskPost a o A N st kv c := by
  obtain ⟨FP', hD, hev⟩ := k
  exact ⟨FP', hD, h.trans hev⟩
theorem secCells_snoc (Q : List (Int × Int)) (f n : Int) : secCells (Q ++ [(f, n)]) = secCells Q ++ [.int .i64 f, .int .i64 n] := by simp [secCells]

/-- A sector that is not pending becomes so: append, store, mapEntry, entryStore. -/
theorem sec_added {V W11 w12 : World} {b fb sb M : Nat} {FP : List Nat} {st : DS} {kv qv v' : Value} {f n : Int} (hfw : (Lit.int .i64 f).wf = true) (hnw : (Lit.int .i64 n).wf = true) (hM : M < maxLen)
    (hb : V.heap[b]? = some (.cells #[.map (some fb), qv, .map (some sb), .int .i64 st.lost, .bool st.down, .int .i64 st.armed, kv] 90 (0, 0))) (hF : FilesAt V fb M st.F)
    (hS : SetAt V sb M (fun f m => decide ((f, m) ∈ st.Q))) (hQ : V.ownsRow 0 103 2 qv st.Q.length (secCells st.Q)) (hne : fb ≠ sb) (hFP : FP = b :: fb :: sb :: qv.ownBlock.toList)
    (h11 : Turns [] V W11) (hown : w12.ownsRow 0 103 2 v' (st.Q.length + 1) (secCells st.Q ++ [.int .i64 f, .int .i64 n])) (hgr : W11.grownBy w12 qv.ownBlock) (hat : v'.ownBlock = qv.ownBlock ∨ v'.ownBlock = some W11.heap.size) :
    w12.cell? ⟨b, 1, none⟩ = some qv ∧ w12.frozen? ⟨b, 1, none⟩ = false ∧ Turns qv.ownBlock.toList V w12 ∧ sb ≠ b ∧
    ∃ (ve : Value) (se : Int) (wE wS : World), (Instr.mapEntry 87 (.map (some sb)) (secVal f n)).run Try.prog (w12.setCell ⟨b, 1, none⟩ v') = .ok (.tuple #[ve, .int .i64 se]) wE ∧ Turns [sb] (w12.setCell ⟨b, 1, none⟩ v') wE ∧
      (Instr.entryStore 87 (.map (some sb)) (.int .i64 se) (.bool true)).run Try.prog wE = .ok () wS ∧ Turns [sb] (w12.setCell ⟨b, 1, none⟩ v') wS ∧ DiskPost V b FP (M + 1) { st with Q := st.Q ++ [(f, n)] } kv wS := by
  have t12 : Turns qv.ownBlock.toList V w12 := (h11.mono (by simp)).trans_new (Turns.of_grown (S := qv.ownBlock.toList) hgr (fun k hk => Or.inl (by simp [hk]))) (fun x hx => Or.inl hx)
  have hbq := own_ne hQ hb (by decide)
  have hb12 := (t12.block b (lt_of_at hb) hbq).trans hb
  have t15 : Turns (b :: sb :: qv.ownBlock.toList) V (w12.setCell ⟨b, 1, none⟩ v') := (t12.mono (by intro x hx; simp [hx])).trans (Turns.setCell _ _ _ (by simp))
  have hsb : sb ≠ b := hS.ne hb
  have hfb : fb ≠ b := hF.ne hb
  have hS15 : SetAt (w12.setCell ⟨b, 1, none⟩ v') sb M (fun f m => decide ((f, m) ∈ st.Q)) := (hS.kept t12 (hS.not_own hQ)).kept (Turns.setCell (S := [b]) _ _ _ (by simp)) (by simp; exact hsb)
  obtain ⟨ve, se, wE, h1, h2, h3⟩ := hS15.entry hM f n hfw hnw
  obtain ⟨wS, h4, h5, h6⟩ := h3 wE rfl
  have tE := t15.trans (h2.mono (by simp))
  have tS := tE.trans (h6.mono (by simp))
  have hsz12 : W11.heap.size ≤ w12.heap.size := hgr.size
  have h26 : Turns [sb] (w12.setCell ⟨b, 1, none⟩ v') wS := h2.trans h6
  have hsets : updS (fun f m => decide ((f, m) ∈ st.Q)) f n = fun f' m => decide ((f', m) ∈ st.Q ++ [(f, n)]) := by
    funext g j
    unfold updS
    by_cases e : g = f ∧ j = n
    · obtain ⟨rfl, rfl⟩ := e; simp
    · rw [if_neg e]
      simp [e]
  rw [hsets] at h5
  have hb15 : (w12.setCell ⟨b, 1, none⟩ v').heap[b]? = some (.cells #[.map (some fb), v', .map (some sb), .int .i64 st.lost, .bool st.down, .int .i64 st.armed, kv] 90 (0, 0)) := by
    rw [heap_setCell_at hb12]; rfl
  have hvb : b ∉ v'.ownBlock.toList := own_ne hown hb12 (by decide)
  have hv15 : (w12.setCell ⟨b, 1, none⟩ v').ownsRow 0 103 2 v' (st.Q.length + 1) (secCells st.Q ++ [.int .i64 f, .int .i64 n]) := own_kept hown (Turns.setCell (S := [b]) _ _ _ (by simp)) (fun x hx hxb => by simp at hxb; subst hxb; exact hvb hx)
  have hvs : sb ∉ v'.ownBlock.toList := hS15.not_own hv15
  refine ⟨cell_at hb12 1, free_at hb12 1, t12, hsb, ve, se, wE, wS, h1, h2, h4, h26, b :: fb :: sb :: v'.ownBlock.toList, ⟨fb, sb, v', ?_, ?_, h5, ?_, hne, rfl⟩, ?_, ?_⟩
  · rw [h26.block b (lt_of_at hb15) (by simp; exact fun e => hsb e.symm)]; exact hb15
  · exact (hF.more (by omega)).kept tS (by
      simp only [List.mem_cons, not_or]
      exact ⟨hfb, hne, hF.not_own hQ⟩)
  · show World.ownsRow _ 0 103 2 v' (st.Q ++ [(f, n)]).length (secCells (st.Q ++ [(f, n)]))
    rw [secCells_snoc, List.length_append]
    exact own_kept hv15 h26 (fun x hx hxb => by simp at hxb; subst hxb; exact hvs hx)
  · exact tS.mono (by rw [hFP]; intro x hx; simp only [List.mem_cons] at hx ⊢; rcases hx with h | h | h <;> simp [h])
  · intro x hx
    simp only [List.mem_cons] at hx
    rw [hFP]
    rcases hx with h | h | h | h
    · exact Or.inl (by simp [h])
    · exact Or.inl (by simp [h])
    · exact Or.inl (by simp [h])
    · rcases hat with e | e
      · rw [e] at h; exact Or.inl (by simp only [List.mem_cons]; exact Or.inr (Or.inr (Or.inr h)))
      · rw [e] at h; simp at h; subst h
        exact Or.inr h11.size

end Go.Proofs.Ytmikjninonpejaa

/- Plain: a region that draws its order: an operation that reads may be taken first where only operations that wait for it write what it reads. Over any program. -/
namespace Go.Proofs.YtmikjninonpejaaMem
open Go Go.RowKit

section
variable {P : Program} {ops : Array Oper} {Q : Exit → Act → World → Prop} {md : Region.Mode} {S1 S2 Sx : World → Prop} {nd : Nat → Bool}

/-- Whatever order is picked from here on; behind operation j S2 holds, and S1, if j wants it. -/
def wpAnyN (P : Program) (md : Region.Mode) (ops : Array Oper) (Q : Exit → Act → World → Prop) (S1 S2 : World → Prop) (nd : Nat → Bool) : Nat → Array Bool → Act → World → Prop
  | 0, listed, a, w => Region.ready md ops listed = [] ∧ Q .normal a w
  | fuel + 1, listed, a, w =>
    (Region.ready md ops listed = [] → Q .normal a w) ∧
    ∀ i ∈ Region.ready md ops listed, wpOp P ops Q i (fun a' w' => (S2 w' ∧ (nd i = true → S1 w')) ∧ wpAnyN P md ops Q S1 S2 nd fuel (listed.setIfInBounds i true) a' w') a w
theorem wpAny_of_N : ∀ (fuel : Nat) (listed : Array Bool) (a : Act) (w : World), wpAnyN P md ops Q S1 S2 nd fuel listed a w → wpAny P md ops Q fuel listed a w
  | 0, _, _, _, h => h
  | fuel + 1, _, _, _, h => ⟨h.1, fun i hi => wpOp_mono (fun a' w' h' => wpAny_of_N fuel _ a' w' h'.2) (h.2 i hi)⟩

/-- Operation j waits for i, by at most n steps. -/
def depB (md : Region.Mode) (ops : Array Oper) : Nat → Nat → Nat → Bool
  | 0, _, _ => false
  | n + 1, j, i => Region.waitsFor md ops j i || (List.range ops.size).any fun k => Region.waitsFor md ops j k && depB md ops n k i
def closedB (md : Region.Mode) (ops : Array Oper) (listed : Array Bool) : Bool :=
  (List.range ops.size).all fun j => !listed.getD j false || match ops[j]? with
    | some oj => oj.after.all fun e => !Region.binds md e || listed.getD e.on false
    | none => true
theorem closedB_spec {listed : Array Bool} (h : closedB md ops listed = true) : ∀ j oj, ops[j]? = some oj → listed.getD j false = true → ∀ e ∈ oj.after, Region.binds md e = true → listed.getD e.on false = true := by
  intro j oj hj hl e he hb
  have h1 := List.all_eq_true.1 h j (List.mem_range.2 (Array.getElem?_eq_some_iff.1 hj).1)
  simp only [hl, hj, Bool.not_true, Bool.false_or, Array.all_eq_true'] at h1
  have h2 := h1 e he
  simpa [hb] using h2
theorem dep_listed {listed : Array Bool} (hc : ∀ j oj, ops[j]? = some oj → listed.getD j false = true → ∀ e ∈ oj.after, Region.binds md e = true → listed.getD e.on false = true) {i : Nat} :
    ∀ (n j : Nat), depB md ops n j i = true → (∀ oj, ops[j]? = some oj → ∀ e ∈ oj.after, Region.binds md e = true → listed.getD e.on false = true) → listed.getD i false = true
  | 0, _, h, _ => by simp [depB] at h
  | n + 1, j, h, hj => by
    simp only [depB, Bool.or_eq_true, List.any_eq_true, Bool.and_eq_true] at h
    rcases h with h | ⟨k, _, h1, h2⟩
    · obtain ⟨oj, ho, e, he, hb, rfl⟩ := Region.waitsFor_spec h
      exact hj oj ho e he hb
    · obtain ⟨oj, ho, e, he, hb, rfl⟩ := Region.waitsFor_spec h1
      have hk := hj oj ho e he hb
      exact dep_listed hc n e.on h2 (fun ok hok e' he' hb' => hc e.on ok hok hk e' he' hb')

theorem wpAnyN_first {i : Nat} {oi : Oper} {v : Value} (hi : ops[i]? = some oi) (hsel : ∀ (j : Nat) (o : Oper) cs b, ops[j]? = some o → o.op ≠ .select cs b)
    (hQ : ∀ c a w, Q (.panic c) (a.put oi.dst v) w → Q (.panic c) a w) (n : Nat) :
    ∀ (fuel : Nat) (listed : Array Bool) (a : Act) (w : World), (∀ j w, j < ops.size → listed.getD j true = false → depB md ops n j i = false → S2 w → (nd j = true → S1 w) → Sx w) →
      (∀ j oj, ops[j]? = some oj → listed.getD j false = true → ∀ e ∈ oj.after, Region.binds md e = true → listed.getD e.on false = true) →
      (∀ j oj, ops[j]? = some oj → j ≠ i → listed.getD j true = false → (∀ e ∈ oj.after, Region.binds md e = true → e.on ≠ i) → oi.apart ops oj = true) →
      i ∈ Region.ready md ops listed → YieldsIf P ops Sx oi v a → Sx w → S2 w ∧ (nd i = true → S1 w) →
      wpAnyN P md ops Q S1 S2 nd fuel (listed.setIfInBounds i true) (a.put oi.dst v) w → (∀ w', Sx w' → S2 w' → (nd i = true → S1 w')) → wpAnyN P md ops Q S1 S2 nd (fuel + 1) listed a w := by
  intro fuel
  induction fuel with
  | zero =>
    intro listed a w _ _ _ hr hy hS h12 H _
    refine ⟨fun h => (by rw [h] at hr; cases hr), fun j hj => ?_⟩
    by_cases hji : j = i
    · subst hji; exact hy.wpOp hi hS ⟨h12, H⟩
    · have := ready_mono hj hji
      rw [H.1] at this
      cases this
  | succ fuel ih =>
    intro listed a w hx hc hfree hr hy hS h12 H hback
    refine ⟨fun h => (by rw [h] at hr; cases hr), fun j hj => ?_⟩
    by_cases hji : j = i
    · subst hji; exact hy.wpOp hi hS ⟨h12, H⟩
    · have h1 := H.2 j (ready_mono hj hji)
      obtain ⟨hjun, oj, hoj, hall⟩ := mem_ready.1 hj
      have hiun := (mem_ready.1 hr).1
      have hisz : i < listed.size := by
        rcases Nat.lt_or_ge i listed.size with h' | h'
        · exact h'
        · simp [Array.getElem?_eq_none h'] at hiun
      have hif : listed.getD i false = false := getD_both hiun
      have hdep : depB md ops n j i = false := by
        cases hd : depB md ops n j i with
        | false => rfl
        | true =>
          have := dep_listed (md := md) hc n j hd (fun oj' ho' => by rw [hoj] at ho'; cases ho'; exact hall)
          rw [hif] at this; cases this
      have hnot : ∀ e ∈ oj.after, Region.binds md e = true → e.on ≠ i := fun e he hb heq => by
        have h1 := hall e he hb
        rw [heq, hif] at h1; cases h1
      have h2 := wpOp_putIf hoj (hfree j oj hoj hji hjun hnot) (fun cs b => hsel i oi cs b hi) (fun cs b => hsel j oj cs b hoj) hQ hy h1
      have hc' : ∀ k ok, ops[k]? = some ok → (listed.setIfInBounds j true).getD k false = true → ∀ e ∈ ok.after, Region.binds md e = true → (listed.setIfInBounds j true).getD e.on false = true := by
        intro k ok hok hl e he hb
        by_cases hjk : j = k
        · subst hjk
          have : ok = oj := Option.some.inj (hok.symm.trans hoj)
          subst this
          exact getD_set_true (hall e he hb)
        · rw [getD_set_ne false hjk] at hl
          exact getD_set_true (hc k ok hok hl e he hb)
      have hfree' : ∀ k ok, ops[k]? = some ok → k ≠ i → (listed.setIfInBounds j true).getD k true = false →
          (∀ e ∈ ok.after, Region.binds md e = true → e.on ≠ i) → oi.apart ops ok = true := fun k ok hk hki hun hno => by
        refine hfree k ok hk hki ?_ hno
        by_cases hjk : j = k
        · subst hjk; exact hjun
        · rw [getD_set_ne true hjk] at hun; exact hun
      refine wpOp_mono (fun a' w' h3 => ⟨h3.2.1, ?_⟩) h2
      have hsx := hx j w' (Array.getElem?_eq_some_iff.1 hoj).1 hjun hdep h3.2.1.1 h3.2.1.2
      have hx' : ∀ k w, k < ops.size → (listed.setIfInBounds j true).getD k true = false → depB md ops n k i = false → S2 w → (nd k = true → S1 w) → Sx w := fun k w hk hun => by
        refine hx k w hk ?_
        by_cases hjk : j = k
        · subst hjk; exact hjun
        · rw [getD_set_ne true hjk] at hun; exact hun
      refine ih (listed.setIfInBounds j true) a' w' hx' hc' hfree' (ready_mono hr (Ne.symm hji)) h3.1 hsx ⟨h3.2.1.1, hback w' hsx h3.2.1.1⟩ ?_ hback
      rw [Array.setIfInBounds_comm _ _ hji]
      exact h3.2.2

/-- Take number i first: it reads what S1 and S2 say; what breaks S1 waits for it. -/
theorem wpAnyN_take1 (n : Nat) (d : Option Tmp) {i : Nat} {oi : Oper} {v : Value} {fuel : Nat} {listed : Array Bool} {a : Act} {w : World} (hi : ops[i]? = some oi) (hdd : oi.dst = d)
    (hs : Region.noSelect ops = true) (hf : Region.free md ops listed i = true) (hr : (Region.ready md ops listed).contains i = true) (hc : closedB md ops listed = true)
    (hd : ((List.range ops.size).all fun j => listed.getD j true || (nd j || depB md ops n j i)) = true)
    (hQ : ∀ c a w, Q (.panic c) (a.put d v) w → Q (.panic c) a w) (hy : YieldsIf P ops (fun w => S1 w ∧ S2 w) oi v a) (hS : S1 w ∧ S2 w)
    (h : wpAnyN P md ops Q S1 S2 nd fuel (listed.setIfInBounds i true) (a.put d v) w) : wpAnyN P md ops Q S1 S2 nd (fuel + 1) listed a w := by
  subst hdd
  exact wpAnyN_first hi (Region.noSelect_spec hs) hQ n fuel listed a w (fun j w hj hun hdj h2 h1 => by
    have := List.all_eq_true.1 hd j (List.mem_range.2 hj)
    rw [hun, hdj, Bool.or_false, Bool.false_or] at this
    exact ⟨h1 this, h2⟩) (closedB_spec hc) (Region.free_spec hi hf) (by simpa using hr) hy hS ⟨hS.2, fun _ => hS.1⟩ h (fun _ hx _ _ => hx.1)
/-- Take number i first: it reads what S2 says. -/
theorem wpAnyN_take2 (d : Option Tmp) {i : Nat} {oi : Oper} {v : Value} {fuel : Nat} {listed : Array Bool} {a : Act} {w : World} (hi : ops[i]? = some oi) (hdd : oi.dst = d)
    (hs : Region.noSelect ops = true) (hf : Region.free md ops listed i = true) (hr : (Region.ready md ops listed).contains i = true) (hc : closedB md ops listed = true)
    (hni : nd i = false)
    (hQ : ∀ c a w, Q (.panic c) (a.put d v) w → Q (.panic c) a w) (hy : YieldsIf P ops S2 oi v a) (hS : S2 w)
    (h : wpAnyN P md ops Q S1 S2 nd fuel (listed.setIfInBounds i true) (a.put d v) w) : wpAnyN P md ops Q S1 S2 nd (fuel + 1) listed a w := by
  subst hdd
  exact wpAnyN_first hi (Region.noSelect_spec hs) hQ 0 fuel listed a w (fun _ _ _ _ _ h2 _ => h2) (closedB_spec hc) (Region.free_spec hi hf) (by simpa using hr) hy hS ⟨hS, fun h => by rw [hni] at h; cases h⟩ h (fun _ _ _ h => by rw [hni] at h; cases h)
theorem wpAnyN_one {i : Nat} {o : Oper} {fuel : Nat} {listed : Array Bool} {a : Act} {w : World} (hr : Region.ready md ops listed = [i]) (ho : ops[i]? = some o)
    (h : ∀ K : Act → World → Prop, Hid (∀ a' w', S2 w' → (nd i = true → S1 w') → wpAnyN P md ops Q S1 S2 nd fuel (listed.setIfInBounds i true) a' w' → K a' w') →
      if Region.wanted o (yielded ops a.tmps) = true then o.wp P a w K Q else K (a.put o.dst undef) w) :
    wpAnyN P md ops Q S1 S2 nd (fuel + 1) listed a w := by
  have h := h (fun a' w' => (S2 w' ∧ (nd i = true → S1 w')) ∧ wpAnyN P md ops Q S1 S2 nd fuel (listed.setIfInBounds i true) a' w') (fun _ _ h2 h1 h3 => ⟨⟨h2, h1⟩, h3⟩)
  refine ⟨fun h0 => (by rw [hr] at h0; cases h0), fun j hj => ?_⟩
  rw [hr] at hj
  obtain rfl := List.mem_singleton.1 hj
  unfold wpOp
  simp only [ho]
  split
  · rename_i hw
    rw [if_pos hw] at h
    exact .inl h
  · rename_i hw
    rw [if_neg hw] at h
    exact h
theorem wpAnyN_done {listed : Array Bool} {a : Act} {w : World} (hr : Region.ready md ops listed = []) (h : Q .normal a w) :
    ∀ fuel, wpAnyN P md ops Q S1 S2 nd fuel listed a w
  | 0 => ⟨hr, h⟩
  | _ + 1 => ⟨fun _ => h, by rw [hr]; simp⟩
theorem wp_region_N (S1 S2 : World → Prop) (nd : Nat → Bool) {id : Nat} {a : Act} {w : World} (hm : P.follows .mixedOrders = true)
    (h : wpAnyN P .any ops Q S1 S2 nd ops.size (Array.replicate ops.size false) a w.drew) : (Code.region id ops true).wp P Q a w :=
  wp_region_any hm (wpAny_of_N _ _ _ _ h)
end
end Go.Proofs.YtmikjninonpejaaMem
