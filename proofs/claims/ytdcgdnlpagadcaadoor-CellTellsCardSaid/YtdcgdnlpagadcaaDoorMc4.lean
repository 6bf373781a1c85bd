/- Contracts and lemmas (texts Ord, DiskW, joined by a program). -/
import Derived.Test.YtdcgdnlpagadcaaDoorMc3
import Derived.Deep.RegionHeld3
import Derived.StillTail
import Derived.Lib.Hide
import Derived.BigQuiet
import Derived.Deep.QuietTactic
/- Plain: a region that draws its order: an operation that reads may be taken first where only operations that wait for it write what it reads. Over any program. -/
namespace Go.Proofs.YtdcgdnlpagadcaaDoorMem
open Go Go.RowKit

section
variable {P : Program} {ops : Array Oper} {Q : Exit → Act → World → Prop} {md : Region.Mode} {S1 S2 Sx : World → Prop} {nd : Nat → Bool}

/-- Whatever order is picked from here on; behind operation j S2 holds, and S1, if j wants it. -/
def wpAnyN (P : Program) (md : Region.Mode) (ops : Array Oper) (Q : Exit → Act → World → Prop) (S1 S2 : World → Prop) (nd : Nat → Bool) : Nat → Array Bool → Act → World → Prop
  | 0, listed, a, w => Region.ready md ops listed = [] ∧ Q .normal a w
  | fuel + 1, listed, a, w =>
    (Region.ready md ops listed = [] → Q .normal a w) ∧
    ∀ i ∈ Region.ready md ops listed, wpOp P ops Q i (fun a' w' => (S2 w' ∧ (nd i = true → S1 w')) ∧ wpAnyN P md ops Q S1 S2 nd fuel (listed.setIfInBounds i true) a' w') a w
theorem wpAny_of_N : ∀ (fuel : Nat) (listed : Array Bool) (a : Act) (w : World), wpAnyN P md ops Q S1 S2 nd fuel listed a w → wpAny P md ops Q fuel listed a w
  | 0, _, _, _, h => h
  | fuel + 1, _, _, _, h => ⟨h.1, fun i hi => wpOp_mono (fun a' w' h' => wpAny_of_N fuel _ a' w' h'.2) (h.2 i hi)⟩

/-- Operation j waits for i, by at most n steps. -/
def depB (md : Region.Mode) (ops : Array Oper) : Nat → Nat → Nat → Bool
  | 0, _, _ => false
  | n + 1, j, i => Region.waitsFor md ops j i || (List.range ops.size).any fun k => Region.waitsFor md ops j k && depB md ops n k i
def closedB (md : Region.Mode) (ops : Array Oper) (listed : Array Bool) : Bool :=
  (List.range ops.size).all fun j => !listed.getD j false || match ops[j]? with
    | some oj => oj.after.all fun e => !Region.binds md e || listed.getD e.on false
    | none => true
theorem closedB_spec {listed : Array Bool} (h : closedB md ops listed = true) : ∀ j oj, ops[j]? = some oj → listed.getD j false = true → ∀ e ∈ oj.after, Region.binds md e = true → listed.getD e.on false = true := by
  intro j oj hj hl e he hb
  have h1 := List.all_eq_true.1 h j (List.mem_range.2 (Array.getElem?_eq_some_iff.1 hj).1)
  simp only [hl, hj, Bool.not_true, Bool.false_or, Array.all_eq_true'] at h1
  have h2 := h1 e he
  simpa [hb] using h2
theorem dep_listed {listed : Array Bool} (hc : ∀ j oj, ops[j]? = some oj → listed.getD j false = true → ∀ e ∈ oj.after, Region.binds md e = true → listed.getD e.on false = true) {i : Nat} :
    ∀ (n j : Nat), depB md ops n j i = true → (∀ oj, ops[j]? = some oj → ∀ e ∈ oj.after, Region.binds md e = true → listed.getD e.on false = true) → listed.getD i false = true
  | 0, _, h, _ => by simp [depB] at h
  | n + 1, j, h, hj => by
    simp only [depB, Bool.or_eq_true, List.any_eq_true, Bool.and_eq_true] at h
    rcases h with h | ⟨k, _, h1, h2⟩
    · obtain ⟨oj, ho, e, he, hb, rfl⟩ := Region.waitsFor_spec h
      exact hj oj ho e he hb
    · obtain ⟨oj, ho, e, he, hb, rfl⟩ := Region.waitsFor_spec h1
      have hk := hj oj ho e he hb
      exact dep_listed hc n e.on h2 (fun ok hok e' he' hb' => hc e.on ok hok hk e' he' hb')

theorem wpAnyN_first {i : Nat} {oi : Oper} {v : Value} (hi : ops[i]? = some oi) (hsel : ∀ (j : Nat) (o : Oper) cs b, ops[j]? = some o → o.op ≠ .select cs b)
    (hQ : ∀ c a w, Q (.panic c) (a.put oi.dst v) w → Q (.panic c) a w) (n : Nat) :
    ∀ (fuel : Nat) (listed : Array Bool) (a : Act) (w : World), (∀ j w, j < ops.size → listed.getD j true = false → depB md ops n j i = false → S2 w → (nd j = true → S1 w) → Sx w) →
      (∀ j oj, ops[j]? = some oj → listed.getD j false = true → ∀ e ∈ oj.after, Region.binds md e = true → listed.getD e.on false = true) →
      (∀ j oj, ops[j]? = some oj → j ≠ i → listed.getD j true = false → (∀ e ∈ oj.after, Region.binds md e = true → e.on ≠ i) → oi.apart ops oj = true) →
      i ∈ Region.ready md ops listed → YieldsIf P ops Sx oi v a → Sx w → S2 w ∧ (nd i = true → S1 w) →
      wpAnyN P md ops Q S1 S2 nd fuel (listed.setIfInBounds i true) (a.put oi.dst v) w → (∀ w', Sx w' → S2 w' → (nd i = true → S1 w')) → wpAnyN P md ops Q S1 S2 nd (fuel + 1) listed a w := by
  intro fuel
  induction fuel with
  | zero =>
    intro listed a w _ _ _ hr hy hS h12 H _
    refine ⟨fun h => (by rw [h] at hr; cases hr), fun j hj => ?_⟩
    by_cases hji : j = i
    · subst hji; exact hy.wpOp hi hS ⟨h12, H⟩
    · have := ready_mono hj hji
      rw [H.1] at this
      cases this
  | succ fuel ih =>
    intro listed a w hx hc hfree hr hy hS h12 H hback
    refine ⟨fun h => (by rw [h] at hr; cases hr), fun j hj => ?_⟩
    by_cases hji : j = i
    · subst hji; exact hy.wpOp hi hS ⟨h12, H⟩
    · have h1 := H.2 j (ready_mono hj hji)
      obtain ⟨hjun, oj, hoj, hall⟩ := mem_ready.1 hj
      have hiun := (mem_ready.1 hr).1
      have hisz : i < listed.size := by
        rcases Nat.lt_or_ge i listed.size with h' | h'
        · exact h'
        · simp [Array.getElem?_eq_none h'] at hiun
      have hif : listed.getD i false = false := getD_both hiun
      have hdep : depB md ops n j i = false := by
        cases hd : depB md ops n j i with
        | false => rfl
        | true =>
          have := dep_listed (md := md) hc n j hd (fun oj' ho' => by rw [hoj] at ho'; cases ho'; exact hall)
          rw [hif] at this; cases this
      have hnot : ∀ e ∈ oj.after, Region.binds md e = true → e.on ≠ i := fun e he hb heq => by
        have h1 := hall e he hb
        rw [heq, hif] at h1; cases h1
      have h2 := wpOp_putIf hoj (hfree j oj hoj hji hjun hnot) (fun cs b => hsel i oi cs b hi) (fun cs b => hsel j oj cs b hoj) hQ hy h1
      have hc' : ∀ k ok, ops[k]? = some ok → (listed.setIfInBounds j true).getD k false = true → ∀ e ∈ ok.after, Region.binds md e = true → (listed.setIfInBounds j true).getD e.on false = true := by
        intro k ok hok hl e he hb
        by_cases hjk : j = k
        · subst hjk
          have : ok = oj := Option.some.inj (hok.symm.trans hoj)
          subst this
          exact getD_set_true (hall e he hb)
        · rw [getD_set_ne false hjk] at hl
          exact getD_set_true (hc k ok hok hl e he hb)
      have hfree' : ∀ k ok, ops[k]? = some ok → k ≠ i → (listed.setIfInBounds j true).getD k true = false →
          (∀ e ∈ ok.after, Region.binds md e = true → e.on ≠ i) → oi.apart ops ok = true := fun k ok hk hki hun hno => by
        refine hfree k ok hk hki ?_ hno
        by_cases hjk : j = k
        · subst hjk; exact hjun
        · rw [getD_set_ne true hjk] at hun; exact hun
      refine wpOp_mono (fun a' w' h3 => ⟨h3.2.1, ?_⟩) h2
      have hsx := hx j w' (Array.getElem?_eq_some_iff.1 hoj).1 hjun hdep h3.2.1.1 h3.2.1.2
      have hx' : ∀ k w, k < ops.size → (listed.setIfInBounds j true).getD k true = false → depB md ops n k i = false → S2 w → (nd k = true → S1 w) → Sx w := fun k w hk hun => by
        refine hx k w hk ?_
        by_cases hjk : j = k
        · subst hjk; exact hjun
        · rw [getD_set_ne true hjk] at hun; exact hun
      refine ih (listed.setIfInBounds j true) a' w' hx' hc' hfree' (ready_mono hr (Ne.symm hji)) h3.1 hsx ⟨h3.2.1.1, hback w' hsx h3.2.1.1⟩ ?_ hback
      rw [Array.setIfInBounds_comm _ _ hji]
      exact h3.2.2

/-- Take number i first: it reads what S1 and S2 say; what breaks S1 waits for it. -/
theorem wpAnyN_take1 (n : Nat) (d : Option Tmp) {i : Nat} {oi : Oper} {v : Value} {fuel : Nat} {listed : Array Bool} {a : Act} {w : World} (hi : ops[i]? = some oi) (hdd : oi.dst = d)
    (hs : Region.noSelect ops = true) (hf : Region.free md ops listed i = true) (hr : (Region.ready md ops listed).contains i = true) (hc : closedB md ops listed = true)
    (hd : ((List.range ops.size).all fun j => listed.getD j true || (nd j || depB md ops n j i)) = true)
    (hQ : ∀ c a w, Q (.panic c) (a.put d v) w → Q (.panic c) a w) (hy : YieldsIf P ops (fun w => S1 w ∧ S2 w) oi v a) (hS : S1 w ∧ S2 w)
    (h : wpAnyN P md ops Q S1 S2 nd fuel (listed.setIfInBounds i true) (a.put d v) w) : wpAnyN P md ops Q S1 S2 nd (fuel + 1) listed a w := by
  subst hdd
  exact wpAnyN_first hi (Region.noSelect_spec hs) hQ n fuel listed a w (fun j w hj hun hdj h2 h1 => by
    have := List.all_eq_true.1 hd j (List.mem_range.2 hj)
    rw [hun, hdj, Bool.or_false, Bool.false_or] at this
    exact ⟨h1 this, h2⟩) (closedB_spec hc) (Region.free_spec hi hf) (by simpa using hr) hy hS ⟨hS.2, fun _ => hS.1⟩ h (fun _ hx _ _ => hx.1)
/-- Take number i first: it reads what S2 says. -/
theorem wpAnyN_take2 (d : Option Tmp) {i : Nat} {oi : Oper} {v : Value} {fuel : Nat} {listed : Array Bool} {a : Act} {w : World} (hi : ops[i]? = some oi) (hdd : oi.dst = d)
    (hs : Region.noSelect ops = true) (hf : Region.free md ops listed i = true) (hr : (Region.ready md ops listed).contains i = true) (hc : closedB md ops listed = true)
    (hni : nd i = false)
    (hQ : ∀ c a w, Q (.panic c) (a.put d v) w → Q (.panic c) a w) (hy : YieldsIf P ops S2 oi v a) (hS : S2 w)
    (h : wpAnyN P md ops Q S1 S2 nd fuel (listed.setIfInBounds i true) (a.put d v) w) : wpAnyN P md ops Q S1 S2 nd (fuel + 1) listed a w := by
  subst hdd
  exact wpAnyN_first hi (Region.noSelect_spec hs) hQ 0 fuel listed a w (fun _ _ _ _ _ h2 _ => h2) (closedB_spec hc) (Region.free_spec hi hf) (by simpa using hr) hy hS ⟨hS, fun h => by rw [hni] at h; cases h⟩ h (fun _ _ _ h => by rw [hni] at h; cases h)
theorem wpAnyN_one {i : Nat} {o : Oper} {fuel : Nat} {listed : Array Bool} {a : Act} {w : World} (hr : Region.ready md ops listed = [i]) (ho : ops[i]? = some o)
    (h : ∀ K : Act → World → Prop, Hid (∀ a' w', S2 w' → (nd i = true → S1 w') → wpAnyN P md ops Q S1 S2 nd fuel (listed.setIfInBounds i true) a' w' → K a' w') →
      if Region.wanted o (yielded ops a.tmps) = true then o.wp P a w K Q else K (a.put o.dst undef) w) :
    wpAnyN P md ops Q S1 S2 nd (fuel + 1) listed a w := by
  have h := h (fun a' w' => (S2 w' ∧ (nd i = true → S1 w')) ∧ wpAnyN P md ops Q S1 S2 nd fuel (listed.setIfInBounds i true) a' w') (fun _ _ h2 h1 h3 => ⟨⟨h2, h1⟩, h3⟩)
  refine ⟨fun h0 => (by rw [hr] at h0; cases h0), fun j hj => ?_⟩
  rw [hr] at hj
  obtain rfl := List.mem_singleton.1 hj
  unfold wpOp
  simp only [ho]
  split
  · rename_i hw
    rw [if_pos hw] at h
    exact .inl h
  · rename_i hw
    rw [if_neg hw] at h
    exact h
theorem wpAnyN_done {listed : Array Bool} {a : Act} {w : World} (hr : Region.ready md ops listed = []) (h : Q .normal a w) :
    ∀ fuel, wpAnyN P md ops Q S1 S2 nd fuel listed a w
  | 0 => ⟨hr, h⟩
  | _ + 1 => ⟨fun _ => h, by rw [hr]; simp⟩
theorem wp_region_N (S1 S2 : World → Prop) (nd : Nat → Bool) {id : Nat} {a : Act} {w : World} (hm : P.follows .mixedOrders = true)
    (h : wpAnyN P .any ops Q S1 S2 nd ops.size (Array.replicate ops.size false) a w.drew) : (Code.region id ops true).wp P Q a w :=
  wp_region_any hm (wpAny_of_N _ _ _ _ h)
end
end Go.Proofs.YtdcgdnlpagadcaaDoorMem

/- Contracts of package disk: write, where it writes. -/
namespace Go.Proofs.YtdcgdnlpagadcaaDoor
open Go.RowKit Go.Proofs.YtdcgdnlpagadcaaDoorMem Go.Maps

set_option maxHeartbeats 3200000 in
set_option maxRecDepth 100000 in
theorem write_some (b N : Nat) (FP : List Nat) (st : DS) (kv : Value) (f : Int) (a : Nat) (s : ByteArray) (cnt : Nat) (F1 : Int → File) (w : World) (h : DiskObj w b FP N st kv) (hm : mayCode st f = 0) (hf : (Lit.int .i64 f).wf = true)
    (ha : a + s.size ≤ 16777216) (hs : 0 < s.size) (hx : (st.F f).now.size ≤ 16777216) (hN : N + cnt + 10 < maxLen)
    (hQl : st.Q.length ≤ 1000000) (hcnt : cnt = (a + s.size - 1) / 64 - a / 64 + 1) (hF1 : F1 = updF st.F f ⟨putB (st.F f).now a s, (st.F f).last⟩) :
    Calls Tryd.prog 45 #[.pointer (some ⟨b, 0, none⟩), .int .i64 f, .int .i64 a, .string s] w fun e w' => e = .returned (.int .i64 0) ∧
      DiskPost w b FP (N + 1 + cnt) { st with F := F1, Q := addSecs st.Q f ((a : Int) / 64) cnt } kv w' := by
  have HCN := Lib.hid hcnt; clear hcnt
  have HF1 := Lib.hid hF1; clear hF1
  have HN := Lib.hid h
  have HM := Lib.hid hm; clear hm
  obtain ⟨fb, sb, qv, hb, hF, hS, hQ, hne, -⟩ := h
  have c0 : w.cell? ⟨b, 0, none⟩ = some (.map (some fb)) := cell_at hb 0
  obtain ⟨x, hxe⟩ : ∃ x, x = st.F f := ⟨_, rfl⟩
  have HF1 : Hid (F1 = updF st.F f ⟨putB x.now a s, x.last⟩) := hxe ▸ HF1.out
  have hl := hF.look f hf
  rw [← hxe] at hl hx
  unfold File.val at hl
  have HX := Lib.hid hxe; clear hxe
  have hd1 : decide ((a : Int) < 0) = false := decide_eq_false (by omega)
  have hd2 : decide ((16777216 : Int) < (a : Int)) = false := decide_eq_false (by omega)
  have hsub : IntKind.i64.wrap (16777216 - (a : Int)) = 16777216 - (a : Int) := by rw [IntKind.wrap_i64]; omega
  have hd3 : decide (16777216 - (a : Int) < (s.size : Int)) = false := decide_eq_false (by omega)
  have hemp : s.toList.isEmpty = false := by
    rw [ByteArray.toList_eq]
    cases h : s.data.toList
    · have : s.data.toList.length = s.size := by simp
      rw [h] at this; simp at this; omega
    · rfl
  clear hb hF hS hQ hne
  go_enter Tryd.func45, Tryd.ntmps45
  go_wp2_with fail
  refine (disk_may b N FP st kv f _ HN.out).mono ?_
  rintro e w' ⟨rfl, rfl⟩
  rw [HM.out]
  go_wp2_with fail
  refine (put_any x.now s a _ (by omega) (by omega)).mono ?_
  rintro e w1 ⟨rfl, ht⟩
  have hX : w1.heap[w.heap.size]? = some (.cells #[.string x.now, .string x.last] 83 (0, 0)) := (ht.block _ (by simp) (by simp)).trans (heap_alloc_here _ _)
  have h1 := HN.out.kept ((Turns.alloc [] w (.cells #[.string x.now, .string x.last] 83)).trans ht) (by simp)
  have hXs : w.heap.size < w1.heap.size := lt_of_at hX
  have x0 : w1.cell? ⟨w.heap.size, 0, none⟩ = some (.string x.now) := cell_at hX 0
  have x1 : w1.cell? ⟨w.heap.size, 1, none⟩ = some (.string x.last) := cell_at hX 1
  have y0 : w1.frozen? ⟨w.heap.size, 0, none⟩ = false := free_at hX 0
  have hT1 := Lib.hid ((Turns.alloc [] w (.cells #[.string x.now, .string x.last] 83)).trans ht)
  have hH1 := Lib.hid (And.intro h1 (And.intro hX hXs))
  clear ht hX h1 hXs hl c0
  go_wp2_with fail
  have hW2 : Hid (Turns [] w (w1.setCell ⟨w.heap.size, 0, none⟩ (.string (putB x.now a s)))) := hT1.out.trans_new (Turns.setCell (S := [w.heap.size]) _ _ _ (by simp)) (fun x hx => Or.inr (by simp at hx; omega))
  have hX2 : (w1.setCell ⟨w.heap.size, 0, none⟩ (.string (putB x.now a s))).heap[w.heap.size]? = some (.cells #[.string (putB x.now a s), .string x.last] 83 (0, 0)) := heap_setCell_at hH1.out.2.1 0 _
  generalize (w1.setCell ⟨w.heap.size, 0, none⟩ (.string (putB x.now a s))) = W2 at hW2 hX2 ⊢
  have h2 := HN.out.kept hW2.out (by simp)
  obtain ⟨fb2, sb2, qv2, hb, hF, hS, hQ, hne, hFP⟩ := h2
  have x0 : W2.cell? ⟨w.heap.size, 0, none⟩ = some (.string (putB x.now a s)) := cell_at hX2 0
  have x1 : W2.cell? ⟨w.heap.size, 1, none⟩ = some (.string x.last) := cell_at hX2 1
  have c0 : W2.cell? ⟨b, 0, none⟩ = some (.map (some fb2)) := cell_at hb 0
  obtain ⟨W3, hr, hF3, hg3⟩ := FilesAt.store (w := W2.drew) (n := N) (F := st.F) hF (by omega) f hf ⟨putB x.now a s, x.last⟩
  unfold File.val at hr
  simp only at hr
  have H2 := Lib.hid (And.intro hb (And.intro hF (And.intro hS (And.intro hQ (And.intro hne hFP)))))
  have H3 := Lib.hid (And.intro hF3 hg3)
  clear hb hF hS hQ hne hFP hF3 hg3 hX2
  go_region
  have HD3 : DiskPost w b FP (N + 1) { st with F := F1 } kv W3 := by
    obtain ⟨hb, hF, hS, hQ, hne, hFP⟩ := H2.out
    have ht : Turns [fb2] W2 W3 := (Turns.of_grown (S := [fb2]) H3.out.2 (fun k hk => by simp at hk; simp [hk])).of_drew
    have hnf := hF.ne hb
    refine ⟨FP, ⟨fb2, sb2, qv2, ?_, HF1.out ▸ H3.out.1, ?_, own_kept hQ ht (fun x hx hxb => ?_), hne, hFP⟩, Evolves.of_same ((hW2.out.mono (by simp)).trans (ht.mono (by rw [hFP]; simp)))⟩
    · rw [ht.block b (lt_of_at hb) (by simp; exact fun e => hnf e.symm)]; exact hb
    · exact (hS.more (by omega)).kept ht (by simp; exact fun e => hne e.symm)
    · simp at hxb; subst hxb; exact hF.not_own hQ hx
  have HD := Lib.hid HD3; clear HD3 x0 x1 c0 hr H2 H3 hW2 hT1 hH1
  clear y0
  go_wp2_with fail
  go_loopw [11] (fun i wr => ∃ k : Nat, k ≤ cnt ∧ i = .int .i64 ((a : Int) / 64 + (k : Int)) ∧ Hid (DiskPost w b FP (N + 1 + k) { st with F := F1, Q := addSecs st.Q f ((a : Int) / 64) k } kv wr)) (fun i _ => cnt - (intOf i - (a : Int) / 64).toNat)
  case atStart => exact ⟨0, Nat.zero_le _, by simp, HD.out⟩
  case round =>
    obtain ⟨k, hk, rfl, HR⟩ := hrel
    by_cases hlt : k < cnt
    · have hd4 : decide ((a : Int) / 64 + (k : Int) ≤ ((a : Int) + (s.size : Int) - 1) / 64) = true := by
        have := HCN.out
        exact decide_eq_true (by omega)
      have hn0 : 0 ≤ (a : Int) / 64 + (k : Int) := by omega
      have hn1 : (a : Int) / 64 + (k : Int) ≤ 300000 := by
        have := HCN.out
        omega
      have hnw : (Lit.int .i64 ((a : Int) / 64 + (k : Int))).wf = true := wf64 (by omega) (by omega)
      obtain ⟨i0, hi, hz0, hz1, hz2⟩ := info_parts Tryd.info81
      obtain ⟨FP1, hD1, hev1⟩ := HR.out
      have HEV := Lib.hid hev1; clear hev1
      have HD1 := Lib.hid hD1
      obtain ⟨fb1, sb1, qv1, hb1, hFF1, hS1, hQ1, hne1, hFP1⟩ := hD1
      dsimp only at hb1 hFF1 hS1 hQ1
      obtain ⟨qa, qc, rfl, -⟩ := own_shape hQ1
      have HW := Lib.hid (And.intro hb1 (And.intro hFF1 (And.intro hS1 (And.intro hQ1 (And.intro hne1 hFP1)))))
      have hbs : b < wr.heap.size := lt_of_at hb1
      have ca2 : ∀ o, (wr.alloc o).cell? ⟨b, 2, none⟩ = some (.map (some sb1)) := fun o => by rw [World.cell?_alloc_past _ _ _ hbs]; exact cell_at hb1 2
      have hlk : ∀ (o : Obj) (nq : Nat), (Instr.lookup 58 (.map (some sb1)) (.agg #[.int .i64 f, .int .i64 ((a : Int) / 64 + (k : Int))]) false).run Tryd.prog ((wr.alloc o).drewN nq) = .ok (.bool (decide ((f, (a : Int) / 64 + (k : Int)) ∈ addSecs st.Q f ((a : Int) / 64) k))) ((wr.alloc o).drewN nq) :=
        fun o nq => (hS1.kept ((Turns.alloc [] wr o).drewN nq) (by simp)).look f _ hf hnw
      clear hb1 hFF1 hS1 hQ1 hne1 hFP1
      by_cases hmem : (f, (a : Int) / 64 + (k : Int)) ∈ addSecs st.Q f ((a : Int) / 64) k
      · simp only [decide_eq_true hmem] at hlk
        have HM2 := Lib.hid hmem; clear hmem
        go_wp2_with fail
        go_quiet (fail)
        go_wp2_with fail
        go_roundw
        case rel =>
          refine ⟨k + 1, by omega, by go_num, ?_⟩
          have e : addSecs st.Q f ((a : Int) / 64) (k + 1) = addSecs st.Q f ((a : Int) / 64) k := by simp only [addSecs, addSec, if_pos HM2.out]
          rw [e]
          exact DiskPost.trans HEV.out ⟨_, (HD1.out.kept ((Turns.alloc [] _ _).drewN nq) (by simp)).more (by omega), Evolves.of_same (((Turns.alloc [] _ _).drewN nq).mono (by simp))⟩
        case measure => simp [intOf]; omega
      · simp only [decide_eq_false hmem] at hlk
        have HM2 := Lib.hid hmem; clear hmem
        go_wp2_with fail
        go_quiet (fail)
        go_wp2_with fail
        have hVT : Turns [] wr ((wr.alloc (.cells #[.int .i64 f, .int .i64 ((a : Int) / 64 + (k : Int))] 81)).drewN nq) := (Turns.alloc [] wr _).drewN nq
        have hVB : ((wr.alloc (.cells #[.int .i64 f, .int .i64 ((a : Int) / 64 + (k : Int))] 81)).drewN nq).heap[wr.heap.size]? = some (.cells #[.int .i64 f, .int .i64 ((a : Int) / 64 + (k : Int))] 81 (0, 0)) := heap_alloc_here wr _
        generalize ((wr.alloc (.cells #[.int .i64 f, .int .i64 ((a : Int) / 64 + (k : Int))] 81)).drewN nq) = V at hVT hVB ⊢
        obtain ⟨w1b, w1F, w1S, w1Q, w1n, w1P⟩ := HW.out
        have hlq := own_lt w1Q
        have hb3 := (hVT.block b hbs (by simp)).trans w1b
        have hF3 := w1F.kept hVT (by simp)
        have hS3 := w1S.kept hVT (by simp)
        have hQ3 := own_kept w1Q hVT (by simp)
        have hbq := own_ne w1Q w1b (by decide)
        have hsl := w1S.lt
        have HBQ := Lib.hid (And.intro hbq hlq)
        have HVT := Lib.hid hVT
        have HQ3 := Lib.hid hQ3
        clear hVT ca2 hlk w1b w1Q hbq hlq
        generalize wr.heap.size = B0 at *
        have k1 : V.drew.cell? ⟨b, 1, none⟩ = some (.slice qa (addSecs st.Q f ((a : Int) / 64) k).length qc) := cell_at hb3 1
        have k2 : V.drew.cell? ⟨b, 2, none⟩ = some (.map (some sb1)) := cell_at hb3 2
        have k3 : V.drew.cell? ⟨B0, 0, none⟩ = some (.int .i64 f) := cell_at hVB 0
        have k4 : V.drew.cell? ⟨B0, 1, none⟩ = some (.int .i64 ((a : Int) / 64 + (k : Int))) := cell_at hVB 1
        have hs1 := k1
        have hs2 : V.drew.cell? ⟨b, 2, none⟩ = some (.map (some sb1)) ∧ V.drew.cell? ⟨B0, 0, none⟩ = some (.int .i64 f) ∧ V.drew.cell? ⟨B0, 1, none⟩ = some (.int .i64 ((a : Int) / 64 + (k : Int))) := ⟨k2, k3, k4⟩
        have HB3 := Lib.hid hb3
        have HVB := Lib.hid hVB
        have HX3 := Lib.hid (And.intro hF3 (And.intro hS3 (And.intro w1n w1P)))
        clear hb3 hF3 hS3 hQ3 w1F w1S w1n w1P hVB k1 k2 k3 k4
        refine wp_region_N (fun w' => w'.cell? ⟨b, 1, none⟩ = some (.slice qa (addSecs st.Q f ((a : Int) / 64) k).length qc)) (fun w' => w'.cell? ⟨b, 2, none⟩ = some (.map (some sb1)) ∧ w'.cell? ⟨B0, 0, none⟩ = some (.int .i64 f) ∧ w'.cell? ⟨B0, 1, none⟩ = some (.int .i64 ((a : Int) / 64 + (k : Int)))) (fun j => j == 9 || j == 11) (by kernel_rfl) ?_
        refine wpAnyN_take2 (some 80) (i := 5) (v := ?_) rfl rfl (by kernel_rfl) (by kernel_rfl) (by kernel_rfl) (by kernel_rfl) rfl (fun _ _ _ h => h) (Or.inl ⟨by rfl, ?_⟩) hs2 ?_
        rotate_left
        · intro w' hSw; obtain ⟨g2, g3, g4⟩ := hSw; go_simp; try (with_reducible rfl)
        simp only [Act.put, List.setIfInBounds_toArray, List.set_cons_zero, List.set_cons_succ]
        refine wpAnyN_take2 (some 75) (i := 0) (v := ?_) rfl rfl (by kernel_rfl) (by kernel_rfl) (by kernel_rfl) (by kernel_rfl) rfl (fun _ _ _ h => h) (Or.inl ⟨by rfl, ?_⟩) hs2 ?_
        rotate_left
        · intro w' hSw; obtain ⟨g2, g3, g4⟩ := hSw; go_simp; try (with_reducible rfl)
        simp only [Act.put, List.setIfInBounds_toArray, List.set_cons_zero, List.set_cons_succ]
        refine wpAnyN_take2 (some 76) (i := 1) (v := ?_) rfl rfl (by kernel_rfl) (by kernel_rfl) (by kernel_rfl) (by kernel_rfl) rfl (fun _ _ _ h => h) (Or.inl ⟨by rfl, ?_⟩) hs2 ?_
        rotate_left
        · intro w' hSw; obtain ⟨g2, g3, g4⟩ := hSw; go_simp; try (with_reducible rfl)
        simp only [Act.put, List.setIfInBounds_toArray, List.set_cons_zero, List.set_cons_succ]
        refine wpAnyN_take2 (some 77) (i := 2) (v := ?_) rfl rfl (by kernel_rfl) (by kernel_rfl) (by kernel_rfl) (by kernel_rfl) rfl (fun _ _ _ h => h) (Or.inl ⟨by rfl, ?_⟩) hs2 ?_
        rotate_left
        · intro w' hSw; obtain ⟨g2, g3, g4⟩ := hSw; go_simp; try (with_reducible rfl)
        simp only [Act.put, List.setIfInBounds_toArray, List.set_cons_zero, List.set_cons_succ]
        refine wpAnyN_take2 (some 78) (i := 3) (v := ?_) rfl rfl (by kernel_rfl) (by kernel_rfl) (by kernel_rfl) (by kernel_rfl) rfl (fun _ _ _ h => h) (Or.inl ⟨by rfl, ?_⟩) hs2 ?_
        rotate_left
        · intro w' hSw; obtain ⟨g2, g3, g4⟩ := hSw; go_simp; try (with_reducible rfl)
        simp only [Act.put, List.setIfInBounds_toArray, List.set_cons_zero, List.set_cons_succ]
        refine wpAnyN_take2 (some 79) (i := 4) (v := ?_) rfl rfl (by kernel_rfl) (by kernel_rfl) (by kernel_rfl) (by kernel_rfl) rfl (fun _ _ _ h => h) (Or.inl ⟨by rfl, ?_⟩) hs2 ?_
        rotate_left
        · intro w' hSw; obtain ⟨g2, g3, g4⟩ := hSw; go_simp; try (with_reducible rfl)
        simp only [Act.put, List.setIfInBounds_toArray, List.set_cons_zero, List.set_cons_succ]
        refine wpAnyN_take2 (some 81) (i := 6) (v := ?_) rfl rfl (by kernel_rfl) (by kernel_rfl) (by kernel_rfl) (by kernel_rfl) rfl (fun _ _ _ h => h) (Or.inl ⟨by rfl, ?_⟩) hs2 ?_
        rotate_left
        · intro w' hSw; obtain ⟨g2, g3, g4⟩ := hSw; go_simp; try (with_reducible rfl)
        simp only [Act.put, List.setIfInBounds_toArray, List.set_cons_zero, List.set_cons_succ]
        refine wpAnyN_take2 (some 82) (i := 7) (v := ?_) rfl rfl (by kernel_rfl) (by kernel_rfl) (by kernel_rfl) (by kernel_rfl) rfl (fun _ _ _ h => h) (Or.inl ⟨by rfl, ?_⟩) hs2 ?_
        rotate_left
        · intro w' hSw; obtain ⟨g2, g3, g4⟩ := hSw; go_simp; try (with_reducible rfl)
        simp only [Act.put, List.setIfInBounds_toArray, List.set_cons_zero, List.set_cons_succ]
        refine wpAnyN_take2 (some 83) (i := 8) (v := ?_) rfl rfl (by kernel_rfl) (by kernel_rfl) (by kernel_rfl) (by kernel_rfl) rfl (fun _ _ _ h => h) (Or.inl ⟨by rfl, ?_⟩) hs2 ?_
        rotate_left
        · intro w' hSw; obtain ⟨g2, g3, g4⟩ := hSw; go_simp; try (with_reducible rfl)
        simp only [Act.put, List.setIfInBounds_toArray, List.set_cons_zero, List.set_cons_succ]
        refine wpAnyN_take2 (some 85) (i := 10) (v := ?_) rfl rfl (by kernel_rfl) (by kernel_rfl) (by kernel_rfl) (by kernel_rfl) rfl (fun _ _ _ h => h) (Or.inl ⟨by rfl, ?_⟩) hs2 ?_
        rotate_left
        · intro w' hSw; obtain ⟨g2, g3, g4⟩ := hSw; go_simp; try (with_reducible rfl)
        simp only [Act.put, List.setIfInBounds_toArray, List.set_cons_zero, List.set_cons_succ]
        refine wpAnyN_take1 2 (some 84) (i := 9) (v := ?_) rfl rfl (by kernel_rfl) (by kernel_rfl) (by kernel_rfl) (by kernel_rfl) (by kernel_rfl) (fun _ _ _ h => h) (Or.inl ⟨by rfl, ?_⟩) ⟨hs1, hs2⟩ ?_
        rotate_left
        · intro w' hSw; obtain ⟨g1, g2, g3, g4⟩ := hSw; go_simp; try (with_reducible rfl)
        simp only [Act.put, List.setIfInBounds_toArray, List.set_cons_zero, List.set_cons_succ]
        refine wpAnyN_one (i := 11) (by kernel_rfl) rfl fun K hK => ?_
        go_simp
        have ha11 : ∀ {c : Addr} {u : Value}, V.drew.cell? c = some u → ((V.alloc (.cells #[.int .i64 f, .int .i64 ((a : Int) / 64 + (k : Int))] 81)).drew).cell? c = some u := fun h => ((Turns.alloc [] V _).drew.cell (World.block_lt_of_cell? V _ h) (by simp)).trans h
        refine hK.out _ _ ⟨ha11 hs2.1, ha11 hs2.2.1, ha11 hs2.2.2⟩ (fun _ => ha11 hs1) ?_
        clear hK K
        have h11 : Turns [] V ((V.alloc (.cells #[.int .i64 f, .int .i64 ((a : Int) / 64 + (k : Int))] 81)).drew) := (Turns.alloc [] V _).drew
        have hq11 := own_kept HQ3.out h11 (by simp)
        refine wpAnyN_one (i := 12) (by kernel_rfl) rfl fun K hK => ?_
        refine step_append_own rfl (.tmp 84) (.tmp 86) 59 rfl 81 i0 (.agg #[.int .i64 0, .int .i64 0]) 2 16 Tryd.underlying59 hi hz0 hz1 hz2 rfl (by decide) (.slice qa (addSecs st.Q f ((a : Int) / 64) k).length qc) (addSecs st.Q f ((a : Int) / 64) k).length (secCells (addSecs st.Q f ((a : Int) / 64) k)) (by simp [Act.eval]) hq11 ⟨V.heap.size, 0, none⟩ 1 1 [.int .i64 f, .int .i64 ((a : Int) / 64 + (k : Int))] (by simp [Act.eval]) rfl (new_cells _ _ _ _ rfl) (by intro u hu; simp at hu; rcases hu with rfl | rfl <;> rfl) ?b1 ?b2 ?_
        case b1 => unfold maxLen at hN ⊢; have := addSecs_length st.Q f ((a : Int) / 64) k; omega
        case b2 => have := addSecs_length st.Q f ((a : Int) / 64) k; omega
        intro v' w12 hown hgr hat
        obtain ⟨hX1, hX2, hX3, hX4⟩ := HX3.out
        obtain ⟨d1, d2, d3, d4, ve, se, wE, wS, d5, d6, d7, d8, d9⟩ := sec_added (st := { st with F := F1, Q := addSecs st.Q f ((a : Int) / 64) k }) (n := (a : Int) / 64 + (k : Int)) hf hnw (by omega) HB3.out hX1 hX2 HQ3.out hX3 hX4 h11 hown hgr hat
        obtain ⟨va, vc, rfl, -⟩ := own_shape hown
        have HP := Lib.hid d9
        clear d9 hown hgr hat hq11 hX1 hX2 hX3 hX4 ha11
        obtain ⟨hbq, hlq⟩ := HBQ.out
        have e2 : w12.cell? ⟨b, 2, none⟩ = some (.map (some sb1)) := (d3.cell (a := ⟨b, 2, none⟩) (World.block_lt_of_cell? V _ hs2.1) hbq).trans hs2.1
        have e3 : w12.cell? ⟨B0, 0, none⟩ = some (.int .i64 f) := (d3.cell (a := ⟨B0, 0, none⟩) (World.block_lt_of_cell? V _ hs2.2.1) (fun h => absurd (hlq _ h) (Nat.lt_irrefl _))).trans hs2.2.1
        have e4 : w12.cell? ⟨B0, 1, none⟩ = some (.int .i64 ((a : Int) / 64 + (k : Int))) := (d3.cell (a := ⟨B0, 1, none⟩) (World.block_lt_of_cell? V _ hs2.2.2) (fun h => absurd (hlq _ h) (Nat.lt_irrefl _))).trans hs2.2.2
        have hs15 : ∀ {u v : Value} {i : Nat}, i ≠ 1 → w12.cell? ⟨b, i, none⟩ = some u → (w12.setCell ⟨b, 1, none⟩ v).cell? ⟨b, i, none⟩ = some u := fun hi h => (World.cell?_setCell_other _ _ _ _ (by intro e; cases e; exact hi rfl)).trans h
        have hs16 : ∀ {u v : Value} {i : Nat}, w12.cell? ⟨B0, i, none⟩ = some u → (w12.setCell ⟨b, 1, none⟩ v).cell? ⟨B0, i, none⟩ = some u := fun h => (World.cell?_setCell_other _ _ _ _ (by intro e; cases e; omega)).trans h
        have HS15 := Lib.hid (show (w12.setCell ⟨b, 1, none⟩ (.slice va ((addSecs st.Q f ((a : Int) / 64) k).length + 1) vc)).cell? ⟨b, 2, none⟩ = some (.map (some sb1)) ∧ (w12.setCell ⟨b, 1, none⟩ (.slice va ((addSecs st.Q f ((a : Int) / 64) k).length + 1) vc)).cell? ⟨B0, 0, none⟩ = some (.int .i64 f) ∧ (w12.setCell ⟨b, 1, none⟩ (.slice va ((addSecs st.Q f ((a : Int) / 64) k).length + 1) vc)).cell? ⟨B0, 1, none⟩ = some (.int .i64 ((a : Int) / 64 + (k : Int))) from ⟨hs15 (by decide) e2, hs16 e3, hs16 e4⟩)
        have HSE : Hid (∀ W, Turns [sb1] (w12.setCell ⟨b, 1, none⟩ (.slice va ((addSecs st.Q f ((a : Int) / 64) k).length + 1) vc)) W → W.cell? ⟨b, 2, none⟩ = some (.map (some sb1)) ∧ W.cell? ⟨B0, 0, none⟩ = some (.int .i64 f) ∧ W.cell? ⟨B0, 1, none⟩ = some (.int .i64 ((a : Int) / 64 + (k : Int)))) := fun W hW =>
          ⟨(hW.cell (World.block_lt_of_cell? _ _ HS15.out.1) (by simp; exact fun e => d4 e.symm)).trans HS15.out.1, (hW.cell (World.block_lt_of_cell? _ _ HS15.out.2.1) (by simp; omega)).trans HS15.out.2.1, (hW.cell (World.block_lt_of_cell? _ _ HS15.out.2.2) (by simp; omega)).trans HS15.out.2.2⟩
        have HTE := Lib.hid d6
        have HTS := Lib.hid d8
        clear hs15 hs16 d6 d8
        unfold secVal at d5
        refine hK.out _ _ ⟨e2, e3, e4⟩ (fun h => absurd h (by decide)) ?_
        clear hK K
        simp only [Act.put, List.setIfInBounds_toArray]
        refine wpAnyN_one (i := 13) (by kernel_rfl) rfl fun K hK => ?_
        go_simp
        refine hK.out _ _ ⟨e2, e3, e4⟩ (fun h => absurd h (by decide)) ?_
        clear hK K
        refine wpAnyN_one (i := 14) (by kernel_rfl) rfl fun K hK => ?_
        go_simp
        refine hK.out _ _ ⟨e2, e3, e4⟩ (fun h => absurd h (by decide)) ?_
        clear hK K
        try (simp only [Act.put, List.setIfInBounds_toArray])
        refine wpAnyN_one (i := 15) (by kernel_rfl) rfl fun K hK => ?_
        go_simp
        refine hK.out _ _ HS15.out (fun h => absurd h (by decide)) ?_
        clear hK K
        try (simp only [Act.put, List.setIfInBounds_toArray])
        refine wpAnyN_one (i := 16) (by kernel_rfl) rfl fun K hK => ?_
        go_simp
        refine hK.out _ _ (HSE.out _ HTE.out) (fun h => absurd h (by decide)) ?_
        clear hK K
        try (simp only [Act.put, List.setIfInBounds_toArray])
        refine wpAnyN_one (i := 17) (by kernel_rfl) rfl fun K hK => ?_
        go_simp
        refine hK.out _ _ (HSE.out _ HTE.out) (fun h => absurd h (by decide)) ?_
        clear hK K
        try (simp only [Act.put, List.setIfInBounds_toArray])
        refine wpAnyN_one (i := 18) (by kernel_rfl) rfl fun K hK => ?_
        go_simp
        refine hK.out _ _ (HSE.out _ HTS.out) (fun h => absurd h (by decide)) ?_
        clear hK K
        refine wpAnyN_done (by kernel_rfl) ?_ _
        try (simp only [Act.put, List.setIfInBounds_toArray])
        go_wp2_with fail
        go_roundw
        case rel =>
          refine ⟨k + 1, by omega, by go_num, ?_⟩
          have e : addSecs st.Q f ((a : Int) / 64) (k + 1) = addSecs st.Q f ((a : Int) / 64) k ++ [(f, (a : Int) / 64 + (k : Int))] := by simp only [addSecs, addSec, if_neg HM2.out]
          rw [e]
          exact (DiskPost.trans HEV.out (DiskPost.trans (Evolves.of_same (HVT.out.mono (by simp))) HP.out))
        case measure => simp [intOf]; omega
    · have hkc : k = cnt := by omega
      subst hkc
      have hd4 : decide ((a : Int) / 64 + (k : Int) ≤ ((a : Int) + (s.size : Int) - 1) / 64) = false := by
        have := HCN.out
        exact decide_eq_false (by omega)
      go_wp2_with fail
      go_ret
      exact ⟨rfl, HR.out⟩

end Go.Proofs.YtdcgdnlpagadcaaDoor
