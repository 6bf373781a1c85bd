/- Contracts and lemmas (texts DiskX, joined by a program). -/
import Derived.Test.YtdcgdnlpagadcaaDoorMc4
/- Contracts of package disk: Crash, its first loop. -/
namespace Go.Proofs.YtdcgdnlpagadcaaDoor
open Go.RowKit Go.Proofs.YtdcgdnlpagadcaaDoorMem Go.Maps

/-- The cells of the queue's sector number i. -/
theorem sec_cell {w : World} {g : Nat} {cur : Array Value} {Q : List (Int × Int)} (hg : w.heap[g]? = some (.cells cur 81 (0, 0))) (htake : cur.toList.take (Q.length * 2) = secCells Q) (i : Nat) (hi : i < Q.length) :
    w.cell? ⟨g, i * 2, none⟩ = some (.int .i64 Q[i].1) ∧ w.cell? ⟨g, i * 2 + 1, none⟩ = some (.int .i64 Q[i].2) := by
  have key : ∀ (Q : List (Int × Int)) (i : Nat) (h : i < Q.length), (secCells Q)[i * 2]? = some (.int .i64 Q[i].1) ∧ (secCells Q)[i * 2 + 1]? = some (.int .i64 Q[i].2) := by
    intro Q
    induction Q with
    | nil => intro i h; simp at h
    | cons a Q ih =>
      intro i h
      cases i with
      | zero => simp [secCells]
      | succ i =>
        have h' : i < Q.length := by simpa using h
        have := ih i h'
        have e1 : (i + 1) * 2 = i * 2 + 1 + 1 := by omega
        simp only [secCells, List.flatMap_cons, List.cons_append, List.nil_append, e1, List.getElem?_cons_succ, List.getElem_cons_succ] at this ⊢
        exact this
  obtain ⟨h0, h1⟩ := key Q i hi
  have e : ∀ j, j < Q.length * 2 → cur[j]? = (secCells Q)[j]? := fun j hj => by
    rw [← htake, List.getElem?_take_of_lt hj, Array.getElem?_toList]
  exact ⟨(cell_at hg _).trans ((e _ (by omega)).trans h0), (cell_at hg _).trans ((e _ (by omega)).trans h1)⟩

/-- In the middle of a crash: k of the pending sectors have been looked at. -/
def CrashMid (w : World) (b fb M : Nat) (qv kv : Value) (sb : Nat) (lost : Int) (F : Int → File) (wr : World) : Prop :=
  wr.heap[b]? = some (.cells #[.map (some fb), qv, .map (some sb), .int .i64 lost, .bool true, .int .i64 0, kv] 61 (0, 0)) ∧ FilesAt wr fb M F ∧ Turns [b, fb] w wr

theorem CrashMid.skip {w wr W : World} {b fb M : Nat} {qv kv : Value} {sb : Nat} {lost : Int} {F F' : Int → File} (h : wr.heap[b]? = some (.cells #[.map (some fb), qv, .map (some sb), .int .i64 lost, .bool true, .int .i64 0, kv] 61 (0, 0)) ∧ FilesAt wr fb M F ∧ Turns [b, fb] w wr)
    (e : F' = F) (ht : Turns [] wr W) : CrashMid w b fb (M + 1) qv kv sb lost F' W := by
  subst e
  exact ⟨(ht.block b (lt_of_at h.1) (by simp)).trans h.1, (h.2.1.kept ht (by simp)).more (by omega), h.2.2.trans (ht.mono (by simp))⟩

theorem FilesAt.congr {w : World} {b n : Nat} {F G : Int → File} (h : FilesAt w b n F) (e : ∀ f : Int, (Lit.int .i64 f).wf = true → G f = F f) : FilesAt w b n G := by
  obtain ⟨D, ho, hm, hD⟩ := h
  exact ⟨D, ho, hm, fun f hf => by rw [e f hf]; exact hD f hf⟩
theorem FRange.kept {w w' : World} {b r n cnt : Nat} {F : Int → File} {left here : Int → Bool} {S : List Nat} (h : FRange w b r n F left here cnt) (ht : Turns S w w') (hb : b ∉ S) (hr : r ∉ S) : FRange w' b r n F left here cnt := by
  obtain ⟨D, lf, hra, rest⟩ := h
  have l1 := hra.owns.lt
  have l2 := hra.lt
  obtain ⟨es, clock, since, seen, c0, hb1, F', hs, rfl, hr1, r2⟩ := hra
  exact ⟨_, lf, ⟨es, clock, since, seen, c0, (ht.block b l1 hb).trans hb1, F', hs, rfl, (ht.block r l2 hr).trans hr1, r2⟩, rest⟩
/-- In the second loop of a crash: the files still to come are as they were, the others have only what is durable. -/
def CrashR (w0 : World) (b fb r M : Nat) (qv kv : Value) (sb : Nat) (lost : Int) (F : Int → File) (here : Int → Bool) (wr : World) : Prop :=
  ∃ (left : Int → Bool) (cnt : Nat) (F2 : Int → File), FRange wr fb r M F2 left here cnt ∧ (∀ f : Int, (Lit.int .i64 f).wf = true → F2 f = if left f = true then F f else lastF F f) ∧
    wr.heap[b]? = some (.cells #[.map (some fb), qv, .map (some sb), .int .i64 lost, .bool true, .int .i64 0, kv] 61 (0, 0)) ∧ Turns [fb] w0 wr

def apartV (v : Value) (FP : List Nat) : Prop := ∀ (a : Addr) (n c : Nat), v = .slice (some a) n c → a.block ∉ FP
theorem IntsV.kept {w w' : World} {v : Value} {K : List Int} {S : List Nat} (h : IntsV w v K) (ht : Turns S w w') (ha : apartV v S) : IntsV w' v K := by
  obtain ⟨a, cap, rfl, hi⟩ := h
  refine ⟨a, cap, rfl, fun i hi' => ?_⟩
  obtain ⟨b, off, rfl, hc⟩ := hi i hi'
  exact ⟨b, off, rfl, (ht.cell (a := ⟨b, off + i, none⟩) (World.block_lt_of_cell? _ _ hc) (ha ⟨b, off, none⟩ _ _ rfl)).trans hc⟩

set_option maxHeartbeats 3200000 in
set_option maxRecDepth 100000 in
theorem crash_down (b N : Nat) (FP : List Nat) (st : DS) (kv v : Value) (K : List Int) (w : World) (h : DiskObj w b FP N st kv) (hd : st.down = true) :
    Calls Tryd.prog 26 #[.pointer (some ⟨b, 0, none⟩), v] w fun e w' => e = .returned (.tuple #[]) ∧ DiskPost w b FP N (crashS st K) kv w' := by
  have e : crashS st K = st := by simp [crashS, hd]
  rw [e]
  have HP := Lib.hid (show DiskPost w b FP N st kv w from ⟨FP, h, Evolves.of_same (Turns.refl _ _)⟩)
  obtain ⟨fb, sb, qv, hb, -⟩ := h
  rw [hd] at hb
  have c4 : w.cell? ⟨b, 4, none⟩ = some (.bool true) := cell_at hb 4
  clear hb hd e
  go_enter Tryd.func26, Tryd.ntmps26
  go_wp2
  refine bodyPost_ret (results_none rfl _ _ _) rfl ?_
  exact ⟨rfl, HP.out⟩

set_option maxHeartbeats 3200000 in
set_option maxRecDepth 100000 in
theorem crash_up (b N : Nat) (FP : List Nat) (st : DS) (kv v : Value) (K : List Int) (w : World) (h : DiskObj w b FP N st kv) (hd : st.down = false) (hI : DInv st) (hv : IntsV w v K) (ha : 0 < K.length → apartV v FP)
    (hQl : st.Q.length ≤ 1000000) (hN : N + st.Q.length + 10 < maxLen) (hK : K.length ≤ 1000000) :
    Calls Tryd.prog 26 #[.pointer (some ⟨b, 0, none⟩), v] w fun e w' => e = .returned (.tuple #[]) ∧ DiskPost w b FP (N + st.Q.length) (crashS st K) kv w' := by
  have HI := Lib.hid hI; clear hI
  have HV := Lib.hid hv
  obtain ⟨ka, kc, rfl, -⟩ := hv
  obtain ⟨fb, sb, qv, hb, hF, hS, hQ, hne, hFP⟩ := h
  rw [hd] at hb
  have HD := Lib.hid hd
  have HA := Lib.hid ha; clear ha
  have HB := Lib.hid hb
  have HQ := Lib.hid hQ
  have HX := Lib.hid (And.intro hF (And.intro hS (And.intro hne hFP)))
  have hfbb := hF.ne hb
  have hsbb := hS.ne hb
  obtain ⟨qa, qc, rfl, -⟩ := own_shape hQ
  have c0 : w.cell? ⟨b, 0, none⟩ = some (.map (some fb)) := cell_at hb 0
  have c1 : w.cell? ⟨b, 1, none⟩ = some (.slice qa st.Q.length qc) := cell_at hb 1
  have c4 : w.cell? ⟨b, 4, none⟩ = some (.bool false) := cell_at hb 4
  have c5 : w.cell? ⟨b, 5, none⟩ = some (.int .i64 st.armed) := cell_at hb 5
  have f4 : w.frozen? ⟨b, 4, none⟩ = false := free_at hb 4
  have f5 : w.frozen? ⟨b, 5, none⟩ = false := free_at hb 5
  clear hb hF hS hQ hne hFP hd
  go_enter Tryd.func26, Tryd.ntmps26
  go_wp2_with fail
  have hx := heap_setCell_at (heap_setCell_at HB.out 4 (.bool true)) 5 (.int .i64 0)
  have ht : Turns [b, fb] w ((w.setCell ⟨b, 4, none⟩ (.bool true)).setCell ⟨b, 5, none⟩ (.int .i64 0)) := (Turns.setCell _ _ _ (by simp)).trans (Turns.setCell _ _ _ (by simp))
  have HM : Hid (CrashMid w b fb N (.slice qa st.Q.length qc) kv sb st.lost st.F ((w.setCell ⟨b, 4, none⟩ (.bool true)).setCell ⟨b, 5, none⟩ (.int .i64 0))) :=
    ⟨hx, HX.out.1.kept ((Turns.setCell (S := [b]) w _ _ (by simp)).trans (Turns.setCell (S := [b]) _ _ _ (by simp))) (by simpa using hfbb), ht⟩
  clear hx ht c0 c1 c4 c5 f4 f5
  generalize ((w.setCell ⟨b, 4, none⟩ (.bool true)).setCell ⟨b, 5, none⟩ (.int .i64 0)) = w1 at HM ⊢
  go_loopw [25] (fun i wr => ∃ k : Nat, k ≤ st.Q.length ∧ i = .int .i64 k ∧ Hid (CrashMid w b fb (N + k) (.slice qa st.Q.length qc) kv sb st.lost (crashTo K st.Q st.F k) wr)) (fun i _ => st.Q.length - (intOf i).toNat)
  case atStart => exact ⟨0, Nat.zero_le _, rfl, HM.out⟩
  case round =>
    obtain ⟨k, hk, rfl, HR⟩ := hrel
    by_cases hlt : k < st.Q.length
    · obtain ⟨m1, m2, m3⟩ := HR.out
      have hbs : b < wr.heap.size := lt_of_at m1
      obtain ⟨g, cap, cur, hqv, hg, htake⟩ : ∃ g cap cur, Value.slice qa st.Q.length qc = .slice (some ⟨g, 0, none⟩) st.Q.length cap ∧ w.heap[g]? = some (.cells cur 81 (0, 0)) ∧ cur.toList.take (st.Q.length * 2) = secCells st.Q := by
        rcases id HQ.out.2 with ⟨_, h0⟩ | ⟨g, cap, cur, h1, _, hg, _, _, _, htake⟩
        · omega
        · exact ⟨g, cap, cur, h1, hg, htake⟩
      obtain ⟨rfl, rfl⟩ : qa = some ⟨g, 0, none⟩ ∧ qc = cap := by simpa using hqv
      have hgb : g ∉ [b, fb] := by
        have h1 := own_ne HQ.out HB.out (by decide)
        have h2 := HX.out.1.not_own HQ.out
        simp [Value.ownBlock] at h1 h2
        simp
        exact ⟨fun e => h1 e.symm, fun e => h2 e.symm⟩
      have hgw : wr.heap[g]? = some (.cells cur 81 (0, 0)) := (m3.block g (lt_of_at hg) hgb).trans hg
      obtain ⟨q0, q1⟩ := sec_cell hgw htake k hlt
      obtain ⟨p1, p2, p3, p4⟩ := HI.out.secs _ (List.getElem_mem hlt)
      have hgs : g < wr.heap.size := lt_of_at hgw
      obtain ⟨p, hp⟩ : ∃ p, p = st.Q[k] := ⟨_, rfl⟩
      rw [← hp] at q0 q1 p1 p2 p3 p4
      obtain ⟨pf, pn⟩ := p
      dsimp only at q0 q1 p1 p2 p3 p4
      obtain ⟨n0, rfl⟩ := Int.eq_ofNat_of_zero_le p3
      have HPK := Lib.hid hp; clear hp
      have hfw : (Lit.int .i64 pf).wf = true := wf64 (by omega) (by omega)
      have hlk : ∀ V, Turns [] wr V → (Instr.lookup 57 (.map (some fb)) (.int .i64 pf) false).run Tryd.prog V = .ok (File.val (crashTo K st.Q st.F k pf)) V := fun V hV => (m2.kept hV (by simp)).look pf hfw
      have HLK := Lib.hid hlk
      have ca0 : wr.cell? ⟨b, 0, none⟩ = some (.map (some fb)) := cell_at m1 0
      have HM1 := Lib.hid (And.intro m1 (And.intro m2 m3))
      have hltI : (k : Int) < (st.Q.length : Int) := by omega
      clear hqv hg htake hgb hgw m1 m2 m3 hlk
      go_wp2_with fail
      have hmul : IntKind.i64.wrap ((n0 : Int) * 64) = (n0 : Int) * 64 := by rw [IntKind.wrap_i64]; omega
      have hV : Hid (Turns [] wr (wr.alloc (.cells #[.int .i64 pf, .int .i64 (n0 : Int)] 81))) := Turns.alloc [] wr _
      have hVB : (wr.alloc (.cells #[.int .i64 pf, .int .i64 (n0 : Int)] 81)).heap[wr.heap.size]? = some (.cells #[.int .i64 pf, .int .i64 (n0 : Int)] 81 (0, 0)) := heap_alloc_here wr _
      generalize (wr.alloc (.cells #[.int .i64 pf, .int .i64 (n0 : Int)] 81)) = V at hV hVB ⊢
      generalize hB0 : wr.heap.size = B0 at *
      have HB0 := Lib.hid hB0; clear hB0
      obtain ⟨x, hxe⟩ : ∃ x, x = crashTo K st.Q st.F k pf := ⟨_, rfl⟩
      have HXE := Lib.hid hxe
      rw [← hxe] at HLK
      have HVB := Lib.hid hVB
      have hs2 : V.drew.cell? ⟨b, 0, none⟩ = some (.map (some fb)) ∧ V.drew.cell? ⟨B0, 0, none⟩ = some (.int .i64 pf) ∧ V.drew.cell? ⟨B0, 1, none⟩ = some (.int .i64 (n0 : Int)) ∧ (Instr.lookup 57 (.map (some fb)) (.int .i64 pf) false).run Tryd.prog V.drew = .ok (.agg #[.string x.now, .string x.last]) V.drew :=
        ⟨(hV.out.cell (World.block_lt_of_cell? _ _ ca0) (by simp)).trans ca0, cell_at hVB 0, cell_at hVB 1, HLK.out _ hV.out.drew⟩
      have HS2 : Hid (∀ W, Turns [] V W → W.cell? ⟨b, 0, none⟩ = some (.map (some fb)) ∧ W.cell? ⟨B0, 0, none⟩ = some (.int .i64 pf) ∧ W.cell? ⟨B0, 1, none⟩ = some (.int .i64 (n0 : Int)) ∧ (Instr.lookup 57 (.map (some fb)) (.int .i64 pf) false).run Tryd.prog W = .ok (.agg #[.string x.now, .string x.last]) W) := fun W hW =>
        ⟨(hW.cell (World.block_lt_of_cell? _ _ hs2.1) (by simp)).trans hs2.1, (hW.cell (World.block_lt_of_cell? _ _ hs2.2.1) (by simp)).trans hs2.2.1, (hW.cell (World.block_lt_of_cell? _ _ hs2.2.2.1) (by simp)).trans hs2.2.2.1, HLK.out _ (hV.out.trans hW)⟩
      clear hVB ca0 hxe q0 q1
      refine wp_region_N (fun _ => True) (fun w' => w'.cell? ⟨b, 0, none⟩ = some (.map (some fb)) ∧ w'.cell? ⟨B0, 0, none⟩ = some (.int .i64 pf) ∧ w'.cell? ⟨B0, 1, none⟩ = some (.int .i64 (n0 : Int)) ∧ (Instr.lookup 57 (.map (some fb)) (.int .i64 pf) false).run Tryd.prog w' = .ok (.agg #[.string x.now, .string x.last]) w') (fun _ => false) (by kernel_rfl) ?_
      refine wpAnyN_take2 (some 30) (i := 0) (v := ?_) rfl rfl (by kernel_rfl) (by kernel_rfl) (by kernel_rfl) (by kernel_rfl) rfl (fun _ _ _ h => h) (Or.inl ⟨by rfl, ?_⟩) hs2 ?_
      rotate_left
      · intro w' hSw; obtain ⟨g1, g2, g3, g4⟩ := hSw; go_simp; try (with_reducible rfl)
      simp only [Act.put, List.setIfInBounds_toArray, List.set_cons_zero, List.set_cons_succ]
      refine wpAnyN_take2 (some 31) (i := 1) (v := ?_) rfl rfl (by kernel_rfl) (by kernel_rfl) (by kernel_rfl) (by kernel_rfl) rfl (fun _ _ _ h => h) (Or.inl ⟨by rfl, ?_⟩) hs2 ?_
      rotate_left
      · intro w' hSw; obtain ⟨g1, g2, g3, g4⟩ := hSw; go_simp; try (with_reducible rfl)
      simp only [Act.put, List.setIfInBounds_toArray, List.set_cons_zero, List.set_cons_succ]
      refine wpAnyN_take2 (some 32) (i := 2) (v := ?_) rfl rfl (by kernel_rfl) (by kernel_rfl) (by kernel_rfl) (by kernel_rfl) rfl (fun _ _ _ h => h) (Or.inl ⟨by rfl, ?_⟩) hs2 ?_
      rotate_left
      · intro w' hSw; obtain ⟨g1, g2, g3, g4⟩ := hSw; go_simp; try (with_reducible rfl)
      simp only [Act.put, List.setIfInBounds_toArray, List.set_cons_zero, List.set_cons_succ]
      refine wpAnyN_take2 (some 33) (i := 3) (v := ?_) rfl rfl (by kernel_rfl) (by kernel_rfl) (by kernel_rfl) (by kernel_rfl) rfl (fun _ _ _ h => h) (Or.inl ⟨by rfl, ?_⟩) hs2 ?_
      rotate_left
      · intro w' hSw; obtain ⟨g1, g2, g3, g4⟩ := hSw; go_simp; try (with_reducible rfl)
      simp only [Act.put, List.setIfInBounds_toArray, List.set_cons_zero, List.set_cons_succ]
      refine wpAnyN_take2 (some 34) (i := 4) (v := ?_) rfl rfl (by kernel_rfl) (by kernel_rfl) (by kernel_rfl) (by kernel_rfl) rfl (fun _ _ _ h => h) (Or.inl ⟨by rfl, ?_⟩) hs2 ?_
      rotate_left
      · intro w' hSw; obtain ⟨g1, g2, g3, g4⟩ := hSw; go_simp; try (with_reducible rfl)
      simp only [Act.put, List.setIfInBounds_toArray, List.set_cons_zero, List.set_cons_succ]
      refine wpAnyN_take2 (some 35) (i := 5) (v := ?_) rfl rfl (by kernel_rfl) (by kernel_rfl) (by kernel_rfl) (by kernel_rfl) rfl (fun _ _ _ h => h) (Or.inl ⟨by rfl, ?_⟩) hs2 ?_
      rotate_left
      · intro w' hSw; obtain ⟨g1, g2, g3, g4⟩ := hSw; go_simp; try (with_reducible rfl)
      simp only [Act.put, List.setIfInBounds_toArray, List.set_cons_zero, List.set_cons_succ]
      refine wpAnyN_take2 (some 36) (i := 6) (v := ?_) rfl rfl (by kernel_rfl) (by kernel_rfl) (by kernel_rfl) (by kernel_rfl) rfl (fun _ _ _ h => h) (Or.inl ⟨by rfl, ?_⟩) hs2 ?_
      rotate_left
      · intro w' hSw; obtain ⟨g1, g2, g3, g4⟩ := hSw; go_simp; try (with_reducible rfl)
      simp only [Act.put, List.setIfInBounds_toArray, List.set_cons_zero, List.set_cons_succ]
      refine wpAnyN_take2 (some 37) (i := 7) (v := ?_) rfl rfl (by kernel_rfl) (by kernel_rfl) (by kernel_rfl) (by kernel_rfl) rfl (fun _ _ _ h => h) (Or.inl ⟨by rfl, ?_⟩) hs2 ?_
      rotate_left
      · intro w' hSw; obtain ⟨g1, g2, g3, g4⟩ := hSw; go_simp; try (with_reducible rfl)
      simp only [Act.put, List.setIfInBounds_toArray, List.set_cons_zero, List.set_cons_succ]
      refine wpAnyN_take2 (some 38) (i := 8) (v := ?_) rfl rfl (by kernel_rfl) (by kernel_rfl) (by kernel_rfl) (by kernel_rfl) rfl (fun _ _ _ h => h) (Or.inl ⟨by rfl, ?_⟩) hs2 ?_
      rotate_left
      · intro w' hSw; obtain ⟨g1, g2, g3, g4⟩ := hSw; go_simp; try (with_reducible rfl)
      simp only [Act.put, List.setIfInBounds_toArray, List.set_cons_zero, List.set_cons_succ]
      refine wpAnyN_take2 (some 39) (i := 9) (v := ?_) rfl rfl (by kernel_rfl) (by kernel_rfl) (by kernel_rfl) (by kernel_rfl) rfl (fun _ _ _ h => h) (Or.inl ⟨by rfl, ?_⟩) hs2 ?_
      rotate_left
      · intro w' hSw; obtain ⟨g1, g2, g3, g4⟩ := hSw; go_simp; try (with_reducible rfl)
      simp only [Act.put, List.setIfInBounds_toArray, List.set_cons_zero, List.set_cons_succ]
      refine wpAnyN_one (i := 10) (by kernel_rfl) rfl fun K hK => ?_
      go_simp
      refine hK.out _ _ (HS2.out _ (Turns.alloc [] V _).drew) (fun h => absurd h (by decide)) ?_
      clear hK K
      try (simp only [Act.put, List.setIfInBounds_toArray])
      refine wpAnyN_one (i := 11) (by kernel_rfl) rfl fun K hK => ?_
      go_simp
      refine hK.out _ _ (HS2.out _ (Turns.alloc [] V _).drew) (fun h => absurd h (by decide)) ?_
      clear hK K
      try (simp only [Act.put, List.setIfInBounds_toArray])
      refine wpAnyN_one (i := 12) (by kernel_rfl) rfl fun K hK => ?_
      go_simp
      refine hK.out _ _ (HS2.out _ (Turns.alloc [] V _).drew) (fun h => absurd h (by decide)) ?_
      clear hK K
      refine wpAnyN_done (by kernel_rfl) ?_ _
      try (simp only [Act.put, List.setIfInBounds_toArray])
      have hV2 : Hid (Turns [] V ((V.alloc (.cells #[.string x.now, .string x.last] 83)).drew)) := (Turns.alloc [] V _).drew
      have hVX : ((V.alloc (.cells #[.string x.now, .string x.last] 83)).drew).heap[V.heap.size]? = some (.cells #[.string x.now, .string x.last] 83 (0, 0)) := heap_alloc_here V _
      generalize ((V.alloc (.cells #[.string x.now, .string x.last] 83)).drew) = V2 at hV2 hVX ⊢
      generalize hB6 : V.heap.size = B6 at *
      have HB6 := Lib.hid hB6; clear hB6
      have HVX := Lib.hid hVX
      have x0 : V2.cell? ⟨B6, 0, none⟩ = some (.string x.now) := cell_at hVX 0
      have x1 : V2.cell? ⟨B6, 1, none⟩ = some (.string x.last) := cell_at hVX 1
      have y1 : V2.frozen? ⟨B6, 1, none⟩ = false := free_at hVX 1
      clear hVX hs2
      have hT : Hid (Turns [b, fb] w V2) := HM1.out.2.2.trans (((hV.out.trans hV2.out)).mono (by simp))
      by_cases hK0 : K.length = 0
      · have d0 : ((K.length : Int) == 0) = true := by simp [hK0]
        have hsv : surv K k = false := by
          have : K = [] := List.eq_nil_of_length_eq_zero hK0
          subst this; exact surv_nil k
        have hst : crashTo K st.Q st.F (k + 1) = crashTo K st.Q st.F k := by simp [crashTo, crashStep, hsv]
        have HST := Lib.hid hst
        clear hK0 hsv hst
        go_wp2_with fail
        go_roundw
        case rel => exact ⟨k + 1, by omega, by go_num, CrashMid.skip HM1.out HST.out (hV.out.trans hV2.out)⟩
        case measure => simp [intOf]; omega
      · have d0 : ((K.length : Int) == 0) = false := by simp [hK0]
        have hkl : k % K.length < K.length := Nat.mod_lt _ (by omega)
        obtain ⟨kb, koff, rfl, kc0⟩ : ∃ kb koff, ka = some ⟨kb, koff, none⟩ ∧ V2.cell? ⟨kb, koff + k % K.length, none⟩ = some (.int .i64 K[k % K.length]) := by
          obtain ⟨a', cap', e, hi⟩ := (HV.out.kept hT.out (fun a n c e hab => by
            simp at hab
            have := HA.out (by omega) a n c e
            rw [HX.out.2.2.2] at this
            simp at this
            rcases hab with h | h
            · exact this.1 h
            · exact this.2.1 h))
          obtain ⟨rfl, rfl⟩ : ka = a' ∧ kc = cap' := by simpa using e
          obtain ⟨kb, koff, h1, h2⟩ := hi (k % K.length) hkl
          exact ⟨kb, koff, h1, h2⟩
        obtain ⟨bt, hbt⟩ : ∃ y, y = K[k % K.length] := ⟨_, rfl⟩
        rw [← hbt] at kc0
        have HBT := Lib.hid hbt; clear hbt
        have hkl2 : ((k % K.length : Nat) : Int) < (K.length : Int) := by omega
        have hb1 := and1 bt
        have hsv : surv K k = (bt % 2 == 1) := by
          have : K ≠ [] := by intro e; subst e; simp at hkl
          simp [surv, this, HBT.out, hkl]
        by_cases he : bt % 2 = 0
        · have he1 : (bt % 2 == 0) = true := by simp [he]
          have hst : crashTo K st.Q st.F (k + 1) = crashTo K st.Q st.F k := by
            have : surv K k = false := by rw [hsv, he]; rfl
            simp [crashTo, crashStep, this]
          have HST := Lib.hid hst
          clear hst hsv he
          go_wp2_with fail
          go_roundw
          case rel => exact ⟨k + 1, by omega, by go_num, CrashMid.skip HM1.out HST.out (hV.out.trans hV2.out)⟩
          case measure => simp [intOf]; omega
        · have he1 : (bt % 2 == 0) = false := by simpa using he
          by_cases hge : (x.now.size : Int) ≤ (n0 : Int) * 64
          · have hg1 : decide ((x.now.size : Int) ≤ (n0 : Int) * 64) = true := decide_eq_true hge
            have hst : crashTo K st.Q st.F (k + 1) = crashTo K st.Q st.F k := by
              simp only [crashTo, crashStep, List.getElem?_eq_getElem hlt, Option.getD_some, ← HPK.out, ← HXE.out]
              rw [if_neg (by omega)]
            have HST := Lib.hid hst
            clear hst hsv he hge
            go_wp2_with fail
            go_roundw
            case rel => exact ⟨k + 1, by omega, by go_num, CrashMid.skip HM1.out HST.out (hV.out.trans hV2.out)⟩
            case measure => simp [intOf]; omega
          · have hg1 : decide ((x.now.size : Int) ≤ (n0 : Int) * 64) = false := decide_eq_false hge
            have hst : crashTo K st.Q st.F (k + 1) = updF (crashTo K st.Q st.F k) pf ⟨x.now, putB x.last (n0 * 64) (x.now.extract (n0 * 64) (min (n0 * 64 + 64) x.now.size))⟩ := by
              simp only [crashTo, crashStep, List.getElem?_eq_getElem hlt, Option.getD_some, ← HPK.out, ← HXE.out]
              rw [if_pos ⟨by rw [hsv]; simp; omega, by omega⟩, show ((n0 : Int) * 64).toNat = n0 * 64 by omega]
            have HST := Lib.hid hst
            clear hst hsv he
            go_wp2_with fail
            have hadd : IntKind.i64.wrap ((n0 : Int) * 64 + 64) = (n0 : Int) * 64 + 64 := by rw [IntKind.wrap_i64]; omega
            have hs2 : True := trivial
            have hs1 : V2.drew.cell? ⟨B6, 0, none⟩ = some (.string x.now) ∧ V2.drew.cell? ⟨B6, 1, none⟩ = some (.string x.last) := ⟨x0, x1⟩
            have hlo1 : (n0 : Int) * 64 ≤ (x.now.size : Int) := by omega
            obtain ⟨m, hm⟩ : ∃ m : Nat, m = min (n0 * 64 + 64) x.now.size := ⟨_, rfl⟩
            have hite : (if (x.now.size : Int) < (n0 : Int) * 64 + 64 then (x.now.size : Int) else (n0 : Int) * 64 + 64) = (m : Int) := by rw [hm]; split <;> omega
            have hlo2 : n0 * 64 ≤ m := by omega
            have hlo3 : m ≤ x.now.size := by omega
            have hlo5 : (n0 : Int) * 64 ≤ (m : Int) := by omega
            have hlo6 : (m : Int) ≤ (x.now.size : Int) := by omega
            rw [← hm] at HST
            have HMM := Lib.hid hm; clear hm
            have hsl : ∀ w', (Instr.slice 9 (.string x.now) (some (.int .i64 ((n0 : Int) * 64))) (some (.int .i64 (m : Int))) none).run Tryd.prog w' = .ok (.string (x.now.extract (n0 * 64) m)) w' := fun w' => by
              rw [run_slice_string (P := Tryd.prog) w' 9 x.now .i64 .i64 ((n0 : Int) * 64) (m : Int) Tryd.underlying9 (by omega) (by omega) (by omega), show ((n0 : Int) * 64).toNat = n0 * 64 by omega, Int.toNat_natCast]
            have hsz := HI.out.size
            have HPUT : Hid (∀ W, Calls Tryd.prog 40 #[.string x.last, .int .i64 ((n0 : Int) * 64), .string (x.now.extract (n0 * 64) m)] W fun e w' => e = .returned (.string (putB x.last (n0 * 64) (x.now.extract (n0 * 64) m))) ∧ Turns [] W w') := by
              intro W
              have := put_any x.last (x.now.extract (n0 * 64) m) (n0 * 64) W ?_ ?_
              rwa [show ((n0 * 64 : Nat) : Int) = (n0 : Int) * 64 by omega] at this
              · have hL := left_to K st.Q st.F pf (fun p hp => (HI.out.secs p hp).2.2.1) k (by omega)
                rw [← HXE.out] at hL
                have := hL.hi
                have := hsz pf
                omega
              · rw [extract_size]; omega
            clear hsz
            refine wp_region_N (fun w' => w'.cell? ⟨B6, 0, none⟩ = some (.string x.now) ∧ w'.cell? ⟨B6, 1, none⟩ = some (.string x.last)) (fun _ => True) (fun j => decide (j < 15)) (by kernel_rfl) ?_
            refine wpAnyN_take1 2 (some 61) (i := 0) (v := ?_) rfl rfl (by kernel_rfl) (by kernel_rfl) (by kernel_rfl) (by kernel_rfl) (by kernel_rfl) (fun _ _ _ h => h) (Or.inl ⟨by rfl, ?_⟩) ⟨hs1, hs2⟩ ?_
            rotate_left
            · intro w' hSw; obtain ⟨⟨g1, g2⟩, -⟩ := hSw; go_simp; try (with_reducible rfl)
            simp only [Act.put, List.setIfInBounds_toArray, List.set_cons_zero, List.set_cons_succ]
            refine wpAnyN_take1 2 (some 62) (i := 1) (v := ?_) rfl rfl (by kernel_rfl) (by kernel_rfl) (by kernel_rfl) (by kernel_rfl) (by kernel_rfl) (fun _ _ _ h => h) (Or.inl ⟨by rfl, ?_⟩) ⟨hs1, hs2⟩ ?_
            rotate_left
            · intro w' hSw; obtain ⟨⟨g1, g2⟩, -⟩ := hSw; go_simp; try (with_reducible rfl)
            simp only [Act.put, List.setIfInBounds_toArray, List.set_cons_zero, List.set_cons_succ]
            refine wpAnyN_take1 2 (some 63) (i := 2) (v := ?_) rfl rfl (by kernel_rfl) (by kernel_rfl) (by kernel_rfl) (by kernel_rfl) (by kernel_rfl) (fun _ _ _ h => h) (Or.inl ⟨by rfl, ?_⟩) ⟨hs1, hs2⟩ ?_
            rotate_left
            · intro w' hSw; obtain ⟨⟨g1, g2⟩, -⟩ := hSw; go_simp; try (with_reducible rfl)
            simp only [Act.put, List.setIfInBounds_toArray, List.set_cons_zero, List.set_cons_succ]
            refine wpAnyN_take1 2 (some 64) (i := 3) (v := ?_) rfl rfl (by kernel_rfl) (by kernel_rfl) (by kernel_rfl) (by kernel_rfl) (by kernel_rfl) (fun _ _ _ h => h) (Or.inl ⟨by rfl, ?_⟩) ⟨hs1, hs2⟩ ?_
            rotate_left
            · intro w' hSw; obtain ⟨⟨g1, g2⟩, -⟩ := hSw; go_simp; try (with_reducible rfl)
            simp only [Act.put, List.setIfInBounds_toArray, List.set_cons_zero, List.set_cons_succ]
            refine wpAnyN_take1 2 (some 65) (i := 4) (v := ?_) rfl rfl (by kernel_rfl) (by kernel_rfl) (by kernel_rfl) (by kernel_rfl) (by kernel_rfl) (fun _ _ _ h => h) (Or.inl ⟨by rfl, ?_⟩) ⟨hs1, hs2⟩ ?_
            rotate_left
            · intro w' hSw; obtain ⟨⟨g1, g2⟩, -⟩ := hSw; go_simp; try (with_reducible rfl)
            simp only [Act.put, List.setIfInBounds_toArray, List.set_cons_zero, List.set_cons_succ]
            refine wpAnyN_take1 2 (some 66) (i := 5) (v := ?_) rfl rfl (by kernel_rfl) (by kernel_rfl) (by kernel_rfl) (by kernel_rfl) (by kernel_rfl) (fun _ _ _ h => h) (Or.inl ⟨by rfl, ?_⟩) ⟨hs1, hs2⟩ ?_
            rotate_left
            · intro w' hSw; obtain ⟨⟨g1, g2⟩, -⟩ := hSw; go_simp; try (with_reducible rfl)
            simp only [Act.put, List.setIfInBounds_toArray, List.set_cons_zero, List.set_cons_succ]
            refine wpAnyN_take1 2 (some 67) (i := 6) (v := ?_) rfl rfl (by kernel_rfl) (by kernel_rfl) (by kernel_rfl) (by kernel_rfl) (by kernel_rfl) (fun _ _ _ h => h) (Or.inl ⟨by rfl, ?_⟩) ⟨hs1, hs2⟩ ?_
            rotate_left
            · intro w' hSw; obtain ⟨⟨g1, g2⟩, -⟩ := hSw; go_simp; try (with_reducible rfl)
            simp only [Act.put, List.setIfInBounds_toArray, List.set_cons_zero, List.set_cons_succ]
            refine wpAnyN_take1 2 (some 68) (i := 7) (v := ?_) rfl rfl (by kernel_rfl) (by kernel_rfl) (by kernel_rfl) (by kernel_rfl) (by kernel_rfl) (fun _ _ _ h => h) (Or.inl ⟨by rfl, ?_⟩) ⟨hs1, hs2⟩ ?_
            rotate_left
            · intro w' hSw; obtain ⟨⟨g1, g2⟩, -⟩ := hSw; go_simp; try (with_reducible rfl)
            simp only [Act.put, List.setIfInBounds_toArray, List.set_cons_zero, List.set_cons_succ]
            refine wpAnyN_take1 2 (some 69) (i := 8) (v := ?_) rfl rfl (by kernel_rfl) (by kernel_rfl) (by kernel_rfl) (by kernel_rfl) (by kernel_rfl) (fun _ _ _ h => h) (Or.inl ⟨by rfl, ?_⟩) ⟨hs1, hs2⟩ ?_
            rotate_left
            · intro w' hSw; obtain ⟨⟨g1, g2⟩, -⟩ := hSw; go_simp; try (with_reducible rfl)
            simp only [Act.put, List.setIfInBounds_toArray, List.set_cons_zero, List.set_cons_succ]
            refine wpAnyN_take1 2 (some 70) (i := 9) (v := ?_) rfl rfl (by kernel_rfl) (by kernel_rfl) (by kernel_rfl) (by kernel_rfl) (by kernel_rfl) (fun _ _ _ h => h) (Or.inl ⟨by rfl, ?_⟩) ⟨hs1, hs2⟩ ?_
            rotate_left
            · intro w' hSw; obtain ⟨⟨g1, g2⟩, -⟩ := hSw; go_simp; try (with_reducible rfl)
            simp only [Act.put, List.setIfInBounds_toArray, List.set_cons_zero, List.set_cons_succ]
            refine wpAnyN_take1 2 (some 71) (i := 10) (v := ?_) rfl rfl (by kernel_rfl) (by kernel_rfl) (by kernel_rfl) (by kernel_rfl) (by kernel_rfl) (fun _ _ _ h => h) (Or.inl ⟨by rfl, ?_⟩) ⟨hs1, hs2⟩ ?_
            rotate_left
            · intro w' hSw; obtain ⟨⟨g1, g2⟩, -⟩ := hSw; go_simp; try (with_reducible rfl)
            simp only [Act.put, List.setIfInBounds_toArray, List.set_cons_zero, List.set_cons_succ]
            refine wpAnyN_take1 2 (some 72) (i := 11) (v := ?_) rfl rfl (by kernel_rfl) (by kernel_rfl) (by kernel_rfl) (by kernel_rfl) (by kernel_rfl) (fun _ _ _ h => h) (Or.inl ⟨by rfl, ?_⟩) ⟨hs1, hs2⟩ ?_
            rotate_left
            · intro w' hSw; obtain ⟨⟨g1, g2⟩, -⟩ := hSw; go_simp; try (with_reducible rfl)
            simp only [Act.put, List.setIfInBounds_toArray, List.set_cons_zero, List.set_cons_succ]
            refine wpAnyN_take1 2 (some 73) (i := 12) (v := ?_) rfl rfl (by kernel_rfl) (by kernel_rfl) (by kernel_rfl) (by kernel_rfl) (by kernel_rfl) (fun _ _ _ h => h) (Or.inl ⟨by rfl, ?_⟩) ⟨hs1, hs2⟩ ?_
            rotate_left
            · intro w' hSw; obtain ⟨⟨g1, g2⟩, -⟩ := hSw; go_simp; try (with_reducible rfl)
            simp only [Act.put, List.setIfInBounds_toArray, List.set_cons_zero, List.set_cons_succ]
            refine wpAnyN_one (i := 13) (by kernel_rfl) rfl fun K' hK' => ?_
            go_simp
            refine (HPUT.out _).mono ?_
            rintro e W3 ⟨rfl, ht3⟩
            go_simp
            have hW3 := Lib.hid ht3
            have b0 : W3.cell? ⟨B6, 0, none⟩ = some (.string x.now) := (ht3.cell (World.block_lt_of_cell? _ _ hs1.1) (by simp)).trans hs1.1
            have b1 : W3.cell? ⟨B6, 1, none⟩ = some (.string x.last) := (ht3.cell (World.block_lt_of_cell? _ _ hs1.2) (by simp)).trans hs1.2
            have hB6 : W3.heap[B6]? = some (.cells #[.string x.now, .string x.last] 83 (0, 0)) := (ht3.block B6 (lt_of_at HVX.out) (by simp)).trans HVX.out
            have b2 : W3.frozen? ⟨B6, 1, none⟩ = false := free_at hB6 1
            have HB6' := Lib.hid hB6
            clear ht3 hB6 hs1 x0 x1 y1 hsl
            refine hK'.out _ _ trivial (fun _ => ⟨b0, b1⟩) ?_
            clear hK' K'
            try (simp only [Act.put, List.setIfInBounds_toArray, List.set_cons_zero, List.set_cons_succ])
            refine wpAnyN_one (i := 14) (by kernel_rfl) rfl fun K' hK' => ?_
            go_simp
            refine hK'.out _ _ trivial (fun _ => ⟨b0, b1⟩) ?_
            clear hK' K'
            try (simp only [Act.put, List.setIfInBounds_toArray])
            refine wpAnyN_one (i := 15) (by kernel_rfl) rfl fun K' hK' => ?_
            go_simp
            refine hK'.out _ _ trivial (fun h => absurd h (by decide)) ?_
            clear hK' K'
            refine wpAnyN_done (by kernel_rfl) ?_ _
            try (simp only [Act.put, List.setIfInBounds_toArray])
            go_wp2_with fail
            have hB7 := heap_setCell_at HB6'.out 1 (.string (putB x.last (n0 * 64) (x.now.extract (n0 * 64) m)))
            have hbs' : b < wr.heap.size := by rw [HB0.out]; exact hbs
            have hsW : wr.heap.size ≤ B6 := by
              rw [← HB6.out]; exact hV.out.size
            have hT7 : Turns [] wr (W3.setCell ⟨B6, 1, none⟩ (.string (putB x.last (n0 * 64) (x.now.extract (n0 * 64) m)))) :=
              ((hV.out.trans hV2.out).drew.trans hW3.out).trans_new (Turns.setCell (S := [B6]) _ _ _ (by simp)) (fun y hy => by simp at hy; subst hy; exact Or.inr hsW)
            have hB0c : (W3.setCell ⟨B6, 1, none⟩ (.string (putB x.last (n0 * 64) (x.now.extract (n0 * 64) m)))).heap[B0]? = some (.cells #[.int .i64 pf, .int .i64 (n0 : Int)] 81 (0, 0)) := by
              have h1 : Turns [] V W3 := hV2.out.drew.trans hW3.out
              have h2 := (h1.block B0 (lt_of_at HVB.out) (by simp)).trans HVB.out
              rw [(Turns.setCell (S := [B6]) W3 ⟨B6, 1, none⟩ (.string (putB x.last (n0 * 64) (x.now.extract (n0 * 64) m))) (by simp)).block B0 (lt_of_at h2) (by
                have h3 := lt_of_at HVB.out
                have h4 := HB6.out
                simp; omega)]
              exact h2
            generalize (W3.setCell ⟨B6, 1, none⟩ (.string (putB x.last (n0 * 64) (x.now.extract (n0 * 64) m)))) = W4 at hB7 hT7 hB0c ⊢
            have d0' : W4.cell? ⟨b, 0, none⟩ = some (.map (some fb)) := (hT7.cell (a := ⟨b, 0, none⟩) hbs' (by simp)).trans (cell_at HM1.out.1 0)
            have d1' : W4.cell? ⟨B0, 0, none⟩ = some (.int .i64 pf) := cell_at hB0c 0
            have d2' : W4.cell? ⟨B6, 0, none⟩ = some (.string x.now) := cell_at hB7 0
            have d3' : W4.cell? ⟨B6, 1, none⟩ = some (.string (putB x.last (n0 * 64) (x.now.extract (n0 * 64) m))) := cell_at hB7 1
            obtain ⟨W5, hr5, hF5, hg5⟩ := (HM1.out.2.1.kept (hT7.drew) (by simp)).store (by omega) pf hfw ⟨x.now, putB x.last (n0 * 64) (x.now.extract (n0 * 64) m)⟩
            unfold File.val at hr5
            dsimp only at hr5
            rw [← HST.out] at hF5
            have HF5 := Lib.hid (And.intro hF5 hg5)
            have HT7 := Lib.hid hT7
            clear hB7 hT7 hB0c hF5 hg5 b0 b1 b2 hbs' hsW
            go_region
            go_wp2_with fail
            go_roundw
            case rel =>
              refine ⟨k + 1, by omega, by go_num, ?_⟩
              have ht5 : Turns [fb] W4 W5 := (Turns.of_grown (S := [fb]) HF5.out.2 (fun k hk => by simp at hk; simp [hk])).of_drew
              have hb4 := (HT7.out.block b (by rw [HB0.out]; exact hbs) (by simp)).trans HM1.out.1
              exact ⟨(ht5.block b (lt_of_at hb4) (by simp; exact fun e => hfbb e.symm)).trans hb4, HF5.out.1, HM1.out.2.2.trans ((HT7.out.mono (by simp)).trans (ht5.mono (by simp)))⟩
            case measure => simp [intOf]; omega
    · have hkc : k = st.Q.length := by omega
      subst hkc
      have hltI : decide ((st.Q.length : Int) < (st.Q.length : Int)) = false := decide_eq_false (by omega)
      obtain ⟨m1, m2, m3⟩ := HR.out
      obtain ⟨wI, here, cnt, hrun, hR, hhere, hTI⟩ := m2.range
      have c0 : wr.cell? ⟨b, 0, none⟩ = some (.map (some fb)) := cell_at m1 0
      have hbI := (hTI.block b (lt_of_at m1) (by simp)).trans m1
      have hmid : CrashR wr b fb wr.heap.size (N + st.Q.length) (.slice qa st.Q.length qc) kv sb st.lost (crashTo K st.Q st.F st.Q.length) here wI :=
        ⟨here, cnt, _, hR, fun f hf => by
          by_cases e : here f = true
          · rw [if_pos e]
          · rw [if_neg e, lastF, hhere f hf (by simpa using e)]; rfl, hbI, hTI.mono (by simp)⟩
      have HMID := Lib.hid hmid
      have HW3 := Lib.hid m3
      have HBR : Hid (b < wr.heap.size) := lt_of_at m1
      clear hmid hbI hR hhere m1 m2 m3 hlt
      generalize hrr : wr.heap.size = r at *
      have HR0 := Lib.hid (Nat.le_of_eq hrr); clear hrr
      obtain ⟨w0, rfl⟩ : ∃ w0, w0 = wr := ⟨_, rfl⟩
      go_wp2_with fail
      go_loopw [8] (fun _ wr => Hid (CrashR w0 b fb r (N + st.Q.length) (.slice qa st.Q.length qc) kv sb st.lost (crashTo K st.Q st.F st.Q.length) here wr)) (fun _ wr => wr.rangeLeft fb r)
      case atStart => exact HMID.out
      case round =>
        obtain ⟨left, cnt2, F2, hR, hF2, hb2, hT2⟩ := hrel.out
        have hleq := hR.left_eq
        obtain ⟨hrne, hrlt⟩ := hR.ne
        rcases hR.next 0 with ⟨hnone, hnx⟩ | ⟨f, wn, cnt3, hfw, hlf, hhf, hnx, hRn, hlt3, hTn, hszn, hent⟩
        · have HN := Lib.hid (And.intro hnone (And.intro hR (And.intro hF2 (And.intro hb2 hT2))))
          have hbs2 : b < wr.heap.size := lt_of_at hb2
          have hmm := @run_makeMap Tryd.prog
          have ca1 : ∀ o, (wr.alloc o).cell? ⟨b, 1, none⟩ = some (.slice qa st.Q.length qc) := fun o => by rw [World.cell?_alloc_past _ _ _ hbs2]; exact cell_at hb2 1
          have ca2 : ∀ o, (wr.alloc o).cell? ⟨b, 2, none⟩ = some (.map (some sb)) := fun o => by rw [World.cell?_alloc_past _ _ _ hbs2]; exact cell_at hb2 2
          have fa : ∀ o i, (wr.alloc o).frozen? ⟨b, i, none⟩ = false := fun o i => free_at (((Turns.alloc [] wr o).block b hbs2 (by simp)).trans hb2) i
          have fa1 := fun o => fa o 1
          have fa2 := fun o => fa o 2
          have cc1 : wr.cell? ⟨b, 1, none⟩ = some (.slice qa st.Q.length qc) := cell_at hb2 1
          have cc2 : wr.cell? ⟨b, 2, none⟩ = some (.map (some sb)) := cell_at hb2 2
          have ff1 : wr.frozen? ⟨b, 1, none⟩ = false := free_at hb2 1
          have ff2 : wr.frozen? ⟨b, 2, none⟩ = false := free_at hb2 2
          clear hnone hR hF2 hb2 hT2 hleq hrel fa
          go_wp2_with fail
          go_end0
          obtain ⟨n1, n2, n3, n4, n5⟩ := HN.out
          have e : crashS st K = ⟨lastF (crashTo K st.Q st.F st.Q.length), [], st.lost, true, 0⟩ := by simp [crashS, HD.out]
          rw [e]
          have hbx := heap_setCell_at (heap_setCell_at n4 1 (.slice none 0 0)) 2 (.map (some wr.heap.size))
          have tb : Turns [b] wr ((wr.setCell ⟨b, 1, none⟩ (.slice none 0 0)).setCell ⟨b, 2, none⟩ (.map (some wr.heap.size))) := (Turns.setCell _ _ _ (by simp)).trans (Turns.setCell _ _ _ (by simp))
          have hszx : ((wr.setCell ⟨b, 1, none⟩ (.slice none 0 0)).setCell ⟨b, 2, none⟩ (.map (some wr.heap.size))).heap.size = wr.heap.size := by simp [World.setCell]
          have hTall : Turns [b, fb] w wr := HW3.out.trans (n5.mono (by simp))
          have hff : FilesAt wr fb (N + st.Q.length) (lastF (crashTo K st.Q st.F st.Q.length)) := n2.files.congr (fun f hf => by rw [n3 f hf, n1 f hf]; rfl)
          generalize ((wr.setCell ⟨b, 1, none⟩ (.slice none 0 0)).setCell ⟨b, 2, none⟩ (.map (some wr.heap.size))) = X at hbx tb hszx ⊢
          have hT1 : Turns [b, fb] w (X.alloc (.map #[] 0)) := hTall.trans ((tb.mono (by simp)).trans ((Turns.alloc [] X _).mono (by simp)))
          refine ⟨rfl, [b, fb, wr.heap.size], ⟨fb, wr.heap.size, .slice none 0 0, ((Turns.alloc [] X (.map #[] 0)).block b (lt_of_at hbx) (by simp)).trans hbx, (hff.kept tb (by simpa using hfbb)).kept (Turns.alloc [] X _) (by simp), ?_, World.ownsRow_nil _ _ _ _, ?_, rfl⟩, hT1.mono (by rw [HX.out.2.2.2]; simp), fun x hx => ?_⟩
          · have := ((SetAt.made X).more (Nat.zero_le (N + st.Q.length)))
            rw [hszx] at this
            simpa using this
          · have := hff.lt; omega
          · rw [HX.out.2.2.2]
            simp only [List.mem_cons, List.not_mem_nil, or_false] at hx
            rcases hx with h | h | h
            · exact Or.inl (by simp [h])
            · exact Or.inl (by simp [h])
            · exact Or.inr (by rw [h]; exact hTall.size)
        · unfold File.val at hnx hent
          have HRB : Hid (b ≠ r) := Lib.hid (fun e => by have := HBR.out; omega)
          have HF2 := Lib.hid (And.intro hF2 (And.intro hlf (And.intro hhf hfw)))
          have HRN := Lib.hid hRn
          have HTT := Lib.hid (And.intro hb2 (And.intro hT2 hTn))
          have HQ5 := Lib.hid (And.intro hleq hlt3)
          clear hR hF2 hb2 hT2 hleq hlt3 hRn hTn hlf hhf hrel hszn
          obtain ⟨x, hx⟩ : ∃ x, x = F2 f := ⟨_, rfl⟩
          rw [← hx] at hnx hent
          have HX2 := Lib.hid hx; clear hx
          go_wp2_with fail
          have hV : Turns [] wn (wn.alloc (.cells #[.string x.now, .string x.last] 83)) := Turns.alloc [] wn _
          have hVB : (wn.alloc (.cells #[.string x.now, .string x.last] 83)).heap[wn.heap.size]? = some (.cells #[.string x.now, .string x.last] 83 (0, 0)) := heap_alloc_here wn _
          generalize (wn.alloc (.cells #[.string x.now, .string x.last] 83)) = V at hV hVB ⊢
          generalize wn.heap.size = B0 at *
          have hbn := (HTT.out.2.2.block b (lt_of_at HTT.out.1) (by simp; exact HRB.out)).trans HTT.out.1
          have d0 : V.cell? ⟨b, 0, none⟩ = some (.map (some fb)) := cell_at ((hV.block b (lt_of_at hbn) (by simp)).trans hbn) 0
          have d1 : V.cell? ⟨B0, 1, none⟩ = some (.string x.last) := cell_at hVB 1
          have hbV := Lib.hid ((hV.block b (lt_of_at hbn) (by simp)).trans hbn)
          obtain ⟨W5, hr5, hR5, ht5⟩ := (HRN.out.kept hV.drew (by simp) (by simp)).store (by omega) f HF2.out.2.2.2 HF2.out.2.2.1 ⟨x.last, x.last⟩
          unfold File.val at hr5
          dsimp only at hr5
          have H5 := Lib.hid (And.intro hR5 ht5)
          have HV := Lib.hid hV
          clear hV hVB hbn hR5 ht5
          go_region
          go_wp2_with fail
          go_roundw
          case rel =>
            obtain ⟨k1, k2, k3, k4⟩ := HF2.out
            refine ⟨_, _, _, H5.out.1, fun g hg => ?_, (H5.out.2.block b (lt_of_at hbV.out) (by simp; exact fun e => hfbb e.symm)).trans hbV.out, ((HTT.out.2.1.trans_new HTT.out.2.2 (fun x hx => by simp at hx; subst hx; exact Or.inr HR0.out)).trans (HV.out.drew.mono (by simp))).trans H5.out.2⟩
            unfold updF
            by_cases e : g = f
            · subst e
              rw [if_pos rfl, if_neg (by simp), HX2.out, k1 g hg, if_pos k2]; rfl
            · rw [if_neg e, k1 g hg]
              simp [e]
          case measure => rw [H5.out.1.left_eq, HQ5.out.1]; exact HQ5.out.2

theorem DiskPost.more {w w' : World} {b N M : Nat} {FP : List Nat} {st : DS} {kv : Value} (h : DiskPost w b FP N st kv w') (hm : N ≤ M) : DiskPost w b FP M st kv w' := by
  obtain ⟨FP', hD, hev⟩ := h
  exact ⟨FP', hD.more hm, hev⟩
theorem disk_crash (b N : Nat) (FP : List Nat) (st : DS) (kv v : Value) (K : List Int) (w : World) (h : DiskObj w b FP N st kv) (hI : DInv st) (hv : IntsV w v K) (ha : 0 < K.length → apartV v FP)
    (hQl : st.Q.length ≤ 1000000) (hN : N + st.Q.length + 10 < maxLen) (hK : K.length ≤ 1000000) :
    Calls Tryd.prog 26 #[.pointer (some ⟨b, 0, none⟩), v] w fun e w' => e = .returned (.tuple #[]) ∧ DiskPost w b FP (N + st.Q.length) (crashS st K) kv w' := by
  cases hd : st.down
  · exact crash_up b N FP st kv v K w h hd hI hv ha hQl hN hK
  · exact (crash_down b N FP st kv v K w h hd).mono fun _ _ ⟨h1, h2⟩ => ⟨h1, h2.more (by omega)⟩

end Go.Proofs.YtdcgdnlpagadcaaDoor
