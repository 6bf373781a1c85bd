/- Statements about net: NetTells, the walk. -/
import Derived.Test.YtmikjninonpejaaRefDo
import Derived.Deep.RegionHeld3
namespace Go.Proofs.Ytmikjninonpejaa
open Go.RowKit Go.Proofs.YtmikjninonpejaaMem

theorem opList_len {l : List Pkt} {s : Int} (o : NOp) : (opList l s o).length ≤ l.length + 1 := by
  have hw : ∀ i, (without l i).length ≤ l.length := fun i => by unfold without; split; exact List.length_eraseIdx_le _ _; exact Nat.le_refl _
  have hd : (doubled l o.n).length ≤ l.length + 1 := by unfold doubled; split <;> simp
  have hs : (sendList l s o.n o.to o.s).length ≤ l.length + 1 := by unfold sendList; split <;> simp
  have := hw o.n
  unfold opList
  split
  · omega
  split
  · omega
  split
  · omega
  split
  · omega
  split <;> omega
theorem quiet_ex {P : Program} {f : FuncId} {args : Array Value} {w : World} {n : Nat} {v : Value}
    (h : Calls P f args (w.drewN n) fun e w' => e = .returned v ∧ ∃ k, w' = (w.drewN n).drewN k) : Calls P f args (w.drewN n) fun e w'' => e = .returned v ∧ ∃ m, w'' = w.drewN m :=
  h.mono fun _ _ ⟨he, k, hk⟩ => ⟨he, n + k, by rw [hk, World.drewN_drewN]⟩
theorem quiet_in {P : Program} {f : FuncId} {args : Array Value} {w : World} {v : Value}
    (h : Calls P f args w fun e w' => e = .returned v ∧ ∃ k, w' = w.drewN k) : Calls P f args w fun e w' => e = .returned v ∧ Turns [] w w' :=
  h.mono fun _ _ ⟨he, _, hk⟩ => ⟨he, hk ▸ (Turns.refl _ _).drewN _⟩
theorem sep_drewN {w0 w : World} {ts : List Thing} {n : Nat} (h : Sep w0 w ts) : Sep w0 (w.drewN n) ts := h.quiet ((Turns.refl _ _).drewN n)
theorem held2 {wr W wq : World} {a0 a1 : Addr} {v0 v1 : Value} (h : Turns [] wr W ∧ W.cell? a0 = some v0 ∧ W.cell? a1 = some v1) (hq : Turns [] W wq) :
    Turns [] wr wq ∧ wq.cell? a0 = some v0 ∧ wq.cell? a1 = some v1 :=
  ⟨h.1.trans hq, (hq.cell (World.block_lt_of_cell? W _ h.2.1) (by simp)).trans h.2.1, (hq.cell (World.block_lt_of_cell? W _ h.2.2) (by simp)).trans h.2.2⟩

set_option maxHeartbeats 20000000 in
set_option maxRecDepth 100000 in
theorem tells_walk (a : Option Addr) (cap : Nat) (ops : List NOp) (att x y : Int) (w : World) (hops : OpsAt w a ops) :
    Calls Try.prog 6 #[.slice a ops.length cap, .int .i64 att, .int .i64 x, .int .i64 y] w fun e w' => e = .returned (.bool true) ∧ Below w.heap.size w w' := by
  have HO := Lib.hid hops; clear hops
  cases hfew : fewB ops 600
  · have HF := Lib.hid hfew; clear hfew
    go_enter Try.func6, Try.ntmps6
    go_wp2_with fail
    refine (small_any _).mono ?_
    rintro e w1 ⟨rfl, h1⟩
    have H1 := Lib.hid ((Sep.start w).quiet h1); clear h1
    go_wp2_with fail
    refine (new_fresh w [] _ H1.out).mono ?_
    rintro e w2 ⟨n, rfl, h2⟩
    have h3 := h2.quiet (Turns.alloc [] _ (.cells #[.slice none 0 0, .int .i64 0] 51))
    have H3 := Lib.hid h3; clear h2 h3
    go_wp2_with fail
    refine (few_is a cap ops 600 _ (HO.out.below H3.out.below) false HF.out).mono ?_
    rintro e w3 ⟨rfl, rfl⟩
    go_wp2_with fail
    go_ret
    exact ⟨rfl, H3.out.below⟩
  · have hol := few_len hfew
    have HF := Lib.hid hfew; clear hfew
    have hol2 : ops.length ≤ 600 := by omega
    go_enter Try.func6, Try.ntmps6
    go_wp2_with fail
    refine (small_any _).mono ?_
    rintro e w1 ⟨rfl, h1⟩
    have H1 := Lib.hid ((Sep.start w).quiet h1); clear h1
    go_wp2_with fail
    refine (new_fresh w [] _ H1.out).mono ?_
    rintro e w2 ⟨n, rfl, h2⟩
    have h3 : Sep w (w2.alloc (.cells #[.slice none 0 0, .int .i64 0] 51)) [netThing 51 w2.heap.size [] 0, netThing 81 n [] 0] := h2.add (t := netThing 51 w2.heap.size [] 0) (FP := [w2.heap.size]) (Turns.alloc _ _ _) ⟨_, heap_alloc_here _ _, World.ownsRow_nil _ _ _ _, rfl⟩ (by simp)
    have H3 := Lib.hid h3; clear h2 h3
    go_wp2_with fail
    refine (few_is a cap ops 600 _ (HO.out.below H3.out.below) true HF.out).mono ?_
    rintro e w3 ⟨rfl, rfl⟩
    go_wp2_with fail
    generalize hm : w2.heap.size = m at H3 ⊢
    clear hm
    refine (copy_sep [netThing 51 m [] 0] [] n [] 0 _ H3.out (by simp)).mono ?_
    rintro e w3 ⟨cb, rfl, h4⟩
    have H4 := Lib.hid h4; clear h4 H3
    go_wp2_with fail
    refine (rcopy_sep [netThing 81 cb [] 0] [netThing 81 n [] 0] m [] 0 _ H4.out (by simp)).mono ?_
    rintro e w4 ⟨db, rfl, h5⟩
    have H5 := Lib.hid h5; clear h5 H4
    go_wp2_with fail
    go_loopw [12, 13, 14] (fun vc vd i wr => ∃ (k : Nat) (L : List Pkt) (s : Int) (C : List Pkt) (t : Int) (cb db : Nat), k ≤ ops.length ∧ L.length ≤ k ∧ C.length ≤ 1000 ∧ vc = .pointer (some ⟨cb, 0, none⟩) ∧ vd = .pointer (some ⟨db, 0, none⟩) ∧ i = .int .i64 k ∧ Hid (Sep w wr [netThing 51 db C t, netThing 81 cb C t, netThing 51 m L s, netThing 81 n L s])) (fun _ _ i _ => ops.length - (intOf i).toNat)
    case atStart => exact ⟨0, [], 0, [], 0, cb, db, Nat.zero_le _, Nat.le_refl _, by simp, rfl, rfl, rfl, H5⟩
    case round =>
      clear H5
      obtain ⟨k, L, s, C, t, cb, db, hk, hL, hC, rfl, rfl, rfl, hsep⟩ := hrel
      by_cases hlt : k < ops.length
      · have hlt2 : (k : Int) < (ops.length : Int) := by omega
        cases hat : ((k : Int) == att)
        · have HS := hsep
          clear hsep
          have HSx := HS; clear HS
          obtain ⟨b, off, rfl, c0, c1, c2, c3⟩ := HO.out.below HSx.out.below k hlt
          obtain ⟨o, ho⟩ : ∃ o, o = ops[k] := ⟨_, rfl⟩
          rw [← ho] at c0 c1 c2 c3
          have HOK := Lib.hid ho; clear ho
          go_wp2_with fail
          refine (do_any [netThing 51 db C t, netThing 81 cb C t, netThing 51 m L s] [] n L s o _ HSx.out (by omega)).mono ?_
          rintro e w4 ⟨rfl, h4⟩
          have hL2 := opList_len (l := L) (s := s) o
          clear c0 c1 c2 c3 HSx
          have h5 := h4.alloc (.cells #[.int .i64 (opPkt L s o).src, .int .i64 (opPkt L s o).dst, .string (opPkt L s o).body] 34)
          obtain ⟨bx, ox, hbx, c0, c1, c2, c3⟩ := HO.out.below h5.below k hlt
          obtain ⟨e1, e2⟩ : b = bx ∧ off = ox := by simpa using hbx
          rw [← e1, ← e2, ← HOK.out] at c0 c1 c2 c3
          have H5 := Lib.hid h5; clear h4 h5 hbx e1 e2
          go_wp2_with fail
          refine (model_any [blockThing w4.heap.size (.cells #[.int .i64 (opPkt L s o).src, .int .i64 (opPkt L s o).dst, .string (opPkt L s o).body] 34), netThing 51 db C t, netThing 81 cb C t] [netThing 81 n (opList L s o) (opSplit s o)] m L s o _ H5.out (by omega)).mono ?_
          rintro e w6 ⟨rfl, h6⟩
          clear c0 c1 c2 c3 H5 HOK
          obtain ⟨L2, hl2⟩ : ∃ L2, L2 = opList L s o := ⟨_, rfl⟩
          obtain ⟨s2, hs2⟩ : ∃ s2, s2 = opSplit s o := ⟨_, rfl⟩
          obtain ⟨P, hP⟩ : ∃ P, P = opPkt L s o := ⟨_, rfl⟩
          obtain ⟨f, hf⟩ : ∃ f, f = opCode L s o := ⟨_, rfl⟩
          rw [← hl2, ← hs2, ← hP] at h6
          rw [← hP, ← hf]
          rw [← hl2] at hL2
          clear hl2 hs2 hP hf
          generalize hpb : w4.heap.size = pb at h6 ⊢
          clear hpb
          have h7 := h6.alloc (.cells #[.int .i64 P.src, .int .i64 P.dst, .string P.body] 34)
          obtain ⟨FPM, hFM, -, -⟩ := h6.pick [blockThing pb (.cells #[.int .i64 P.src, .int .i64 P.dst, .string P.body] 34), netThing 51 db C t, netThing 81 cb C t] (netThing 51 m L2 s2) _
          obtain ⟨FPN, hFN, -, -⟩ := h6.pick [blockThing pb (.cells #[.int .i64 P.src, .int .i64 P.dst, .string P.body] 34), netThing 51 db C t, netThing 81 cb C t, netThing 51 m L2 s2] (netThing 81 n L2 s2) _
          have HM : Hid (∀ W, Turns [] w6 W → NetObj 51 W m FPM L2 s2) := fun W ht => hFM.kept ht (by simp)
          have HN : Hid (∀ W, Turns [] w6 W → NetObj 81 W n FPN L2 s2) := fun W ht => hFN.kept ht (by simp)
          obtain ⟨vm, hbm, hom, -⟩ := hFM
          obtain ⟨am, cm, hvm, -⟩ := own_shape hom
          rw [hvm] at hbm
          have hbp := h6.block [] _
          have m0 : ∀ o', (w6.alloc o').cell? ⟨m, 0, none⟩ = some (.slice am L2.length cm) := fun o' => by rw [World.cell?_alloc_past _ _ _ (lt_of_at hbm)]; exact cell_at hbm 0
          have x0 : ∀ o', (w6.alloc o').cell? ⟨pb, 0, none⟩ = some (.int .i64 P.src) := fun o' => by rw [World.cell?_alloc_past _ _ _ (lt_of_at hbp)]; exact cell_at hbp 0
          have x1 : ∀ o', (w6.alloc o').cell? ⟨pb, 1, none⟩ = some (.int .i64 P.dst) := fun o' => by rw [World.cell?_alloc_past _ _ _ (lt_of_at hbp)]; exact cell_at hbp 1
          have x2 : ∀ o', (w6.alloc o').cell? ⟨pb, 2, none⟩ = some (.string P.body) := fun o' => by rw [World.cell?_alloc_past _ _ _ (lt_of_at hbp)]; exact cell_at hbp 2
          have hne := neq34
          have hnn : samePkt P P = true := (samePkt_iff _ _).2 rfl
          have HF : Hid (∀ W, Turns [] (w6.alloc (.cells #[.int .i64 P.src, .int .i64 P.dst, .string P.body] 34)) W → Sep w W [netThing 51 db C t, netThing 81 cb C t, netThing 51 m L2 s2, netThing 81 n L2 s2]) := fun W ht => (h7.quiet ht).drop.drop
          clear h6 h7 hbm hom hvm hbp
          go_wp2_with fail
          go_quiet (first
            | (go_at_call 22; exact quiet_id (count_any n FPN L2 s2 _ (HN.out _ ((Turns.alloc [] _ _).drewN _))))
            | (go_at_call 20; exact quiet_ex (hear_any n FPN L2 s2 x y _ (HN.out _ ((Turns.alloc [] _ _).drewN _))))
            | (go_at_call 29; exact quiet_ex (rhear_any m FPM L2 s2 x y _ (HM.out _ ((Turns.alloc [] _ _).drewN _)))))
          go_wp2_with fail
          go_roundw
          case rel => exact ⟨k + 1, L2, s2, C, t, cb, db, by omega, by omega, by omega, rfl, rfl, by go_num, HF.out _ ((Turns.refl _ _).drewN _)⟩
          case measure => simp [intOf]; omega
        · go_wp2_with fail
          refine (copy_sep [netThing 51 m L s] [] n L s _ hsep.out.drop.drop (by omega)).mono ?_
          rintro e w2 ⟨cb', rfl, h2⟩
          have H2 := Lib.hid h2; clear h2 hsep
          go_wp2_with fail
          refine (rcopy_sep [netThing 81 cb' L s] [netThing 81 n L s] m L s _ H2.out (by omega)).mono ?_
          rintro e w3 ⟨db', rfl, h3⟩
          have HS := Lib.hid h3; clear h3 H2
          have HSx := HS; clear HS
          obtain ⟨b, off, rfl, c0, c1, c2, c3⟩ := HO.out.below HSx.out.below k hlt
          obtain ⟨o, ho⟩ : ∃ o, o = ops[k] := ⟨_, rfl⟩
          rw [← ho] at c0 c1 c2 c3
          have HOK := Lib.hid ho; clear ho
          go_wp2_with fail
          refine (do_any [netThing 51 db' L s, netThing 81 cb' L s, netThing 51 m L s] [] n L s o _ HSx.out (by omega)).mono ?_
          rintro e w4 ⟨rfl, h4⟩
          have hL2 := opList_len (l := L) (s := s) o
          clear c0 c1 c2 c3 HSx
          have h5 := h4.alloc (.cells #[.int .i64 (opPkt L s o).src, .int .i64 (opPkt L s o).dst, .string (opPkt L s o).body] 34)
          obtain ⟨bx, ox, hbx, c0, c1, c2, c3⟩ := HO.out.below h5.below k hlt
          obtain ⟨e1, e2⟩ : b = bx ∧ off = ox := by simpa using hbx
          rw [← e1, ← e2, ← HOK.out] at c0 c1 c2 c3
          have H5 := Lib.hid h5; clear h4 h5 hbx e1 e2
          go_wp2_with fail
          refine (model_any [blockThing w4.heap.size (.cells #[.int .i64 (opPkt L s o).src, .int .i64 (opPkt L s o).dst, .string (opPkt L s o).body] 34), netThing 51 db' L s, netThing 81 cb' L s] [netThing 81 n (opList L s o) (opSplit s o)] m L s o _ H5.out (by omega)).mono ?_
          rintro e w6 ⟨rfl, h6⟩
          clear c0 c1 c2 c3 H5 HOK
          obtain ⟨L2, hl2⟩ : ∃ L2, L2 = opList L s o := ⟨_, rfl⟩
          obtain ⟨s2, hs2⟩ : ∃ s2, s2 = opSplit s o := ⟨_, rfl⟩
          obtain ⟨P, hP⟩ : ∃ P, P = opPkt L s o := ⟨_, rfl⟩
          obtain ⟨f, hf⟩ : ∃ f, f = opCode L s o := ⟨_, rfl⟩
          rw [← hl2, ← hs2, ← hP] at h6
          rw [← hP, ← hf]
          rw [← hl2] at hL2
          clear hl2 hs2 hP hf
          generalize hpb : w4.heap.size = pb at h6 ⊢
          clear hpb
          have h7 := h6.alloc (.cells #[.int .i64 P.src, .int .i64 P.dst, .string P.body] 34)
          obtain ⟨FPM, hFM, -, -⟩ := h6.pick [blockThing pb (.cells #[.int .i64 P.src, .int .i64 P.dst, .string P.body] 34), netThing 51 db' L s, netThing 81 cb' L s] (netThing 51 m L2 s2) _
          obtain ⟨FPN, hFN, -, -⟩ := h6.pick [blockThing pb (.cells #[.int .i64 P.src, .int .i64 P.dst, .string P.body] 34), netThing 51 db' L s, netThing 81 cb' L s, netThing 51 m L2 s2] (netThing 81 n L2 s2) _
          have HM : Hid (∀ W, Turns [] w6 W → NetObj 51 W m FPM L2 s2) := fun W ht => hFM.kept ht (by simp)
          have HN : Hid (∀ W, Turns [] w6 W → NetObj 81 W n FPN L2 s2) := fun W ht => hFN.kept ht (by simp)
          obtain ⟨vm, hbm, hom, -⟩ := hFM
          obtain ⟨am, cm, hvm, -⟩ := own_shape hom
          rw [hvm] at hbm
          have hbp := h6.block [] _
          have m0 : ∀ o', (w6.alloc o').cell? ⟨m, 0, none⟩ = some (.slice am L2.length cm) := fun o' => by rw [World.cell?_alloc_past _ _ _ (lt_of_at hbm)]; exact cell_at hbm 0
          have x0 : ∀ o', (w6.alloc o').cell? ⟨pb, 0, none⟩ = some (.int .i64 P.src) := fun o' => by rw [World.cell?_alloc_past _ _ _ (lt_of_at hbp)]; exact cell_at hbp 0
          have x1 : ∀ o', (w6.alloc o').cell? ⟨pb, 1, none⟩ = some (.int .i64 P.dst) := fun o' => by rw [World.cell?_alloc_past _ _ _ (lt_of_at hbp)]; exact cell_at hbp 1
          have x2 : ∀ o', (w6.alloc o').cell? ⟨pb, 2, none⟩ = some (.string P.body) := fun o' => by rw [World.cell?_alloc_past _ _ _ (lt_of_at hbp)]; exact cell_at hbp 2
          have hne := neq34
          have hnn : samePkt P P = true := (samePkt_iff _ _).2 rfl
          have HF : Hid (∀ W, Turns [] (w6.alloc (.cells #[.int .i64 P.src, .int .i64 P.dst, .string P.body] 34)) W → Sep w W [netThing 51 db' L s, netThing 81 cb' L s, netThing 51 m L2 s2, netThing 81 n L2 s2]) := fun W ht => (h7.quiet ht).drop.drop
          clear h6 h7 hbm hom hvm hbp
          go_wp2_with fail
          go_quiet (first
            | (go_at_call 22; exact quiet_id (count_any n FPN L2 s2 _ (HN.out _ ((Turns.alloc [] _ _).drewN _))))
            | (go_at_call 20; exact quiet_ex (hear_any n FPN L2 s2 x y _ (HN.out _ ((Turns.alloc [] _ _).drewN _))))
            | (go_at_call 29; exact quiet_ex (rhear_any m FPM L2 s2 x y _ (HM.out _ ((Turns.alloc [] _ _).drewN _)))))
          go_wp2_with fail
          go_roundw
          case rel => exact ⟨k + 1, L2, s2, L, s, cb', db', by omega, by omega, by omega, rfl, rfl, by go_num, HF.out _ ((Turns.refl _ _).drewN _)⟩
          case measure => simp [intOf]; omega
      · have hlt2 : (ops.length : Int) ≤ (k : Int) := by omega
        have hs := hsep.out
        obtain ⟨FPD, hFD, -, -⟩ := hs.pick [] (netThing 51 db C t) _
        obtain ⟨FPC, hFC, -, -⟩ := hs.pick [netThing 51 db C t] (netThing 81 cb C t) _
        obtain ⟨FPM, hFM, -, -⟩ := hs.pick [netThing 51 db C t, netThing 81 cb C t] (netThing 51 m L s) _
        obtain ⟨FPN, hFN, -, -⟩ := hs.pick [netThing 51 db C t, netThing 81 cb C t, netThing 51 m L s] (netThing 81 n L s) _
        have KN : Hid (∀ W, Turns [] wr W → NetObj 81 W n FPN L s) := fun W ht => hFN.kept ht (by simp)
        have KC : Hid (∀ W, Turns [] wr W → NetObj 81 W cb FPC C t) := fun W ht => hFC.kept ht (by simp)
        have KM : Hid (∀ W, Turns [] wr W → NetObj 51 W m FPM L s) := fun W ht => hFM.kept ht (by simp)
        have KD : Hid (∀ W, Turns [] wr W → NetObj 51 W db FPD C t) := fun W ht => hFD.kept ht (by simp)
        obtain ⟨vm, hbm, hom, -⟩ := hFM
        obtain ⟨am, cm, hvm, -⟩ := own_shape hom
        obtain ⟨vd, hbd, hod, -⟩ := hFD
        obtain ⟨ad, cd, hvd, -⟩ := own_shape hod
        have PM : Hid (∀ W, Turns [] wr W → PktsAt W (.slice am L.length cm) L) := fun W ht => by
          obtain ⟨v', hb', ho', -⟩ := KM.out W ht
          have : v' = vm := by
            have h1 := cell_at hb' 0
            have h2 := cell_at hbm 0
            rw [ht.cell (a := ⟨m, 0, none⟩) (lt_of_at hbm) (by simp), h2] at h1
            simpa using h1.symm
          rw [← hvm, ← this]; exact pktsAt_own ho'
        have PD : Hid (∀ W, Turns [] wr W → PktsAt W (.slice ad C.length cd) C) := fun W ht => by
          obtain ⟨v', hb', ho', -⟩ := KD.out W ht
          have : v' = vd := by
            have h1 := cell_at hb' 0
            have h2 := cell_at hbd 0
            rw [ht.cell (a := ⟨db, 0, none⟩) (lt_of_at hbd) (by simp), h2] at h1
            simpa using h1.symm
          rw [← hvd, ← this]; exact pktsAt_own ho'
        rw [hvm] at hbm
        rw [hvd] at hbd
        have p0 : wr.cell? ⟨m, 0, none⟩ = some (.slice am L.length cm) := cell_at hbm 0
        have p1 : wr.cell? ⟨db, 0, none⟩ = some (.slice ad C.length cd) := cell_at hbd 0
        have C18 : Hid (∀ W, Turns [] wr W → Calls Try.prog 18 #[.pointer (some ⟨n, 0, none⟩)] W fun e w' => (∃ v, e = .returned v ∧ PktsAt w' v L) ∧ Turns [] W w') := fun W hW => (list_any n FPN L s W (KN.out W hW) (by omega)).mono fun e w' ⟨v, he, ho, ht⟩ => ⟨⟨v, he, pktsAt_own ho⟩, ht⟩
        have D18 : Hid (∀ W, Turns [] wr W → Calls Try.prog 18 #[.pointer (some ⟨cb, 0, none⟩)] W fun e w' => (∃ v, e = .returned v ∧ PktsAt w' v C) ∧ Turns [] W w') := fun W hW => (list_any cb FPC C t W (KC.out W hW) (by omega)).mono fun e w' ⟨v, he, ho, ht⟩ => ⟨⟨v, he, pktsAt_own ho⟩, ht⟩
        have C17 : Hid (∀ W v, Turns [] wr W → PktsAt W v L → Calls Try.prog 17 #[v, .slice am L.length cm] W fun e w' => e = .returned (.bool true) ∧ Turns [] W w') := fun W v hW hv => quiet_in (same_is v _ L L W hv (PM.out W hW) (by omega) (by omega) true (decide_eq_true rfl))
        have D17 : Hid (∀ W v, Turns [] wr W → PktsAt W v C → Calls Try.prog 17 #[v, .slice ad C.length cd] W fun e w' => e = .returned (.bool true) ∧ Turns [] W w') := fun W v hW hv => quiet_in (same_is v _ C C W hv (PD.out W hW) (by omega) (by omega) true (decide_eq_true rfl))
        have C20 : Hid (∀ W, Turns [] wr W → Calls Try.prog 20 #[.pointer (some ⟨cb, 0, none⟩), .int .i64 x, .int .i64 y] W fun e w' => e = .returned (.bool (hears t x y)) ∧ Turns [] W w') := fun W hW => quiet_in (hear_any cb FPC C t x y W (KC.out W hW))
        have C29 : Hid (∀ W, Turns [] wr W → Calls Try.prog 29 #[.pointer (some ⟨db, 0, none⟩), .int .i64 x, .int .i64 y] W fun e w' => e = .returned (.bool (hears t x y)) ∧ Turns [] W w') := fun W hW => quiet_in (rhear_any db FPD C t x y W (KD.out W hW))
        clear hlt hs hFN hFC hbm hom hvm hbd hod hvd
        go_wp2_with fail
        go_region_held3 (fun w' => Turns [] wr w' ∧ w'.cell? ⟨m, 0, none⟩ = some (.slice am L.length cm) ∧ w'.cell? ⟨db, 0, none⟩ = some (.slice ad C.length cd))
          (first
            | exact ⟨(Turns.refl _ _).drew, by simpa using p0, by simpa using p1⟩
            | (refine held2 ?_ hq; assumption)
            | (refine held2 ?_ hq; refine ⟨?_, ?_, ?_⟩ <;> assumption))
          ((first
            | (go_at_call 18; (with_reducible refine Calls.mono (C18.out _ ?_) ?_); (focus (go_split_ands; with_reducible assumption)); rintro e wq ⟨⟨v1, rfl, hv1⟩, hq⟩; have HV1 := Lib.hid hv1; clear hv1)
            | (go_at_call 18; (with_reducible refine Calls.mono (D18.out _ ?_) ?_); (focus (go_split_ands; with_reducible assumption)); rintro e wq ⟨⟨v2, rfl, hv2⟩, hq⟩; have HV2 := Lib.hid hv2; clear hv2)
            | (go_at_call 17; (with_reducible refine Calls.mono (C17.out _ _ ?_ HV1.out) ?_); (focus (go_split_ands; with_reducible assumption)); rintro e wq ⟨rfl, hq⟩)
            | (go_at_call 17; (with_reducible refine Calls.mono (D17.out _ _ ?_ HV2.out) ?_); (focus (go_split_ands; with_reducible assumption)); rintro e wq ⟨rfl, hq⟩)
            | (go_at_call 20; (with_reducible refine Calls.mono (C20.out _ ?_) ?_); (focus (go_split_ands; with_reducible assumption)); rintro e wq ⟨rfl, hq⟩)
            | (go_at_call 29; (with_reducible refine Calls.mono (C29.out _ ?_) ?_); (focus (go_split_ands; with_reducible assumption)); rintro e wq ⟨rfl, hq⟩)))
        go_wp2_with fail
        go_ret
        exact ⟨by simp, (hsep.out.quiet (by go_split_ands; assumption)).below⟩

end Go.Proofs.Ytmikjninonpejaa
