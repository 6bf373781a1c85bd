/- Contracts and lemmas (texts RefF3, RefG3, joined by a program). -/
import Derived.Test.YtmikjninonpejaaMt4
/- Statements about the disk: DiskTells, the walk. -/
namespace Go.Proofs.Ytmikjninonpejaa
open Go.RowKit Go.Proofs.YtmikjninonpejaaMem Go.Maps

/-- In the middle of DiskTells. -/
def DMid (w wr : World) (r d k : Nat) : Prop := ∃ st K, K.length ≤ 60 ∧ RefK w wr r st K [machThing d (k * 310) st K]
def ActCells (W : World) (b o : Nat) (x : DAct) (kv : Value) : Prop :=
  W.cell? ⟨b, o, none⟩ = some (.int .i64 x.doo) ∧ W.cell? ⟨b, o + 1, none⟩ = some (.int .i64 x.f) ∧ W.cell? ⟨b, o + 2, none⟩ = some (.int .i64 x.n) ∧ W.cell? ⟨b, o + 3, none⟩ = some (.string x.s) ∧ W.cell? ⟨b, o + 4, none⟩ = some kv
theorem ActsAt.all {w : World} {a : Option Addr} {l : List DAct} (h : ActsAt w a l) {i : Nat} (hi : i < l.length) :
    ∃ b off kv, a = some ⟨b, off, none⟩ ∧ l[i].wf ∧ IntsV w kv l[i].keep ∧ ∀ W, Turns [] w W → ActCells W b (off + i * 5) l[i] kv := by
  obtain ⟨hw, b, off, kv, rfl, h0, h1, h2, h3, h4, hk⟩ := h i hi
  refine ⟨b, off, kv, rfl, hw, hk, fun W ht => ⟨(ht.cell (World.block_lt_of_cell? _ _ h0) (by simp)).trans h0, (ht.cell (World.block_lt_of_cell? _ _ h1) (by simp)).trans h1, (ht.cell (World.block_lt_of_cell? _ _ h2) (by simp)).trans h2,
    (ht.cell (World.block_lt_of_cell? _ _ h3) (by simp)).trans h3, (ht.cell (World.block_lt_of_cell? _ _ h4) (by simp)).trans h4⟩⟩
theorem doK_len {K : List Int} {a : DAct} (h : K.length ≤ 60) (h2 : a.keep.length ≤ 60) : (doK K a).length ≤ 60 := by
  unfold doK
  split
  · exact h2
  · exact h

set_option maxHeartbeats 20000000 in
set_option maxRecDepth 100000 in
theorem dtells_run (a1 : Option Addr) (c1 : Nat) (l : List DAct) (f at0 size : Int) (w : World) (h1 : ActsAt w a1 l) (hf : (Lit.int .i64 f).wf = true) (hat : at0 ≤ 9223372036854775807) (hsz : size ≤ 9223372036854775807) (hfl : fewD l = true) :
    Calls Try.prog 7 #[.slice a1 l.length c1, .int .i64 f, .int .i64 at0, .int .i64 size] w fun e w' => e = .returned (.bool true) ∧ Turns [] w w' := by
  have H1 := Lib.hid h1; clear h1
  have HL := Lib.hid hfl; clear hfl
  have hll := fewD_len HL.out
  go_enter Try.func7, Try.ntmps7
  go_wp2_with fail
  refine (small_disk _).mono ?_
  rintro e w1 ⟨rfl, ht1⟩
  have HT := Lib.hid ht1; clear ht1
  go_wp2_with fail
  refine (few_acts a1 c1 l _ (H1.out.kept HT.out) (by unfold maxLen; omega)).mono ?_
  rintro e w2 ⟨rfl, rfl⟩
  rw [HL.out]
  go_wp2_with fail
  refine (mach_new [] ((Sep.start w).quiet HT.out)).mono ?_
  rintro e w2 ⟨d, rfl, h2⟩
  have H2 := Lib.hid h2; clear h2
  go_wp2_with fail
  refine (rnew_k H2.out).mono ?_
  rintro e w3 ⟨r, rfl, h3⟩
  have H3 : Hid (DMid w w3 r d 0) := ⟨DS.new, [], by simp, h3⟩
  clear h3 H2 HT
  go_wp2_with fail
  go_loopw [10, 12] (fun dv iv wr => ∃ (k d : Nat), k ≤ l.length ∧ iv = .int .i64 k ∧ dv = .pointer (some ⟨d, 0, none⟩) ∧ Hid (DMid w wr r d k)) (fun _ iv _ => l.length - (intOf iv).toNat)
  case atStart => exact ⟨0, d, by omega, rfl, rfl, H3.out⟩
  case round =>
    clear H3
    obtain ⟨k, d, hk, rfl, rfl, st, K, hK, hS⟩ := hrel
    have HS := Lib.hid hS; clear hS
    by_cases hlt : k < l.length
    · obtain ⟨b, off, kv, rfl, hwf, hkv, hcc⟩ := H1.out.all hlt
      have hsz2 := fewD_act HL.out hlt
      obtain ⟨x, hx⟩ : ∃ x, x = l[k] := ⟨_, rfl⟩
      rw [← hx] at hwf hkv hcc hsz2
      obtain ⟨ka, kc, rfl, -⟩ := id hkv
      have hinv := rk_inv HS.out
      have HX := Lib.hid (And.intro hx (And.intro hkv (And.intro hwf (And.intro hsz2.1 (And.intro hsz2.2 (And.intro hK hinv)))))); clear hx hkv hwf hsz2 hinv hK
      have HC := Lib.hid hcc; clear hcc
      have hltI : (k : Int) < (l.length : Int) := by omega
      go_wp2_with fail
      have HSd := Lib.hid (RefK.quiet HS.out (Turns.refl [] wr).drew)
      clear HS
      · skip
        have hs2 := HC.out wr.drew (RefK.turns HSd.out)
        unfold ActCells at hs2
        refine wp_region_N (fun _ => True) (fun W => W.cell? ⟨b, off + k * 5, none⟩ = some (.int .i64 x.doo) ∧ W.cell? ⟨b, off + k * 5 + 1, none⟩ = some (.int .i64 x.f) ∧ W.cell? ⟨b, off + k * 5 + 2, none⟩ = some (.int .i64 x.n) ∧ W.cell? ⟨b, off + k * 5 + 3, none⟩ = some (.string x.s) ∧ W.cell? ⟨b, off + k * 5 + 4, none⟩ = some (.slice ka x.keep.length kc)) (fun _ => false) (by kernel_rfl) ?_
        generalize wr.drew = Wd at *
        refine wpAnyN_take2 (some 33) (i := 0) (v := ?_) rfl rfl (by kernel_rfl) (by kernel_rfl) (by kernel_rfl) (by kernel_rfl) rfl (fun _ _ _ h => h) (Or.inl ⟨by rfl, ?_⟩) hs2 ?_
        rotate_left
        · intro w' hSw; obtain ⟨p0, p1, p2, p3, p4⟩ := hSw; go_simp; try (with_reducible rfl)
        simp only [Act.put, List.setIfInBounds_toArray, List.set_cons_zero, List.set_cons_succ]
        refine wpAnyN_take2 (some 34) (i := 1) (v := ?_) rfl rfl (by kernel_rfl) (by kernel_rfl) (by kernel_rfl) (by kernel_rfl) rfl (fun _ _ _ h => h) (Or.inl ⟨by rfl, ?_⟩) hs2 ?_
        rotate_left
        · intro w' hSw; obtain ⟨p0, p1, p2, p3, p4⟩ := hSw; go_simp; try (with_reducible rfl)
        simp only [Act.put, List.setIfInBounds_toArray, List.set_cons_zero, List.set_cons_succ]
        refine wpAnyN_take2 (some 35) (i := 2) (v := ?_) rfl rfl (by kernel_rfl) (by kernel_rfl) (by kernel_rfl) (by kernel_rfl) rfl (fun _ _ _ h => h) (Or.inl ⟨by rfl, ?_⟩) hs2 ?_
        rotate_left
        · intro w' hSw; obtain ⟨p0, p1, p2, p3, p4⟩ := hSw; go_simp; try (with_reducible rfl)
        simp only [Act.put, List.setIfInBounds_toArray, List.set_cons_zero, List.set_cons_succ]
        refine wpAnyN_take2 (some 36) (i := 3) (v := ?_) rfl rfl (by kernel_rfl) (by kernel_rfl) (by kernel_rfl) (by kernel_rfl) rfl (fun _ _ _ h => h) (Or.inl ⟨by rfl, ?_⟩) hs2 ?_
        rotate_left
        · intro w' hSw; obtain ⟨p0, p1, p2, p3, p4⟩ := hSw; go_simp; try (with_reducible rfl)
        simp only [Act.put, List.setIfInBounds_toArray, List.set_cons_zero, List.set_cons_succ]
        refine wpAnyN_take2 (some 37) (i := 4) (v := ?_) rfl rfl (by kernel_rfl) (by kernel_rfl) (by kernel_rfl) (by kernel_rfl) rfl (fun _ _ _ h => h) (Or.inl ⟨by rfl, ?_⟩) hs2 ?_
        rotate_left
        · intro w' hSw; obtain ⟨p0, p1, p2, p3, p4⟩ := hSw; go_simp; try (with_reducible rfl)
        simp only [Act.put, List.setIfInBounds_toArray, List.set_cons_zero, List.set_cons_succ]
        refine wpAnyN_take2 (some 39) (i := 6) (v := ?_) rfl rfl (by kernel_rfl) (by kernel_rfl) (by kernel_rfl) (by kernel_rfl) rfl (fun _ _ _ h => h) (Or.inl ⟨by rfl, ?_⟩) hs2 ?_
        rotate_left
        · intro w' hSw; obtain ⟨p0, p1, p2, p3, p4⟩ := hSw; go_simp; try (with_reducible rfl)
        simp only [Act.put, List.setIfInBounds_toArray, List.set_cons_zero, List.set_cons_succ]
        refine wpAnyN_take2 (some 40) (i := 7) (v := ?_) rfl rfl (by kernel_rfl) (by kernel_rfl) (by kernel_rfl) (by kernel_rfl) rfl (fun _ _ _ h => h) (Or.inl ⟨by rfl, ?_⟩) hs2 ?_
        rotate_left
        · intro w' hSw; obtain ⟨p0, p1, p2, p3, p4⟩ := hSw; go_simp; try (with_reducible rfl)
        simp only [Act.put, List.setIfInBounds_toArray, List.set_cons_zero, List.set_cons_succ]
        refine wpAnyN_take2 (some 41) (i := 8) (v := ?_) rfl rfl (by kernel_rfl) (by kernel_rfl) (by kernel_rfl) (by kernel_rfl) rfl (fun _ _ _ h => h) (Or.inl ⟨by rfl, ?_⟩) hs2 ?_
        rotate_left
        · intro w' hSw; obtain ⟨p0, p1, p2, p3, p4⟩ := hSw; go_simp; try (with_reducible rfl)
        simp only [Act.put, List.setIfInBounds_toArray, List.set_cons_zero, List.set_cons_succ]
        refine wpAnyN_take2 (some 42) (i := 9) (v := ?_) rfl rfl (by kernel_rfl) (by kernel_rfl) (by kernel_rfl) (by kernel_rfl) rfl (fun _ _ _ h => h) (Or.inl ⟨by rfl, ?_⟩) hs2 ?_
        rotate_left
        · intro w' hSw; obtain ⟨p0, p1, p2, p3, p4⟩ := hSw; go_simp; try (with_reducible rfl)
        simp only [Act.put, List.setIfInBounds_toArray, List.set_cons_zero, List.set_cons_succ]
        refine wpAnyN_take2 (some 43) (i := 10) (v := ?_) rfl rfl (by kernel_rfl) (by kernel_rfl) (by kernel_rfl) (by kernel_rfl) rfl (fun _ _ _ h => h) (Or.inl ⟨by rfl, ?_⟩) hs2 ?_
        rotate_left
        · intro w' hSw; obtain ⟨p0, p1, p2, p3, p4⟩ := hSw; go_simp; try (with_reducible rfl)
        simp only [Act.put, List.setIfInBounds_toArray, List.set_cons_zero, List.set_cons_succ]
        refine wpAnyN_one (i := 5) (by kernel_rfl) rfl fun K1 hK1 => ?_
        go_simp
        refine (rk_do x (.slice ka x.keep.length kc) HSd.out HX.out.2.1 HX.out.2.2.1 (by have := HX.out.2.2.2.1; omega) (by have := HX.out.2.2.2.2.2; omega) (by have := HX.out.2.2.2.2.1; omega)).mono ?_
        rintro e Wa ⟨rfl, h2⟩
        go_simp
        have HWa := Lib.hid h2; clear h2 hs2
        have hs2 := HC.out Wa (RefK.turns HWa.out)
        unfold ActCells at hs2
        refine hK1.out _ _ hs2 (fun h => absurd h (by decide)) ?_
        clear hK1 K1
        try (simp only [Act.put, List.setIfInBounds_toArray, List.set_cons_zero, List.set_cons_succ])
        refine wpAnyN_one (i := 11) (by kernel_rfl) rfl fun K1 hK1 => ?_
        go_simp
        refine (rtell_any x HWa.out HX.out.2.1 HX.out.2.2.2.2.2.2.1 (by have := HX.out.2.2.2.2.2.2.2; omega) (by have := HX.out.2.2.2.2.2.1; omega) (by have := HX.out.2.2.2.1; omega) (by have := HX.out.2.2.2.2.1; omega)).mono ?_
        rintro e Wb ⟨rfl, h2⟩
        go_simp
        have HWb := Lib.hid h2; clear h2 hs2 HWa
        have hs2 := HC.out Wb (RefK.turns HWb.out)
        unfold ActCells at hs2
        refine hK1.out _ _ hs2 (fun h => absurd h (by decide)) ?_
        clear hK1 K1
        try (simp only [Act.put, List.setIfInBounds_toArray, List.set_cons_zero, List.set_cons_succ])
        refine wpAnyN_one (i := 12) (by kernel_rfl) rfl fun K1 hK1 => ?_
        go_simp
        refine hK1.out _ _ hs2 (fun h => absurd h (by decide)) ?_
        clear hK1 K1
        try (simp only [Act.put, List.setIfInBounds_toArray, List.set_cons_zero, List.set_cons_succ])
        refine wpAnyN_one (i := 13) (by kernel_rfl) rfl fun K1 hK1 => ?_
        go_simp
        refine hK1.out _ _ hs2 (fun h => absurd h (by decide)) ?_
        clear hK1 K1
        try (simp only [Act.put, List.setIfInBounds_toArray, List.set_cons_zero, List.set_cons_succ])
        refine wpAnyN_take2 (some 47) (i := 14) (v := ?_) rfl rfl (by kernel_rfl) (by kernel_rfl) (by kernel_rfl) (by kernel_rfl) rfl (fun _ _ _ h => h) (Or.inl ⟨by rfl, ?_⟩) hs2 ?_
        rotate_left
        · intro w' hSw; obtain ⟨p0, p1, p2, p3, p4⟩ := hSw; go_simp; try (with_reducible rfl)
        simp only [Act.put, List.setIfInBounds_toArray, List.set_cons_zero, List.set_cons_succ]
        refine wpAnyN_take2 (some 49) (i := 16) (v := ?_) rfl rfl (by kernel_rfl) (by kernel_rfl) (by kernel_rfl) (by kernel_rfl) rfl (fun _ _ _ h => h) (Or.inl ⟨by rfl, ?_⟩) hs2 ?_
        rotate_left
        · intro w' hSw; obtain ⟨p0, p1, p2, p3, p4⟩ := hSw; go_simp; try (with_reducible rfl)
        simp only [Act.put, List.setIfInBounds_toArray, List.set_cons_zero, List.set_cons_succ]
        refine wpAnyN_one (i := 15) (by kernel_rfl) rfl fun K1 hK1 => ?_
        go_simp
        refine (rk_down HWb.out).mono ?_
        rintro e Wc ⟨rfl, rfl⟩
        go_simp
        refine hK1.out _ _ hs2 (fun h => absurd h (by decide)) ?_
        clear hK1 K1
        try (simp only [Act.put, List.setIfInBounds_toArray, List.set_cons_zero, List.set_cons_succ])
        refine wpAnyN_one (i := 17) (by kernel_rfl) rfl fun K1 hK1 => ?_
        go_simp
        obtain ⟨kvr, hkr⟩ := HWb.out
        refine (rdown_any hkr).mono ?_
        clear hkr
        rintro e Wc ⟨rfl, rfl⟩
        go_simp
        refine hK1.out _ _ hs2 (fun h => absurd h (by decide)) ?_
        clear hK1 K1
        try (simp only [Act.put, List.setIfInBounds_toArray, List.set_cons_zero, List.set_cons_succ])
        refine wpAnyN_one (i := 18) (by kernel_rfl) rfl fun K1 hK1 => ?_
        go_simp
        refine hK1.out _ _ hs2 (fun h => absurd h (by decide)) ?_
        clear hK1 K1
        try (simp only [Act.put, List.setIfInBounds_toArray, List.set_cons_zero, List.set_cons_succ])
        refine wpAnyN_one (i := 19) (by kernel_rfl) rfl fun K1 hK1 => ?_
        go_simp
        refine hK1.out _ _ hs2 (fun h => absurd h (by decide)) ?_
        clear hK1 K1
        try (simp only [Act.put, List.setIfInBounds_toArray, List.set_cons_zero, List.set_cons_succ])
        refine wpAnyN_one (i := 20) (by kernel_rfl) rfl fun K1 hK1 => ?_
        go_simp
        refine hK1.out _ _ hs2 (fun h => absurd h (by decide)) ?_
        clear hK1 K1
        try (simp only [Act.put, List.setIfInBounds_toArray, List.set_cons_zero, List.set_cons_succ])
        refine wpAnyN_take2 (some 54) (i := 21) (v := ?_) rfl rfl (by kernel_rfl) (by kernel_rfl) (by kernel_rfl) (by kernel_rfl) rfl (fun _ _ _ h => h) (Or.inl ⟨by rfl, ?_⟩) hs2 ?_
        rotate_left
        · intro w' hSw; obtain ⟨p0, p1, p2, p3, p4⟩ := hSw; go_simp; try (with_reducible rfl)
        simp only [Act.put, List.setIfInBounds_toArray, List.set_cons_zero, List.set_cons_succ]
        refine wpAnyN_take2 (some 55) (i := 22) (v := ?_) rfl rfl (by kernel_rfl) (by kernel_rfl) (by kernel_rfl) (by kernel_rfl) rfl (fun _ _ _ h => h) (Or.inl ⟨by rfl, ?_⟩) hs2 ?_
        rotate_left
        · intro w' hSw; obtain ⟨p0, p1, p2, p3, p4⟩ := hSw; go_simp; try (with_reducible rfl)
        simp only [Act.put, List.setIfInBounds_toArray, List.set_cons_zero, List.set_cons_succ]
        refine wpAnyN_take2 (some 57) (i := 24) (v := ?_) rfl rfl (by kernel_rfl) (by kernel_rfl) (by kernel_rfl) (by kernel_rfl) rfl (fun _ _ _ h => h) (Or.inl ⟨by rfl, ?_⟩) hs2 ?_
        rotate_left
        · intro w' hSw; obtain ⟨p0, p1, p2, p3, p4⟩ := hSw; go_simp; try (with_reducible rfl)
        simp only [Act.put, List.setIfInBounds_toArray, List.set_cons_zero, List.set_cons_succ]
        refine wpAnyN_take2 (some 58) (i := 25) (v := ?_) rfl rfl (by kernel_rfl) (by kernel_rfl) (by kernel_rfl) (by kernel_rfl) rfl (fun _ _ _ h => h) (Or.inl ⟨by rfl, ?_⟩) hs2 ?_
        rotate_left
        · intro w' hSw; obtain ⟨p0, p1, p2, p3, p4⟩ := hSw; go_simp; try (with_reducible rfl)
        simp only [Act.put, List.setIfInBounds_toArray, List.set_cons_zero, List.set_cons_succ]
        refine wpAnyN_one (i := 23) (by kernel_rfl) rfl fun K1 hK1 => ?_
        go_simp
        refine (rk_size f HWb.out hf).mono ?_
        rintro e Wc ⟨rfl, rfl⟩
        go_simp
        refine hK1.out _ _ hs2 (fun h => absurd h (by decide)) ?_
        clear hK1 K1
        try (simp only [Act.put, List.setIfInBounds_toArray, List.set_cons_zero, List.set_cons_succ])
        refine wpAnyN_one (i := 26) (by kernel_rfl) rfl fun K1 hK1 => ?_
        go_simp
        obtain ⟨kvr, hkr⟩ := HWb.out
        refine (rsize_any f hkr).mono ?_
        clear hkr
        rintro e Wc ⟨rfl, htc⟩
        go_simp
        have HWc := Lib.hid (RefK.quiet HWb.out htc); clear htc hs2 HWb
        have hs2 := HC.out Wc (RefK.turns HWc.out)
        unfold ActCells at hs2
        refine hK1.out _ _ hs2 (fun h => absurd h (by decide)) ?_
        clear hK1 K1
        try (simp only [Act.put, List.setIfInBounds_toArray, List.set_cons_zero, List.set_cons_succ])
        refine wpAnyN_one (i := 27) (by kernel_rfl) rfl fun K1 hK1 => ?_
        go_simp
        refine hK1.out _ _ hs2 (fun h => absurd h (by decide)) ?_
        clear hK1 K1
        try (simp only [Act.put, List.setIfInBounds_toArray, List.set_cons_zero, List.set_cons_succ])
        refine wpAnyN_one (i := 28) (by kernel_rfl) rfl fun K1 hK1 => ?_
        go_simp
        refine hK1.out _ _ hs2 (fun h => absurd h (by decide)) ?_
        clear hK1 K1
        try (simp only [Act.put, List.setIfInBounds_toArray, List.set_cons_zero, List.set_cons_succ])
        refine wpAnyN_done (by kernel_rfl) ?_ _
        clear hs2
        have HN : Hid (RefK w Wc r (doS st K x) (doK K x) [machThing d ((k + 1) * 310) (doS st K x) (doK K x)]) := rk_more HWc.out (by have := HX.out.2.2.2.1; omega)
        clear HWc HC HSd
        have HKN : Hid ((doK K x).length ≤ 60) := doK_len HX.out.2.2.2.2.2.1 HX.out.2.2.2.2.1
        generalize doC st K x = cd at *
        generalize doS st K x = st2 at *
        generalize doK K x = K2 at *
        by_cases hmid : k = l.length / 2
        · have hmI : ((k : Int) == (l.length : Int) / 2) = true := by rw [beq_iff_eq]; omega
          clear hmid
          go_wp2_with fail
          refine (rk_copy HN.out (by omega)).mono ?_
          rintro e W1 ⟨c, kv1, FP0, rfl, q1, q2, q3, q4, q5⟩
          obtain ⟨b', off', kv0, hbb, hwf0, hkv0, hcc0⟩ := H1.out.all (show 0 < l.length by omega)
          obtain ⟨rfl, rfl, -⟩ : b = b' ∧ off = off' ∧ True := by simpa using hbb
          have hsz0 := fewD_act HL.out (show 0 < l.length by omega)
          obtain ⟨y, hy⟩ : ∃ y, y = l[0] := ⟨_, rfl⟩
          rw [← hy] at hwf0 hkv0 hcc0 hsz0
          obtain ⟨ka0, kc0, rfl, -⟩ := id hkv0
          have z := hcc0 W1 ((RefK.turns HN.out).trans q4)
          unfold ActCells at z
          rw [Nat.zero_mul, Nat.add_zero] at z
          obtain ⟨z0, z1, z2, z3, z4⟩ := z
          have HQ := Lib.hid (And.intro q1 (And.intro q2 (And.intro q3 (And.intro ((RefK.turns HN.out).trans q4) q5)))); clear q1 q2 q3 q4 q5
          have HY := Lib.hid (And.intro hy (And.intro hkv0 (And.intro hwf0 (And.intro hsz0.1 hsz0.2)))); clear hy hkv0 hwf0 hsz0 hcc0 hbb HN
          go_wp2_with fail
          refine (do_raw y HQ.out.1 HQ.out.2.1 (HY.out.2.1.old HQ.out.2.2.2.1 HQ.out.2.2.1) HY.out.2.2.1.1 HY.out.2.2.1.2 (by have := HY.out.2.2.2.1; omega) (by have := HKN.out; omega) (by have := HY.out.2.2.2.2; omega)).mono ?_
          rintro e W2 ⟨rfl, FP1, kv2, q1, q2, q3, -⟩
          have HQ2 := Lib.hid (And.intro q1 (And.intro q2 q3)); clear q1 q2 q3 z0 z1 z2 z3 z4
          go_wp2_with fail
          refine (syncI HQ2.out.1 HQ2.out.2.1 f hf (by have := HY.out.2.2.2.1; omega) (by have := doK_len HKN.out HY.out.2.2.2.2; omega)).mono ?_
          rintro e W3 ⟨rfl, FP2, -, q3⟩
          have HW3 : Hid (DMid w W3 r c (k + 1)) := ⟨_, _, HKN.out, HQ.out.2.2.2.2 FP2 W3 (HQ2.out.2.2.trans q3)⟩
          clear q3 HQ2 HQ
          go_wp2_with fail
          go_roundw
          case rel => exact ⟨k + 1, c, by omega, by go_num, rfl, HW3.out⟩
          case measure => simp [intOf]; omega
        · have hmI : ((k : Int) == (l.length : Int) / 2) = false := by rw [beq_eq_false_iff_ne]; omega
          clear hmid
          go_wp2_with fail
          go_roundw
          case rel => exact ⟨k + 1, d, by omega, by go_num, rfl, _, _, HKN.out, HN.out⟩
          case measure => simp [intOf]; omega
    · obtain rfl : k = l.length := by omega
      have hltI : decide ((l.length : Int) < (l.length : Int)) = false := decide_eq_false (by omega)
      go_wp2_with fail
      refine (rk_read f at0 size HS.out hf).mono ?_
      rintro e W1 ⟨rfl, rfl⟩
      go_wp2_with fail
      obtain ⟨kvr, hkr⟩ := id HS.out
      refine (rread_any f at0 size hkr ((rk_inv HS.out).1.size f).2 hat hsz).mono ?_
      rintro e W1 ⟨rfl, ht⟩
      have HE := Lib.hid (RefK.quiet HS.out ht); clear ht HS hkr
      generalize readStr st f at0 size = rs at *
      generalize readCode st f at0 size = rc at *
      have e1 : (rs.toList == rs.toList) = true := beq_self_eq_true _
      go_wp2_with fail
      go_ret
      exact ⟨rfl, RefK.turns HE.out⟩

end Go.Proofs.Ytmikjninonpejaa

/- Statements about the disk: DiskTells, whole. -/
namespace Go.Proofs.Ytmikjninonpejaa
open Go.RowKit Go.Proofs.YtmikjninonpejaaMem Go.Maps

set_option maxRecDepth 100000 in
theorem dtells_few (a1 : Option Addr) (c1 : Nat) (l : List DAct) (f at0 size : Int) (w : World) (h1 : ActsAt w a1 l) (hl1 : l.length ≤ maxLen) (hfl : fewD l = false) :
    Calls Try.prog 7 #[.slice a1 l.length c1, .int .i64 f, .int .i64 at0, .int .i64 size] w fun e w' => e = .returned (.bool true) ∧ Turns [] w w' := by
  have H1 := Lib.hid h1; clear h1
  have HL := Lib.hid hfl; clear hfl
  go_enter Try.func7, Try.ntmps7
  go_wp2_with fail
  refine (small_disk _).mono ?_
  rintro e w1 ⟨rfl, ht1⟩
  have HT := Lib.hid ht1; clear ht1
  go_wp2_with fail
  refine (few_acts a1 c1 l _ (H1.out.kept HT.out) hl1).mono ?_
  rintro e w2 ⟨rfl, rfl⟩
  rw [HL.out]
  go_wp2_with fail
  go_ret
  exact ⟨rfl, HT.out⟩
theorem wf_le {x : Int} (h : (Lit.int .i64 x).wf = true) : x ≤ 9223372036854775807 := by
  have e1 : IntKind.i64.max = 9223372036854775807 := by decide
  simp [Lit.wf, e1] at h
  exact h.2
theorem disktells_row (a1 : Option Addr) (c1 : Nat) (l : List DAct) (f at0 size : Int) (w : World) (h1 : ActsIn w a1 l) (hf : (Lit.int .i64 f).wf = true) (hat : (Lit.int .i64 at0).wf = true) (hsz : (Lit.int .i64 size).wf = true) :
    Calls Try.prog 7 #[.slice a1 l.length c1, .int .i64 f, .int .i64 at0, .int .i64 size] w fun e w' => e = .returned (.bool true) ∧ Below w.heap.size w w' := by
  cases h : fewD l
  · exact (dtells_few a1 c1 l f at0 size w h1.2 h1.1 h).mono fun e w' ⟨e1, e2⟩ => ⟨e1, e2.below (Nat.le_refl _) (by simp)⟩
  · exact (dtells_run a1 c1 l f at0 size w h1.2 hf (wf_le hat) (wf_le hsz) h).mono fun e w' ⟨e1, e2⟩ => ⟨e1, e2.below (Nat.le_refl _) (by simp)⟩
end Go.Proofs.Ytmikjninonpejaa
