/- Contracts and lemmas (texts RelC, joined by a program). -/
import Derived.Test.YtdcgdnlpagadcaaDoorMq4
/- Contract of the reference for cell: Set. -/
namespace Go.Proofs.YtdcgdnlpagadcaaDoor
open Go.RowKit Go.Proofs.YtdcgdnlpagadcaaDoorMem Go.Maps
open Go.Lib (byteCells byteCells_length byteCells_append)

/-- A state that holds its invariant and waits for at most n sectors. -/
def Fine (st : DS) (n : Nat) : Prop := DInv st ∧ st.Q.length ≤ n
theorem crash_Q (st : DS) (K : List Int) : (crashS st K).Q.length ≤ st.Q.length := by
  unfold crashS
  split <;> simp
theorem Fine.write {st : DS} {n : Nat} (h : Fine st n) (K : List Int) (f a : Int) (s : ByteArray) : Fine (writeS st K f a s) (n + 8 + s.size) := by
  refine ⟨h.1.write K f a s, ?_⟩
  have h2 := wr_len (endsS st) f a s
  have h3 := h.2
  rw [endsS_Q] at h2
  unfold writeS
  split
  · have := crash_Q (wrS (endsS st) f a s) K
    omega
  · omega
theorem Fine.sync {st : DS} {n : Nat} (h : Fine st n) (K : List Int) (f : Int) : Fine (syncS st K f) n := by
  refine ⟨h.1.sync K f, ?_⟩
  have h1 := end_queue st K
  have h2 := h.2
  unfold syncS
  simp only
  split
  · omega
  split
  · show (endS st K).Q.length ≤ n; omega
  · unfold settleS
    have := List.length_filter_le (fun p : Int × Int => p.1 != f) (endS st K).Q
    show (List.filter _ (endS st K).Q).length ≤ n
    omega
theorem hdr_wraps (k : Int) (s : ByteArray) (hk : k = 1 ∨ k = 2) (hs : s.size ≤ 65536) :
    IntKind.u8.wrap k = k ∧ IntKind.u8.wrap ((s.size : Int).tmod 256) = (s.size : Int) % 256 ∧ IntKind.u8.wrap ((IntKind.i64.wrap ((s.size : Int) / 256)).tmod 256) = (s.size : Int) / 256 % 256 ∧
      IntKind.u8.wrap (IntKind.i64.wrap ((s.size : Int) / 65536)) = (s.size : Int) / 65536 := by
  have e1 : IntKind.i64.wrap ((s.size : Int) / 256) = (s.size : Int) / 256 := by rw [IntKind.wrap_i64]; omega
  have e2 : IntKind.i64.wrap ((s.size : Int) / 65536) = (s.size : Int) / 65536 := by rw [IntKind.wrap_i64]; omega
  rw [e1, e2, Int.tmod_eq_emod_of_nonneg (by omega), Int.tmod_eq_emod_of_nonneg (by omega)]
  rw [IntKind.wrap_u8, IntKind.wrap_u8, IntKind.wrap_u8, IntKind.wrap_u8]
  refine ⟨?_, ?_, ?_, ?_⟩ <;> omega
section
variable {w0 w : World} {r cb : Nat} {f : Int} {c : CS} {st : DS} {K : List Int} {post : List Thing}
theorem rk_sync {n : Nat} (f : Int) (h : RefK w0 w r st K post) (hF : Fine st n) (hn : n ≤ 300000) (hK : K.length ≤ 1000000) :
    Calls Tryd.prog 38 #[.pointer (some ⟨r, 0, none⟩), .int .i64 f] w fun e w' => e = .returned (.int .i64 (syncCode st K f)) ∧ RefK w0 w' r (syncS st K f) K post := by
  obtain ⟨kv, h⟩ := h
  exact (rsync_any f h hF.1 (Nat.le_trans hF.2 hn) hK).mono fun e w' ⟨h1, h2⟩ => ⟨h1, kv, h2⟩
theorem rk_write {n : Nat} (f a : Int) (s : ByteArray) (h : RefK w0 w r st K post) (hF : Fine st n) (hn : n ≤ 300000) (hK : K.length ≤ 1000000) (hs : s.size ≤ 100000000) :
    Calls Tryd.prog 33 #[.pointer (some ⟨r, 0, none⟩), .int .i64 f, .int .i64 a, .string s] w fun e w' => e = .returned (.int .i64 (writeCode st f a s)) ∧ RefK w0 w' r (writeS st K f a s) K post := by
  obtain ⟨kv, h⟩ := h
  exact (rwrite_any f a s h hF.1 (Nat.le_trans hF.2 hn) hK hs).mono fun e w' ⟨h1, h2⟩ => ⟨h1, kv, h2⟩
theorem rcell_facts (h : RefK w0 w r st K (blockThing cb (rcellObj r f c) :: post)) :
    (w.cell? ⟨cb, 0, none⟩ = some (.pointer (some ⟨r, 0, none⟩)) ∧ w.cell? ⟨cb, 1, none⟩ = some (.int .i64 f) ∧ w.cell? ⟨cb, 2, none⟩ = some (.int .i64 c.slot) ∧ w.cell? ⟨cb, 4, none⟩ = some (.bool c.sure)) ∧
      w.heap[cb]? = some (rcellObj r f c) := by
  have hb := RefK.block h
  exact ⟨⟨cell_at hb 0, cell_at hb 1, cell_at hb 2, cell_at hb 4⟩, hb⟩
theorem rcell_set3 (h : RefK w0 w r st K (blockThing cb (rcellObj r f c) :: post)) (k : Int) (s : ByteArray) (b : Bool) :
    RefK w0 (((w.setCell ⟨cb, 2, none⟩ (.int .i64 k)).setCell ⟨cb, 3, none⟩ (.string s)).setCell ⟨cb, 4, none⟩ (.bool b)) r st K (blockThing cb (rcellObj r f ⟨k, s, b⟩) :: post) := by
  have hb := RefK.block h
  refine RefK.turned h (((Turns.setCell _ _ _ (by simp)).trans (Turns.setCell _ _ _ (by simp))).trans (Turns.setCell _ _ _ (by simp))) ?_
  exact heap_setCell_at (heap_setCell_at (heap_setCell_at hb 2 _) 3 _) 4 _
theorem rcell_set1 (h : RefK w0 w r st K (blockThing cb (rcellObj r f c) :: post)) (b : Bool) :
    RefK w0 (w.setCell ⟨cb, 4, none⟩ (.bool b)) r st K (blockThing cb (rcellObj r f ⟨c.slot, c.value, b⟩) :: post) := by
  have hb := RefK.block h
  refine RefK.turned h (Turns.setCell _ _ _ (by simp)) ?_
  exact heap_setCell_at hb 4 _
/-- The header's bytes. -/
theorem hdr_back (k : Int) (s : ByteArray) (hk : k = 1 ∨ k = 2) (hs : s.size ≤ 65536) (W : World) :
    (convert 54 9 (.slice (some ⟨W.heap.size, 0, none⟩) 5 5)).run Tryd.prog (W.alloc (.cells #[.int .u8 k, .int .u8 ((s.size : Int) % 256), .int .u8 ((s.size : Int) / 256 % 256), .int .u8 ((s.size : Int) / 65536), .int .u8 0] 5)) =
      .ok (.string (hdrB k s)) (W.alloc (.cells #[.int .u8 k, .int .u8 ((s.size : Int) % 256), .int .u8 ((s.size : Int) / 256 % 256), .int .u8 ((s.size : Int) / 65536), .int .u8 0] 5)) := by
  have e : (#[.int .u8 k, .int .u8 ((s.size : Int) % 256), .int .u8 ((s.size : Int) / 256 % 256), .int .u8 ((s.size : Int) / 65536), .int .u8 0] : Array Value) = (byteCells (hdrL k s.size)).toArray := by
    have e0 : ∀ x : Nat, Value.int .u8 ((UInt8.ofNat x).toNat : Nat) = .int .u8 ((x : Int) % 256) := fun x => by
      rw [UInt8.toNat_ofNat']; congr 1
    have h1 : Value.int .u8 ((UInt8.ofNat k.toNat).toNat : Nat) = .int .u8 k := by rcases hk with rfl | rfl <;> rfl
    have h4 : Value.int .u8 ((UInt8.ofNat (s.size / 65536)).toNat : Nat) = .int .u8 ((s.size : Int) / 65536) := by rw [e0]; congr 1; omega
    have h5 : Value.int .u8 ((UInt8.ofNat (s.size / 16777216)).toNat : Nat) = .int .u8 0 := by rw [e0]; congr 1; omega
    have h2 := e0 s.size
    have h3 := e0 (s.size / 256)
    simp only [hdrL, byteCells, List.map]
    rw [h1, h2, h3, h4, h5]
    rfl
  rw [e]
  have := run_convert_bytes_back (P := Tryd.prog) (W.alloc (.cells (byteCells (hdrL k s.size)).toArray 5)) 54 9 5 ⟨W.heap.size, 0, none⟩ 5 (hdrL k s.size) Tryd.underlying54 Tryd.underlying5 Tryd.underlying9 (fun j hj => by
    have e : ((⟨W.heap.size, 0, none⟩ : Addr).add j) = ⟨W.heap.size, j, none⟩ := by unfold Addr.add; split <;> simp_all
    rw [e, cell_at (heap_alloc_here _ _)]
    simp [byteCells, hj])
  exact this
end

set_option maxHeartbeats 6400000 in
set_option maxRecDepth 100000 in
theorem rset_b1 {w0 w : World} {r cb : Nat} {f : Int} {c : CS} {st : DS} {K : List Int} {post : List Thing} (s : ByteArray)
    (h : RefK w0 w r st K (blockThing cb (rcellObj r f c) :: post)) (hF : Fine st 200000) (hK : K.length ≤ 1000000) (hs : s.size ≤ 65536) (hsure : c.sure = true) (hslot : c.slot = 1) :
    Calls Tryd.prog 20 #[.pointer (some ⟨cb, 0, none⟩), .string s] w fun e w' => e = .returned (.int .i64 (setR st K f c s).1) ∧
      RefK w0 w' r (setR st K f c s).2.2 K (blockThing cb (rcellObj r f (setR st K f c s).2.1) :: post) := by
  have HR : Hid (setR st K f c s = setT st K f c s 2 131072) := by
    unfold setR
    rw [if_neg (by omega), if_neg (by rw [hsure]; intro hh; first | exact absurd hh.1 (by decide) | (have := hh.2; omega))]
    exact setW_T _ _ _ _ _ _ _ (by simp [slotOf, hslot]) rfl
  have HS := Lib.hid h; clear h
  obtain ⟨⟨c0, c1, c2, c4⟩, -⟩ := rcell_facts HS.out
  rw [hsure] at c4
  rw [hslot] at c2
  have HX := Lib.hid (And.intro hK hs)
  have FS := Lib.hid hF; clear hK hF
  have hlong : ¬ (65536 : Int) < (s.size : Int) := by omega
  go_enter Tryd.func20, Tryd.ntmps20
  go_wp2_with fail
  clear c0 c1 c2 c4
  have HSd := Lib.hid (RefK.quiet HS.out (Turns.refl [] w).drew)
  obtain ⟨⟨q0, q1, -, -⟩, -⟩ := rcell_facts HSd.out
  refine wp_region_N (fun _ => True) (fun w' => w'.cell? ⟨cb, 0, none⟩ = some (.pointer (some ⟨r, 0, none⟩)) ∧ w'.cell? ⟨cb, 1, none⟩ = some (.int .i64 f)) (fun _ => false) (by kernel_rfl) ?_
  generalize w.drew = Wad at *
  clear HS
  have hs2 := And.intro q0 q1
  refine wpAnyN_take2 (some 44) (i := 0) (v := ?_) rfl rfl (by kernel_rfl) (by kernel_rfl) (by kernel_rfl) (by kernel_rfl) rfl (fun _ _ _ h => h) (Or.inl ⟨by rfl, ?_⟩) hs2 ?_
  rotate_left
  · intro w' hSw; obtain ⟨p0, p1⟩ := hSw; go_simp; try (with_reducible rfl)
  simp only [Act.put, List.setIfInBounds_toArray, List.set_cons_zero, List.set_cons_succ]
  refine wpAnyN_take2 (some 45) (i := 1) (v := ?_) rfl rfl (by kernel_rfl) (by kernel_rfl) (by kernel_rfl) (by kernel_rfl) rfl (fun _ _ _ h => h) (Or.inl ⟨by rfl, ?_⟩) hs2 ?_
  rotate_left
  · intro w' hSw; obtain ⟨p0, p1⟩ := hSw; go_simp; try (with_reducible rfl)
  simp only [Act.put, List.setIfInBounds_toArray, List.set_cons_zero, List.set_cons_succ]
  refine wpAnyN_take2 (some 46) (i := 2) (v := ?_) rfl rfl (by kernel_rfl) (by kernel_rfl) (by kernel_rfl) (by kernel_rfl) rfl (fun _ _ _ h => h) (Or.inl ⟨by rfl, ?_⟩) hs2 ?_
  rotate_left
  · intro w' hSw; obtain ⟨p0, p1⟩ := hSw; go_simp; try (with_reducible rfl)
  simp only [Act.put, List.setIfInBounds_toArray, List.set_cons_zero, List.set_cons_succ]
  refine wpAnyN_take2 (some 47) (i := 3) (v := ?_) rfl rfl (by kernel_rfl) (by kernel_rfl) (by kernel_rfl) (by kernel_rfl) rfl (fun _ _ _ h => h) (Or.inl ⟨by rfl, ?_⟩) hs2 ?_
  rotate_left
  · intro w' hSw; obtain ⟨p0, p1⟩ := hSw; go_simp; try (with_reducible rfl)
  simp only [Act.put, List.setIfInBounds_toArray, List.set_cons_zero, List.set_cons_succ]
  refine wpAnyN_take2 (some 48) (i := 4) (v := ?_) rfl rfl (by kernel_rfl) (by kernel_rfl) (by kernel_rfl) (by kernel_rfl) rfl (fun _ _ _ h => h) (Or.inl ⟨by rfl, ?_⟩) hs2 ?_
  rotate_left
  · intro w' hSw; obtain ⟨p0, p1⟩ := hSw; go_simp; try (with_reducible rfl)
  simp only [Act.put, List.setIfInBounds_toArray, List.set_cons_zero, List.set_cons_succ]
  refine wpAnyN_take2 (some 49) (i := 5) (v := ?_) rfl rfl (by kernel_rfl) (by kernel_rfl) (by kernel_rfl) (by kernel_rfl) rfl (fun _ _ _ h => h) (Or.inl ⟨by rfl, ?_⟩) hs2 ?_
  rotate_left
  · intro w' hSw; obtain ⟨p0, p1⟩ := hSw; go_simp; try (with_reducible rfl)
  simp only [Act.put, List.setIfInBounds_toArray, List.set_cons_zero, List.set_cons_succ]
  refine wpAnyN_take2 (some 50) (i := 6) (v := ?_) rfl rfl (by kernel_rfl) (by kernel_rfl) (by kernel_rfl) (by kernel_rfl) rfl (fun _ _ _ h => h) (Or.inl ⟨by rfl, ?_⟩) hs2 ?_
  rotate_left
  · intro w' hSw; obtain ⟨p0, p1⟩ := hSw; go_simp; try (with_reducible rfl)
  simp only [Act.put, List.setIfInBounds_toArray, List.set_cons_zero, List.set_cons_succ]
  refine wpAnyN_take2 (some 51) (i := 7) (v := ?_) rfl rfl (by kernel_rfl) (by kernel_rfl) (by kernel_rfl) (by kernel_rfl) rfl (fun _ _ _ h => h) (Or.inl ⟨by rfl, ?_⟩) hs2 ?_
  rotate_left
  · intro w' hSw; obtain ⟨p0, p1⟩ := hSw; go_simp; try (with_reducible rfl)
  simp only [Act.put, List.setIfInBounds_toArray, List.set_cons_zero, List.set_cons_succ]
  refine wpAnyN_take2 (some 52) (i := 8) (v := ?_) rfl rfl (by kernel_rfl) (by kernel_rfl) (by kernel_rfl) (by kernel_rfl) rfl (fun _ _ _ h => h) (Or.inl ⟨by rfl, ?_⟩) hs2 ?_
  rotate_left
  · intro w' hSw; obtain ⟨p0, p1⟩ := hSw; go_simp; try (with_reducible rfl)
  simp only [Act.put, List.setIfInBounds_toArray, List.set_cons_zero, List.set_cons_succ]
  refine wpAnyN_take2 (some 54) (i := 10) (v := ?_) rfl rfl (by kernel_rfl) (by kernel_rfl) (by kernel_rfl) (by kernel_rfl) rfl (fun _ _ _ h => h) (Or.inl ⟨by rfl, ?_⟩) hs2 ?_
  rotate_left
  · intro w' hSw; obtain ⟨p0, p1⟩ := hSw; go_simp; try (with_reducible rfl)
  simp only [Act.put, List.setIfInBounds_toArray, List.set_cons_zero, List.set_cons_succ]
  refine wpAnyN_one (i := 9) (by kernel_rfl) rfl fun K1 hK1 => ?_
  go_simp
  refine (rbegin_any 2 _ (by decide)).mono ?_
  rintro e We ⟨rfl, rfl⟩
  go_simp
  rw [show ((off 2 : Nat) : Int) = 131072 from rfl]
  refine hK1.out _ _ ⟨q0, q1⟩ (fun h => absurd h (by decide)) ?_
  clear hK1 K1
  try (simp only [Act.put, List.setIfInBounds_toArray, List.set_cons_zero, List.set_cons_succ])
  refine wpAnyN_one (i := 11) (by kernel_rfl) rfl fun K1 hK1 => ?_
  go_simp
  refine (rk_write f 131072 s HSd.out FS.out (by have := HX.out.2; omega) HX.out.1 (by omega)).mono ?_
  rintro e Wa ⟨rfl, h2⟩
  go_simp
  have HWa := Lib.hid h2; clear h2
  have FWa := Lib.hid (FS.out.write K f 131072 s)
  clear q0 q1 HSd
  try clear hs2
  obtain ⟨⟨q0, q1, -, -⟩, -⟩ := rcell_facts HWa.out
  refine hK1.out _ _ ⟨q0, q1⟩ (fun h => absurd h (by decide)) ?_
  clear hK1 K1
  try (simp only [Act.put, List.setIfInBounds_toArray, List.set_cons_zero, List.set_cons_succ])
  obtain ⟨x, hx⟩ : ∃ x, x = writeCode st f 131072 s := ⟨_, rfl⟩
  rw [← hx]
  have HCWa := Lib.hid hx; clear hx
  refine wpAnyN_one (i := 12) (by kernel_rfl) rfl fun K1 hK1 => ?_
  go_simp
  refine hK1.out _ _ ⟨q0, q1⟩ (fun h => absurd h (by decide)) ?_
  clear hK1 K1
  try (simp only [Act.put, List.setIfInBounds_toArray, List.set_cons_zero, List.set_cons_succ])
  refine wpAnyN_done (by kernel_rfl) ?_ _
  clear q0 q1
  by_cases he : x = 0
  rotate_left
  · go_wp2_with fail
    go_ret
    have hR := HR.out
    rw [setT, if_pos (by rw [← HCWa.out]; exact he)] at hR
    rw [hR]
    exact ⟨by show Ending.returned (.int .i64 x) = _; rw [HCWa.out], HWa.out⟩
  subst he
  have HRWa : Hid (setR st K f c s = setT2 (writeS st K f 131072 s) K f c s 2) := by
    have hR := HR.out
    rw [setT, if_neg (by rw [← HCWa.out]; simp)] at hR
    exact hR
  clear HR HCWa
  go_wp2_with fail
  have HWad := Lib.hid (RefK.quiet HWa.out (Turns.refl [] Wa).drew)
  obtain ⟨⟨q0, q1, -, -⟩, -⟩ := rcell_facts HWad.out
  go_still_tail 8, (by kernel_rfl)
  change wpList _ _ _ _ _ Wa.drew
  generalize Wa.drew = Wbd at *
  clear HWa
  go_wp2_with fail
  refine (rk_sync f HWad.out FWa.out (by have := HX.out.2; omega) HX.out.1).mono ?_
  rintro e Wb ⟨rfl, h2⟩
  have HWb := Lib.hid h2; clear h2
  have FWb := Lib.hid (FWa.out.sync K f)
  clear q0 q1 HWad
  obtain ⟨x, hx⟩ : ∃ x, x = syncCode (writeS st K f 131072 s) K f := ⟨_, rfl⟩
  rw [← hx]
  have HCWb := Lib.hid hx; clear hx
  by_cases he : x = 0
  rotate_left
  · go_wp2_with fail
    go_ret
    have hR := HRWa.out
    rw [setT2, if_pos (by rw [← HCWb.out]; exact he)] at hR
    rw [hR]
    exact ⟨by show Ending.returned (.int .i64 x) = _; rw [HCWb.out], HWb.out⟩
  subst he
  have HRWb : Hid (setR st K f c s = setT3 (syncS (writeS st K f 131072 s) K f) K f c s 2) := by
    have hR := HRWa.out
    rw [setT2, if_neg (by rw [← HCWb.out]; simp)] at hR
    exact hR
  clear HRWa HCWb
  go_wp2_with fail
  have HWbd := Lib.hid (RefK.quiet HWb.out (Turns.refl [] Wb).drew)
  obtain ⟨⟨q0, q1, -, -⟩, -⟩ := rcell_facts HWbd.out
  refine wp_region_N (fun _ => True) (fun w' => w'.cell? ⟨cb, 0, none⟩ = some (.pointer (some ⟨r, 0, none⟩)) ∧ w'.cell? ⟨cb, 1, none⟩ = some (.int .i64 f)) (fun _ => false) (by kernel_rfl) ?_
  generalize Wb.drew = Wcd at *
  clear HWb
  have hs2 := And.intro q0 q1
  refine wpAnyN_take2 (some 73) (i := 0) (v := ?_) rfl rfl (by kernel_rfl) (by kernel_rfl) (by kernel_rfl) (by kernel_rfl) rfl (fun _ _ _ h => h) (Or.inl ⟨by rfl, ?_⟩) hs2 ?_
  rotate_left
  · intro w' hSw; obtain ⟨p0, p1⟩ := hSw; go_simp; try (with_reducible rfl)
  simp only [Act.put, List.setIfInBounds_toArray, List.set_cons_zero, List.set_cons_succ]
  refine wpAnyN_take2 (some 74) (i := 1) (v := ?_) rfl rfl (by kernel_rfl) (by kernel_rfl) (by kernel_rfl) (by kernel_rfl) rfl (fun _ _ _ h => h) (Or.inl ⟨by rfl, ?_⟩) hs2 ?_
  rotate_left
  · intro w' hSw; obtain ⟨p0, p1⟩ := hSw; go_simp; try (with_reducible rfl)
  simp only [Act.put, List.setIfInBounds_toArray, List.set_cons_zero, List.set_cons_succ]
  refine wpAnyN_take2 (some 75) (i := 2) (v := ?_) rfl rfl (by kernel_rfl) (by kernel_rfl) (by kernel_rfl) (by kernel_rfl) rfl (fun _ _ _ h => h) (Or.inl ⟨by rfl, ?_⟩) hs2 ?_
  rotate_left
  · intro w' hSw; obtain ⟨p0, p1⟩ := hSw; go_simp; try (with_reducible rfl)
  simp only [Act.put, List.setIfInBounds_toArray, List.set_cons_zero, List.set_cons_succ]
  refine wpAnyN_take2 (some 76) (i := 3) (v := ?_) rfl rfl (by kernel_rfl) (by kernel_rfl) (by kernel_rfl) (by kernel_rfl) rfl (fun _ _ _ h => h) (Or.inl ⟨by rfl, ?_⟩) hs2 ?_
  rotate_left
  · intro w' hSw; obtain ⟨p0, p1⟩ := hSw; go_simp; try (with_reducible rfl)
  simp only [Act.put, List.setIfInBounds_toArray, List.set_cons_zero, List.set_cons_succ]
  refine wpAnyN_take2 (some 77) (i := 4) (v := ?_) rfl rfl (by kernel_rfl) (by kernel_rfl) (by kernel_rfl) (by kernel_rfl) rfl (fun _ _ _ h => h) (Or.inl ⟨by rfl, ?_⟩) hs2 ?_
  rotate_left
  · intro w' hSw; obtain ⟨p0, p1⟩ := hSw; go_simp; try (with_reducible rfl)
  simp only [Act.put, List.setIfInBounds_toArray, List.set_cons_zero, List.set_cons_succ]
  refine wpAnyN_take2 (some 78) (i := 5) (v := ?_) rfl rfl (by kernel_rfl) (by kernel_rfl) (by kernel_rfl) (by kernel_rfl) rfl (fun _ _ _ h => h) (Or.inl ⟨by rfl, ?_⟩) hs2 ?_
  rotate_left
  · intro w' hSw; obtain ⟨p0, p1⟩ := hSw; go_simp; try (with_reducible rfl)
  simp only [Act.put, List.setIfInBounds_toArray, List.set_cons_zero, List.set_cons_succ]
  refine wpAnyN_take2 (some 79) (i := 6) (v := ?_) rfl rfl (by kernel_rfl) (by kernel_rfl) (by kernel_rfl) (by kernel_rfl) rfl (fun _ _ _ h => h) (Or.inl ⟨by rfl, ?_⟩) hs2 ?_
  rotate_left
  · intro w' hSw; obtain ⟨p0, p1⟩ := hSw; go_simp; try (with_reducible rfl)
  simp only [Act.put, List.setIfInBounds_toArray, List.set_cons_zero, List.set_cons_succ]
  refine wpAnyN_take2 (some 80) (i := 7) (v := ?_) rfl rfl (by kernel_rfl) (by kernel_rfl) (by kernel_rfl) (by kernel_rfl) rfl (fun _ _ _ h => h) (Or.inl ⟨by rfl, ?_⟩) hs2 ?_
  rotate_left
  · intro w' hSw; obtain ⟨p0, p1⟩ := hSw; go_simp; try (with_reducible rfl)
  simp only [Act.put, List.setIfInBounds_toArray, List.set_cons_zero, List.set_cons_succ]
  refine wpAnyN_take2 (some 81) (i := 8) (v := ?_) rfl rfl (by kernel_rfl) (by kernel_rfl) (by kernel_rfl) (by kernel_rfl) rfl (fun _ _ _ h => h) (Or.inl ⟨by rfl, ?_⟩) hs2 ?_
  rotate_left
  · intro w' hSw; obtain ⟨p0, p1⟩ := hSw; go_simp; try (with_reducible rfl)
  simp only [Act.put, List.setIfInBounds_toArray, List.set_cons_zero, List.set_cons_succ]
  refine wpAnyN_take2 (some 82) (i := 9) (v := ?_) rfl rfl (by kernel_rfl) (by kernel_rfl) (by kernel_rfl) (by kernel_rfl) rfl (fun _ _ _ h => h) (Or.inl ⟨by rfl, ?_⟩) hs2 ?_
  rotate_left
  · intro w' hSw; obtain ⟨p0, p1⟩ := hSw; go_simp; try (with_reducible rfl)
  simp only [Act.put, List.setIfInBounds_toArray, List.set_cons_zero, List.set_cons_succ]
  refine wpAnyN_take2 (some 83) (i := 10) (v := ?_) rfl rfl (by kernel_rfl) (by kernel_rfl) (by kernel_rfl) (by kernel_rfl) rfl (fun _ _ _ h => h) (Or.inl ⟨by rfl, ?_⟩) hs2 ?_
  rotate_left
  · intro w' hSw; obtain ⟨p0, p1⟩ := hSw; go_simp; try (with_reducible rfl)
  simp only [Act.put, List.setIfInBounds_toArray, List.set_cons_zero, List.set_cons_succ]
  refine wpAnyN_take2 (some 84) (i := 11) (v := ?_) rfl rfl (by kernel_rfl) (by kernel_rfl) (by kernel_rfl) (by kernel_rfl) rfl (fun _ _ _ h => h) (Or.inl ⟨by rfl, ?_⟩) hs2 ?_
  rotate_left
  · intro w' hSw; obtain ⟨p0, p1⟩ := hSw; go_simp; try (with_reducible rfl)
  simp only [Act.put, List.setIfInBounds_toArray, List.set_cons_zero, List.set_cons_succ]
  refine wpAnyN_take2 (some 85) (i := 12) (v := ?_) rfl rfl (by kernel_rfl) (by kernel_rfl) (by kernel_rfl) (by kernel_rfl) rfl (fun _ _ _ h => h) (Or.inl ⟨by rfl, ?_⟩) hs2 ?_
  rotate_left
  · intro w' hSw; obtain ⟨p0, p1⟩ := hSw; go_simp; try (with_reducible rfl)
  simp only [Act.put, List.setIfInBounds_toArray, List.set_cons_zero, List.set_cons_succ]
  refine wpAnyN_take2 (some 86) (i := 13) (v := ?_) rfl rfl (by kernel_rfl) (by kernel_rfl) (by kernel_rfl) (by kernel_rfl) rfl (fun _ _ _ h => h) (Or.inl ⟨by rfl, ?_⟩) hs2 ?_
  rotate_left
  · intro w' hSw; obtain ⟨p0, p1⟩ := hSw; go_simp; try (with_reducible rfl)
  simp only [Act.put, List.setIfInBounds_toArray, List.set_cons_zero, List.set_cons_succ]
  refine wpAnyN_take2 (some 87) (i := 14) (v := ?_) rfl rfl (by kernel_rfl) (by kernel_rfl) (by kernel_rfl) (by kernel_rfl) rfl (fun _ _ _ h => h) (Or.inl ⟨by rfl, ?_⟩) hs2 ?_
  rotate_left
  · intro w' hSw; obtain ⟨p0, p1⟩ := hSw; go_simp; try (with_reducible rfl)
  simp only [Act.put, List.setIfInBounds_toArray, List.set_cons_zero, List.set_cons_succ]
  refine wpAnyN_take2 (some 88) (i := 15) (v := ?_) rfl rfl (by kernel_rfl) (by kernel_rfl) (by kernel_rfl) (by kernel_rfl) rfl (fun _ _ _ h => h) (Or.inl ⟨by rfl, ?_⟩) hs2 ?_
  rotate_left
  · intro w' hSw; obtain ⟨p0, p1⟩ := hSw; go_simp; try (with_reducible rfl)
  simp only [Act.put, List.setIfInBounds_toArray, List.set_cons_zero, List.set_cons_succ]
  refine wpAnyN_take2 (some 89) (i := 16) (v := ?_) rfl rfl (by kernel_rfl) (by kernel_rfl) (by kernel_rfl) (by kernel_rfl) rfl (fun _ _ _ h => h) (Or.inl ⟨by rfl, ?_⟩) hs2 ?_
  rotate_left
  · intro w' hSw; obtain ⟨p0, p1⟩ := hSw; go_simp; try (with_reducible rfl)
  simp only [Act.put, List.setIfInBounds_toArray, List.set_cons_zero, List.set_cons_succ]
  refine wpAnyN_take2 (some 90) (i := 17) (v := ?_) rfl rfl (by kernel_rfl) (by kernel_rfl) (by kernel_rfl) (by kernel_rfl) rfl (fun _ _ _ h => h) (Or.inl ⟨by rfl, ?_⟩) hs2 ?_
  rotate_left
  · intro w' hSw; obtain ⟨p0, p1⟩ := hSw; go_simp; try (with_reducible rfl)
  simp only [Act.put, List.setIfInBounds_toArray, List.set_cons_zero, List.set_cons_succ]
  refine wpAnyN_take2 (some 91) (i := 18) (v := ?_) rfl rfl (by kernel_rfl) (by kernel_rfl) (by kernel_rfl) (by kernel_rfl) rfl (fun _ _ _ h => h) (Or.inl ⟨by rfl, ?_⟩) hs2 ?_
  rotate_left
  · intro w' hSw; obtain ⟨p0, p1⟩ := hSw; go_simp; try (with_reducible rfl)
  simp only [Act.put, List.setIfInBounds_toArray, List.set_cons_zero, List.set_cons_succ]
  refine wpAnyN_take2 (some 92) (i := 19) (v := ?_) rfl rfl (by kernel_rfl) (by kernel_rfl) (by kernel_rfl) (by kernel_rfl) rfl (fun _ _ _ h => h) (Or.inl ⟨by rfl, ?_⟩) hs2 ?_
  rotate_left
  · intro w' hSw; obtain ⟨p0, p1⟩ := hSw; go_simp; try (with_reducible rfl)
  simp only [Act.put, List.setIfInBounds_toArray, List.set_cons_zero, List.set_cons_succ]
  refine wpAnyN_one (i := 20) (by kernel_rfl) rfl fun K1 hK1 => ?_
  go_simp
  obtain ⟨k1, k2, k3, k4⟩ := hdr_wraps 2 s (by decide) hs
  rw [k1, k2, k3, k4]
  clear k1 k2 k3 k4
  have HWe := Lib.hid (RefK.quiet HWbd.out (Turns.alloc [] Wcd (.cells #[.int .u8 2, .int .u8 ((s.size : Int) % 256), .int .u8 ((s.size : Int) / 256 % 256), .int .u8 ((s.size : Int) / 65536), .int .u8 0] 5)))
  have hcv := hdr_back 2 s (by decide) hs Wcd
  clear HWbd q0 q1 hs2
  obtain ⟨⟨q0, q1, -, -⟩, -⟩ := rcell_facts HWe.out
  refine hK1.out _ _ ⟨q0, q1⟩ (fun h => absurd h (by decide)) ?_
  clear hK1 K1
  try (simp only [Act.put, List.setIfInBounds_toArray, List.set_cons_zero, List.set_cons_succ])
  refine wpAnyN_one (i := 21) (by kernel_rfl) rfl fun K1 hK1 => ?_
  go_simp
  refine hK1.out _ _ ⟨q0, q1⟩ (fun h => absurd h (by decide)) ?_
  clear hK1 K1
  try (simp only [Act.put, List.setIfInBounds_toArray, List.set_cons_zero, List.set_cons_succ])
  refine wpAnyN_one (i := 22) (by kernel_rfl) rfl fun K1 hK1 => ?_
  go_simp
  clear hcv
  refine (rk_write f 0 (hdrB 2 s) HWe.out FWb.out (by have := HX.out.2; omega) HX.out.1 (by rw [hdrB_size]; omega)).mono ?_
  rintro e Wc ⟨rfl, h2⟩
  go_simp
  have HWc := Lib.hid h2; clear h2
  have FWc := Lib.hid (FWb.out.write K f 0 (hdrB 2 s))
  clear q0 q1 HWe
  try clear hs2
  obtain ⟨⟨q0, q1, -, -⟩, -⟩ := rcell_facts HWc.out
  refine hK1.out _ _ ⟨q0, q1⟩ (fun h => absurd h (by decide)) ?_
  clear hK1 K1
  try (simp only [Act.put, List.setIfInBounds_toArray, List.set_cons_zero, List.set_cons_succ])
  obtain ⟨x, hx⟩ : ∃ x, x = writeCode (syncS (writeS st K f 131072 s) K f) f 0 (hdrB 2 s) := ⟨_, rfl⟩
  rw [← hx]
  have HCWc := Lib.hid hx; clear hx
  refine wpAnyN_one (i := 23) (by kernel_rfl) rfl fun K1 hK1 => ?_
  go_simp
  refine hK1.out _ _ ⟨q0, q1⟩ (fun h => absurd h (by decide)) ?_
  clear hK1 K1
  try (simp only [Act.put, List.setIfInBounds_toArray, List.set_cons_zero, List.set_cons_succ])
  refine wpAnyN_done (by kernel_rfl) ?_ _
  clear q0 q1
  by_cases he : x = 0
  rotate_left
  · go_wp2_with fail
    go_ret
    have hR := HRWb.out
    rw [setT3, if_pos (by rw [← HCWc.out]; exact he)] at hR
    rw [hR]
    exact ⟨by show Ending.returned (.int .i64 x) = _; rw [HCWc.out], HWc.out⟩
  subst he
  have HRWc : Hid (setR st K f c s = setT4 (writeS (syncS (writeS st K f 131072 s) K f) K f 0 (hdrB 2 s)) K f s 2) := by
    have hR := HRWb.out
    rw [setT3, if_neg (by rw [← HCWc.out]; simp)] at hR
    exact hR
  clear HRWb HCWc
  have hb := (rcell_facts HWc.out).2
  have z2 : Wc.frozen? ⟨cb, 2, none⟩ = false := free_at hb 2
  have z3 : Wc.frozen? ⟨cb, 3, none⟩ = false := free_at hb 3
  have z4 : Wc.frozen? ⟨cb, 4, none⟩ = false := free_at hb 4
  have y2 : Wc.cell? ⟨cb, 2, none⟩ = _ := cell_at hb 2
  have y3 : Wc.cell? ⟨cb, 3, none⟩ = _ := cell_at hb 3
  have y4 : Wc.cell? ⟨cb, 4, none⟩ = _ := cell_at hb 4
  clear hb
  go_wp2_with fail
  clear z2 z3 z4 y2 y3 y4
  have HWf := Lib.hid (rcell_set3 HWc.out 2 s false)
  generalize ((Wc.setCell ⟨cb, 2, none⟩ (.int .i64 2)).setCell ⟨cb, 3, none⟩ (.string s)).setCell ⟨cb, 4, none⟩ (.bool false) = Wf at *
  clear HWc
  have HWfd := Lib.hid (RefK.quiet HWf.out (Turns.refl [] Wf).drew)
  obtain ⟨⟨q0, q1, -, -⟩, -⟩ := rcell_facts HWfd.out
  go_still_tail 8, (by kernel_rfl)
  change wpList _ _ _ _ _ Wf.drew
  generalize Wf.drew = Wgd at *
  clear HWf
  go_wp2_with fail
  refine (rk_sync f HWfd.out FWc.out (by have := HX.out.2; have := hdrB_size 2 s; omega) HX.out.1).mono ?_
  rintro e Wg ⟨rfl, h2⟩
  have HWg := Lib.hid h2; clear h2
  have FWg := Lib.hid (FWc.out.sync K f)
  clear q0 q1 HWfd
  obtain ⟨x, hx⟩ : ∃ x, x = syncCode (writeS (syncS (writeS st K f 131072 s) K f) K f 0 (hdrB 2 s)) K f := ⟨_, rfl⟩
  rw [← hx]
  have HCWg := Lib.hid hx; clear hx
  have hb := (rcell_facts HWg.out).2
  have z4 : Wg.frozen? ⟨cb, 4, none⟩ = false := free_at hb 4
  have y4 : Wg.cell? ⟨cb, 4, none⟩ = _ := cell_at hb 4
  clear hb
  go_wp2_with fail
  go_ret
  have hR := HRWc.out
  rw [setT4, ← HCWg.out] at hR
  rw [hR]
  exact ⟨rfl, rcell_set1 HWg.out (x == 0)⟩

set_option maxHeartbeats 6400000 in
set_option maxRecDepth 100000 in
theorem rset_b2 {w0 w : World} {r cb : Nat} {f : Int} {c : CS} {st : DS} {K : List Int} {post : List Thing} (s : ByteArray)
    (h : RefK w0 w r st K (blockThing cb (rcellObj r f c) :: post)) (hF : Fine st 200000) (hK : K.length ≤ 1000000) (hs : s.size ≤ 65536) (hsure : c.sure = true) (hslot : ¬ c.slot = 1) :
    Calls Tryd.prog 20 #[.pointer (some ⟨cb, 0, none⟩), .string s] w fun e w' => e = .returned (.int .i64 (setR st K f c s).1) ∧
      RefK w0 w' r (setR st K f c s).2.2 K (blockThing cb (rcellObj r f (setR st K f c s).2.1) :: post) := by
  have HR : Hid (setR st K f c s = setT st K f c s 1 64) := by
    unfold setR
    rw [if_neg (by omega), if_neg (by rw [hsure]; intro hh; first | exact absurd hh.1 (by decide) | (have := hh.2; omega))]
    exact setW_T _ _ _ _ _ _ _ (by simp [slotOf, hslot]) rfl
  have HS := Lib.hid h; clear h
  obtain ⟨⟨c0, c1, c2, c4⟩, -⟩ := rcell_facts HS.out
  rw [hsure] at c4
  have hs1 : (c.slot == 1) = false := by rw [beq_eq_false_iff_ne]; exact hslot
  have HX := Lib.hid (And.intro hK hs)
  have FS := Lib.hid hF; clear hK hF
  have hlong : ¬ (65536 : Int) < (s.size : Int) := by omega
  go_enter Tryd.func20, Tryd.ntmps20
  go_wp2_with fail
  clear c0 c1 c2 c4
  have HSd := Lib.hid (RefK.quiet HS.out (Turns.refl [] w).drew)
  obtain ⟨⟨q0, q1, -, -⟩, -⟩ := rcell_facts HSd.out
  refine wp_region_N (fun _ => True) (fun w' => w'.cell? ⟨cb, 0, none⟩ = some (.pointer (some ⟨r, 0, none⟩)) ∧ w'.cell? ⟨cb, 1, none⟩ = some (.int .i64 f)) (fun _ => false) (by kernel_rfl) ?_
  generalize w.drew = Wad at *
  clear HS
  have hs2 := And.intro q0 q1
  refine wpAnyN_take2 (some 44) (i := 0) (v := ?_) rfl rfl (by kernel_rfl) (by kernel_rfl) (by kernel_rfl) (by kernel_rfl) rfl (fun _ _ _ h => h) (Or.inl ⟨by rfl, ?_⟩) hs2 ?_
  rotate_left
  · intro w' hSw; obtain ⟨p0, p1⟩ := hSw; go_simp; try (with_reducible rfl)
  simp only [Act.put, List.setIfInBounds_toArray, List.set_cons_zero, List.set_cons_succ]
  refine wpAnyN_take2 (some 45) (i := 1) (v := ?_) rfl rfl (by kernel_rfl) (by kernel_rfl) (by kernel_rfl) (by kernel_rfl) rfl (fun _ _ _ h => h) (Or.inl ⟨by rfl, ?_⟩) hs2 ?_
  rotate_left
  · intro w' hSw; obtain ⟨p0, p1⟩ := hSw; go_simp; try (with_reducible rfl)
  simp only [Act.put, List.setIfInBounds_toArray, List.set_cons_zero, List.set_cons_succ]
  refine wpAnyN_take2 (some 46) (i := 2) (v := ?_) rfl rfl (by kernel_rfl) (by kernel_rfl) (by kernel_rfl) (by kernel_rfl) rfl (fun _ _ _ h => h) (Or.inl ⟨by rfl, ?_⟩) hs2 ?_
  rotate_left
  · intro w' hSw; obtain ⟨p0, p1⟩ := hSw; go_simp; try (with_reducible rfl)
  simp only [Act.put, List.setIfInBounds_toArray, List.set_cons_zero, List.set_cons_succ]
  refine wpAnyN_take2 (some 47) (i := 3) (v := ?_) rfl rfl (by kernel_rfl) (by kernel_rfl) (by kernel_rfl) (by kernel_rfl) rfl (fun _ _ _ h => h) (Or.inl ⟨by rfl, ?_⟩) hs2 ?_
  rotate_left
  · intro w' hSw; obtain ⟨p0, p1⟩ := hSw; go_simp; try (with_reducible rfl)
  simp only [Act.put, List.setIfInBounds_toArray, List.set_cons_zero, List.set_cons_succ]
  refine wpAnyN_take2 (some 48) (i := 4) (v := ?_) rfl rfl (by kernel_rfl) (by kernel_rfl) (by kernel_rfl) (by kernel_rfl) rfl (fun _ _ _ h => h) (Or.inl ⟨by rfl, ?_⟩) hs2 ?_
  rotate_left
  · intro w' hSw; obtain ⟨p0, p1⟩ := hSw; go_simp; try (with_reducible rfl)
  simp only [Act.put, List.setIfInBounds_toArray, List.set_cons_zero, List.set_cons_succ]
  refine wpAnyN_take2 (some 49) (i := 5) (v := ?_) rfl rfl (by kernel_rfl) (by kernel_rfl) (by kernel_rfl) (by kernel_rfl) rfl (fun _ _ _ h => h) (Or.inl ⟨by rfl, ?_⟩) hs2 ?_
  rotate_left
  · intro w' hSw; obtain ⟨p0, p1⟩ := hSw; go_simp; try (with_reducible rfl)
  simp only [Act.put, List.setIfInBounds_toArray, List.set_cons_zero, List.set_cons_succ]
  refine wpAnyN_take2 (some 50) (i := 6) (v := ?_) rfl rfl (by kernel_rfl) (by kernel_rfl) (by kernel_rfl) (by kernel_rfl) rfl (fun _ _ _ h => h) (Or.inl ⟨by rfl, ?_⟩) hs2 ?_
  rotate_left
  · intro w' hSw; obtain ⟨p0, p1⟩ := hSw; go_simp; try (with_reducible rfl)
  simp only [Act.put, List.setIfInBounds_toArray, List.set_cons_zero, List.set_cons_succ]
  refine wpAnyN_take2 (some 51) (i := 7) (v := ?_) rfl rfl (by kernel_rfl) (by kernel_rfl) (by kernel_rfl) (by kernel_rfl) rfl (fun _ _ _ h => h) (Or.inl ⟨by rfl, ?_⟩) hs2 ?_
  rotate_left
  · intro w' hSw; obtain ⟨p0, p1⟩ := hSw; go_simp; try (with_reducible rfl)
  simp only [Act.put, List.setIfInBounds_toArray, List.set_cons_zero, List.set_cons_succ]
  refine wpAnyN_take2 (some 52) (i := 8) (v := ?_) rfl rfl (by kernel_rfl) (by kernel_rfl) (by kernel_rfl) (by kernel_rfl) rfl (fun _ _ _ h => h) (Or.inl ⟨by rfl, ?_⟩) hs2 ?_
  rotate_left
  · intro w' hSw; obtain ⟨p0, p1⟩ := hSw; go_simp; try (with_reducible rfl)
  simp only [Act.put, List.setIfInBounds_toArray, List.set_cons_zero, List.set_cons_succ]
  refine wpAnyN_take2 (some 54) (i := 10) (v := ?_) rfl rfl (by kernel_rfl) (by kernel_rfl) (by kernel_rfl) (by kernel_rfl) rfl (fun _ _ _ h => h) (Or.inl ⟨by rfl, ?_⟩) hs2 ?_
  rotate_left
  · intro w' hSw; obtain ⟨p0, p1⟩ := hSw; go_simp; try (with_reducible rfl)
  simp only [Act.put, List.setIfInBounds_toArray, List.set_cons_zero, List.set_cons_succ]
  refine wpAnyN_one (i := 9) (by kernel_rfl) rfl fun K1 hK1 => ?_
  go_simp
  refine (rbegin_any 1 _ (by decide)).mono ?_
  rintro e We ⟨rfl, rfl⟩
  go_simp
  rw [show ((off 1 : Nat) : Int) = 64 from rfl]
  refine hK1.out _ _ ⟨q0, q1⟩ (fun h => absurd h (by decide)) ?_
  clear hK1 K1
  try (simp only [Act.put, List.setIfInBounds_toArray, List.set_cons_zero, List.set_cons_succ])
  refine wpAnyN_one (i := 11) (by kernel_rfl) rfl fun K1 hK1 => ?_
  go_simp
  refine (rk_write f 64 s HSd.out FS.out (by have := HX.out.2; omega) HX.out.1 (by omega)).mono ?_
  rintro e Wa ⟨rfl, h2⟩
  go_simp
  have HWa := Lib.hid h2; clear h2
  have FWa := Lib.hid (FS.out.write K f 64 s)
  clear q0 q1 HSd
  try clear hs2
  obtain ⟨⟨q0, q1, -, -⟩, -⟩ := rcell_facts HWa.out
  refine hK1.out _ _ ⟨q0, q1⟩ (fun h => absurd h (by decide)) ?_
  clear hK1 K1
  try (simp only [Act.put, List.setIfInBounds_toArray, List.set_cons_zero, List.set_cons_succ])
  obtain ⟨x, hx⟩ : ∃ x, x = writeCode st f 64 s := ⟨_, rfl⟩
  rw [← hx]
  have HCWa := Lib.hid hx; clear hx
  refine wpAnyN_one (i := 12) (by kernel_rfl) rfl fun K1 hK1 => ?_
  go_simp
  refine hK1.out _ _ ⟨q0, q1⟩ (fun h => absurd h (by decide)) ?_
  clear hK1 K1
  try (simp only [Act.put, List.setIfInBounds_toArray, List.set_cons_zero, List.set_cons_succ])
  refine wpAnyN_done (by kernel_rfl) ?_ _
  clear q0 q1
  by_cases he : x = 0
  rotate_left
  · go_wp2_with fail
    go_ret
    have hR := HR.out
    rw [setT, if_pos (by rw [← HCWa.out]; exact he)] at hR
    rw [hR]
    exact ⟨by show Ending.returned (.int .i64 x) = _; rw [HCWa.out], HWa.out⟩
  subst he
  have HRWa : Hid (setR st K f c s = setT2 (writeS st K f 64 s) K f c s 1) := by
    have hR := HR.out
    rw [setT, if_neg (by rw [← HCWa.out]; simp)] at hR
    exact hR
  clear HR HCWa
  go_wp2_with fail
  have HWad := Lib.hid (RefK.quiet HWa.out (Turns.refl [] Wa).drew)
  obtain ⟨⟨q0, q1, -, -⟩, -⟩ := rcell_facts HWad.out
  go_still_tail 8, (by kernel_rfl)
  change wpList _ _ _ _ _ Wa.drew
  generalize Wa.drew = Wbd at *
  clear HWa
  go_wp2_with fail
  refine (rk_sync f HWad.out FWa.out (by have := HX.out.2; omega) HX.out.1).mono ?_
  rintro e Wb ⟨rfl, h2⟩
  have HWb := Lib.hid h2; clear h2
  have FWb := Lib.hid (FWa.out.sync K f)
  clear q0 q1 HWad
  obtain ⟨x, hx⟩ : ∃ x, x = syncCode (writeS st K f 64 s) K f := ⟨_, rfl⟩
  rw [← hx]
  have HCWb := Lib.hid hx; clear hx
  by_cases he : x = 0
  rotate_left
  · go_wp2_with fail
    go_ret
    have hR := HRWa.out
    rw [setT2, if_pos (by rw [← HCWb.out]; exact he)] at hR
    rw [hR]
    exact ⟨by show Ending.returned (.int .i64 x) = _; rw [HCWb.out], HWb.out⟩
  subst he
  have HRWb : Hid (setR st K f c s = setT3 (syncS (writeS st K f 64 s) K f) K f c s 1) := by
    have hR := HRWa.out
    rw [setT2, if_neg (by rw [← HCWb.out]; simp)] at hR
    exact hR
  clear HRWa HCWb
  go_wp2_with fail
  have HWbd := Lib.hid (RefK.quiet HWb.out (Turns.refl [] Wb).drew)
  obtain ⟨⟨q0, q1, -, -⟩, -⟩ := rcell_facts HWbd.out
  refine wp_region_N (fun _ => True) (fun w' => w'.cell? ⟨cb, 0, none⟩ = some (.pointer (some ⟨r, 0, none⟩)) ∧ w'.cell? ⟨cb, 1, none⟩ = some (.int .i64 f)) (fun _ => false) (by kernel_rfl) ?_
  generalize Wb.drew = Wcd at *
  clear HWb
  have hs2 := And.intro q0 q1
  refine wpAnyN_take2 (some 73) (i := 0) (v := ?_) rfl rfl (by kernel_rfl) (by kernel_rfl) (by kernel_rfl) (by kernel_rfl) rfl (fun _ _ _ h => h) (Or.inl ⟨by rfl, ?_⟩) hs2 ?_
  rotate_left
  · intro w' hSw; obtain ⟨p0, p1⟩ := hSw; go_simp; try (with_reducible rfl)
  simp only [Act.put, List.setIfInBounds_toArray, List.set_cons_zero, List.set_cons_succ]
  refine wpAnyN_take2 (some 74) (i := 1) (v := ?_) rfl rfl (by kernel_rfl) (by kernel_rfl) (by kernel_rfl) (by kernel_rfl) rfl (fun _ _ _ h => h) (Or.inl ⟨by rfl, ?_⟩) hs2 ?_
  rotate_left
  · intro w' hSw; obtain ⟨p0, p1⟩ := hSw; go_simp; try (with_reducible rfl)
  simp only [Act.put, List.setIfInBounds_toArray, List.set_cons_zero, List.set_cons_succ]
  refine wpAnyN_take2 (some 75) (i := 2) (v := ?_) rfl rfl (by kernel_rfl) (by kernel_rfl) (by kernel_rfl) (by kernel_rfl) rfl (fun _ _ _ h => h) (Or.inl ⟨by rfl, ?_⟩) hs2 ?_
  rotate_left
  · intro w' hSw; obtain ⟨p0, p1⟩ := hSw; go_simp; try (with_reducible rfl)
  simp only [Act.put, List.setIfInBounds_toArray, List.set_cons_zero, List.set_cons_succ]
  refine wpAnyN_take2 (some 76) (i := 3) (v := ?_) rfl rfl (by kernel_rfl) (by kernel_rfl) (by kernel_rfl) (by kernel_rfl) rfl (fun _ _ _ h => h) (Or.inl ⟨by rfl, ?_⟩) hs2 ?_
  rotate_left
  · intro w' hSw; obtain ⟨p0, p1⟩ := hSw; go_simp; try (with_reducible rfl)
  simp only [Act.put, List.setIfInBounds_toArray, List.set_cons_zero, List.set_cons_succ]
  refine wpAnyN_take2 (some 77) (i := 4) (v := ?_) rfl rfl (by kernel_rfl) (by kernel_rfl) (by kernel_rfl) (by kernel_rfl) rfl (fun _ _ _ h => h) (Or.inl ⟨by rfl, ?_⟩) hs2 ?_
  rotate_left
  · intro w' hSw; obtain ⟨p0, p1⟩ := hSw; go_simp; try (with_reducible rfl)
  simp only [Act.put, List.setIfInBounds_toArray, List.set_cons_zero, List.set_cons_succ]
  refine wpAnyN_take2 (some 78) (i := 5) (v := ?_) rfl rfl (by kernel_rfl) (by kernel_rfl) (by kernel_rfl) (by kernel_rfl) rfl (fun _ _ _ h => h) (Or.inl ⟨by rfl, ?_⟩) hs2 ?_
  rotate_left
  · intro w' hSw; obtain ⟨p0, p1⟩ := hSw; go_simp; try (with_reducible rfl)
  simp only [Act.put, List.setIfInBounds_toArray, List.set_cons_zero, List.set_cons_succ]
  refine wpAnyN_take2 (some 79) (i := 6) (v := ?_) rfl rfl (by kernel_rfl) (by kernel_rfl) (by kernel_rfl) (by kernel_rfl) rfl (fun _ _ _ h => h) (Or.inl ⟨by rfl, ?_⟩) hs2 ?_
  rotate_left
  · intro w' hSw; obtain ⟨p0, p1⟩ := hSw; go_simp; try (with_reducible rfl)
  simp only [Act.put, List.setIfInBounds_toArray, List.set_cons_zero, List.set_cons_succ]
  refine wpAnyN_take2 (some 80) (i := 7) (v := ?_) rfl rfl (by kernel_rfl) (by kernel_rfl) (by kernel_rfl) (by kernel_rfl) rfl (fun _ _ _ h => h) (Or.inl ⟨by rfl, ?_⟩) hs2 ?_
  rotate_left
  · intro w' hSw; obtain ⟨p0, p1⟩ := hSw; go_simp; try (with_reducible rfl)
  simp only [Act.put, List.setIfInBounds_toArray, List.set_cons_zero, List.set_cons_succ]
  refine wpAnyN_take2 (some 81) (i := 8) (v := ?_) rfl rfl (by kernel_rfl) (by kernel_rfl) (by kernel_rfl) (by kernel_rfl) rfl (fun _ _ _ h => h) (Or.inl ⟨by rfl, ?_⟩) hs2 ?_
  rotate_left
  · intro w' hSw; obtain ⟨p0, p1⟩ := hSw; go_simp; try (with_reducible rfl)
  simp only [Act.put, List.setIfInBounds_toArray, List.set_cons_zero, List.set_cons_succ]
  refine wpAnyN_take2 (some 82) (i := 9) (v := ?_) rfl rfl (by kernel_rfl) (by kernel_rfl) (by kernel_rfl) (by kernel_rfl) rfl (fun _ _ _ h => h) (Or.inl ⟨by rfl, ?_⟩) hs2 ?_
  rotate_left
  · intro w' hSw; obtain ⟨p0, p1⟩ := hSw; go_simp; try (with_reducible rfl)
  simp only [Act.put, List.setIfInBounds_toArray, List.set_cons_zero, List.set_cons_succ]
  refine wpAnyN_take2 (some 83) (i := 10) (v := ?_) rfl rfl (by kernel_rfl) (by kernel_rfl) (by kernel_rfl) (by kernel_rfl) rfl (fun _ _ _ h => h) (Or.inl ⟨by rfl, ?_⟩) hs2 ?_
  rotate_left
  · intro w' hSw; obtain ⟨p0, p1⟩ := hSw; go_simp; try (with_reducible rfl)
  simp only [Act.put, List.setIfInBounds_toArray, List.set_cons_zero, List.set_cons_succ]
  refine wpAnyN_take2 (some 84) (i := 11) (v := ?_) rfl rfl (by kernel_rfl) (by kernel_rfl) (by kernel_rfl) (by kernel_rfl) rfl (fun _ _ _ h => h) (Or.inl ⟨by rfl, ?_⟩) hs2 ?_
  rotate_left
  · intro w' hSw; obtain ⟨p0, p1⟩ := hSw; go_simp; try (with_reducible rfl)
  simp only [Act.put, List.setIfInBounds_toArray, List.set_cons_zero, List.set_cons_succ]
  refine wpAnyN_take2 (some 85) (i := 12) (v := ?_) rfl rfl (by kernel_rfl) (by kernel_rfl) (by kernel_rfl) (by kernel_rfl) rfl (fun _ _ _ h => h) (Or.inl ⟨by rfl, ?_⟩) hs2 ?_
  rotate_left
  · intro w' hSw; obtain ⟨p0, p1⟩ := hSw; go_simp; try (with_reducible rfl)
  simp only [Act.put, List.setIfInBounds_toArray, List.set_cons_zero, List.set_cons_succ]
  refine wpAnyN_take2 (some 86) (i := 13) (v := ?_) rfl rfl (by kernel_rfl) (by kernel_rfl) (by kernel_rfl) (by kernel_rfl) rfl (fun _ _ _ h => h) (Or.inl ⟨by rfl, ?_⟩) hs2 ?_
  rotate_left
  · intro w' hSw; obtain ⟨p0, p1⟩ := hSw; go_simp; try (with_reducible rfl)
  simp only [Act.put, List.setIfInBounds_toArray, List.set_cons_zero, List.set_cons_succ]
  refine wpAnyN_take2 (some 87) (i := 14) (v := ?_) rfl rfl (by kernel_rfl) (by kernel_rfl) (by kernel_rfl) (by kernel_rfl) rfl (fun _ _ _ h => h) (Or.inl ⟨by rfl, ?_⟩) hs2 ?_
  rotate_left
  · intro w' hSw; obtain ⟨p0, p1⟩ := hSw; go_simp; try (with_reducible rfl)
  simp only [Act.put, List.setIfInBounds_toArray, List.set_cons_zero, List.set_cons_succ]
  refine wpAnyN_take2 (some 88) (i := 15) (v := ?_) rfl rfl (by kernel_rfl) (by kernel_rfl) (by kernel_rfl) (by kernel_rfl) rfl (fun _ _ _ h => h) (Or.inl ⟨by rfl, ?_⟩) hs2 ?_
  rotate_left
  · intro w' hSw; obtain ⟨p0, p1⟩ := hSw; go_simp; try (with_reducible rfl)
  simp only [Act.put, List.setIfInBounds_toArray, List.set_cons_zero, List.set_cons_succ]
  refine wpAnyN_take2 (some 89) (i := 16) (v := ?_) rfl rfl (by kernel_rfl) (by kernel_rfl) (by kernel_rfl) (by kernel_rfl) rfl (fun _ _ _ h => h) (Or.inl ⟨by rfl, ?_⟩) hs2 ?_
  rotate_left
  · intro w' hSw; obtain ⟨p0, p1⟩ := hSw; go_simp; try (with_reducible rfl)
  simp only [Act.put, List.setIfInBounds_toArray, List.set_cons_zero, List.set_cons_succ]
  refine wpAnyN_take2 (some 90) (i := 17) (v := ?_) rfl rfl (by kernel_rfl) (by kernel_rfl) (by kernel_rfl) (by kernel_rfl) rfl (fun _ _ _ h => h) (Or.inl ⟨by rfl, ?_⟩) hs2 ?_
  rotate_left
  · intro w' hSw; obtain ⟨p0, p1⟩ := hSw; go_simp; try (with_reducible rfl)
  simp only [Act.put, List.setIfInBounds_toArray, List.set_cons_zero, List.set_cons_succ]
  refine wpAnyN_take2 (some 91) (i := 18) (v := ?_) rfl rfl (by kernel_rfl) (by kernel_rfl) (by kernel_rfl) (by kernel_rfl) rfl (fun _ _ _ h => h) (Or.inl ⟨by rfl, ?_⟩) hs2 ?_
  rotate_left
  · intro w' hSw; obtain ⟨p0, p1⟩ := hSw; go_simp; try (with_reducible rfl)
  simp only [Act.put, List.setIfInBounds_toArray, List.set_cons_zero, List.set_cons_succ]
  refine wpAnyN_take2 (some 92) (i := 19) (v := ?_) rfl rfl (by kernel_rfl) (by kernel_rfl) (by kernel_rfl) (by kernel_rfl) rfl (fun _ _ _ h => h) (Or.inl ⟨by rfl, ?_⟩) hs2 ?_
  rotate_left
  · intro w' hSw; obtain ⟨p0, p1⟩ := hSw; go_simp; try (with_reducible rfl)
  simp only [Act.put, List.setIfInBounds_toArray, List.set_cons_zero, List.set_cons_succ]
  refine wpAnyN_one (i := 20) (by kernel_rfl) rfl fun K1 hK1 => ?_
  go_simp
  obtain ⟨k1, k2, k3, k4⟩ := hdr_wraps 1 s (by decide) hs
  rw [k1, k2, k3, k4]
  clear k1 k2 k3 k4
  have HWe := Lib.hid (RefK.quiet HWbd.out (Turns.alloc [] Wcd (.cells #[.int .u8 1, .int .u8 ((s.size : Int) % 256), .int .u8 ((s.size : Int) / 256 % 256), .int .u8 ((s.size : Int) / 65536), .int .u8 0] 5)))
  have hcv := hdr_back 1 s (by decide) hs Wcd
  clear HWbd q0 q1 hs2
  obtain ⟨⟨q0, q1, -, -⟩, -⟩ := rcell_facts HWe.out
  refine hK1.out _ _ ⟨q0, q1⟩ (fun h => absurd h (by decide)) ?_
  clear hK1 K1
  try (simp only [Act.put, List.setIfInBounds_toArray, List.set_cons_zero, List.set_cons_succ])
  refine wpAnyN_one (i := 21) (by kernel_rfl) rfl fun K1 hK1 => ?_
  go_simp
  refine hK1.out _ _ ⟨q0, q1⟩ (fun h => absurd h (by decide)) ?_
  clear hK1 K1
  try (simp only [Act.put, List.setIfInBounds_toArray, List.set_cons_zero, List.set_cons_succ])
  refine wpAnyN_one (i := 22) (by kernel_rfl) rfl fun K1 hK1 => ?_
  go_simp
  clear hcv
  refine (rk_write f 0 (hdrB 1 s) HWe.out FWb.out (by have := HX.out.2; omega) HX.out.1 (by rw [hdrB_size]; omega)).mono ?_
  rintro e Wc ⟨rfl, h2⟩
  go_simp
  have HWc := Lib.hid h2; clear h2
  have FWc := Lib.hid (FWb.out.write K f 0 (hdrB 1 s))
  clear q0 q1 HWe
  try clear hs2
  obtain ⟨⟨q0, q1, -, -⟩, -⟩ := rcell_facts HWc.out
  refine hK1.out _ _ ⟨q0, q1⟩ (fun h => absurd h (by decide)) ?_
  clear hK1 K1
  try (simp only [Act.put, List.setIfInBounds_toArray, List.set_cons_zero, List.set_cons_succ])
  obtain ⟨x, hx⟩ : ∃ x, x = writeCode (syncS (writeS st K f 64 s) K f) f 0 (hdrB 1 s) := ⟨_, rfl⟩
  rw [← hx]
  have HCWc := Lib.hid hx; clear hx
  refine wpAnyN_one (i := 23) (by kernel_rfl) rfl fun K1 hK1 => ?_
  go_simp
  refine hK1.out _ _ ⟨q0, q1⟩ (fun h => absurd h (by decide)) ?_
  clear hK1 K1
  try (simp only [Act.put, List.setIfInBounds_toArray, List.set_cons_zero, List.set_cons_succ])
  refine wpAnyN_done (by kernel_rfl) ?_ _
  clear q0 q1
  by_cases he : x = 0
  rotate_left
  · go_wp2_with fail
    go_ret
    have hR := HRWb.out
    rw [setT3, if_pos (by rw [← HCWc.out]; exact he)] at hR
    rw [hR]
    exact ⟨by show Ending.returned (.int .i64 x) = _; rw [HCWc.out], HWc.out⟩
  subst he
  have HRWc : Hid (setR st K f c s = setT4 (writeS (syncS (writeS st K f 64 s) K f) K f 0 (hdrB 1 s)) K f s 1) := by
    have hR := HRWb.out
    rw [setT3, if_neg (by rw [← HCWc.out]; simp)] at hR
    exact hR
  clear HRWb HCWc
  have hb := (rcell_facts HWc.out).2
  have z2 : Wc.frozen? ⟨cb, 2, none⟩ = false := free_at hb 2
  have z3 : Wc.frozen? ⟨cb, 3, none⟩ = false := free_at hb 3
  have z4 : Wc.frozen? ⟨cb, 4, none⟩ = false := free_at hb 4
  have y2 : Wc.cell? ⟨cb, 2, none⟩ = _ := cell_at hb 2
  have y3 : Wc.cell? ⟨cb, 3, none⟩ = _ := cell_at hb 3
  have y4 : Wc.cell? ⟨cb, 4, none⟩ = _ := cell_at hb 4
  clear hb
  go_wp2_with fail
  clear z2 z3 z4 y2 y3 y4
  have HWf := Lib.hid (rcell_set3 HWc.out 1 s false)
  generalize ((Wc.setCell ⟨cb, 2, none⟩ (.int .i64 1)).setCell ⟨cb, 3, none⟩ (.string s)).setCell ⟨cb, 4, none⟩ (.bool false) = Wf at *
  clear HWc
  have HWfd := Lib.hid (RefK.quiet HWf.out (Turns.refl [] Wf).drew)
  obtain ⟨⟨q0, q1, -, -⟩, -⟩ := rcell_facts HWfd.out
  go_still_tail 8, (by kernel_rfl)
  change wpList _ _ _ _ _ Wf.drew
  generalize Wf.drew = Wgd at *
  clear HWf
  go_wp2_with fail
  refine (rk_sync f HWfd.out FWc.out (by have := HX.out.2; have := hdrB_size 1 s; omega) HX.out.1).mono ?_
  rintro e Wg ⟨rfl, h2⟩
  have HWg := Lib.hid h2; clear h2
  have FWg := Lib.hid (FWc.out.sync K f)
  clear q0 q1 HWfd
  obtain ⟨x, hx⟩ : ∃ x, x = syncCode (writeS (syncS (writeS st K f 64 s) K f) K f 0 (hdrB 1 s)) K f := ⟨_, rfl⟩
  rw [← hx]
  have HCWg := Lib.hid hx; clear hx
  have hb := (rcell_facts HWg.out).2
  have z4 : Wg.frozen? ⟨cb, 4, none⟩ = false := free_at hb 4
  have y4 : Wg.cell? ⟨cb, 4, none⟩ = _ := cell_at hb 4
  clear hb
  go_wp2_with fail
  go_ret
  have hR := HRWc.out
  rw [setT4, ← HCWg.out] at hR
  rw [hR]
  exact ⟨rfl, rcell_set1 HWg.out (x == 0)⟩

set_option maxHeartbeats 6400000 in
set_option maxRecDepth 100000 in
theorem rset_b3 {w0 w : World} {r cb : Nat} {f : Int} {c : CS} {st : DS} {K : List Int} {post : List Thing} (s : ByteArray)
    (h : RefK w0 w r st K (blockThing cb (rcellObj r f c) :: post)) (hF : Fine st 200000) (hK : K.length ≤ 1000000) (hs : s.size ≤ 65536) (hsure : c.sure = false) (hz : c.slot = 0) (hslot : ¬ c.slot = 1) :
    Calls Tryd.prog 20 #[.pointer (some ⟨cb, 0, none⟩), .string s] w fun e w' => e = .returned (.int .i64 (setR st K f c s).1) ∧
      RefK w0 w' r (setR st K f c s).2.2 K (blockThing cb (rcellObj r f (setR st K f c s).2.1) :: post) := by
  have HR : Hid (setR st K f c s = setT st K f c s 1 64) := by
    unfold setR
    rw [if_neg (by omega), if_neg (by rw [hsure]; intro hh; first | exact absurd hh.1 (by decide) | (have := hh.2; omega))]
    exact setW_T _ _ _ _ _ _ _ (by simp [slotOf, hslot]) rfl
  have HS := Lib.hid h; clear h
  obtain ⟨⟨c0, c1, c2, c4⟩, -⟩ := rcell_facts HS.out
  rw [hsure] at c4
  rw [hz] at c2
  have HX := Lib.hid (And.intro hK hs)
  have FS := Lib.hid hF; clear hK hF
  have hlong : ¬ (65536 : Int) < (s.size : Int) := by omega
  go_enter Tryd.func20, Tryd.ntmps20
  go_wp2_with fail
  clear c0 c1 c2 c4
  have HSd := Lib.hid (RefK.quiet HS.out (Turns.refl [] w).drew)
  obtain ⟨⟨q0, q1, -, -⟩, -⟩ := rcell_facts HSd.out
  refine wp_region_N (fun _ => True) (fun w' => w'.cell? ⟨cb, 0, none⟩ = some (.pointer (some ⟨r, 0, none⟩)) ∧ w'.cell? ⟨cb, 1, none⟩ = some (.int .i64 f)) (fun _ => false) (by kernel_rfl) ?_
  generalize w.drew = Wad at *
  clear HS
  have hs2 := And.intro q0 q1
  refine wpAnyN_take2 (some 44) (i := 0) (v := ?_) rfl rfl (by kernel_rfl) (by kernel_rfl) (by kernel_rfl) (by kernel_rfl) rfl (fun _ _ _ h => h) (Or.inl ⟨by rfl, ?_⟩) hs2 ?_
  rotate_left
  · intro w' hSw; obtain ⟨p0, p1⟩ := hSw; go_simp; try (with_reducible rfl)
  simp only [Act.put, List.setIfInBounds_toArray, List.set_cons_zero, List.set_cons_succ]
  refine wpAnyN_take2 (some 45) (i := 1) (v := ?_) rfl rfl (by kernel_rfl) (by kernel_rfl) (by kernel_rfl) (by kernel_rfl) rfl (fun _ _ _ h => h) (Or.inl ⟨by rfl, ?_⟩) hs2 ?_
  rotate_left
  · intro w' hSw; obtain ⟨p0, p1⟩ := hSw; go_simp; try (with_reducible rfl)
  simp only [Act.put, List.setIfInBounds_toArray, List.set_cons_zero, List.set_cons_succ]
  refine wpAnyN_take2 (some 46) (i := 2) (v := ?_) rfl rfl (by kernel_rfl) (by kernel_rfl) (by kernel_rfl) (by kernel_rfl) rfl (fun _ _ _ h => h) (Or.inl ⟨by rfl, ?_⟩) hs2 ?_
  rotate_left
  · intro w' hSw; obtain ⟨p0, p1⟩ := hSw; go_simp; try (with_reducible rfl)
  simp only [Act.put, List.setIfInBounds_toArray, List.set_cons_zero, List.set_cons_succ]
  refine wpAnyN_take2 (some 47) (i := 3) (v := ?_) rfl rfl (by kernel_rfl) (by kernel_rfl) (by kernel_rfl) (by kernel_rfl) rfl (fun _ _ _ h => h) (Or.inl ⟨by rfl, ?_⟩) hs2 ?_
  rotate_left
  · intro w' hSw; obtain ⟨p0, p1⟩ := hSw; go_simp; try (with_reducible rfl)
  simp only [Act.put, List.setIfInBounds_toArray, List.set_cons_zero, List.set_cons_succ]
  refine wpAnyN_take2 (some 48) (i := 4) (v := ?_) rfl rfl (by kernel_rfl) (by kernel_rfl) (by kernel_rfl) (by kernel_rfl) rfl (fun _ _ _ h => h) (Or.inl ⟨by rfl, ?_⟩) hs2 ?_
  rotate_left
  · intro w' hSw; obtain ⟨p0, p1⟩ := hSw; go_simp; try (with_reducible rfl)
  simp only [Act.put, List.setIfInBounds_toArray, List.set_cons_zero, List.set_cons_succ]
  refine wpAnyN_take2 (some 49) (i := 5) (v := ?_) rfl rfl (by kernel_rfl) (by kernel_rfl) (by kernel_rfl) (by kernel_rfl) rfl (fun _ _ _ h => h) (Or.inl ⟨by rfl, ?_⟩) hs2 ?_
  rotate_left
  · intro w' hSw; obtain ⟨p0, p1⟩ := hSw; go_simp; try (with_reducible rfl)
  simp only [Act.put, List.setIfInBounds_toArray, List.set_cons_zero, List.set_cons_succ]
  refine wpAnyN_take2 (some 50) (i := 6) (v := ?_) rfl rfl (by kernel_rfl) (by kernel_rfl) (by kernel_rfl) (by kernel_rfl) rfl (fun _ _ _ h => h) (Or.inl ⟨by rfl, ?_⟩) hs2 ?_
  rotate_left
  · intro w' hSw; obtain ⟨p0, p1⟩ := hSw; go_simp; try (with_reducible rfl)
  simp only [Act.put, List.setIfInBounds_toArray, List.set_cons_zero, List.set_cons_succ]
  refine wpAnyN_take2 (some 51) (i := 7) (v := ?_) rfl rfl (by kernel_rfl) (by kernel_rfl) (by kernel_rfl) (by kernel_rfl) rfl (fun _ _ _ h => h) (Or.inl ⟨by rfl, ?_⟩) hs2 ?_
  rotate_left
  · intro w' hSw; obtain ⟨p0, p1⟩ := hSw; go_simp; try (with_reducible rfl)
  simp only [Act.put, List.setIfInBounds_toArray, List.set_cons_zero, List.set_cons_succ]
  refine wpAnyN_take2 (some 52) (i := 8) (v := ?_) rfl rfl (by kernel_rfl) (by kernel_rfl) (by kernel_rfl) (by kernel_rfl) rfl (fun _ _ _ h => h) (Or.inl ⟨by rfl, ?_⟩) hs2 ?_
  rotate_left
  · intro w' hSw; obtain ⟨p0, p1⟩ := hSw; go_simp; try (with_reducible rfl)
  simp only [Act.put, List.setIfInBounds_toArray, List.set_cons_zero, List.set_cons_succ]
  refine wpAnyN_take2 (some 54) (i := 10) (v := ?_) rfl rfl (by kernel_rfl) (by kernel_rfl) (by kernel_rfl) (by kernel_rfl) rfl (fun _ _ _ h => h) (Or.inl ⟨by rfl, ?_⟩) hs2 ?_
  rotate_left
  · intro w' hSw; obtain ⟨p0, p1⟩ := hSw; go_simp; try (with_reducible rfl)
  simp only [Act.put, List.setIfInBounds_toArray, List.set_cons_zero, List.set_cons_succ]
  refine wpAnyN_one (i := 9) (by kernel_rfl) rfl fun K1 hK1 => ?_
  go_simp
  refine (rbegin_any 1 _ (by decide)).mono ?_
  rintro e We ⟨rfl, rfl⟩
  go_simp
  rw [show ((off 1 : Nat) : Int) = 64 from rfl]
  refine hK1.out _ _ ⟨q0, q1⟩ (fun h => absurd h (by decide)) ?_
  clear hK1 K1
  try (simp only [Act.put, List.setIfInBounds_toArray, List.set_cons_zero, List.set_cons_succ])
  refine wpAnyN_one (i := 11) (by kernel_rfl) rfl fun K1 hK1 => ?_
  go_simp
  refine (rk_write f 64 s HSd.out FS.out (by have := HX.out.2; omega) HX.out.1 (by omega)).mono ?_
  rintro e Wa ⟨rfl, h2⟩
  go_simp
  have HWa := Lib.hid h2; clear h2
  have FWa := Lib.hid (FS.out.write K f 64 s)
  clear q0 q1 HSd
  try clear hs2
  obtain ⟨⟨q0, q1, -, -⟩, -⟩ := rcell_facts HWa.out
  refine hK1.out _ _ ⟨q0, q1⟩ (fun h => absurd h (by decide)) ?_
  clear hK1 K1
  try (simp only [Act.put, List.setIfInBounds_toArray, List.set_cons_zero, List.set_cons_succ])
  obtain ⟨x, hx⟩ : ∃ x, x = writeCode st f 64 s := ⟨_, rfl⟩
  rw [← hx]
  have HCWa := Lib.hid hx; clear hx
  refine wpAnyN_one (i := 12) (by kernel_rfl) rfl fun K1 hK1 => ?_
  go_simp
  refine hK1.out _ _ ⟨q0, q1⟩ (fun h => absurd h (by decide)) ?_
  clear hK1 K1
  try (simp only [Act.put, List.setIfInBounds_toArray, List.set_cons_zero, List.set_cons_succ])
  refine wpAnyN_done (by kernel_rfl) ?_ _
  clear q0 q1
  by_cases he : x = 0
  rotate_left
  · go_wp2_with fail
    go_ret
    have hR := HR.out
    rw [setT, if_pos (by rw [← HCWa.out]; exact he)] at hR
    rw [hR]
    exact ⟨by show Ending.returned (.int .i64 x) = _; rw [HCWa.out], HWa.out⟩
  subst he
  have HRWa : Hid (setR st K f c s = setT2 (writeS st K f 64 s) K f c s 1) := by
    have hR := HR.out
    rw [setT, if_neg (by rw [← HCWa.out]; simp)] at hR
    exact hR
  clear HR HCWa
  go_wp2_with fail
  have HWad := Lib.hid (RefK.quiet HWa.out (Turns.refl [] Wa).drew)
  obtain ⟨⟨q0, q1, -, -⟩, -⟩ := rcell_facts HWad.out
  go_still_tail 8, (by kernel_rfl)
  change wpList _ _ _ _ _ Wa.drew
  generalize Wa.drew = Wbd at *
  clear HWa
  go_wp2_with fail
  refine (rk_sync f HWad.out FWa.out (by have := HX.out.2; omega) HX.out.1).mono ?_
  rintro e Wb ⟨rfl, h2⟩
  have HWb := Lib.hid h2; clear h2
  have FWb := Lib.hid (FWa.out.sync K f)
  clear q0 q1 HWad
  obtain ⟨x, hx⟩ : ∃ x, x = syncCode (writeS st K f 64 s) K f := ⟨_, rfl⟩
  rw [← hx]
  have HCWb := Lib.hid hx; clear hx
  by_cases he : x = 0
  rotate_left
  · go_wp2_with fail
    go_ret
    have hR := HRWa.out
    rw [setT2, if_pos (by rw [← HCWb.out]; exact he)] at hR
    rw [hR]
    exact ⟨by show Ending.returned (.int .i64 x) = _; rw [HCWb.out], HWb.out⟩
  subst he
  have HRWb : Hid (setR st K f c s = setT3 (syncS (writeS st K f 64 s) K f) K f c s 1) := by
    have hR := HRWa.out
    rw [setT2, if_neg (by rw [← HCWb.out]; simp)] at hR
    exact hR
  clear HRWa HCWb
  go_wp2_with fail
  have HWbd := Lib.hid (RefK.quiet HWb.out (Turns.refl [] Wb).drew)
  obtain ⟨⟨q0, q1, -, -⟩, -⟩ := rcell_facts HWbd.out
  refine wp_region_N (fun _ => True) (fun w' => w'.cell? ⟨cb, 0, none⟩ = some (.pointer (some ⟨r, 0, none⟩)) ∧ w'.cell? ⟨cb, 1, none⟩ = some (.int .i64 f)) (fun _ => false) (by kernel_rfl) ?_
  generalize Wb.drew = Wcd at *
  clear HWb
  have hs2 := And.intro q0 q1
  refine wpAnyN_take2 (some 73) (i := 0) (v := ?_) rfl rfl (by kernel_rfl) (by kernel_rfl) (by kernel_rfl) (by kernel_rfl) rfl (fun _ _ _ h => h) (Or.inl ⟨by rfl, ?_⟩) hs2 ?_
  rotate_left
  · intro w' hSw; obtain ⟨p0, p1⟩ := hSw; go_simp; try (with_reducible rfl)
  simp only [Act.put, List.setIfInBounds_toArray, List.set_cons_zero, List.set_cons_succ]
  refine wpAnyN_take2 (some 74) (i := 1) (v := ?_) rfl rfl (by kernel_rfl) (by kernel_rfl) (by kernel_rfl) (by kernel_rfl) rfl (fun _ _ _ h => h) (Or.inl ⟨by rfl, ?_⟩) hs2 ?_
  rotate_left
  · intro w' hSw; obtain ⟨p0, p1⟩ := hSw; go_simp; try (with_reducible rfl)
  simp only [Act.put, List.setIfInBounds_toArray, List.set_cons_zero, List.set_cons_succ]
  refine wpAnyN_take2 (some 75) (i := 2) (v := ?_) rfl rfl (by kernel_rfl) (by kernel_rfl) (by kernel_rfl) (by kernel_rfl) rfl (fun _ _ _ h => h) (Or.inl ⟨by rfl, ?_⟩) hs2 ?_
  rotate_left
  · intro w' hSw; obtain ⟨p0, p1⟩ := hSw; go_simp; try (with_reducible rfl)
  simp only [Act.put, List.setIfInBounds_toArray, List.set_cons_zero, List.set_cons_succ]
  refine wpAnyN_take2 (some 76) (i := 3) (v := ?_) rfl rfl (by kernel_rfl) (by kernel_rfl) (by kernel_rfl) (by kernel_rfl) rfl (fun _ _ _ h => h) (Or.inl ⟨by rfl, ?_⟩) hs2 ?_
  rotate_left
  · intro w' hSw; obtain ⟨p0, p1⟩ := hSw; go_simp; try (with_reducible rfl)
  simp only [Act.put, List.setIfInBounds_toArray, List.set_cons_zero, List.set_cons_succ]
  refine wpAnyN_take2 (some 77) (i := 4) (v := ?_) rfl rfl (by kernel_rfl) (by kernel_rfl) (by kernel_rfl) (by kernel_rfl) rfl (fun _ _ _ h => h) (Or.inl ⟨by rfl, ?_⟩) hs2 ?_
  rotate_left
  · intro w' hSw; obtain ⟨p0, p1⟩ := hSw; go_simp; try (with_reducible rfl)
  simp only [Act.put, List.setIfInBounds_toArray, List.set_cons_zero, List.set_cons_succ]
  refine wpAnyN_take2 (some 78) (i := 5) (v := ?_) rfl rfl (by kernel_rfl) (by kernel_rfl) (by kernel_rfl) (by kernel_rfl) rfl (fun _ _ _ h => h) (Or.inl ⟨by rfl, ?_⟩) hs2 ?_
  rotate_left
  · intro w' hSw; obtain ⟨p0, p1⟩ := hSw; go_simp; try (with_reducible rfl)
  simp only [Act.put, List.setIfInBounds_toArray, List.set_cons_zero, List.set_cons_succ]
  refine wpAnyN_take2 (some 79) (i := 6) (v := ?_) rfl rfl (by kernel_rfl) (by kernel_rfl) (by kernel_rfl) (by kernel_rfl) rfl (fun _ _ _ h => h) (Or.inl ⟨by rfl, ?_⟩) hs2 ?_
  rotate_left
  · intro w' hSw; obtain ⟨p0, p1⟩ := hSw; go_simp; try (with_reducible rfl)
  simp only [Act.put, List.setIfInBounds_toArray, List.set_cons_zero, List.set_cons_succ]
  refine wpAnyN_take2 (some 80) (i := 7) (v := ?_) rfl rfl (by kernel_rfl) (by kernel_rfl) (by kernel_rfl) (by kernel_rfl) rfl (fun _ _ _ h => h) (Or.inl ⟨by rfl, ?_⟩) hs2 ?_
  rotate_left
  · intro w' hSw; obtain ⟨p0, p1⟩ := hSw; go_simp; try (with_reducible rfl)
  simp only [Act.put, List.setIfInBounds_toArray, List.set_cons_zero, List.set_cons_succ]
  refine wpAnyN_take2 (some 81) (i := 8) (v := ?_) rfl rfl (by kernel_rfl) (by kernel_rfl) (by kernel_rfl) (by kernel_rfl) rfl (fun _ _ _ h => h) (Or.inl ⟨by rfl, ?_⟩) hs2 ?_
  rotate_left
  · intro w' hSw; obtain ⟨p0, p1⟩ := hSw; go_simp; try (with_reducible rfl)
  simp only [Act.put, List.setIfInBounds_toArray, List.set_cons_zero, List.set_cons_succ]
  refine wpAnyN_take2 (some 82) (i := 9) (v := ?_) rfl rfl (by kernel_rfl) (by kernel_rfl) (by kernel_rfl) (by kernel_rfl) rfl (fun _ _ _ h => h) (Or.inl ⟨by rfl, ?_⟩) hs2 ?_
  rotate_left
  · intro w' hSw; obtain ⟨p0, p1⟩ := hSw; go_simp; try (with_reducible rfl)
  simp only [Act.put, List.setIfInBounds_toArray, List.set_cons_zero, List.set_cons_succ]
  refine wpAnyN_take2 (some 83) (i := 10) (v := ?_) rfl rfl (by kernel_rfl) (by kernel_rfl) (by kernel_rfl) (by kernel_rfl) rfl (fun _ _ _ h => h) (Or.inl ⟨by rfl, ?_⟩) hs2 ?_
  rotate_left
  · intro w' hSw; obtain ⟨p0, p1⟩ := hSw; go_simp; try (with_reducible rfl)
  simp only [Act.put, List.setIfInBounds_toArray, List.set_cons_zero, List.set_cons_succ]
  refine wpAnyN_take2 (some 84) (i := 11) (v := ?_) rfl rfl (by kernel_rfl) (by kernel_rfl) (by kernel_rfl) (by kernel_rfl) rfl (fun _ _ _ h => h) (Or.inl ⟨by rfl, ?_⟩) hs2 ?_
  rotate_left
  · intro w' hSw; obtain ⟨p0, p1⟩ := hSw; go_simp; try (with_reducible rfl)
  simp only [Act.put, List.setIfInBounds_toArray, List.set_cons_zero, List.set_cons_succ]
  refine wpAnyN_take2 (some 85) (i := 12) (v := ?_) rfl rfl (by kernel_rfl) (by kernel_rfl) (by kernel_rfl) (by kernel_rfl) rfl (fun _ _ _ h => h) (Or.inl ⟨by rfl, ?_⟩) hs2 ?_
  rotate_left
  · intro w' hSw; obtain ⟨p0, p1⟩ := hSw; go_simp; try (with_reducible rfl)
  simp only [Act.put, List.setIfInBounds_toArray, List.set_cons_zero, List.set_cons_succ]
  refine wpAnyN_take2 (some 86) (i := 13) (v := ?_) rfl rfl (by kernel_rfl) (by kernel_rfl) (by kernel_rfl) (by kernel_rfl) rfl (fun _ _ _ h => h) (Or.inl ⟨by rfl, ?_⟩) hs2 ?_
  rotate_left
  · intro w' hSw; obtain ⟨p0, p1⟩ := hSw; go_simp; try (with_reducible rfl)
  simp only [Act.put, List.setIfInBounds_toArray, List.set_cons_zero, List.set_cons_succ]
  refine wpAnyN_take2 (some 87) (i := 14) (v := ?_) rfl rfl (by kernel_rfl) (by kernel_rfl) (by kernel_rfl) (by kernel_rfl) rfl (fun _ _ _ h => h) (Or.inl ⟨by rfl, ?_⟩) hs2 ?_
  rotate_left
  · intro w' hSw; obtain ⟨p0, p1⟩ := hSw; go_simp; try (with_reducible rfl)
  simp only [Act.put, List.setIfInBounds_toArray, List.set_cons_zero, List.set_cons_succ]
  refine wpAnyN_take2 (some 88) (i := 15) (v := ?_) rfl rfl (by kernel_rfl) (by kernel_rfl) (by kernel_rfl) (by kernel_rfl) rfl (fun _ _ _ h => h) (Or.inl ⟨by rfl, ?_⟩) hs2 ?_
  rotate_left
  · intro w' hSw; obtain ⟨p0, p1⟩ := hSw; go_simp; try (with_reducible rfl)
  simp only [Act.put, List.setIfInBounds_toArray, List.set_cons_zero, List.set_cons_succ]
  refine wpAnyN_take2 (some 89) (i := 16) (v := ?_) rfl rfl (by kernel_rfl) (by kernel_rfl) (by kernel_rfl) (by kernel_rfl) rfl (fun _ _ _ h => h) (Or.inl ⟨by rfl, ?_⟩) hs2 ?_
  rotate_left
  · intro w' hSw; obtain ⟨p0, p1⟩ := hSw; go_simp; try (with_reducible rfl)
  simp only [Act.put, List.setIfInBounds_toArray, List.set_cons_zero, List.set_cons_succ]
  refine wpAnyN_take2 (some 90) (i := 17) (v := ?_) rfl rfl (by kernel_rfl) (by kernel_rfl) (by kernel_rfl) (by kernel_rfl) rfl (fun _ _ _ h => h) (Or.inl ⟨by rfl, ?_⟩) hs2 ?_
  rotate_left
  · intro w' hSw; obtain ⟨p0, p1⟩ := hSw; go_simp; try (with_reducible rfl)
  simp only [Act.put, List.setIfInBounds_toArray, List.set_cons_zero, List.set_cons_succ]
  refine wpAnyN_take2 (some 91) (i := 18) (v := ?_) rfl rfl (by kernel_rfl) (by kernel_rfl) (by kernel_rfl) (by kernel_rfl) rfl (fun _ _ _ h => h) (Or.inl ⟨by rfl, ?_⟩) hs2 ?_
  rotate_left
  · intro w' hSw; obtain ⟨p0, p1⟩ := hSw; go_simp; try (with_reducible rfl)
  simp only [Act.put, List.setIfInBounds_toArray, List.set_cons_zero, List.set_cons_succ]
  refine wpAnyN_take2 (some 92) (i := 19) (v := ?_) rfl rfl (by kernel_rfl) (by kernel_rfl) (by kernel_rfl) (by kernel_rfl) rfl (fun _ _ _ h => h) (Or.inl ⟨by rfl, ?_⟩) hs2 ?_
  rotate_left
  · intro w' hSw; obtain ⟨p0, p1⟩ := hSw; go_simp; try (with_reducible rfl)
  simp only [Act.put, List.setIfInBounds_toArray, List.set_cons_zero, List.set_cons_succ]
  refine wpAnyN_one (i := 20) (by kernel_rfl) rfl fun K1 hK1 => ?_
  go_simp
  obtain ⟨k1, k2, k3, k4⟩ := hdr_wraps 1 s (by decide) hs
  rw [k1, k2, k3, k4]
  clear k1 k2 k3 k4
  have HWe := Lib.hid (RefK.quiet HWbd.out (Turns.alloc [] Wcd (.cells #[.int .u8 1, .int .u8 ((s.size : Int) % 256), .int .u8 ((s.size : Int) / 256 % 256), .int .u8 ((s.size : Int) / 65536), .int .u8 0] 5)))
  have hcv := hdr_back 1 s (by decide) hs Wcd
  clear HWbd q0 q1 hs2
  obtain ⟨⟨q0, q1, -, -⟩, -⟩ := rcell_facts HWe.out
  refine hK1.out _ _ ⟨q0, q1⟩ (fun h => absurd h (by decide)) ?_
  clear hK1 K1
  try (simp only [Act.put, List.setIfInBounds_toArray, List.set_cons_zero, List.set_cons_succ])
  refine wpAnyN_one (i := 21) (by kernel_rfl) rfl fun K1 hK1 => ?_
  go_simp
  refine hK1.out _ _ ⟨q0, q1⟩ (fun h => absurd h (by decide)) ?_
  clear hK1 K1
  try (simp only [Act.put, List.setIfInBounds_toArray, List.set_cons_zero, List.set_cons_succ])
  refine wpAnyN_one (i := 22) (by kernel_rfl) rfl fun K1 hK1 => ?_
  go_simp
  clear hcv
  refine (rk_write f 0 (hdrB 1 s) HWe.out FWb.out (by have := HX.out.2; omega) HX.out.1 (by rw [hdrB_size]; omega)).mono ?_
  rintro e Wc ⟨rfl, h2⟩
  go_simp
  have HWc := Lib.hid h2; clear h2
  have FWc := Lib.hid (FWb.out.write K f 0 (hdrB 1 s))
  clear q0 q1 HWe
  try clear hs2
  obtain ⟨⟨q0, q1, -, -⟩, -⟩ := rcell_facts HWc.out
  refine hK1.out _ _ ⟨q0, q1⟩ (fun h => absurd h (by decide)) ?_
  clear hK1 K1
  try (simp only [Act.put, List.setIfInBounds_toArray, List.set_cons_zero, List.set_cons_succ])
  obtain ⟨x, hx⟩ : ∃ x, x = writeCode (syncS (writeS st K f 64 s) K f) f 0 (hdrB 1 s) := ⟨_, rfl⟩
  rw [← hx]
  have HCWc := Lib.hid hx; clear hx
  refine wpAnyN_one (i := 23) (by kernel_rfl) rfl fun K1 hK1 => ?_
  go_simp
  refine hK1.out _ _ ⟨q0, q1⟩ (fun h => absurd h (by decide)) ?_
  clear hK1 K1
  try (simp only [Act.put, List.setIfInBounds_toArray, List.set_cons_zero, List.set_cons_succ])
  refine wpAnyN_done (by kernel_rfl) ?_ _
  clear q0 q1
  by_cases he : x = 0
  rotate_left
  · go_wp2_with fail
    go_ret
    have hR := HRWb.out
    rw [setT3, if_pos (by rw [← HCWc.out]; exact he)] at hR
    rw [hR]
    exact ⟨by show Ending.returned (.int .i64 x) = _; rw [HCWc.out], HWc.out⟩
  subst he
  have HRWc : Hid (setR st K f c s = setT4 (writeS (syncS (writeS st K f 64 s) K f) K f 0 (hdrB 1 s)) K f s 1) := by
    have hR := HRWb.out
    rw [setT3, if_neg (by rw [← HCWc.out]; simp)] at hR
    exact hR
  clear HRWb HCWc
  have hb := (rcell_facts HWc.out).2
  have z2 : Wc.frozen? ⟨cb, 2, none⟩ = false := free_at hb 2
  have z3 : Wc.frozen? ⟨cb, 3, none⟩ = false := free_at hb 3
  have z4 : Wc.frozen? ⟨cb, 4, none⟩ = false := free_at hb 4
  have y2 : Wc.cell? ⟨cb, 2, none⟩ = _ := cell_at hb 2
  have y3 : Wc.cell? ⟨cb, 3, none⟩ = _ := cell_at hb 3
  have y4 : Wc.cell? ⟨cb, 4, none⟩ = _ := cell_at hb 4
  clear hb
  go_wp2_with fail
  clear z2 z3 z4 y2 y3 y4
  have HWf := Lib.hid (rcell_set3 HWc.out 1 s false)
  generalize ((Wc.setCell ⟨cb, 2, none⟩ (.int .i64 1)).setCell ⟨cb, 3, none⟩ (.string s)).setCell ⟨cb, 4, none⟩ (.bool false) = Wf at *
  clear HWc
  have HWfd := Lib.hid (RefK.quiet HWf.out (Turns.refl [] Wf).drew)
  obtain ⟨⟨q0, q1, -, -⟩, -⟩ := rcell_facts HWfd.out
  go_still_tail 8, (by kernel_rfl)
  change wpList _ _ _ _ _ Wf.drew
  generalize Wf.drew = Wgd at *
  clear HWf
  go_wp2_with fail
  refine (rk_sync f HWfd.out FWc.out (by have := HX.out.2; have := hdrB_size 1 s; omega) HX.out.1).mono ?_
  rintro e Wg ⟨rfl, h2⟩
  have HWg := Lib.hid h2; clear h2
  have FWg := Lib.hid (FWc.out.sync K f)
  clear q0 q1 HWfd
  obtain ⟨x, hx⟩ : ∃ x, x = syncCode (writeS (syncS (writeS st K f 64 s) K f) K f 0 (hdrB 1 s)) K f := ⟨_, rfl⟩
  rw [← hx]
  have HCWg := Lib.hid hx; clear hx
  have hb := (rcell_facts HWg.out).2
  have z4 : Wg.frozen? ⟨cb, 4, none⟩ = false := free_at hb 4
  have y4 : Wg.cell? ⟨cb, 4, none⟩ = _ := cell_at hb 4
  clear hb
  go_wp2_with fail
  go_ret
  have hR := HRWc.out
  rw [setT4, ← HCWg.out] at hR
  rw [hR]
  exact ⟨rfl, rcell_set1 HWg.out (x == 0)⟩

set_option maxHeartbeats 6400000 in
set_option maxRecDepth 100000 in
theorem rset_a1 {w0 w : World} {r cb : Nat} {f : Int} {c : CS} {st : DS} {K : List Int} {post : List Thing} (s : ByteArray)
    (h : RefK w0 w r st K (blockThing cb (rcellObj r f c) :: post)) (hF : Fine st 200000) (hK : K.length ≤ 1000000) (hs : s.size ≤ 65536) (hsure : c.sure = false) (hslot : c.slot = 1) :
    Calls Tryd.prog 20 #[.pointer (some ⟨cb, 0, none⟩), .string s] w fun e w' => e = .returned (.int .i64 (setR st K f c s).1) ∧
      RefK w0 w' r (setR st K f c s).2.2 K (blockThing cb (rcellObj r f (setR st K f c s).2.1) :: post) := by
  have HR : Hid (setR st K f c s = setT0 st K f c s 2 131072) := by
    unfold setR
    rw [if_neg (by omega), if_pos ⟨hsure, by omega⟩]
    rw [setW_T _ _ _ ⟨c.slot, c.value, true⟩ _ 2 131072 (by simp [slotOf, hslot]) rfl]; rfl
  have HS := Lib.hid h; clear h
  obtain ⟨⟨c0, c1, c2, c4⟩, -⟩ := rcell_facts HS.out
  rw [hsure] at c4
  rw [hslot] at c2
  have HX := Lib.hid (And.intro hK hs)
  have FS := Lib.hid hF; clear hK hF
  have hlong : ¬ (65536 : Int) < (s.size : Int) := by omega
  go_enter Tryd.func20, Tryd.ntmps20
  go_wp2_with fail
  clear c0 c1 c2 c4
  have HSd := Lib.hid (RefK.quiet HS.out (Turns.refl [] w).drew)
  obtain ⟨⟨q0, q1, -, -⟩, -⟩ := rcell_facts HSd.out
  go_still_tail 8, (by kernel_rfl)
  change wpList _ _ _ _ _ w.drew
  generalize w.drew = Wzd at *
  clear HS
  go_wp2_with fail
  refine (rk_sync f HSd.out FS.out (by have := HX.out.2; omega) HX.out.1).mono ?_
  rintro e Wz ⟨rfl, h2⟩
  have HWz := Lib.hid h2; clear h2
  have FWz := Lib.hid (FS.out.sync K f)
  clear q0 q1 HSd
  obtain ⟨x, hx⟩ : ∃ x, x = syncCode st K f := ⟨_, rfl⟩
  rw [← hx]
  have HCWz := Lib.hid hx; clear hx
  by_cases he : x = 0
  rotate_left
  · go_wp2_with fail
    go_ret
    have hR := HR.out
    rw [setT0, if_pos (by rw [← HCWz.out]; exact he)] at hR
    rw [hR]
    exact ⟨by show Ending.returned (.int .i64 x) = _; rw [HCWz.out], HWz.out⟩
  subst he
  have HRWz : Hid (setR st K f c s = setT (syncS st K f) K f ⟨c.slot, c.value, true⟩ s 2 131072) := by
    have hR := HR.out
    rw [setT0, if_neg (by rw [← HCWz.out]; simp)] at hR
    exact hR
  clear HR HCWz
  have hb := (rcell_facts HWz.out).2
  have z4 : Wz.frozen? ⟨cb, 4, none⟩ = false := free_at hb 4
  have y4 : Wz.cell? ⟨cb, 4, none⟩ = _ := cell_at hb 4
  have y2 := (rcell_facts HWz.out).1.2.2.1
  rw [hslot] at y2
  clear hb
  go_wp2_with fail
  clear z4 y4 y2
  have HWy := Lib.hid (rcell_set1 HWz.out true)
  generalize Wz.setCell ⟨cb, 4, none⟩ (.bool true) = Wy at *
  clear HWz
  have HWyd := Lib.hid (RefK.quiet HWy.out (Turns.refl [] Wy).drew)
  obtain ⟨⟨q0, q1, -, -⟩, -⟩ := rcell_facts HWyd.out
  refine wp_region_N (fun _ => True) (fun w' => w'.cell? ⟨cb, 0, none⟩ = some (.pointer (some ⟨r, 0, none⟩)) ∧ w'.cell? ⟨cb, 1, none⟩ = some (.int .i64 f)) (fun _ => false) (by kernel_rfl) ?_
  generalize Wy.drew = Wad at *
  clear HWy
  have hs2 := And.intro q0 q1
  refine wpAnyN_take2 (some 44) (i := 0) (v := ?_) rfl rfl (by kernel_rfl) (by kernel_rfl) (by kernel_rfl) (by kernel_rfl) rfl (fun _ _ _ h => h) (Or.inl ⟨by rfl, ?_⟩) hs2 ?_
  rotate_left
  · intro w' hSw; obtain ⟨p0, p1⟩ := hSw; go_simp; try (with_reducible rfl)
  simp only [Act.put, List.setIfInBounds_toArray, List.set_cons_zero, List.set_cons_succ]
  refine wpAnyN_take2 (some 45) (i := 1) (v := ?_) rfl rfl (by kernel_rfl) (by kernel_rfl) (by kernel_rfl) (by kernel_rfl) rfl (fun _ _ _ h => h) (Or.inl ⟨by rfl, ?_⟩) hs2 ?_
  rotate_left
  · intro w' hSw; obtain ⟨p0, p1⟩ := hSw; go_simp; try (with_reducible rfl)
  simp only [Act.put, List.setIfInBounds_toArray, List.set_cons_zero, List.set_cons_succ]
  refine wpAnyN_take2 (some 46) (i := 2) (v := ?_) rfl rfl (by kernel_rfl) (by kernel_rfl) (by kernel_rfl) (by kernel_rfl) rfl (fun _ _ _ h => h) (Or.inl ⟨by rfl, ?_⟩) hs2 ?_
  rotate_left
  · intro w' hSw; obtain ⟨p0, p1⟩ := hSw; go_simp; try (with_reducible rfl)
  simp only [Act.put, List.setIfInBounds_toArray, List.set_cons_zero, List.set_cons_succ]
  refine wpAnyN_take2 (some 47) (i := 3) (v := ?_) rfl rfl (by kernel_rfl) (by kernel_rfl) (by kernel_rfl) (by kernel_rfl) rfl (fun _ _ _ h => h) (Or.inl ⟨by rfl, ?_⟩) hs2 ?_
  rotate_left
  · intro w' hSw; obtain ⟨p0, p1⟩ := hSw; go_simp; try (with_reducible rfl)
  simp only [Act.put, List.setIfInBounds_toArray, List.set_cons_zero, List.set_cons_succ]
  refine wpAnyN_take2 (some 48) (i := 4) (v := ?_) rfl rfl (by kernel_rfl) (by kernel_rfl) (by kernel_rfl) (by kernel_rfl) rfl (fun _ _ _ h => h) (Or.inl ⟨by rfl, ?_⟩) hs2 ?_
  rotate_left
  · intro w' hSw; obtain ⟨p0, p1⟩ := hSw; go_simp; try (with_reducible rfl)
  simp only [Act.put, List.setIfInBounds_toArray, List.set_cons_zero, List.set_cons_succ]
  refine wpAnyN_take2 (some 49) (i := 5) (v := ?_) rfl rfl (by kernel_rfl) (by kernel_rfl) (by kernel_rfl) (by kernel_rfl) rfl (fun _ _ _ h => h) (Or.inl ⟨by rfl, ?_⟩) hs2 ?_
  rotate_left
  · intro w' hSw; obtain ⟨p0, p1⟩ := hSw; go_simp; try (with_reducible rfl)
  simp only [Act.put, List.setIfInBounds_toArray, List.set_cons_zero, List.set_cons_succ]
  refine wpAnyN_take2 (some 50) (i := 6) (v := ?_) rfl rfl (by kernel_rfl) (by kernel_rfl) (by kernel_rfl) (by kernel_rfl) rfl (fun _ _ _ h => h) (Or.inl ⟨by rfl, ?_⟩) hs2 ?_
  rotate_left
  · intro w' hSw; obtain ⟨p0, p1⟩ := hSw; go_simp; try (with_reducible rfl)
  simp only [Act.put, List.setIfInBounds_toArray, List.set_cons_zero, List.set_cons_succ]
  refine wpAnyN_take2 (some 51) (i := 7) (v := ?_) rfl rfl (by kernel_rfl) (by kernel_rfl) (by kernel_rfl) (by kernel_rfl) rfl (fun _ _ _ h => h) (Or.inl ⟨by rfl, ?_⟩) hs2 ?_
  rotate_left
  · intro w' hSw; obtain ⟨p0, p1⟩ := hSw; go_simp; try (with_reducible rfl)
  simp only [Act.put, List.setIfInBounds_toArray, List.set_cons_zero, List.set_cons_succ]
  refine wpAnyN_take2 (some 52) (i := 8) (v := ?_) rfl rfl (by kernel_rfl) (by kernel_rfl) (by kernel_rfl) (by kernel_rfl) rfl (fun _ _ _ h => h) (Or.inl ⟨by rfl, ?_⟩) hs2 ?_
  rotate_left
  · intro w' hSw; obtain ⟨p0, p1⟩ := hSw; go_simp; try (with_reducible rfl)
  simp only [Act.put, List.setIfInBounds_toArray, List.set_cons_zero, List.set_cons_succ]
  refine wpAnyN_take2 (some 54) (i := 10) (v := ?_) rfl rfl (by kernel_rfl) (by kernel_rfl) (by kernel_rfl) (by kernel_rfl) rfl (fun _ _ _ h => h) (Or.inl ⟨by rfl, ?_⟩) hs2 ?_
  rotate_left
  · intro w' hSw; obtain ⟨p0, p1⟩ := hSw; go_simp; try (with_reducible rfl)
  simp only [Act.put, List.setIfInBounds_toArray, List.set_cons_zero, List.set_cons_succ]
  refine wpAnyN_one (i := 9) (by kernel_rfl) rfl fun K1 hK1 => ?_
  go_simp
  refine (rbegin_any 2 _ (by decide)).mono ?_
  rintro e We ⟨rfl, rfl⟩
  go_simp
  rw [show ((off 2 : Nat) : Int) = 131072 from rfl]
  refine hK1.out _ _ ⟨q0, q1⟩ (fun h => absurd h (by decide)) ?_
  clear hK1 K1
  try (simp only [Act.put, List.setIfInBounds_toArray, List.set_cons_zero, List.set_cons_succ])
  refine wpAnyN_one (i := 11) (by kernel_rfl) rfl fun K1 hK1 => ?_
  go_simp
  refine (rk_write f 131072 s HWyd.out FWz.out (by have := HX.out.2; omega) HX.out.1 (by omega)).mono ?_
  rintro e Wa ⟨rfl, h2⟩
  go_simp
  have HWa := Lib.hid h2; clear h2
  have FWa := Lib.hid (FWz.out.write K f 131072 s)
  clear q0 q1 HWyd
  try clear hs2
  obtain ⟨⟨q0, q1, -, -⟩, -⟩ := rcell_facts HWa.out
  refine hK1.out _ _ ⟨q0, q1⟩ (fun h => absurd h (by decide)) ?_
  clear hK1 K1
  try (simp only [Act.put, List.setIfInBounds_toArray, List.set_cons_zero, List.set_cons_succ])
  obtain ⟨x, hx⟩ : ∃ x, x = writeCode (syncS st K f) f 131072 s := ⟨_, rfl⟩
  rw [← hx]
  have HCWa := Lib.hid hx; clear hx
  refine wpAnyN_one (i := 12) (by kernel_rfl) rfl fun K1 hK1 => ?_
  go_simp
  refine hK1.out _ _ ⟨q0, q1⟩ (fun h => absurd h (by decide)) ?_
  clear hK1 K1
  try (simp only [Act.put, List.setIfInBounds_toArray, List.set_cons_zero, List.set_cons_succ])
  refine wpAnyN_done (by kernel_rfl) ?_ _
  clear q0 q1
  by_cases he : x = 0
  rotate_left
  · go_wp2_with fail
    go_ret
    have hR := HRWz.out
    rw [setT, if_pos (by rw [← HCWa.out]; exact he)] at hR
    rw [hR]
    exact ⟨by show Ending.returned (.int .i64 x) = _; rw [HCWa.out], HWa.out⟩
  subst he
  have HRWa : Hid (setR st K f c s = setT2 (writeS (syncS st K f) K f 131072 s) K f ⟨c.slot, c.value, true⟩ s 2) := by
    have hR := HRWz.out
    rw [setT, if_neg (by rw [← HCWa.out]; simp)] at hR
    exact hR
  clear HRWz HCWa
  go_wp2_with fail
  have HWad := Lib.hid (RefK.quiet HWa.out (Turns.refl [] Wa).drew)
  obtain ⟨⟨q0, q1, -, -⟩, -⟩ := rcell_facts HWad.out
  go_still_tail 8, (by kernel_rfl)
  change wpList _ _ _ _ _ Wa.drew
  generalize Wa.drew = Wbd at *
  clear HWa
  go_wp2_with fail
  refine (rk_sync f HWad.out FWa.out (by have := HX.out.2; omega) HX.out.1).mono ?_
  rintro e Wb ⟨rfl, h2⟩
  have HWb := Lib.hid h2; clear h2
  have FWb := Lib.hid (FWa.out.sync K f)
  clear q0 q1 HWad
  obtain ⟨x, hx⟩ : ∃ x, x = syncCode (writeS (syncS st K f) K f 131072 s) K f := ⟨_, rfl⟩
  rw [← hx]
  have HCWb := Lib.hid hx; clear hx
  by_cases he : x = 0
  rotate_left
  · go_wp2_with fail
    go_ret
    have hR := HRWa.out
    rw [setT2, if_pos (by rw [← HCWb.out]; exact he)] at hR
    rw [hR]
    exact ⟨by show Ending.returned (.int .i64 x) = _; rw [HCWb.out], HWb.out⟩
  subst he
  have HRWb : Hid (setR st K f c s = setT3 (syncS (writeS (syncS st K f) K f 131072 s) K f) K f ⟨c.slot, c.value, true⟩ s 2) := by
    have hR := HRWa.out
    rw [setT2, if_neg (by rw [← HCWb.out]; simp)] at hR
    exact hR
  clear HRWa HCWb
  go_wp2_with fail
  have HWbd := Lib.hid (RefK.quiet HWb.out (Turns.refl [] Wb).drew)
  obtain ⟨⟨q0, q1, -, -⟩, -⟩ := rcell_facts HWbd.out
  refine wp_region_N (fun _ => True) (fun w' => w'.cell? ⟨cb, 0, none⟩ = some (.pointer (some ⟨r, 0, none⟩)) ∧ w'.cell? ⟨cb, 1, none⟩ = some (.int .i64 f)) (fun _ => false) (by kernel_rfl) ?_
  generalize Wb.drew = Wcd at *
  clear HWb
  have hs2 := And.intro q0 q1
  refine wpAnyN_take2 (some 73) (i := 0) (v := ?_) rfl rfl (by kernel_rfl) (by kernel_rfl) (by kernel_rfl) (by kernel_rfl) rfl (fun _ _ _ h => h) (Or.inl ⟨by rfl, ?_⟩) hs2 ?_
  rotate_left
  · intro w' hSw; obtain ⟨p0, p1⟩ := hSw; go_simp; try (with_reducible rfl)
  simp only [Act.put, List.setIfInBounds_toArray, List.set_cons_zero, List.set_cons_succ]
  refine wpAnyN_take2 (some 74) (i := 1) (v := ?_) rfl rfl (by kernel_rfl) (by kernel_rfl) (by kernel_rfl) (by kernel_rfl) rfl (fun _ _ _ h => h) (Or.inl ⟨by rfl, ?_⟩) hs2 ?_
  rotate_left
  · intro w' hSw; obtain ⟨p0, p1⟩ := hSw; go_simp; try (with_reducible rfl)
  simp only [Act.put, List.setIfInBounds_toArray, List.set_cons_zero, List.set_cons_succ]
  refine wpAnyN_take2 (some 75) (i := 2) (v := ?_) rfl rfl (by kernel_rfl) (by kernel_rfl) (by kernel_rfl) (by kernel_rfl) rfl (fun _ _ _ h => h) (Or.inl ⟨by rfl, ?_⟩) hs2 ?_
  rotate_left
  · intro w' hSw; obtain ⟨p0, p1⟩ := hSw; go_simp; try (with_reducible rfl)
  simp only [Act.put, List.setIfInBounds_toArray, List.set_cons_zero, List.set_cons_succ]
  refine wpAnyN_take2 (some 76) (i := 3) (v := ?_) rfl rfl (by kernel_rfl) (by kernel_rfl) (by kernel_rfl) (by kernel_rfl) rfl (fun _ _ _ h => h) (Or.inl ⟨by rfl, ?_⟩) hs2 ?_
  rotate_left
  · intro w' hSw; obtain ⟨p0, p1⟩ := hSw; go_simp; try (with_reducible rfl)
  simp only [Act.put, List.setIfInBounds_toArray, List.set_cons_zero, List.set_cons_succ]
  refine wpAnyN_take2 (some 77) (i := 4) (v := ?_) rfl rfl (by kernel_rfl) (by kernel_rfl) (by kernel_rfl) (by kernel_rfl) rfl (fun _ _ _ h => h) (Or.inl ⟨by rfl, ?_⟩) hs2 ?_
  rotate_left
  · intro w' hSw; obtain ⟨p0, p1⟩ := hSw; go_simp; try (with_reducible rfl)
  simp only [Act.put, List.setIfInBounds_toArray, List.set_cons_zero, List.set_cons_succ]
  refine wpAnyN_take2 (some 78) (i := 5) (v := ?_) rfl rfl (by kernel_rfl) (by kernel_rfl) (by kernel_rfl) (by kernel_rfl) rfl (fun _ _ _ h => h) (Or.inl ⟨by rfl, ?_⟩) hs2 ?_
  rotate_left
  · intro w' hSw; obtain ⟨p0, p1⟩ := hSw; go_simp; try (with_reducible rfl)
  simp only [Act.put, List.setIfInBounds_toArray, List.set_cons_zero, List.set_cons_succ]
  refine wpAnyN_take2 (some 79) (i := 6) (v := ?_) rfl rfl (by kernel_rfl) (by kernel_rfl) (by kernel_rfl) (by kernel_rfl) rfl (fun _ _ _ h => h) (Or.inl ⟨by rfl, ?_⟩) hs2 ?_
  rotate_left
  · intro w' hSw; obtain ⟨p0, p1⟩ := hSw; go_simp; try (with_reducible rfl)
  simp only [Act.put, List.setIfInBounds_toArray, List.set_cons_zero, List.set_cons_succ]
  refine wpAnyN_take2 (some 80) (i := 7) (v := ?_) rfl rfl (by kernel_rfl) (by kernel_rfl) (by kernel_rfl) (by kernel_rfl) rfl (fun _ _ _ h => h) (Or.inl ⟨by rfl, ?_⟩) hs2 ?_
  rotate_left
  · intro w' hSw; obtain ⟨p0, p1⟩ := hSw; go_simp; try (with_reducible rfl)
  simp only [Act.put, List.setIfInBounds_toArray, List.set_cons_zero, List.set_cons_succ]
  refine wpAnyN_take2 (some 81) (i := 8) (v := ?_) rfl rfl (by kernel_rfl) (by kernel_rfl) (by kernel_rfl) (by kernel_rfl) rfl (fun _ _ _ h => h) (Or.inl ⟨by rfl, ?_⟩) hs2 ?_
  rotate_left
  · intro w' hSw; obtain ⟨p0, p1⟩ := hSw; go_simp; try (with_reducible rfl)
  simp only [Act.put, List.setIfInBounds_toArray, List.set_cons_zero, List.set_cons_succ]
  refine wpAnyN_take2 (some 82) (i := 9) (v := ?_) rfl rfl (by kernel_rfl) (by kernel_rfl) (by kernel_rfl) (by kernel_rfl) rfl (fun _ _ _ h => h) (Or.inl ⟨by rfl, ?_⟩) hs2 ?_
  rotate_left
  · intro w' hSw; obtain ⟨p0, p1⟩ := hSw; go_simp; try (with_reducible rfl)
  simp only [Act.put, List.setIfInBounds_toArray, List.set_cons_zero, List.set_cons_succ]
  refine wpAnyN_take2 (some 83) (i := 10) (v := ?_) rfl rfl (by kernel_rfl) (by kernel_rfl) (by kernel_rfl) (by kernel_rfl) rfl (fun _ _ _ h => h) (Or.inl ⟨by rfl, ?_⟩) hs2 ?_
  rotate_left
  · intro w' hSw; obtain ⟨p0, p1⟩ := hSw; go_simp; try (with_reducible rfl)
  simp only [Act.put, List.setIfInBounds_toArray, List.set_cons_zero, List.set_cons_succ]
  refine wpAnyN_take2 (some 84) (i := 11) (v := ?_) rfl rfl (by kernel_rfl) (by kernel_rfl) (by kernel_rfl) (by kernel_rfl) rfl (fun _ _ _ h => h) (Or.inl ⟨by rfl, ?_⟩) hs2 ?_
  rotate_left
  · intro w' hSw; obtain ⟨p0, p1⟩ := hSw; go_simp; try (with_reducible rfl)
  simp only [Act.put, List.setIfInBounds_toArray, List.set_cons_zero, List.set_cons_succ]
  refine wpAnyN_take2 (some 85) (i := 12) (v := ?_) rfl rfl (by kernel_rfl) (by kernel_rfl) (by kernel_rfl) (by kernel_rfl) rfl (fun _ _ _ h => h) (Or.inl ⟨by rfl, ?_⟩) hs2 ?_
  rotate_left
  · intro w' hSw; obtain ⟨p0, p1⟩ := hSw; go_simp; try (with_reducible rfl)
  simp only [Act.put, List.setIfInBounds_toArray, List.set_cons_zero, List.set_cons_succ]
  refine wpAnyN_take2 (some 86) (i := 13) (v := ?_) rfl rfl (by kernel_rfl) (by kernel_rfl) (by kernel_rfl) (by kernel_rfl) rfl (fun _ _ _ h => h) (Or.inl ⟨by rfl, ?_⟩) hs2 ?_
  rotate_left
  · intro w' hSw; obtain ⟨p0, p1⟩ := hSw; go_simp; try (with_reducible rfl)
  simp only [Act.put, List.setIfInBounds_toArray, List.set_cons_zero, List.set_cons_succ]
  refine wpAnyN_take2 (some 87) (i := 14) (v := ?_) rfl rfl (by kernel_rfl) (by kernel_rfl) (by kernel_rfl) (by kernel_rfl) rfl (fun _ _ _ h => h) (Or.inl ⟨by rfl, ?_⟩) hs2 ?_
  rotate_left
  · intro w' hSw; obtain ⟨p0, p1⟩ := hSw; go_simp; try (with_reducible rfl)
  simp only [Act.put, List.setIfInBounds_toArray, List.set_cons_zero, List.set_cons_succ]
  refine wpAnyN_take2 (some 88) (i := 15) (v := ?_) rfl rfl (by kernel_rfl) (by kernel_rfl) (by kernel_rfl) (by kernel_rfl) rfl (fun _ _ _ h => h) (Or.inl ⟨by rfl, ?_⟩) hs2 ?_
  rotate_left
  · intro w' hSw; obtain ⟨p0, p1⟩ := hSw; go_simp; try (with_reducible rfl)
  simp only [Act.put, List.setIfInBounds_toArray, List.set_cons_zero, List.set_cons_succ]
  refine wpAnyN_take2 (some 89) (i := 16) (v := ?_) rfl rfl (by kernel_rfl) (by kernel_rfl) (by kernel_rfl) (by kernel_rfl) rfl (fun _ _ _ h => h) (Or.inl ⟨by rfl, ?_⟩) hs2 ?_
  rotate_left
  · intro w' hSw; obtain ⟨p0, p1⟩ := hSw; go_simp; try (with_reducible rfl)
  simp only [Act.put, List.setIfInBounds_toArray, List.set_cons_zero, List.set_cons_succ]
  refine wpAnyN_take2 (some 90) (i := 17) (v := ?_) rfl rfl (by kernel_rfl) (by kernel_rfl) (by kernel_rfl) (by kernel_rfl) rfl (fun _ _ _ h => h) (Or.inl ⟨by rfl, ?_⟩) hs2 ?_
  rotate_left
  · intro w' hSw; obtain ⟨p0, p1⟩ := hSw; go_simp; try (with_reducible rfl)
  simp only [Act.put, List.setIfInBounds_toArray, List.set_cons_zero, List.set_cons_succ]
  refine wpAnyN_take2 (some 91) (i := 18) (v := ?_) rfl rfl (by kernel_rfl) (by kernel_rfl) (by kernel_rfl) (by kernel_rfl) rfl (fun _ _ _ h => h) (Or.inl ⟨by rfl, ?_⟩) hs2 ?_
  rotate_left
  · intro w' hSw; obtain ⟨p0, p1⟩ := hSw; go_simp; try (with_reducible rfl)
  simp only [Act.put, List.setIfInBounds_toArray, List.set_cons_zero, List.set_cons_succ]
  refine wpAnyN_take2 (some 92) (i := 19) (v := ?_) rfl rfl (by kernel_rfl) (by kernel_rfl) (by kernel_rfl) (by kernel_rfl) rfl (fun _ _ _ h => h) (Or.inl ⟨by rfl, ?_⟩) hs2 ?_
  rotate_left
  · intro w' hSw; obtain ⟨p0, p1⟩ := hSw; go_simp; try (with_reducible rfl)
  simp only [Act.put, List.setIfInBounds_toArray, List.set_cons_zero, List.set_cons_succ]
  refine wpAnyN_one (i := 20) (by kernel_rfl) rfl fun K1 hK1 => ?_
  go_simp
  obtain ⟨k1, k2, k3, k4⟩ := hdr_wraps 2 s (by decide) hs
  rw [k1, k2, k3, k4]
  clear k1 k2 k3 k4
  have HWe := Lib.hid (RefK.quiet HWbd.out (Turns.alloc [] Wcd (.cells #[.int .u8 2, .int .u8 ((s.size : Int) % 256), .int .u8 ((s.size : Int) / 256 % 256), .int .u8 ((s.size : Int) / 65536), .int .u8 0] 5)))
  have hcv := hdr_back 2 s (by decide) hs Wcd
  clear HWbd q0 q1 hs2
  obtain ⟨⟨q0, q1, -, -⟩, -⟩ := rcell_facts HWe.out
  refine hK1.out _ _ ⟨q0, q1⟩ (fun h => absurd h (by decide)) ?_
  clear hK1 K1
  try (simp only [Act.put, List.setIfInBounds_toArray, List.set_cons_zero, List.set_cons_succ])
  refine wpAnyN_one (i := 21) (by kernel_rfl) rfl fun K1 hK1 => ?_
  go_simp
  refine hK1.out _ _ ⟨q0, q1⟩ (fun h => absurd h (by decide)) ?_
  clear hK1 K1
  try (simp only [Act.put, List.setIfInBounds_toArray, List.set_cons_zero, List.set_cons_succ])
  refine wpAnyN_one (i := 22) (by kernel_rfl) rfl fun K1 hK1 => ?_
  go_simp
  clear hcv
  refine (rk_write f 0 (hdrB 2 s) HWe.out FWb.out (by have := HX.out.2; omega) HX.out.1 (by rw [hdrB_size]; omega)).mono ?_
  rintro e Wc ⟨rfl, h2⟩
  go_simp
  have HWc := Lib.hid h2; clear h2
  have FWc := Lib.hid (FWb.out.write K f 0 (hdrB 2 s))
  clear q0 q1 HWe
  try clear hs2
  obtain ⟨⟨q0, q1, -, -⟩, -⟩ := rcell_facts HWc.out
  refine hK1.out _ _ ⟨q0, q1⟩ (fun h => absurd h (by decide)) ?_
  clear hK1 K1
  try (simp only [Act.put, List.setIfInBounds_toArray, List.set_cons_zero, List.set_cons_succ])
  obtain ⟨x, hx⟩ : ∃ x, x = writeCode (syncS (writeS (syncS st K f) K f 131072 s) K f) f 0 (hdrB 2 s) := ⟨_, rfl⟩
  rw [← hx]
  have HCWc := Lib.hid hx; clear hx
  refine wpAnyN_one (i := 23) (by kernel_rfl) rfl fun K1 hK1 => ?_
  go_simp
  refine hK1.out _ _ ⟨q0, q1⟩ (fun h => absurd h (by decide)) ?_
  clear hK1 K1
  try (simp only [Act.put, List.setIfInBounds_toArray, List.set_cons_zero, List.set_cons_succ])
  refine wpAnyN_done (by kernel_rfl) ?_ _
  clear q0 q1
  by_cases he : x = 0
  rotate_left
  · go_wp2_with fail
    go_ret
    have hR := HRWb.out
    rw [setT3, if_pos (by rw [← HCWc.out]; exact he)] at hR
    rw [hR]
    exact ⟨by show Ending.returned (.int .i64 x) = _; rw [HCWc.out], HWc.out⟩
  subst he
  have HRWc : Hid (setR st K f c s = setT4 (writeS (syncS (writeS (syncS st K f) K f 131072 s) K f) K f 0 (hdrB 2 s)) K f s 2) := by
    have hR := HRWb.out
    rw [setT3, if_neg (by rw [← HCWc.out]; simp)] at hR
    exact hR
  clear HRWb HCWc
  have hb := (rcell_facts HWc.out).2
  have z2 : Wc.frozen? ⟨cb, 2, none⟩ = false := free_at hb 2
  have z3 : Wc.frozen? ⟨cb, 3, none⟩ = false := free_at hb 3
  have z4 : Wc.frozen? ⟨cb, 4, none⟩ = false := free_at hb 4
  have y2 : Wc.cell? ⟨cb, 2, none⟩ = _ := cell_at hb 2
  have y3 : Wc.cell? ⟨cb, 3, none⟩ = _ := cell_at hb 3
  have y4 : Wc.cell? ⟨cb, 4, none⟩ = _ := cell_at hb 4
  clear hb
  go_wp2_with fail
  clear z2 z3 z4 y2 y3 y4
  have HWf := Lib.hid (rcell_set3 HWc.out 2 s false)
  generalize ((Wc.setCell ⟨cb, 2, none⟩ (.int .i64 2)).setCell ⟨cb, 3, none⟩ (.string s)).setCell ⟨cb, 4, none⟩ (.bool false) = Wf at *
  clear HWc
  have HWfd := Lib.hid (RefK.quiet HWf.out (Turns.refl [] Wf).drew)
  obtain ⟨⟨q0, q1, -, -⟩, -⟩ := rcell_facts HWfd.out
  go_still_tail 8, (by kernel_rfl)
  change wpList _ _ _ _ _ Wf.drew
  generalize Wf.drew = Wgd at *
  clear HWf
  go_wp2_with fail
  refine (rk_sync f HWfd.out FWc.out (by have := HX.out.2; have := hdrB_size 2 s; omega) HX.out.1).mono ?_
  rintro e Wg ⟨rfl, h2⟩
  have HWg := Lib.hid h2; clear h2
  have FWg := Lib.hid (FWc.out.sync K f)
  clear q0 q1 HWfd
  obtain ⟨x, hx⟩ : ∃ x, x = syncCode (writeS (syncS (writeS (syncS st K f) K f 131072 s) K f) K f 0 (hdrB 2 s)) K f := ⟨_, rfl⟩
  rw [← hx]
  have HCWg := Lib.hid hx; clear hx
  have hb := (rcell_facts HWg.out).2
  have z4 : Wg.frozen? ⟨cb, 4, none⟩ = false := free_at hb 4
  have y4 : Wg.cell? ⟨cb, 4, none⟩ = _ := cell_at hb 4
  clear hb
  go_wp2_with fail
  go_ret
  have hR := HRWc.out
  rw [setT4, ← HCWg.out] at hR
  rw [hR]
  exact ⟨rfl, rcell_set1 HWg.out (x == 0)⟩

set_option maxHeartbeats 6400000 in
set_option maxRecDepth 100000 in
theorem rset_a2 {w0 w : World} {r cb : Nat} {f : Int} {c : CS} {st : DS} {K : List Int} {post : List Thing} (s : ByteArray)
    (h : RefK w0 w r st K (blockThing cb (rcellObj r f c) :: post)) (hF : Fine st 200000) (hK : K.length ≤ 1000000) (hs : s.size ≤ 65536) (hsure : c.sure = false) (hz : 0 < c.slot) (hslot : ¬ c.slot = 1) :
    Calls Tryd.prog 20 #[.pointer (some ⟨cb, 0, none⟩), .string s] w fun e w' => e = .returned (.int .i64 (setR st K f c s).1) ∧
      RefK w0 w' r (setR st K f c s).2.2 K (blockThing cb (rcellObj r f (setR st K f c s).2.1) :: post) := by
  have HR : Hid (setR st K f c s = setT0 st K f c s 1 64) := by
    unfold setR
    rw [if_neg (by omega), if_pos ⟨hsure, by omega⟩]
    rw [setW_T _ _ _ ⟨c.slot, c.value, true⟩ _ 1 64 (by simp [slotOf, hslot]) rfl]; rfl
  have HS := Lib.hid h; clear h
  obtain ⟨⟨c0, c1, c2, c4⟩, -⟩ := rcell_facts HS.out
  rw [hsure] at c4
  have hs1 : (c.slot == 1) = false := by rw [beq_eq_false_iff_ne]; exact hslot
  have hs0 : (c.slot != 0) = true := by rw [bne_iff_ne]; omega
  have HX := Lib.hid (And.intro hK hs)
  have FS := Lib.hid hF; clear hK hF
  have hlong : ¬ (65536 : Int) < (s.size : Int) := by omega
  go_enter Tryd.func20, Tryd.ntmps20
  go_wp2_with fail
  clear c0 c1 c2 c4
  have HSd := Lib.hid (RefK.quiet HS.out (Turns.refl [] w).drew)
  obtain ⟨⟨q0, q1, -, -⟩, -⟩ := rcell_facts HSd.out
  go_still_tail 8, (by kernel_rfl)
  change wpList _ _ _ _ _ w.drew
  generalize w.drew = Wzd at *
  clear HS
  go_wp2_with fail
  refine (rk_sync f HSd.out FS.out (by have := HX.out.2; omega) HX.out.1).mono ?_
  rintro e Wz ⟨rfl, h2⟩
  have HWz := Lib.hid h2; clear h2
  have FWz := Lib.hid (FS.out.sync K f)
  clear q0 q1 HSd
  obtain ⟨x, hx⟩ : ∃ x, x = syncCode st K f := ⟨_, rfl⟩
  rw [← hx]
  have HCWz := Lib.hid hx; clear hx
  by_cases he : x = 0
  rotate_left
  · go_wp2_with fail
    go_ret
    have hR := HR.out
    rw [setT0, if_pos (by rw [← HCWz.out]; exact he)] at hR
    rw [hR]
    exact ⟨by show Ending.returned (.int .i64 x) = _; rw [HCWz.out], HWz.out⟩
  subst he
  have HRWz : Hid (setR st K f c s = setT (syncS st K f) K f ⟨c.slot, c.value, true⟩ s 1 64) := by
    have hR := HR.out
    rw [setT0, if_neg (by rw [← HCWz.out]; simp)] at hR
    exact hR
  clear HR HCWz
  have hb := (rcell_facts HWz.out).2
  have z4 : Wz.frozen? ⟨cb, 4, none⟩ = false := free_at hb 4
  have y4 : Wz.cell? ⟨cb, 4, none⟩ = _ := cell_at hb 4
  have y2 := (rcell_facts HWz.out).1.2.2.1
  have hs1 : (c.slot == 1) = false := by rw [beq_eq_false_iff_ne]; exact hslot
  have hs0 : (c.slot != 0) = true := by rw [bne_iff_ne]; omega
  clear hb
  go_wp2_with fail
  clear z4 y4 y2
  have HWy := Lib.hid (rcell_set1 HWz.out true)
  generalize Wz.setCell ⟨cb, 4, none⟩ (.bool true) = Wy at *
  clear HWz
  have HWyd := Lib.hid (RefK.quiet HWy.out (Turns.refl [] Wy).drew)
  obtain ⟨⟨q0, q1, -, -⟩, -⟩ := rcell_facts HWyd.out
  refine wp_region_N (fun _ => True) (fun w' => w'.cell? ⟨cb, 0, none⟩ = some (.pointer (some ⟨r, 0, none⟩)) ∧ w'.cell? ⟨cb, 1, none⟩ = some (.int .i64 f)) (fun _ => false) (by kernel_rfl) ?_
  generalize Wy.drew = Wad at *
  clear HWy
  have hs2 := And.intro q0 q1
  refine wpAnyN_take2 (some 44) (i := 0) (v := ?_) rfl rfl (by kernel_rfl) (by kernel_rfl) (by kernel_rfl) (by kernel_rfl) rfl (fun _ _ _ h => h) (Or.inl ⟨by rfl, ?_⟩) hs2 ?_
  rotate_left
  · intro w' hSw; obtain ⟨p0, p1⟩ := hSw; go_simp; try (with_reducible rfl)
  simp only [Act.put, List.setIfInBounds_toArray, List.set_cons_zero, List.set_cons_succ]
  refine wpAnyN_take2 (some 45) (i := 1) (v := ?_) rfl rfl (by kernel_rfl) (by kernel_rfl) (by kernel_rfl) (by kernel_rfl) rfl (fun _ _ _ h => h) (Or.inl ⟨by rfl, ?_⟩) hs2 ?_
  rotate_left
  · intro w' hSw; obtain ⟨p0, p1⟩ := hSw; go_simp; try (with_reducible rfl)
  simp only [Act.put, List.setIfInBounds_toArray, List.set_cons_zero, List.set_cons_succ]
  refine wpAnyN_take2 (some 46) (i := 2) (v := ?_) rfl rfl (by kernel_rfl) (by kernel_rfl) (by kernel_rfl) (by kernel_rfl) rfl (fun _ _ _ h => h) (Or.inl ⟨by rfl, ?_⟩) hs2 ?_
  rotate_left
  · intro w' hSw; obtain ⟨p0, p1⟩ := hSw; go_simp; try (with_reducible rfl)
  simp only [Act.put, List.setIfInBounds_toArray, List.set_cons_zero, List.set_cons_succ]
  refine wpAnyN_take2 (some 47) (i := 3) (v := ?_) rfl rfl (by kernel_rfl) (by kernel_rfl) (by kernel_rfl) (by kernel_rfl) rfl (fun _ _ _ h => h) (Or.inl ⟨by rfl, ?_⟩) hs2 ?_
  rotate_left
  · intro w' hSw; obtain ⟨p0, p1⟩ := hSw; go_simp; try (with_reducible rfl)
  simp only [Act.put, List.setIfInBounds_toArray, List.set_cons_zero, List.set_cons_succ]
  refine wpAnyN_take2 (some 48) (i := 4) (v := ?_) rfl rfl (by kernel_rfl) (by kernel_rfl) (by kernel_rfl) (by kernel_rfl) rfl (fun _ _ _ h => h) (Or.inl ⟨by rfl, ?_⟩) hs2 ?_
  rotate_left
  · intro w' hSw; obtain ⟨p0, p1⟩ := hSw; go_simp; try (with_reducible rfl)
  simp only [Act.put, List.setIfInBounds_toArray, List.set_cons_zero, List.set_cons_succ]
  refine wpAnyN_take2 (some 49) (i := 5) (v := ?_) rfl rfl (by kernel_rfl) (by kernel_rfl) (by kernel_rfl) (by kernel_rfl) rfl (fun _ _ _ h => h) (Or.inl ⟨by rfl, ?_⟩) hs2 ?_
  rotate_left
  · intro w' hSw; obtain ⟨p0, p1⟩ := hSw; go_simp; try (with_reducible rfl)
  simp only [Act.put, List.setIfInBounds_toArray, List.set_cons_zero, List.set_cons_succ]
  refine wpAnyN_take2 (some 50) (i := 6) (v := ?_) rfl rfl (by kernel_rfl) (by kernel_rfl) (by kernel_rfl) (by kernel_rfl) rfl (fun _ _ _ h => h) (Or.inl ⟨by rfl, ?_⟩) hs2 ?_
  rotate_left
  · intro w' hSw; obtain ⟨p0, p1⟩ := hSw; go_simp; try (with_reducible rfl)
  simp only [Act.put, List.setIfInBounds_toArray, List.set_cons_zero, List.set_cons_succ]
  refine wpAnyN_take2 (some 51) (i := 7) (v := ?_) rfl rfl (by kernel_rfl) (by kernel_rfl) (by kernel_rfl) (by kernel_rfl) rfl (fun _ _ _ h => h) (Or.inl ⟨by rfl, ?_⟩) hs2 ?_
  rotate_left
  · intro w' hSw; obtain ⟨p0, p1⟩ := hSw; go_simp; try (with_reducible rfl)
  simp only [Act.put, List.setIfInBounds_toArray, List.set_cons_zero, List.set_cons_succ]
  refine wpAnyN_take2 (some 52) (i := 8) (v := ?_) rfl rfl (by kernel_rfl) (by kernel_rfl) (by kernel_rfl) (by kernel_rfl) rfl (fun _ _ _ h => h) (Or.inl ⟨by rfl, ?_⟩) hs2 ?_
  rotate_left
  · intro w' hSw; obtain ⟨p0, p1⟩ := hSw; go_simp; try (with_reducible rfl)
  simp only [Act.put, List.setIfInBounds_toArray, List.set_cons_zero, List.set_cons_succ]
  refine wpAnyN_take2 (some 54) (i := 10) (v := ?_) rfl rfl (by kernel_rfl) (by kernel_rfl) (by kernel_rfl) (by kernel_rfl) rfl (fun _ _ _ h => h) (Or.inl ⟨by rfl, ?_⟩) hs2 ?_
  rotate_left
  · intro w' hSw; obtain ⟨p0, p1⟩ := hSw; go_simp; try (with_reducible rfl)
  simp only [Act.put, List.setIfInBounds_toArray, List.set_cons_zero, List.set_cons_succ]
  refine wpAnyN_one (i := 9) (by kernel_rfl) rfl fun K1 hK1 => ?_
  go_simp
  refine (rbegin_any 1 _ (by decide)).mono ?_
  rintro e We ⟨rfl, rfl⟩
  go_simp
  rw [show ((off 1 : Nat) : Int) = 64 from rfl]
  refine hK1.out _ _ ⟨q0, q1⟩ (fun h => absurd h (by decide)) ?_
  clear hK1 K1
  try (simp only [Act.put, List.setIfInBounds_toArray, List.set_cons_zero, List.set_cons_succ])
  refine wpAnyN_one (i := 11) (by kernel_rfl) rfl fun K1 hK1 => ?_
  go_simp
  refine (rk_write f 64 s HWyd.out FWz.out (by have := HX.out.2; omega) HX.out.1 (by omega)).mono ?_
  rintro e Wa ⟨rfl, h2⟩
  go_simp
  have HWa := Lib.hid h2; clear h2
  have FWa := Lib.hid (FWz.out.write K f 64 s)
  clear q0 q1 HWyd
  try clear hs2
  obtain ⟨⟨q0, q1, -, -⟩, -⟩ := rcell_facts HWa.out
  refine hK1.out _ _ ⟨q0, q1⟩ (fun h => absurd h (by decide)) ?_
  clear hK1 K1
  try (simp only [Act.put, List.setIfInBounds_toArray, List.set_cons_zero, List.set_cons_succ])
  obtain ⟨x, hx⟩ : ∃ x, x = writeCode (syncS st K f) f 64 s := ⟨_, rfl⟩
  rw [← hx]
  have HCWa := Lib.hid hx; clear hx
  refine wpAnyN_one (i := 12) (by kernel_rfl) rfl fun K1 hK1 => ?_
  go_simp
  refine hK1.out _ _ ⟨q0, q1⟩ (fun h => absurd h (by decide)) ?_
  clear hK1 K1
  try (simp only [Act.put, List.setIfInBounds_toArray, List.set_cons_zero, List.set_cons_succ])
  refine wpAnyN_done (by kernel_rfl) ?_ _
  clear q0 q1
  by_cases he : x = 0
  rotate_left
  · go_wp2_with fail
    go_ret
    have hR := HRWz.out
    rw [setT, if_pos (by rw [← HCWa.out]; exact he)] at hR
    rw [hR]
    exact ⟨by show Ending.returned (.int .i64 x) = _; rw [HCWa.out], HWa.out⟩
  subst he
  have HRWa : Hid (setR st K f c s = setT2 (writeS (syncS st K f) K f 64 s) K f ⟨c.slot, c.value, true⟩ s 1) := by
    have hR := HRWz.out
    rw [setT, if_neg (by rw [← HCWa.out]; simp)] at hR
    exact hR
  clear HRWz HCWa
  go_wp2_with fail
  have HWad := Lib.hid (RefK.quiet HWa.out (Turns.refl [] Wa).drew)
  obtain ⟨⟨q0, q1, -, -⟩, -⟩ := rcell_facts HWad.out
  go_still_tail 8, (by kernel_rfl)
  change wpList _ _ _ _ _ Wa.drew
  generalize Wa.drew = Wbd at *
  clear HWa
  go_wp2_with fail
  refine (rk_sync f HWad.out FWa.out (by have := HX.out.2; omega) HX.out.1).mono ?_
  rintro e Wb ⟨rfl, h2⟩
  have HWb := Lib.hid h2; clear h2
  have FWb := Lib.hid (FWa.out.sync K f)
  clear q0 q1 HWad
  obtain ⟨x, hx⟩ : ∃ x, x = syncCode (writeS (syncS st K f) K f 64 s) K f := ⟨_, rfl⟩
  rw [← hx]
  have HCWb := Lib.hid hx; clear hx
  by_cases he : x = 0
  rotate_left
  · go_wp2_with fail
    go_ret
    have hR := HRWa.out
    rw [setT2, if_pos (by rw [← HCWb.out]; exact he)] at hR
    rw [hR]
    exact ⟨by show Ending.returned (.int .i64 x) = _; rw [HCWb.out], HWb.out⟩
  subst he
  have HRWb : Hid (setR st K f c s = setT3 (syncS (writeS (syncS st K f) K f 64 s) K f) K f ⟨c.slot, c.value, true⟩ s 1) := by
    have hR := HRWa.out
    rw [setT2, if_neg (by rw [← HCWb.out]; simp)] at hR
    exact hR
  clear HRWa HCWb
  go_wp2_with fail
  have HWbd := Lib.hid (RefK.quiet HWb.out (Turns.refl [] Wb).drew)
  obtain ⟨⟨q0, q1, -, -⟩, -⟩ := rcell_facts HWbd.out
  refine wp_region_N (fun _ => True) (fun w' => w'.cell? ⟨cb, 0, none⟩ = some (.pointer (some ⟨r, 0, none⟩)) ∧ w'.cell? ⟨cb, 1, none⟩ = some (.int .i64 f)) (fun _ => false) (by kernel_rfl) ?_
  generalize Wb.drew = Wcd at *
  clear HWb
  have hs2 := And.intro q0 q1
  refine wpAnyN_take2 (some 73) (i := 0) (v := ?_) rfl rfl (by kernel_rfl) (by kernel_rfl) (by kernel_rfl) (by kernel_rfl) rfl (fun _ _ _ h => h) (Or.inl ⟨by rfl, ?_⟩) hs2 ?_
  rotate_left
  · intro w' hSw; obtain ⟨p0, p1⟩ := hSw; go_simp; try (with_reducible rfl)
  simp only [Act.put, List.setIfInBounds_toArray, List.set_cons_zero, List.set_cons_succ]
  refine wpAnyN_take2 (some 74) (i := 1) (v := ?_) rfl rfl (by kernel_rfl) (by kernel_rfl) (by kernel_rfl) (by kernel_rfl) rfl (fun _ _ _ h => h) (Or.inl ⟨by rfl, ?_⟩) hs2 ?_
  rotate_left
  · intro w' hSw; obtain ⟨p0, p1⟩ := hSw; go_simp; try (with_reducible rfl)
  simp only [Act.put, List.setIfInBounds_toArray, List.set_cons_zero, List.set_cons_succ]
  refine wpAnyN_take2 (some 75) (i := 2) (v := ?_) rfl rfl (by kernel_rfl) (by kernel_rfl) (by kernel_rfl) (by kernel_rfl) rfl (fun _ _ _ h => h) (Or.inl ⟨by rfl, ?_⟩) hs2 ?_
  rotate_left
  · intro w' hSw; obtain ⟨p0, p1⟩ := hSw; go_simp; try (with_reducible rfl)
  simp only [Act.put, List.setIfInBounds_toArray, List.set_cons_zero, List.set_cons_succ]
  refine wpAnyN_take2 (some 76) (i := 3) (v := ?_) rfl rfl (by kernel_rfl) (by kernel_rfl) (by kernel_rfl) (by kernel_rfl) rfl (fun _ _ _ h => h) (Or.inl ⟨by rfl, ?_⟩) hs2 ?_
  rotate_left
  · intro w' hSw; obtain ⟨p0, p1⟩ := hSw; go_simp; try (with_reducible rfl)
  simp only [Act.put, List.setIfInBounds_toArray, List.set_cons_zero, List.set_cons_succ]
  refine wpAnyN_take2 (some 77) (i := 4) (v := ?_) rfl rfl (by kernel_rfl) (by kernel_rfl) (by kernel_rfl) (by kernel_rfl) rfl (fun _ _ _ h => h) (Or.inl ⟨by rfl, ?_⟩) hs2 ?_
  rotate_left
  · intro w' hSw; obtain ⟨p0, p1⟩ := hSw; go_simp; try (with_reducible rfl)
  simp only [Act.put, List.setIfInBounds_toArray, List.set_cons_zero, List.set_cons_succ]
  refine wpAnyN_take2 (some 78) (i := 5) (v := ?_) rfl rfl (by kernel_rfl) (by kernel_rfl) (by kernel_rfl) (by kernel_rfl) rfl (fun _ _ _ h => h) (Or.inl ⟨by rfl, ?_⟩) hs2 ?_
  rotate_left
  · intro w' hSw; obtain ⟨p0, p1⟩ := hSw; go_simp; try (with_reducible rfl)
  simp only [Act.put, List.setIfInBounds_toArray, List.set_cons_zero, List.set_cons_succ]
  refine wpAnyN_take2 (some 79) (i := 6) (v := ?_) rfl rfl (by kernel_rfl) (by kernel_rfl) (by kernel_rfl) (by kernel_rfl) rfl (fun _ _ _ h => h) (Or.inl ⟨by rfl, ?_⟩) hs2 ?_
  rotate_left
  · intro w' hSw; obtain ⟨p0, p1⟩ := hSw; go_simp; try (with_reducible rfl)
  simp only [Act.put, List.setIfInBounds_toArray, List.set_cons_zero, List.set_cons_succ]
  refine wpAnyN_take2 (some 80) (i := 7) (v := ?_) rfl rfl (by kernel_rfl) (by kernel_rfl) (by kernel_rfl) (by kernel_rfl) rfl (fun _ _ _ h => h) (Or.inl ⟨by rfl, ?_⟩) hs2 ?_
  rotate_left
  · intro w' hSw; obtain ⟨p0, p1⟩ := hSw; go_simp; try (with_reducible rfl)
  simp only [Act.put, List.setIfInBounds_toArray, List.set_cons_zero, List.set_cons_succ]
  refine wpAnyN_take2 (some 81) (i := 8) (v := ?_) rfl rfl (by kernel_rfl) (by kernel_rfl) (by kernel_rfl) (by kernel_rfl) rfl (fun _ _ _ h => h) (Or.inl ⟨by rfl, ?_⟩) hs2 ?_
  rotate_left
  · intro w' hSw; obtain ⟨p0, p1⟩ := hSw; go_simp; try (with_reducible rfl)
  simp only [Act.put, List.setIfInBounds_toArray, List.set_cons_zero, List.set_cons_succ]
  refine wpAnyN_take2 (some 82) (i := 9) (v := ?_) rfl rfl (by kernel_rfl) (by kernel_rfl) (by kernel_rfl) (by kernel_rfl) rfl (fun _ _ _ h => h) (Or.inl ⟨by rfl, ?_⟩) hs2 ?_
  rotate_left
  · intro w' hSw; obtain ⟨p0, p1⟩ := hSw; go_simp; try (with_reducible rfl)
  simp only [Act.put, List.setIfInBounds_toArray, List.set_cons_zero, List.set_cons_succ]
  refine wpAnyN_take2 (some 83) (i := 10) (v := ?_) rfl rfl (by kernel_rfl) (by kernel_rfl) (by kernel_rfl) (by kernel_rfl) rfl (fun _ _ _ h => h) (Or.inl ⟨by rfl, ?_⟩) hs2 ?_
  rotate_left
  · intro w' hSw; obtain ⟨p0, p1⟩ := hSw; go_simp; try (with_reducible rfl)
  simp only [Act.put, List.setIfInBounds_toArray, List.set_cons_zero, List.set_cons_succ]
  refine wpAnyN_take2 (some 84) (i := 11) (v := ?_) rfl rfl (by kernel_rfl) (by kernel_rfl) (by kernel_rfl) (by kernel_rfl) rfl (fun _ _ _ h => h) (Or.inl ⟨by rfl, ?_⟩) hs2 ?_
  rotate_left
  · intro w' hSw; obtain ⟨p0, p1⟩ := hSw; go_simp; try (with_reducible rfl)
  simp only [Act.put, List.setIfInBounds_toArray, List.set_cons_zero, List.set_cons_succ]
  refine wpAnyN_take2 (some 85) (i := 12) (v := ?_) rfl rfl (by kernel_rfl) (by kernel_rfl) (by kernel_rfl) (by kernel_rfl) rfl (fun _ _ _ h => h) (Or.inl ⟨by rfl, ?_⟩) hs2 ?_
  rotate_left
  · intro w' hSw; obtain ⟨p0, p1⟩ := hSw; go_simp; try (with_reducible rfl)
  simp only [Act.put, List.setIfInBounds_toArray, List.set_cons_zero, List.set_cons_succ]
  refine wpAnyN_take2 (some 86) (i := 13) (v := ?_) rfl rfl (by kernel_rfl) (by kernel_rfl) (by kernel_rfl) (by kernel_rfl) rfl (fun _ _ _ h => h) (Or.inl ⟨by rfl, ?_⟩) hs2 ?_
  rotate_left
  · intro w' hSw; obtain ⟨p0, p1⟩ := hSw; go_simp; try (with_reducible rfl)
  simp only [Act.put, List.setIfInBounds_toArray, List.set_cons_zero, List.set_cons_succ]
  refine wpAnyN_take2 (some 87) (i := 14) (v := ?_) rfl rfl (by kernel_rfl) (by kernel_rfl) (by kernel_rfl) (by kernel_rfl) rfl (fun _ _ _ h => h) (Or.inl ⟨by rfl, ?_⟩) hs2 ?_
  rotate_left
  · intro w' hSw; obtain ⟨p0, p1⟩ := hSw; go_simp; try (with_reducible rfl)
  simp only [Act.put, List.setIfInBounds_toArray, List.set_cons_zero, List.set_cons_succ]
  refine wpAnyN_take2 (some 88) (i := 15) (v := ?_) rfl rfl (by kernel_rfl) (by kernel_rfl) (by kernel_rfl) (by kernel_rfl) rfl (fun _ _ _ h => h) (Or.inl ⟨by rfl, ?_⟩) hs2 ?_
  rotate_left
  · intro w' hSw; obtain ⟨p0, p1⟩ := hSw; go_simp; try (with_reducible rfl)
  simp only [Act.put, List.setIfInBounds_toArray, List.set_cons_zero, List.set_cons_succ]
  refine wpAnyN_take2 (some 89) (i := 16) (v := ?_) rfl rfl (by kernel_rfl) (by kernel_rfl) (by kernel_rfl) (by kernel_rfl) rfl (fun _ _ _ h => h) (Or.inl ⟨by rfl, ?_⟩) hs2 ?_
  rotate_left
  · intro w' hSw; obtain ⟨p0, p1⟩ := hSw; go_simp; try (with_reducible rfl)
  simp only [Act.put, List.setIfInBounds_toArray, List.set_cons_zero, List.set_cons_succ]
  refine wpAnyN_take2 (some 90) (i := 17) (v := ?_) rfl rfl (by kernel_rfl) (by kernel_rfl) (by kernel_rfl) (by kernel_rfl) rfl (fun _ _ _ h => h) (Or.inl ⟨by rfl, ?_⟩) hs2 ?_
  rotate_left
  · intro w' hSw; obtain ⟨p0, p1⟩ := hSw; go_simp; try (with_reducible rfl)
  simp only [Act.put, List.setIfInBounds_toArray, List.set_cons_zero, List.set_cons_succ]
  refine wpAnyN_take2 (some 91) (i := 18) (v := ?_) rfl rfl (by kernel_rfl) (by kernel_rfl) (by kernel_rfl) (by kernel_rfl) rfl (fun _ _ _ h => h) (Or.inl ⟨by rfl, ?_⟩) hs2 ?_
  rotate_left
  · intro w' hSw; obtain ⟨p0, p1⟩ := hSw; go_simp; try (with_reducible rfl)
  simp only [Act.put, List.setIfInBounds_toArray, List.set_cons_zero, List.set_cons_succ]
  refine wpAnyN_take2 (some 92) (i := 19) (v := ?_) rfl rfl (by kernel_rfl) (by kernel_rfl) (by kernel_rfl) (by kernel_rfl) rfl (fun _ _ _ h => h) (Or.inl ⟨by rfl, ?_⟩) hs2 ?_
  rotate_left
  · intro w' hSw; obtain ⟨p0, p1⟩ := hSw; go_simp; try (with_reducible rfl)
  simp only [Act.put, List.setIfInBounds_toArray, List.set_cons_zero, List.set_cons_succ]
  refine wpAnyN_one (i := 20) (by kernel_rfl) rfl fun K1 hK1 => ?_
  go_simp
  obtain ⟨k1, k2, k3, k4⟩ := hdr_wraps 1 s (by decide) hs
  rw [k1, k2, k3, k4]
  clear k1 k2 k3 k4
  have HWe := Lib.hid (RefK.quiet HWbd.out (Turns.alloc [] Wcd (.cells #[.int .u8 1, .int .u8 ((s.size : Int) % 256), .int .u8 ((s.size : Int) / 256 % 256), .int .u8 ((s.size : Int) / 65536), .int .u8 0] 5)))
  have hcv := hdr_back 1 s (by decide) hs Wcd
  clear HWbd q0 q1 hs2
  obtain ⟨⟨q0, q1, -, -⟩, -⟩ := rcell_facts HWe.out
  refine hK1.out _ _ ⟨q0, q1⟩ (fun h => absurd h (by decide)) ?_
  clear hK1 K1
  try (simp only [Act.put, List.setIfInBounds_toArray, List.set_cons_zero, List.set_cons_succ])
  refine wpAnyN_one (i := 21) (by kernel_rfl) rfl fun K1 hK1 => ?_
  go_simp
  refine hK1.out _ _ ⟨q0, q1⟩ (fun h => absurd h (by decide)) ?_
  clear hK1 K1
  try (simp only [Act.put, List.setIfInBounds_toArray, List.set_cons_zero, List.set_cons_succ])
  refine wpAnyN_one (i := 22) (by kernel_rfl) rfl fun K1 hK1 => ?_
  go_simp
  clear hcv
  refine (rk_write f 0 (hdrB 1 s) HWe.out FWb.out (by have := HX.out.2; omega) HX.out.1 (by rw [hdrB_size]; omega)).mono ?_
  rintro e Wc ⟨rfl, h2⟩
  go_simp
  have HWc := Lib.hid h2; clear h2
  have FWc := Lib.hid (FWb.out.write K f 0 (hdrB 1 s))
  clear q0 q1 HWe
  try clear hs2
  obtain ⟨⟨q0, q1, -, -⟩, -⟩ := rcell_facts HWc.out
  refine hK1.out _ _ ⟨q0, q1⟩ (fun h => absurd h (by decide)) ?_
  clear hK1 K1
  try (simp only [Act.put, List.setIfInBounds_toArray, List.set_cons_zero, List.set_cons_succ])
  obtain ⟨x, hx⟩ : ∃ x, x = writeCode (syncS (writeS (syncS st K f) K f 64 s) K f) f 0 (hdrB 1 s) := ⟨_, rfl⟩
  rw [← hx]
  have HCWc := Lib.hid hx; clear hx
  refine wpAnyN_one (i := 23) (by kernel_rfl) rfl fun K1 hK1 => ?_
  go_simp
  refine hK1.out _ _ ⟨q0, q1⟩ (fun h => absurd h (by decide)) ?_
  clear hK1 K1
  try (simp only [Act.put, List.setIfInBounds_toArray, List.set_cons_zero, List.set_cons_succ])
  refine wpAnyN_done (by kernel_rfl) ?_ _
  clear q0 q1
  by_cases he : x = 0
  rotate_left
  · go_wp2_with fail
    go_ret
    have hR := HRWb.out
    rw [setT3, if_pos (by rw [← HCWc.out]; exact he)] at hR
    rw [hR]
    exact ⟨by show Ending.returned (.int .i64 x) = _; rw [HCWc.out], HWc.out⟩
  subst he
  have HRWc : Hid (setR st K f c s = setT4 (writeS (syncS (writeS (syncS st K f) K f 64 s) K f) K f 0 (hdrB 1 s)) K f s 1) := by
    have hR := HRWb.out
    rw [setT3, if_neg (by rw [← HCWc.out]; simp)] at hR
    exact hR
  clear HRWb HCWc
  have hb := (rcell_facts HWc.out).2
  have z2 : Wc.frozen? ⟨cb, 2, none⟩ = false := free_at hb 2
  have z3 : Wc.frozen? ⟨cb, 3, none⟩ = false := free_at hb 3
  have z4 : Wc.frozen? ⟨cb, 4, none⟩ = false := free_at hb 4
  have y2 : Wc.cell? ⟨cb, 2, none⟩ = _ := cell_at hb 2
  have y3 : Wc.cell? ⟨cb, 3, none⟩ = _ := cell_at hb 3
  have y4 : Wc.cell? ⟨cb, 4, none⟩ = _ := cell_at hb 4
  clear hb
  go_wp2_with fail
  clear z2 z3 z4 y2 y3 y4
  have HWf := Lib.hid (rcell_set3 HWc.out 1 s false)
  generalize ((Wc.setCell ⟨cb, 2, none⟩ (.int .i64 1)).setCell ⟨cb, 3, none⟩ (.string s)).setCell ⟨cb, 4, none⟩ (.bool false) = Wf at *
  clear HWc
  have HWfd := Lib.hid (RefK.quiet HWf.out (Turns.refl [] Wf).drew)
  obtain ⟨⟨q0, q1, -, -⟩, -⟩ := rcell_facts HWfd.out
  go_still_tail 8, (by kernel_rfl)
  change wpList _ _ _ _ _ Wf.drew
  generalize Wf.drew = Wgd at *
  clear HWf
  go_wp2_with fail
  refine (rk_sync f HWfd.out FWc.out (by have := HX.out.2; have := hdrB_size 1 s; omega) HX.out.1).mono ?_
  rintro e Wg ⟨rfl, h2⟩
  have HWg := Lib.hid h2; clear h2
  have FWg := Lib.hid (FWc.out.sync K f)
  clear q0 q1 HWfd
  obtain ⟨x, hx⟩ : ∃ x, x = syncCode (writeS (syncS (writeS (syncS st K f) K f 64 s) K f) K f 0 (hdrB 1 s)) K f := ⟨_, rfl⟩
  rw [← hx]
  have HCWg := Lib.hid hx; clear hx
  have hb := (rcell_facts HWg.out).2
  have z4 : Wg.frozen? ⟨cb, 4, none⟩ = false := free_at hb 4
  have y4 : Wg.cell? ⟨cb, 4, none⟩ = _ := cell_at hb 4
  clear hb
  go_wp2_with fail
  go_ret
  have hR := HRWc.out
  rw [setT4, ← HCWg.out] at hR
  rw [hR]
  exact ⟨rfl, rcell_set1 HWg.out (x == 0)⟩

theorem rset_any {w0 w : World} {r cb : Nat} {f : Int} {c : CS} {st : DS} {K : List Int} {post : List Thing} (s : ByteArray)
    (h : RefK w0 w r st K (blockThing cb (rcellObj r f c) :: post)) (hF : Fine st 200000) (hK : K.length ≤ 1000000) (hs : s.size ≤ 65536) (hc : 0 ≤ c.slot) :
    Calls Tryd.prog 20 #[.pointer (some ⟨cb, 0, none⟩), .string s] w fun e w' => e = .returned (.int .i64 (setR st K f c s).1) ∧
      RefK w0 w' r (setR st K f c s).2.2 K (blockThing cb (rcellObj r f (setR st K f c s).2.1) :: post) := by
  cases hsure : c.sure
  · by_cases hslot : c.slot = 1
    · exact rset_a1 s h hF hK hs hsure hslot
    · by_cases hz : 0 < c.slot
      · exact rset_a2 s h hF hK hs hsure hz hslot
      · exact rset_b3 s h hF hK hs hsure (by omega) hslot
  · by_cases hslot : c.slot = 1
    · exact rset_b1 s h hF hK hs hsure hslot
    · exact rset_b2 s h hF hK hs hsure hslot
end Go.Proofs.YtdcgdnlpagadcaaDoor
