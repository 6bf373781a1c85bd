/- Contracts and lemmas (texts DiskC, DiskD, DiskE, DiskF0, DiskF, DiskG, DiskH, DiskI, DiskJ, DiskT, DiskU, DiskV, joined by a program). -/
import Derived.Test.YtmikjninonpejaaMb5
import Derived.Shelf.SlMaps.Clone
import Derived.Test.YtmikjninonpejaaProg
import Derived.Deep.RegionHeld3
import Derived.Maps.RangeWalk
import Derived.Deep.RegionLawGrows
/- Contracts of package disk: Start, Lose, ends. -/
namespace Go.Proofs.Ytmikjninonpejaa
open Go.RowKit Go.Proofs.YtmikjninonpejaaMem Go.Maps

theorem DiskObj.set_cell {w : World} {b N : Nat} {FP : List Nat} {st st' : DS} {kv kv' : Value} (h : DiskObj w b FP N st kv) (i : Nat) (x : Value) (hF : st'.F = st.F) (hQ : st'.Q = st.Q)
    (hc : ∀ u0 u1 u2 : Value, (Obj.cells ((#[u0, u1, u2, .int .i64 st.lost, .bool st.down, .int .i64 st.armed, kv] : Array Value).setIfInBounds i x) 90 (0, 0)) = .cells #[u0, u1, u2, .int .i64 st'.lost, .bool st'.down, .int .i64 st'.armed, kv'] 90 (0, 0)) :
    DiskObj (w.setCell ⟨b, i, none⟩ x) b FP N st' kv' ∧ Turns FP w (w.setCell ⟨b, i, none⟩ x) := by
  obtain ⟨fb, sb, qv, hb, hf, hs, hq, hne, rfl⟩ := h
  have ht : Turns [b] w (w.setCell ⟨b, i, none⟩ x) := Turns.setCell _ _ _ (by simp)
  refine ⟨⟨fb, sb, qv, ?_, ?_, ?_, ?_, hne, rfl⟩, ht.mono (by simp)⟩
  · rw [heap_setCell_at hb]; exact congrArg some (hc _ _ _)
  · rw [hF]; exact hf.kept ht (by simp; exact hf.ne hb)
  · rw [hQ]; exact hs.kept ht (by simp; exact hs.ne hb)
  · rw [hQ]; exact own_kept hq ht (fun x hx hxb => own_ne hq hb (by decide) (by simp at hxb; exact hxb ▸ hx))

/-- Behind a call: the disk in its new state; only its own blocks have turned. -/
def DiskPost (w : World) (b : Nat) (FP : List Nat) (N : Nat) (st : DS) (kv : Value) (w' : World) : Prop := ∃ FP', DiskObj w' b FP' N st kv ∧ Evolves FP FP' w w'

set_option maxRecDepth 100000 in
theorem disk_start (b N : Nat) (FP : List Nat) (st : DS) (kv : Value) (w : World) (h : DiskObj w b FP N st kv) :
    Calls Try.prog 48 #[.pointer (some ⟨b, 0, none⟩)] w fun e w' => e = .returned (.tuple #[]) ∧ DiskPost w b FP N { st with down := false } kv w' := by
  obtain ⟨h1, h2⟩ := h.set_cell (st' := { st with down := false }) (kv' := kv) 4 (.bool false) rfl rfl (fun _ _ _ => rfl)
  have HP := Lib.hid (show DiskPost w b FP N { st with down := false } kv _ from ⟨FP, h1, Evolves.of_same h2⟩)
  obtain ⟨fb, sb, qv, hb, -⟩ := h
  have c4 : w.cell? ⟨b, 4, none⟩ = some (.bool st.down) := cell_at hb 4
  have f4 : w.frozen? ⟨b, 4, none⟩ = false := free_at hb 4
  clear hb h1 h2
  go_enter Try.func48, Try.ntmps48
  go_wp2
  go_end0
  exact ⟨rfl, HP.out⟩

set_option maxRecDepth 100000 in
theorem disk_ends (b N : Nat) (FP : List Nat) (st : DS) (kv : Value) (w : World) (h : DiskObj w b FP N st kv) (ha : 0 ≤ st.armed) (ha2 : st.armed ≤ 9223372036854775807) :
    Calls Try.prog 75 #[.pointer (some ⟨b, 0, none⟩)] w fun e w' => e = .returned (.bool (endsB st)) ∧ DiskPost w b FP N (endsS st) kv w' := by
  obtain ⟨h1, h2⟩ := h.set_cell (st' := { st with armed := st.armed - 1 }) (kv' := kv) 5 (.int .i64 (st.armed - 1)) rfl rfl (fun _ _ _ => rfl)
  have HP := Lib.hid (And.intro h (show DiskPost w b FP N { st with armed := st.armed - 1 } kv _ from ⟨FP, h1, Evolves.of_same h2⟩))
  obtain ⟨fb, sb, qv, hb, -⟩ := h
  have c4 : w.cell? ⟨b, 4, none⟩ = some (.bool st.down) := cell_at hb 4
  have c5 : w.cell? ⟨b, 5, none⟩ = some (.int .i64 st.armed) := cell_at hb 5
  have f5 : w.frozen? ⟨b, 5, none⟩ = false := free_at hb 5
  clear hb h1 h2
  cases hd : st.down
  · rw [hd] at c4
    by_cases h0 : st.armed = 0
    · have e0 : (st.armed == 0) = true := by simp [h0]
      rw [show endsB st = false by simp [endsB, h0], show endsS st = st by simp [endsS, h0]]
      have h0' := Lib.hid h0
      clear hd h0
      go_enter Try.func75, Try.ntmps75
      go_wp2
      go_ret
      exact ⟨rfl, FP, HP.out.1, Evolves.of_same (Turns.refl _ _)⟩
    · have e0 : (st.armed == 0) = false := by simp [h0]
      have hw : IntKind.i64.wrap (st.armed - 1) = st.armed - 1 := by rw [IntKind.wrap_i64]; omega
      have e1 : endsS st = { st with armed := st.armed - 1 } := by simp [endsS, h0, hd]
      have e2 : endsB st = (st.armed - 1 == 0) := by
        by_cases h3 : st.armed = 1
        · simp [endsB, hd, h3]
        · have : (st.armed - 1 == 0) = false := by simp; omega
          rw [this]; simp [endsB, h3]
      rw [e1, e2]
      clear hd h0 e1 e2
      go_enter Try.func75, Try.ntmps75
      go_wp2
      go_ret
      exact ⟨rfl, HP.out.2⟩
  · rw [hd] at c4
    rw [show endsB st = false by simp [endsB, hd], show endsS st = st by simp [endsS, hd]]
    clear hd
    go_enter Try.func75, Try.ntmps75
    go_wp2
    go_ret
    exact ⟨rfl, FP, HP.out.1, Evolves.of_same (Turns.refl _ _)⟩

end Go.Proofs.Ytmikjninonpejaa

/- Contracts of package disk: Lose, Read. -/
namespace Go.Proofs.Ytmikjninonpejaa
open Go.RowKit Go.Proofs.YtmikjninonpejaaMem Go.Maps

set_option maxRecDepth 100000 in
theorem disk_lose (b N : Nat) (FP : List Nat) (st : DS) (kv : Value) (n : Int) (w : World) (h : DiskObj w b FP N st kv) :
    Calls Try.prog 63 #[.pointer (some ⟨b, 0, none⟩), .int .i64 n] w fun e w' => e = .returned (.tuple #[]) ∧ DiskPost w b FP N { st with lost := max n 0 } kv w' := by
  obtain ⟨h1, h2⟩ := h.set_cell (st' := { st with lost := max n 0 }) (kv' := kv) 3 (.int .i64 (max n 0)) rfl rfl (fun _ _ _ => rfl)
  have hp : DiskPost w b FP N { st with lost := max n 0 } kv _ := ⟨FP, h1, Evolves.of_same h2⟩
  obtain ⟨fb, sb, qv, hb, -⟩ := h
  have c3 : w.cell? ⟨b, 3, none⟩ = some (.int .i64 st.lost) := cell_at hb 3
  have f3 : w.frozen? ⟨b, 3, none⟩ = false := free_at hb 3
  clear hb h1 h2
  by_cases hn : n < 0
  · have e : max n 0 = 0 := by omega
    rw [e] at hp ⊢
    have HP := Lib.hid hp; clear hp e
    go_enter Try.func63, Try.ntmps63
    go_wp2
    go_end0
    exact ⟨rfl, HP.out⟩
  · have e : max n 0 = n := by omega
    rw [e] at hp ⊢
    have HP := Lib.hid hp; clear hp e
    go_enter Try.func63, Try.ntmps63
    go_wp2
    go_end0
    exact ⟨rfl, HP.out⟩

theorem ext_bytes {s t : ByteArray} (h : ∀ i : Nat, s.data[i]? = t.data[i]?) : s = t := ByteArray.ext (Array.ext_getElem? h)
theorem cut_past {s : ByteArray} {a z : Nat} (h : s.size ≤ a) : s.extract a (a + z) = ByteArray.empty := ext_bytes fun i => by
  have hs : s.data.size = s.size := rfl
  have he : ByteArray.empty.data = #[] := rfl
  rw [ByteArray.data_extract, Array.getElem?_extract, if_neg (by omega), he]
  simp
theorem cut_all {s : ByteArray} {a z : Nat} (h : s.size - a ≤ z) : (s.extract a s.size).extract 0 (s.size - a) = s.extract a (a + z) := ext_bytes fun i => by
  have hs : s.data.size = s.size := rfl
  simp only [ByteArray.data_extract, Array.getElem?_extract, Array.size_extract, hs, Nat.zero_add]
  by_cases hi : i < s.size - a
  · rw [if_pos (by omega), if_pos (by omega), if_pos (by omega)]
  · rw [if_neg (by omega), if_neg (by omega)]
theorem cut_some {s : ByteArray} {a z : Nat} (h : z ≤ s.size - a) : (s.extract a s.size).extract 0 z = s.extract a (a + z) := ext_bytes fun i => by
  have hs : s.data.size = s.size := rfl
  simp only [ByteArray.data_extract, Array.getElem?_extract, Array.size_extract, hs, Nat.zero_add]
  by_cases hi : i < z
  · rw [if_pos (by omega), if_pos (by omega), if_pos (by omega)]
  · rw [if_neg (by omega), if_neg (by omega)]
theorem cut_none (z : Nat) : ByteArray.empty.extract 0 z = ByteArray.empty := ext_bytes fun i => by
  have he : ByteArray.empty.data = #[] := rfl
  rw [ByteArray.data_extract, he]
  simp

set_option maxHeartbeats 800000 in
set_option maxRecDepth 100000 in
theorem read_err (b N : Nat) (FP : List Nat) (st : DS) (kv : Value) (f a z : Int) (w : World) (h : DiskObj w b FP N st kv) (hm : mayCode st f ≠ 0) :
    Calls Try.prog 42 #[.pointer (some ⟨b, 0, none⟩), .int .i64 f, .int .i64 a, .int .i64 z] w fun e w' => e = .returned (.tuple #[.string ⟨#[]⟩, .int .i64 (mayCode st f)]) ∧ w = w' := by
  have hb : (mayCode st f != 0) = true := by simp [hm]
  have hb2 : (mayCode st f == 0) = false := by simp [hm]
  have HN := Lib.hid h; clear h hm
  go_enter Try.func42, Try.ntmps42
  go_wp2_with fail
  refine (disk_may b N FP st kv f _ HN.out).mono ?_
  rintro e w' ⟨rfl, rfl⟩
  go_wp2_with fail
  refine bodyPost_ret (v := .tuple #[.string ⟨#[]⟩, .int .i64 (mayCode st f)]) (by simp [results, Try.results42, go_sem]) rfl ⟨rfl, rfl⟩

set_option maxHeartbeats 800000 in
set_option maxRecDepth 100000 in
theorem read_ok (b N : Nat) (FP : List Nat) (st : DS) (kv : Value) (f : Int) (a z : Nat) (w : World) (h : DiskObj w b FP N st kv) (hf : (Lit.int .i64 f).wf = true) (hm : mayCode st f = 0) :
    Calls Try.prog 42 #[.pointer (some ⟨b, 0, none⟩), .int .i64 f, .int .i64 a, .int .i64 z] w fun e w' => e = .returned (.tuple #[.string ((st.F f).now.extract a (a + z)), .int .i64 0]) ∧ w = w' := by
  have HN := Lib.hid h
  have HM := Lib.hid hm; clear hm
  obtain ⟨fb, sb, qv, hb, hF, -⟩ := h
  have c0 : w.cell? ⟨b, 0, none⟩ = some (.map (some fb)) := cell_at hb 0
  have hl := hF.look f hf
  obtain ⟨x, hx⟩ : ∃ x, x = st.F f := ⟨_, rfl⟩
  rw [← hx] at hl ⊢
  unfold File.val at hl
  have hfn := field_now
  clear hb hF hx
  have hd1 : decide ((a : Int) < 0) = false := decide_eq_false (by omega)
  have hd2 : decide ((z : Int) < 0) = false := decide_eq_false (by omega)
  go_enter Try.func42, Try.ntmps42
  go_wp2_with fail
  refine (disk_may b N FP st kv f _ HN.out).mono ?_
  rintro e w' ⟨rfl, rfl⟩
  rw [HM.out]
  go_wp2_with fail
  case inl.inl =>
    refine bodyPost_ret (v := .tuple #[.string (ByteArray.empty), .int .i64 0]) (by simp [results, Try.results42, go_sem]) rfl ⟨?_, rfl⟩
    rw [cut_past (Nat.le_of_lt (by assumption))]
  case inl.inr =>
    refine bodyPost_ret (v := .tuple #[.string (ByteArray.empty.extract 0 z), .int .i64 0]) (by simp [results, Try.results42, go_sem]) rfl ⟨?_, rfl⟩
    rw [cut_none, cut_past (Nat.le_of_lt (by assumption))]
  case inr.inl =>
    refine bodyPost_ret (v := .tuple #[.string ((x.now.extract a x.now.size).extract 0 (x.now.size - a)), .int .i64 0]) (by simp [results, Try.results42, go_sem]) rfl ⟨?_, rfl⟩
    rw [cut_all (z := z) (by omega)]
  case inr.inr =>
    refine bodyPost_ret (v := .tuple #[.string ((x.now.extract a x.now.size).extract 0 z), .int .i64 0]) (by simp [results, Try.results42, go_sem]) rfl ⟨?_, rfl⟩
    rw [cut_some (by omega)]

end Go.Proofs.Ytmikjninonpejaa

/- Contracts of package disk: Read, whole. -/
namespace Go.Proofs.Ytmikjninonpejaa
open Go.RowKit Go.Proofs.YtmikjninonpejaaMem Go.Maps

set_option maxHeartbeats 800000 in
set_option maxRecDepth 100000 in
theorem read_arg (b N : Nat) (FP : List Nat) (st : DS) (kv : Value) (f a z : Int) (w : World) (h : DiskObj w b FP N st kv) (hm : mayCode st f = 0) (haz : a < 0 ∨ z < 0) :
    Calls Try.prog 42 #[.pointer (some ⟨b, 0, none⟩), .int .i64 f, .int .i64 a, .int .i64 z] w fun e w' => e = .returned (.tuple #[.string ⟨#[]⟩, .int .i64 1]) ∧ w = w' := by
  have HN := Lib.hid h; clear h
  have HM := Lib.hid hm; clear hm
  by_cases ha : a < 0
  · have d1 : decide (a < 0) = true := decide_eq_true ha
    clear haz
    go_enter Try.func42, Try.ntmps42
    go_wp2_with fail
    refine (disk_may b N FP st kv f _ HN.out).mono ?_
    rintro e w' ⟨rfl, rfl⟩
    rw [HM.out]
    go_wp2_with fail
    refine bodyPost_ret (v := .tuple #[.string ⟨#[]⟩, .int .i64 1]) (by simp [results, Try.results42, go_sem]) rfl ⟨rfl, rfl⟩
  · have d1 : decide (a < 0) = false := decide_eq_false ha
    have hz : z < 0 := haz.resolve_left ha
    have d2 : decide (z < 0) = true := decide_eq_true hz
    clear haz ha hz
    go_enter Try.func42, Try.ntmps42
    go_wp2_with fail
    refine (disk_may b N FP st kv f _ HN.out).mono ?_
    rintro e w' ⟨rfl, rfl⟩
    rw [HM.out]
    go_wp2_with fail
    refine bodyPost_ret (v := .tuple #[.string ⟨#[]⟩, .int .i64 1]) (by simp [results, Try.results42, go_sem]) rfl ⟨rfl, rfl⟩

theorem disk_read (b N : Nat) (FP : List Nat) (st : DS) (kv : Value) (f a z : Int) (w : World) (h : DiskObj w b FP N st kv) (hf : (Lit.int .i64 f).wf = true) :
    Calls Try.prog 42 #[.pointer (some ⟨b, 0, none⟩), .int .i64 f, .int .i64 a, .int .i64 z] w fun e w' => e = .returned (.tuple #[.string (readStr st f a z), .int .i64 (readCode st f a z)]) ∧ w = w' := by
  by_cases hm : mayCode st f = 0
  · by_cases haz : a < 0 ∨ z < 0
    · have e1 : readCode st f a z = 1 := by simp [readCode, hm, haz]
      rw [readStr, e1, if_neg (by decide)]
      exact read_arg b N FP st kv f a z w h hm haz
    · have e1 : readCode st f a z = 0 := by simp [readCode, hm, haz]
      rw [readStr, e1, if_pos rfl]
      obtain ⟨a', rfl⟩ := Int.eq_ofNat_of_zero_le (show 0 ≤ a by omega)
      obtain ⟨z', rfl⟩ := Int.eq_ofNat_of_zero_le (show 0 ≤ z by omega)
      exact read_ok b N FP st kv f a' z' w h hf hm
  · have e1 : readCode st f a z = mayCode st f := by simp [readCode, hm]
    rw [readStr, e1, if_neg hm]
    exact read_err b N FP st kv f a z w h hm

end Go.Proofs.Ytmikjninonpejaa

/- The numbers of maps.Clone at this program, as the tool lay-plain of the kit writes them. -/
namespace Go.Proofs
open Go.Shelf
def Try.cloneF_ren : Go.Shelf.Ren := ⟨fun | 5 => 72 | 7 => 89 | n => n, fun | 23 => 86 | 25 => 3 | 3 => 96 | 4 => 4 | 20 => 20 | n => n, fun | n => n⟩
theorem Try.cloneF : Go.Proofs.SlLaysW.n5 Try.prog Try.cloneF_ren := {
  mixed := by kernel_rfl
  f5 := ⟨Try.f72.name, by decide, Try.func72.trans (congrArg some (by kernel_rfl))⟩
  f7 := Try.func89.trans (congrArg some (by kernel_rfl))
  t4 := Try.underlying4
  a4 := Try.isAgg4
  z4 := Try.sizeOf4
  v4 := Try.zeroValue4
  t20 := Try.underlying20
  a20 := Try.isAgg20
  z20 := Try.sizeOf20
  v20 := Try.zeroValue20
  t23 := Try.underlying86
  a23 := Try.isAgg86
  z23 := Try.sizeOf86
  v23 := Try.zeroValue86 }
def Try.cloneS_ren : Go.Shelf.Ren := ⟨fun | 5 => 74 | 7 => 89 | n => n, fun | 23 => 87 | 25 => 103 | 3 => 4 | 4 => 4 | 20 => 20 | n => n, fun | n => n⟩
theorem Try.cloneS : Go.Proofs.SlLaysW.n5 Try.prog Try.cloneS_ren := {
  mixed := by kernel_rfl
  f5 := ⟨Try.f74.name, by decide, Try.func74.trans (congrArg some (by kernel_rfl))⟩
  f7 := Try.func89.trans (congrArg some (by kernel_rfl))
  t4 := Try.underlying4
  a4 := Try.isAgg4
  z4 := Try.sizeOf4
  v4 := Try.zeroValue4
  t20 := Try.underlying20
  a20 := Try.isAgg20
  z20 := Try.sizeOf20
  v20 := Try.zeroValue20
  t23 := Try.underlying87
  a23 := Try.isAgg87
  z23 := Try.sizeOf87
  v23 := Try.zeroValue87 }
end Go.Proofs

/- Contracts of package disk: maps.Clone at its two maps. -/
namespace Go.Proofs.Ytmikjninonpejaa
open Go.RowKit Go.Proofs.YtmikjninonpejaaMem Go.Maps

theorem clone_files (b n : Nat) (F : Int → File) (w : World) (h : FilesAt w b n F) : Calls Try.prog 72 #[.map (some b)] w fun e w' => e = .returned (.map (some w.heap.size)) ∧ FilesAt w' w.heap.size n F ∧ Turns [] w w' := by
  obtain ⟨D, ho, hm, hD⟩ := h
  have hcon := AnyW.maps_Clone_owns Try.cloneF 3 fileR b n D w ho
  change Calls Try.prog 72 _ _ _ at hcon
  exact hcon.mono fun e w' ⟨h1, h2, _, hB⟩ => ⟨h1, ⟨D, h2, hm, hD⟩, Turns.of_below hB []⟩
theorem clone_set (b n : Nat) (S : Int → Int → Bool) (w : World) (h : SetAt w b n S) : Calls Try.prog 74 #[.map (some b)] w fun e w' => e = .returned (.map (some w.heap.size)) ∧ SetAt w' w.heap.size n S ∧ Turns [] w w' := by
  obtain ⟨D, ho, hm, hD⟩ := h
  have hcon := AnyW.maps_Clone_owns Try.cloneS 103 (plainElem Try.prog 4) b n D w ho
  change Calls Try.prog 74 _ _ _ at hcon
  exact hcon.mono fun e w' ⟨h1, h2, _, hB⟩ => ⟨h1, ⟨D, h2, hm, hD⟩, Turns.of_below hB []⟩

end Go.Proofs.Ytmikjninonpejaa

/- Contracts of package disk: slices.Clone of the queue and of Keep. -/
namespace Go.Proofs.Ytmikjninonpejaa
open Go.RowKit Go.Proofs.YtmikjninonpejaaMem Go.Maps

theorem Try.info103 : (Try.prog.info? 103).map (fun i => (i.zero, i.size, i.bytes)) = some (some (.agg #[.int .i64 0, .int .i64 0]), 2, 16) := by kernel_rfl
theorem secCells_length (Q : List (Int × Int)) : (secCells Q).length = Q.length * 2 := by
  induction Q with
  | nil => rfl
  | cons a Q ih =>
    have : secCells (a :: Q) = [.int .i64 a.1, .int .i64 a.2] ++ secCells Q := rfl
    rw [this, List.length_append, ih]; simp; omega
theorem secs_oneCell (Q : List (Int × Int)) : ∀ u ∈ secCells Q, u.oneCell' = true := by
  intro u hu
  obtain ⟨p, _, hp⟩ := List.mem_flatMap.1 hu
  simp at hp
  rcases hp with rfl | rfl <;> rfl

set_option maxHeartbeats 400000 in
theorem clone_secs (v : Value) (Q : List (Int × Int)) (w : World) (ho : w.ownsRow 0 103 2 v Q.length (secCells Q)) (hl : Q.length ≤ 1000000) :
    Calls Try.prog 73 #[v] w fun e w' => ∃ v', e = .returned v' ∧ w'.ownsRow w.heap.size 103 2 v' Q.length (secCells Q) ∧ Turns [] w w' := by
  rcases id ho.2 with ⟨rfl, h0⟩ | ⟨g, cap, cur, rfl, _, hg, hcap, hmax, hsz, htake⟩
  · have hq := fun w => Lib.run_eql_slice_nil (P := Try.prog) w 88 103 none 0 0 0 0 Try.underlying88
    obtain rfl : Q = [] := List.eq_nil_of_length_eq_zero h0
    clear ho
    go_enter Try.func73, Try.ntmps73
    go_wp2
    go_ret
    exact ⟨_, rfl, World.ownsRow_nil _ _ _ _, Turns.refl _ _⟩
  · have hq := fun w => Lib.run_eql_slice_nil (P := Try.prog) w 88 103 (some ⟨g, 0, none⟩) Q.length cap 0 0 Try.underlying88
    have HO := Lib.hid ho
    have hgs : g < w.heap.size := lt_of_at hg
    have hc : Hid (∀ o j u, (secCells Q)[j]? = some u → (w.alloc o).cell? ((⟨g, 0, none⟩ : Addr).add j) = some u) := by
      intro o j u hu
      exact ((Turns.alloc [] w o).cell (a := (⟨g, 0, none⟩ : Addr).add j) (by unfold Addr.add; split <;> exact hgs) (by simp)).trans (ho.cells (g := g) rfl j u hu)
    clear ho hg hsz htake
    obtain ⟨i0, hi, hz0, hz1, hz2⟩ := info_parts Try.info103
    have hnil : Hid ((w.alloc (.cells #[] 103)).ownsRow w.heap.size 103 2 (.slice (some ⟨w.heap.size, 0, none⟩) 0 0) 0 []) := World.ownsRow_made w #[] 0 (Nat.le_refl _) (by unfold maxLen; omega) rfl
    go_enter Try.func73, Try.ntmps73
    go_wp2_with (at_builtin; refine wpList_append_own_at _ rfl (.tmp 5) (.tmp 6) 88 rfl w.heap.size 103 i0 (.agg #[.int .i64 0, .int .i64 0]) 2 16 Try.underlying88 hi hz0 hz1 hz2 rfl (by decide) _ 0 [] rfl hnil.out ⟨g, 0, none⟩ Q.length cap (secCells Q) rfl ?c1 ?c2 ?c3 ?c4 ?c5 ?c6 ?_)
    case c1 => exact secCells_length Q
    case c2 => exact hc.out _
    case c3 => exact secs_oneCell Q
    case c4 => unfold maxLen; omega
    case c5 => omega
    case c6 => simp
    · intro v' w1 hown hgr _ hat
      have hw : Hid (w1.ownsRow w.heap.size 103 2 v' Q.length (secCells Q) ∧ Turns [] w w1) := by
        refine ⟨by simpa using hown, (Turns.alloc _ w _).trans_new (Turns.of_grown (S := [w.heap.size]) hgr (fun k hk => by simp [Value.ownBlock] at hk; simp [hk])) (fun x hx => by simp at hx; exact Or.inr (by omega))⟩
      clear hown hgr hat
      go_wp2
      go_ret
      exact ⟨_, rfl, hw.out.1, hw.out.2⟩

end Go.Proofs.Ytmikjninonpejaa

/- Contracts of package disk: slices.Clone of Keep, Arm. -/
namespace Go.Proofs.Ytmikjninonpejaa
open Go.RowKit Go.Proofs.YtmikjninonpejaaMem Go.Maps

theorem Try.info3 : (Try.prog.info? 3).map (fun i => (i.zero, i.size, i.bytes)) = some (some (.int .i64 0), 1, 8) := by kernel_rfl
def intCells (K : List Int) : List Value := K.map (.int .i64)
/-- A slice of numbers, wherever it lies. -/
def IntsV (w : World) (v : Value) (K : List Int) : Prop := ∃ a cap, v = .slice a K.length cap ∧ IntsAt w a K
/-- A row of numbers made by the call, or nil. -/
def OwnInts (w : World) (B : Nat) (v : Value) (K : List Int) : Prop := w.ownsRow B 3 1 v K.length (intCells K)
theorem OwnInts.intsV {w : World} {B : Nat} {v : Value} {K : List Int} (h : OwnInts w B v K) : IntsV w v K := by
  rcases id h.2 with ⟨rfl, h0⟩ | ⟨g, cap, cur, rfl, _, hg, hcap, hmax, hsz, htake⟩
  · exact ⟨none, 0, by rw [h0], fun i hi => by omega⟩
  · refine ⟨_, cap, rfl, fun i hi => ⟨g, 0, rfl, ?_⟩⟩
    have := h.cells (g := g) rfl i (.int .i64 K[i]) (by simp [intCells, hi])
    have e : ((⟨g, 0, none⟩ : Addr).add i) = ⟨g, 0 + i, none⟩ := by unfold Addr.add; split <;> simp_all
    rw [e] at this
    exact this

set_option maxHeartbeats 400000 in
set_option maxRecDepth 100000 in
theorem clone_ints (v : Value) (K : List Int) (w : World) (hv : IntsV w v K) (hl : K.length ≤ 1000000) :
    Calls Try.prog 80 #[v] w fun e w' => ∃ v', e = .returned v' ∧ OwnInts w' w.heap.size v' K ∧ Turns [] w w' := by
  obtain ⟨a, cap, rfl, hi⟩ := hv
  cases a with
  | none =>
    obtain rfl : K = [] := by
      cases K with
      | nil => rfl
      | cons x K => obtain ⟨b, off, h0, _⟩ := hi 0 (by simp); cases h0
    clear hi
    have hq := fun w => Lib.run_eql_slice_nil (P := Try.prog) w 23 3 none 0 cap 0 0 Try.underlying23
    go_enter Try.func80, Try.ntmps80
    go_wp2
    go_ret
    exact ⟨_, rfl, World.ownsRow_nil _ _ _ _, Turns.refl _ _⟩
  | some ad =>
    have hq := fun w => Lib.run_eql_slice_nil (P := Try.prog) w 23 3 (some ad) K.length cap 0 0 Try.underlying23
    have hc : Hid (∀ o, SrcAt (w.alloc o) (.slice (some ad) K.length cap) K.length (intCells K)) := by
      intro o
      refine .inr ⟨ad, cap, rfl, fun j u hu => ?_⟩
      have hj : j < K.length := by have := (List.getElem?_eq_some_iff.1 hu).1; simpa [intCells] using this
      obtain ⟨b, off, h0, h1⟩ := hi j hj
      obtain rfl := Option.some.inj h0
      have e : ((⟨b, off, none⟩ : Addr).add j) = ⟨b, off + j, none⟩ := by unfold Addr.add; split <;> simp_all
      rw [e, World.cell?_alloc_past _ _ _ (World.block_lt_of_cell? w _ h1), h1]
      simpa [intCells, hj] using hu
    clear hi
    obtain ⟨i0, hi, hz0, hz1, hz2⟩ := info_parts Try.info3
    have hnil : Hid ((w.alloc (.cells #[] 3)).ownsRow w.heap.size 3 1 (.slice (some ⟨w.heap.size, 0, none⟩) 0 0) 0 []) := World.ownsRow_made w #[] 0 (Nat.le_refl _) (by unfold maxLen; omega) rfl
    go_enter Try.func80, Try.ntmps80
    go_wp2_with (at_builtin; refine wpList_append_src _ rfl (.tmp 5) (.tmp 6) 23 rfl 3 i0 (.int .i64 0) 1 8 Try.underlying23 hi hz0 hz1 hz2 rfl (by decide) (.slice (some ⟨w.heap.size, 0, none⟩) 0 0) 0 [] rfl (own_base hnil.out (Nat.zero_le _)) (.slice (some ad) K.length cap) K.length (intCells K) rfl (hc.out _) ?c1 ?c3 ?c4 ?c5 ?_)
    case c1 => simp [intCells]
    case c3 => intro u hu; obtain ⟨x, _, rfl⟩ := List.mem_map.1 hu; rfl
    case c4 => unfold maxLen; omega
    case c5 => omega
    · intro v' w1 hown hgr hat
      have hw : Hid (OwnInts w1 w.heap.size v' K ∧ Turns [] w w1) := by
        refine ⟨own_above (by simpa using hown) (fun x hx => ?_), (Turns.alloc _ w _).trans_new (Turns.of_grown (S := [w.heap.size]) hgr (fun k hk => by simp [Value.ownBlock] at hk; simp [hk])) (fun x hx => by simp at hx; exact Or.inr (by omega))⟩
        rcases hat with h | h
        · rw [h] at hx; simp [Value.ownBlock] at hx; omega
        · rw [h] at hx; simp at hx; omega
      clear hown hgr hat
      go_wp2
      go_ret
      exact ⟨_, rfl, hw.out.1, hw.out.2⟩

end Go.Proofs.Ytmikjninonpejaa

/- Contracts of package disk: Arm. -/
namespace Go.Proofs.Ytmikjninonpejaa
open Go.RowKit Go.Proofs.YtmikjninonpejaaMem Go.Maps

/-- Behind Arm. -/
def ArmPost (w : World) (b : Nat) (FP : List Nat) (N : Nat) (st : DS) (K : List Int) (w' : World) : Prop :=
  ∃ kv', OwnInts w' w.heap.size kv' K ∧ DiskObj w' b FP N st kv' ∧ Turns FP w w'
theorem arm_post {w w1 : World} {b N : Nat} {FP : List Nat} {st : DS} {kv kv' : Value} {K : List Int} (m : Int) (h : DiskObj w b FP N st kv) (hk : OwnInts w1 w.heap.size kv' K) (ht : Turns [] w w1) :
    ArmPost w b FP N { st with armed := m } K ((w1.setCell ⟨b, 5, none⟩ (.int .i64 m)).setCell ⟨b, 6, none⟩ kv') := by
  have h1 := h.kept ht (by simp)
  obtain ⟨h2, t2⟩ := h1.set_cell (st' := { st with armed := m }) (kv' := kv) 5 (.int .i64 m) rfl rfl (fun _ _ _ => rfl)
  obtain ⟨h3, t3⟩ := h2.set_cell (st' := { st with armed := m }) (kv' := kv') 6 kv' rfl rfl (fun _ _ _ => rfl)
  have htt := (t2.trans t3)
  refine ⟨kv', own_above (own_kept (own_base hk (Nat.zero_le _)) htt (fun x hx hF => ?_)) (fun x hx => (hk.lt x (by simpa using hx)).1), h3, (ht.mono (by simp)).trans htt⟩
  have a1 := (hk.lt x (by simpa using hx)).1
  have a2 := h.lt x hF
  omega

set_option maxHeartbeats 800000 in
set_option maxRecDepth 100000 in
theorem disk_arm (b N : Nat) (FP : List Nat) (st : DS) (kv v : Value) (n : Int) (K : List Int) (w : World) (h : DiskObj w b FP N st kv) (hv : IntsV w v K) (hl : K.length ≤ 1000000) :
    Calls Try.prog 49 #[.pointer (some ⟨b, 0, none⟩), .int .i64 n, v] w fun e w' => e = .returned (.tuple #[]) ∧ ArmPost w b FP N { st with armed := max n 0 } K w' := by
  have HN := Lib.hid h
  have HV := Lib.hid hv; clear hv
  have hbs := h.lt b (by obtain ⟨_, _, _, _, _, _, _, _, rfl⟩ := h; simp)
  obtain ⟨fb, sb, qv, hb, -⟩ := h
  have HB := Lib.hid hb; clear hb
  by_cases hn : n < 0
  · have e : max n 0 = 0 := by omega
    rw [e]; clear e
    go_enter Try.func49, Try.ntmps49
    go_wp2_with fail
    refine (clone_ints v K _ HV.out hl).mono ?_
    rintro e w1 ⟨kv', rfl, hk, ht⟩
    have hb1 : w1.heap[b]? = _ := (ht.block b hbs (by simp)).trans HB.out
    have c5 : w1.cell? ⟨b, 5, none⟩ = some (.int .i64 st.armed) := cell_at hb1 5
    have f5 : w1.frozen? ⟨b, 5, none⟩ = false := free_at hb1 5
    have c6 : w1.cell? ⟨b, 6, none⟩ = some kv := cell_at hb1 6
    have f6 : w1.frozen? ⟨b, 6, none⟩ = false := free_at hb1 6
    have HP := Lib.hid (arm_post 0 HN.out hk ht)
    obtain ⟨a', c', hkv, -⟩ := own_shape (own_base hk (Nat.zero_le _))
    subst hkv
    clear hk ht hb1
    go_wp2
    go_end0
    exact ⟨rfl, HP.out⟩
  · have e : max n 0 = n := by omega
    rw [e]; clear e
    go_enter Try.func49, Try.ntmps49
    go_wp2_with fail
    refine (clone_ints v K _ HV.out hl).mono ?_
    rintro e w1 ⟨kv', rfl, hk, ht⟩
    have hb1 : w1.heap[b]? = _ := (ht.block b hbs (by simp)).trans HB.out
    have c5 : w1.cell? ⟨b, 5, none⟩ = some (.int .i64 st.armed) := cell_at hb1 5
    have f5 : w1.frozen? ⟨b, 5, none⟩ = false := free_at hb1 5
    have c6 : w1.cell? ⟨b, 6, none⟩ = some kv := cell_at hb1 6
    have f6 : w1.frozen? ⟨b, 6, none⟩ = false := free_at hb1 6
    have HP := Lib.hid (arm_post n HN.out hk ht)
    obtain ⟨a', c', hkv, -⟩ := own_shape (own_base hk (Nat.zero_le _))
    subst hkv
    clear hk ht hb1
    go_wp2
    go_end0
    exact ⟨rfl, HP.out⟩

end Go.Proofs.Ytmikjninonpejaa

/- Contracts of package disk: Copy. -/
namespace Go.Proofs.Ytmikjninonpejaa
open Go.RowKit Go.Proofs.YtmikjninonpejaaMem Go.Maps

theorem held_call {W wq wr : World} {o : Nat} {a0 a1 a2 : Addr} {v0 v1 v2 : Value} (h : Turns [o] W wr ∧ wr.cell? a0 = some v0 ∧ wr.cell? a1 = some v1 ∧ wr.cell? a2 = some v2) (hq : Turns [] wr wq) :
    Turns [o] W wq ∧ wq.cell? a0 = some v0 ∧ wq.cell? a1 = some v1 ∧ wq.cell? a2 = some v2 :=
  ⟨h.1.trans (hq.mono (by simp)), (hq.cell (World.block_lt_of_cell? _ _ h.2.1) (by simp)).trans h.2.1, (hq.cell (World.block_lt_of_cell? _ _ h.2.2.1) (by simp)).trans h.2.2.1, (hq.cell (World.block_lt_of_cell? _ _ h.2.2.2) (by simp)).trans h.2.2.2⟩
theorem held_set {W wr : World} {o b i j0 j1 j2 : Nat} {v v0 v1 v2 : Value} (hbo : b ≠ o) (h : Turns [o] W wr ∧ wr.cell? ⟨b, j0, none⟩ = some v0 ∧ wr.cell? ⟨b, j1, none⟩ = some v1 ∧ wr.cell? ⟨b, j2, none⟩ = some v2) :
    Turns [o] W (wr.setCell ⟨o, i, none⟩ v) ∧ (wr.setCell ⟨o, i, none⟩ v).cell? ⟨b, j0, none⟩ = some v0 ∧ (wr.setCell ⟨o, i, none⟩ v).cell? ⟨b, j1, none⟩ = some v1 ∧ (wr.setCell ⟨o, i, none⟩ v).cell? ⟨b, j2, none⟩ = some v2 := by
  have ht : Turns [o] wr (wr.setCell ⟨o, i, none⟩ v) := Turns.setCell _ _ _ (by simp)
  exact ⟨h.1.trans ht, (ht.cell (World.block_lt_of_cell? _ _ h.2.1) (by simpa using hbo)).trans h.2.1, (ht.cell (World.block_lt_of_cell? _ _ h.2.2.1) (by simpa using hbo)).trans h.2.2.1, (ht.cell (World.block_lt_of_cell? _ _ h.2.2.2) (by simpa using hbo)).trans h.2.2.2⟩

set_option maxHeartbeats 3200000 in
set_option maxRecDepth 100000 in
theorem disk_copy (b N : Nat) (FP : List Nat) (st : DS) (kv : Value) (ka : Option Addr) (kn kc : Nat) (w : World) (hkv : kv = .slice ka kn kc) (h : DiskObj w b FP N st kv) (hl : st.Q.length ≤ 1000000) :
    Calls Try.prog 40 #[.pointer (some ⟨b, 0, none⟩)] w fun e w' => ∃ b' FP', e = .returned (.pointer (some ⟨b', 0, none⟩)) ∧ DiskObj w' b' FP' N st kv ∧ Turns [] w w' ∧ ∀ x ∈ FP', w.heap.size ≤ x := by
  subst hkv
  obtain ⟨fb, sb, qv, hb, hf, hs, hq, hne, -⟩ := h
  have hbs := lt_of_at hb
  have HF := Lib.hid (And.intro hf (And.intro hs hq))
  have HB := Lib.hid hb
  obtain ⟨qa, qc, rfl, -⟩ := own_shape hq
  have c0 : w.cell? ⟨b, 0, none⟩ = some (.map (some fb)) := cell_at hb 0
  have c1 : w.cell? ⟨b, 1, none⟩ = some (.slice qa st.Q.length qc) := cell_at hb 1
  have c2 : w.cell? ⟨b, 2, none⟩ = some (.map (some sb)) := cell_at hb 2
  have c3 : w.cell? ⟨b, 3, none⟩ = some (.int .i64 st.lost) := cell_at hb 3
  have c4 : w.cell? ⟨b, 4, none⟩ = some (.bool st.down) := cell_at hb 4
  have c5 : w.cell? ⟨b, 5, none⟩ = some (.int .i64 st.armed) := cell_at hb 5
  have c6 : w.cell? ⟨b, 6, none⟩ = some (.slice ka kn kc) := cell_at hb 6
  clear hb hf hs hq hne
  go_enter Try.func40, Try.ntmps40
  go_wp2_with fail
  have hsz : (w.alloc (.cells #[.map (some fb), .slice qa st.Q.length qc, .map (some sb), .int .i64 st.lost, .bool st.down, .int .i64 st.armed, .slice ka kn kc] 90)).heap.size = w.heap.size + 1 := by simp
  have hto : Turns [] w (w.alloc (.cells #[.map (some fb), .slice qa st.Q.length qc, .map (some sb), .int .i64 st.lost, .bool st.down, .int .i64 st.armed, .slice ka kn kc] 90)) := Turns.alloc _ _ _
  have hoo := heap_alloc_here w (.cells #[.map (some fb), .slice qa st.Q.length qc, .map (some sb), .int .i64 st.lost, .bool st.down, .int .i64 st.armed, .slice ka kn kc] 90)
  generalize (w.alloc (.cells #[.map (some fb), .slice qa st.Q.length qc, .map (some sb), .int .i64 st.lost, .bool st.down, .int .i64 st.armed, .slice ka kn kc] 90)) = W at hsz hto hoo ⊢
  generalize ho : w.heap.size = o at hsz hoo ⊢
  have hbo : b ≠ o := by omega
  have k0 : W.cell? ⟨b, 0, none⟩ = some (.map (some fb)) := (hto.cell (a := ⟨b, 0, none⟩) (by show b < _; omega) (by simp)).trans c0
  have k1 : W.cell? ⟨b, 1, none⟩ = some (.slice qa st.Q.length qc) := (hto.cell (a := ⟨b, 1, none⟩) (by show b < _; omega) (by simp)).trans c1
  have k2 : W.cell? ⟨b, 2, none⟩ = some (.map (some sb)) := (hto.cell (a := ⟨b, 2, none⟩) (by show b < _; omega) (by simp)).trans c2
  have hFW : FilesAt W fb N st.F := HF.out.1.kept hto (by simp)
  have hSW : SetAt W sb N (fun f m => decide ((f, m) ∈ st.Q)) := HF.out.2.1.kept hto (by simp)
  have hQW : W.ownsRow 0 103 2 (.slice qa st.Q.length qc) st.Q.length (secCells st.Q) := own_kept HF.out.2.2 hto (by simp)
  have C72 : Hid (∀ V, Turns [] W V → Calls Try.prog 72 #[.map (some fb)] V fun e w' => e = .returned (.map (some V.heap.size)) ∧ FilesAt w' V.heap.size N st.F ∧ Turns [] V w') := fun V hV => clone_files fb N st.F V (hFW.kept hV (by simp))
  have C74 : Hid (∀ V, Turns [] W V → Calls Try.prog 74 #[.map (some sb)] V fun e w' => e = .returned (.map (some V.heap.size)) ∧ SetAt w' V.heap.size N (fun f m => decide ((f, m) ∈ st.Q)) ∧ Turns [] V w') := fun V hV => clone_set sb N _ V (hSW.kept hV (by simp))
  have C73 : Hid (∀ V, Turns [] W V → Calls Try.prog 73 #[.slice qa st.Q.length qc] V fun e w' => ∃ v', e = .returned v' ∧ w'.ownsRow V.heap.size 103 2 v' st.Q.length (secCells st.Q) ∧ Turns [] V w') := fun V hV => clone_secs _ st.Q V (own_kept hQW hV (by simp)) hl
  have HO := Lib.hid (And.intro hto (And.intro hoo hsz))
  clear c0 c1 c2 c3 c4 c5 c6 hFW hSW hQW hto hoo
  have hb0 : b ≠ o := hbo
  go_region_held3 (fun w' => Turns [o] W w' ∧ w'.cell? ⟨b, 0, none⟩ = some (.map (some fb)) ∧ w'.cell? ⟨b, 1, none⟩ = some (.slice qa st.Q.length qc) ∧ w'.cell? ⟨b, 2, none⟩ = some (.map (some sb)))
    (first
      | exact ⟨(Turns.refl _ _).drew, by simpa using k0, by simpa using k1, by simpa using k2⟩
      | (refine held_call ?_ hq; assumption)
      | (refine held_set hbo ?_; assumption)
      | (refine held_call ?_ hq; refine ⟨?_, ?_, ?_, ?_⟩ <;> assumption)
      | (refine held_set hbo ?_; refine ⟨?_, ?_, ?_, ?_⟩ <;> assumption))
    ((first
      | (go_at_call 72; (with_reducible refine Calls.mono (C72.out _ ?_) ?_); (focus (exact (Turns.refl _ _).drew)); rintro e wq ⟨rfl, hf1, hq⟩; have HQ1 := Lib.hid (And.intro hf1 hq); clear hf1)
      | (go_at_call 73; (with_reducible refine Calls.mono (C73.out _ ?_) ?_); (focus (exact ((Turns.refl _ _).drew).trans HQ1.out.2)); rintro e wq ⟨v', rfl, hf2, hq⟩; have HQ2 := Lib.hid (And.intro hf2 hq); obtain ⟨a2, n2, hv2, -⟩ := own_shape (own_base hf2 (Nat.zero_le _)); subst hv2; clear hf2)
      | (go_at_call 74; (with_reducible refine Calls.mono (C74.out _ ?_) ?_); (focus (exact (((Turns.refl _ _).drew).trans HQ1.out.2).trans HQ2.out.2)); rintro e wq ⟨rfl, hf3, hq⟩; have HQ3 := Lib.hid (And.intro hf3 hq); clear hf3; have hT := Lib.hid ((((Turns.refl [] W).drew.trans HQ1.out.2).trans HQ2.out.2).trans hq); have hoq := (hT.out.block o (by omega) (by simp)).trans HO.out.2.1; have z0 : wq.cell? ⟨o, 0, none⟩ = some (.map (some fb)) := cell_at hoq 0; have z1 : wq.cell? ⟨o, 1, none⟩ = some (.slice qa st.Q.length qc) := cell_at hoq 1; have z2 : wq.cell? ⟨o, 2, none⟩ = some (.map (some sb)) := cell_at hoq 2; have y0 : wq.frozen? ⟨o, 0, none⟩ = false := free_at hoq 0; have y1 : wq.frozen? ⟨o, 1, none⟩ = false := free_at hoq 1; have y2 : wq.frozen? ⟨o, 2, none⟩ = false := free_at hoq 2; have HOQ := Lib.hid hoq; clear hoq)))
  have g1 : FilesAt wq (o + 1) N st.F := by
    have h1 := (HQ1.out.1.kept HQ2.out.2 (by simp)).kept HQ3.out.2 (by simp)
    rw [show W.drew.heap.size = o + 1 from hsz] at h1
    exact h1
  have l1 := HQ1.out.1.lt
  have l2 := HQ2.out.2.size
  have l3 := HQ3.out.1.lt
  have g2 := own_kept HQ2.out.1 HQ3.out.2 (by simp)
  have g3 := HQ3.out.1
  have l0 : W.drew.heap.size = o + 1 := hsz
  have hrow := fun x hx => (HQ2.out.1.lt x hx).1
  have hx3 := fun (x y z : Value) => heap_setCell_at (i := 2) (u := z) (heap_setCell_at (i := 1) (u := y) (heap_setCell_at (i := 0) (u := x) HOQ.out))
  have HG := Lib.hid (And.intro g1 (And.intro g2 (And.intro g3 (And.intro hrow hx3))))
  have HL := Lib.hid (And.intro l0 (And.intro l1 (And.intro l2 l3)))
  clear g1 g2 g3 hrow hx3 l0 l1 l2 l3
  go_wp2_with fail
  go_ret
  have hT3 := fun (x y z : Value) => Turns.set3 wq o x y z
  obtain ⟨l0, l1, l2, l3⟩ := HL.out
  refine ⟨o, _, rfl, ⟨_, _, _, HG.out.2.2.2.2 _ _ _, HG.out.1.kept (hT3 _ _ _) (by simp), HG.out.2.2.1.kept (hT3 _ _ _) (by simp; omega), own_base (own_kept HG.out.2.1 (hT3 _ _ _) (fun x hx hxo => ?_)) (Nat.zero_le _), ?_, rfl⟩, ?_, fun x hx => ?_⟩
  · have := HG.out.2.2.2.1 x (by simpa using hx)
    simp at hxo
    omega
  · omega
  · rw [← ho] at *
    exact (HO.out.1.trans hT.out).trans_new (hT3 _ _ _) (fun x hx => by simp at hx; omega)
  · rw [ho]
    simp only [List.mem_cons] at hx
    rcases hx with rfl | rfl | rfl | hx
    · omega
    · omega
    · omega
    · have := HG.out.2.2.2.1 x (by simpa using hx)
      omega

end Go.Proofs.Ytmikjninonpejaa

/- Plain: mapEntry, then entryStore: together a mapUpdate. -/
namespace Go.Proofs.YtmikjninonpejaaMem
open Go Go.ChangeMaps Go.MapKept Go.WideShapes Go.Maps
open Go.WideElems (Fit rd rg pl rd_key rd_val rg_of rd_mk other_key)

section
variable {H : Type} {P : Program} {k : TypeId} {R : Value → Option (DataW H × List MemPlace)} {w : World} {b : Nat}

theorem find_born {es : Array MapEntry} {clock : Nat} (h : Stamped es clock) {j : Nat} {e0 : MapEntry} (hj : es[j]? = some e0) : es.findIdx? (fun e => (e.born : Int) == (e0.born : Int)) = some j := by
  have hjs := (Array.getElem?_eq_some_iff.1 hj).1
  have hje := (Array.getElem?_eq_some_iff.1 hj).2
  rw [Array.findIdx?_eq_some_iff_getElem]
  refine ⟨hjs, by simp [hje], fun i hi => ?_⟩
  have hnd := h.2.1
  have : es[i].born ≠ e0.born := by
    intro e
    have hp := List.pairwise_iff_getElem.1 hnd i j (by simpa using Nat.lt_trans hi hjs) (by simpa using hjs) hi
    simp only [List.getElem_map, Array.getElem_toList] at hp
    exact hp (by rw [e, hje])
  simp
  omega

theorem modify_push {es : Array MapEntry} (x : MapEntry) (f : MapEntry → MapEntry) : (es.push x).modify es.size f = es.push (f x) := by
  apply Array.ext
  · simp
  · intro i h1 h2
    rw [Array.getElem_modify]
    by_cases hi : es.size = i
    · subst hi; simp
    · have : i < es.size := by simp at h2; omega
      rw [if_neg hi]
      simp [Array.getElem_push, this]

theorem modify_twice {es : Array MapEntry} (j : Nat) (f g : MapEntry → MapEntry) : (es.modify j f).modify j g = es.modify j (fun x => g (f x)) := by
  apply Array.ext
  · simp
  · intro i h1 h2
    simp only [Array.getElem_modify]
    split <;> rfl

/-- mapEntry, anything that leaves the map's block as it is, entryStore: what one mapUpdate does. -/
theorem entry_then_store {t e : TypeId} {es : Array MapEntry} {clock : Nat} (K : Keyed P k) (ht : P.underlying t = some (.map k e)) (hb : w.heap[b]? = some (.map es clock)) (F : Fit P k R es clock) {key z : Value} {kl : Lit}
    (hkey : keyOf P k key = some kl) (hz : (zeroValue e).run P w = .ok z w) :
    ∃ (v : Value) (s : Int) (es1 : Array MapEntry) (clock1 : Nat), (Instr.mapEntry t (.map (some b)) key).run P w = .ok (.tuple #[v, .int .i64 s]) (setBlock w b (.map es1 clock1)) ∧
      ∀ (w2 : World) (val : Value), w2.heap[b]? = some (.map es1 clock1) → ∃ es' clock', (Instr.entryStore t (.map (some b)) (.int .i64 s) val).run P w2 = .ok () (setBlock w2 b (.map es' clock')) ∧
        (Instr.mapUpdate t (.map (some b)) key val).run P w = .ok () (setBlock w b (.map es' clock')) := by
  rcases K.find w hkey es.toList F.keys with ⟨h1, h2⟩ | ⟨j, e0, h1, h2, h3⟩
  · refine ⟨z, clock, es.push ⟨key, z, clock⟩, clock + 1, ?_, fun w2 val hw2 => ⟨es.push ⟨key, val, clock⟩, clock + 1, ?_, ?_⟩⟩
    · simp [Instr.mapEntry, run_underlying ht, MapKept.run_getObj_map hb, K.check w false hkey, h1, hz, MapKept.run_setObj_map _ hb, Result.andThen, setBlock, goInt]
    · have hst := stamped_push F.stamped (val := z) h2
      have hf := find_born hst (j := es.size) (e0 := ⟨key, z, clock⟩) (by simp)
      simp [Instr.entryStore, MapKept.run_getObj_map hw2, asInt, asIntOf, hf, MapKept.run_setObj_map _ hw2, Result.andThen, setBlock, modify_push]
    · simp [Instr.mapUpdate, run_underlying ht, MapKept.run_getObj_map hb, K.check w false hkey, h1, MapKept.run_setObj_map _ hb, Result.andThen, setBlock]
  · have hj : es[j]? = some e0 := by simpa using h2
    have hkeyf : ∀ e', es[j]? = some e' → ({ e' with key := key } : MapEntry).key = e'.key := fun e' he' => by rw [hj] at he'; cases he'; exact h3.symm
    refine ⟨e0.val, e0.born, es.modify j (fun e' => { e' with key := key }), clock, ?_, fun w2 val hw2 => ⟨es.modify j (fun e' => { e' with key := key, val := val }), clock, ?_, ?_⟩⟩
    · simp [Instr.mapEntry, run_underlying ht, MapKept.run_getObj_map hb, K.check w false hkey, h1, hj, h3, K.stays w hkey, MapKept.run_setObj_map _ hb, Result.andThen, setBlock, goInt]
    · have hst := stamped_modify F.stamped j (fun e' => { e' with key := key }) (fun _ _ => rfl) (fun e' _ he' => hkeyf e' he')
      have hf := find_born hst (j := j) (e0 := { e0 with key := key }) (by rw [Array.getElem?_modify, if_pos rfl, hj]; rfl)
      simp only at hf
      simp [Instr.entryStore, MapKept.run_getObj_map hw2, asInt, asIntOf, hf, MapKept.run_setObj_map _ hw2, Result.andThen, setBlock, modify_twice]
    · simp [Instr.mapUpdate, run_underlying ht, MapKept.run_getObj_map hb, K.check w false hkey, h1, hj, h3, K.stays w hkey, MapKept.run_setObj_map _ hb, Result.andThen, setBlock]

end
end Go.Proofs.YtmikjninonpejaaMem

/- Plain: the set of sectors: mapEntry, then entryStore. -/
namespace Go.Proofs.Ytmikjninonpejaa
open Go.RowKit Go.Proofs.YtmikjninonpejaaMem Go.Maps Go.ChangeMaps

theorem setBlock_turns (w : World) (b : Nat) (es : Array MapEntry) (clock : Nat) {es0 : Array MapEntry} {c0 : Nat} (hb : w.heap[b]? = some (.map es0 c0)) : Turns [b] w (setBlock w b (.map es clock)) :=
  ⟨rfl, rfl, rfl, by simp [setBlock], fun i _ hi => heap_setBlock_other hb _ (fun e => hi (by simp [e]))⟩

theorem SetAt.entry {w : World} {b n : Nat} {S : Int → Int → Bool} (h : SetAt w b n S) (hn : n < maxLen) (f m : Int) (hf : (Lit.int .i64 f).wf = true) (hm : (Lit.int .i64 m).wf = true) :
    ∃ (v : Value) (s : Int) (w1 : World), (Instr.mapEntry 87 (.map (some b)) (secVal f m)).run Try.prog w = .ok (.tuple #[v, .int .i64 s]) w1 ∧ Turns [b] w w1 ∧
      ∀ w2 : World, w2.heap[b]? = w1.heap[b]? → ∃ w3, (Instr.entryStore 87 (.map (some b)) (.int .i64 s) (.bool true)).run Try.prog w2 = .ok () w3 ∧ SetAt w3 b (n + 1) (updS S f m) ∧ Turns [b] w2 w3 := by
  obtain ⟨w', hr, hs', ht'⟩ := h.store hn f m hf hm
  obtain ⟨D, ho, _, _⟩ := h
  obtain ⟨es, clock, hb, F, _, _⟩ := ho
  obtain ⟨kl, hk⟩ := sec_key hf hm
  obtain ⟨v, s, es1, clock1, h1, h2⟩ := entry_then_store Try.keyed103 Try.underlying87 hb F hk (Try.zero4 w)
  have hb1 := heap_setBlock_same hb (.map es1 clock1)
  refine ⟨v, s, _, h1, setBlock_turns w b es1 clock1 hb, fun w2 hw2 => ?_⟩
  rw [hb1] at hw2
  obtain ⟨es', clock', h3, h4⟩ := h2 w2 (.bool true) hw2
  rw [hr] at h4
  have e4 : w' = setBlock w b (.map es' clock') := by simpa using h4
  subst e4
  refine ⟨_, h3, ?_, setBlock_turns w2 b es' clock' hw2⟩
  obtain ⟨D', ⟨es'', clock'', hb'', F'', hs'', hD''⟩, hm', hat'⟩ := hs'
  rw [heap_setBlock_same hb] at hb''
  exact ⟨D', ⟨es'', clock'', by rw [heap_setBlock_same hw2]; exact hb'', F'', hs'', hD''⟩, hm', hat'⟩

end Go.Proofs.Ytmikjninonpejaa

/- Contracts of package disk: write. -/
namespace Go.Proofs.Ytmikjninonpejaa
open Go.RowKit Go.Proofs.YtmikjninonpejaaMem Go.Maps

set_option maxHeartbeats 800000 in
set_option maxRecDepth 100000 in
theorem write_err (b N : Nat) (FP : List Nat) (st : DS) (kv : Value) (f a : Int) (s : ByteArray) (w : World) (h : DiskObj w b FP N st kv) (hm : mayCode st f ≠ 0) :
    Calls Try.prog 81 #[.pointer (some ⟨b, 0, none⟩), .int .i64 f, .int .i64 a, .string s] w fun e w' => e = .returned (.int .i64 (mayCode st f)) ∧ w = w' := by
  have hb : (mayCode st f != 0) = true := by simp [hm]
  have hb2 : (mayCode st f == 0) = false := by simp [hm]
  have HN := Lib.hid h; clear h hm
  go_enter Try.func81, Try.ntmps81
  go_wp2_with fail
  refine (disk_may b N FP st kv f _ HN.out).mono ?_
  rintro e w' ⟨rfl, rfl⟩
  go_wp2_with fail
  go_ret
  exact ⟨rfl, rfl⟩

end Go.Proofs.Ytmikjninonpejaa
