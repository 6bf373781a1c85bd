/- Contracts and lemmas (texts PureA, DiskA, DiskM, DiskR, DiskN, DiskS, DiskB, joined by a program). -/
import Derived.Test.YtmikjninonpejaaMb4
import Derived.WalkKit
import Derived.Laws.MakeOwn
import Derived.Laws.IdiomStrings
import Derived.Deep.WholeRow
import Derived.Lib.BufferWrite
import Derived.Maps.RangeWalk
import Derived.DeepKeys4
/- Plain: what the disk computes, on strings of bytes and functions. No program in sight. -/
namespace Go.Proofs.Ytmikjninonpejaa

/-- A byte of a string, 0 behind its end. -/
def byteA (s : ByteArray) (i : Nat) : UInt8 := (s.data[i]?).getD 0
theorem byteA_past {s : ByteArray} {i : Nat} (h : s.size ≤ i) : byteA s i = 0 := by
  unfold byteA
  rw [Array.getElem?_eq_none (by exact h)]
  rfl
theorem bytes_ext {s t : ByteArray} (h : s.size = t.size) (h2 : ∀ i, i < s.size → byteA s i = byteA t i) : s = t := by
  apply ByteArray.ext
  apply Array.ext
  · exact h
  · intro i h3 h4
    have := h2 i h3
    unfold byteA at this
    rw [Array.getElem?_eq_getElem h3, Array.getElem?_eq_getElem h4] at this
    simpa using this

/-- put: bytes put into a string, with 0 between. -/
def padded (n : Nat) (s : ByteArray) : List UInt8 := s.data.toList ++ List.replicate (n - s.size) 0
def putRow (n : Nat) (s : ByteArray) (a : Nat) (t : ByteArray) : List UInt8 := (padded n s).take a ++ t.data.toList ++ (padded n s).drop (a + t.size)
def putB (s : ByteArray) (a : Nat) (t : ByteArray) : ByteArray :=
  if t.size = 0 then s else ⟨(putRow (max s.size (a + t.size)) s a t).toArray⟩
theorem padded_length {n : Nat} {s : ByteArray} (h : s.size ≤ n) : (padded n s).length = n := by
  have : s.data.toList.length = s.size := by simp
  simp only [padded, List.length_append, List.length_replicate, this]; omega
theorem putRow_length {n a : Nat} {s t : ByteArray} (h : s.size ≤ n) (ha : a + t.size ≤ n) : (putRow n s a t).length = n := by
  have : t.data.toList.length = t.size := by simp
  simp only [putRow, List.length_append, List.length_take, List.length_drop, padded_length h, this]; omega
theorem padded_at (n : Nat) (s : ByteArray) (i : Nat) : (padded n s)[i]?.getD 0 = byteA s i := by
  have : s.data.toList.length = s.size := by simp
  unfold padded byteA
  by_cases h : i < s.size
  · rw [List.getElem?_append_left (by omega)]; simp
  · rw [List.getElem?_append_right (by omega), Array.getElem?_eq_none (by exact Nat.le_of_not_lt h)]
    rw [List.getElem?_replicate]
    split <;> rfl

theorem putB_size (s : ByteArray) (a : Nat) (t : ByteArray) : (putB s a t).size = if t.size = 0 then s.size else max s.size (a + t.size) := by
  unfold putB
  split
  · rfl
  · show (putRow _ s a t).toArray.size = _
    rw [List.size_toArray, putRow_length (Nat.le_max_left _ _) (Nat.le_max_right _ _)]
theorem putB_at (s : ByteArray) (a : Nat) (t : ByteArray) (i : Nat) : byteA (putB s a t) i = if a ≤ i ∧ i < a + t.size then byteA t (i - a) else byteA s i := by
  unfold putB
  split
  · rw [if_neg (by omega)]
  · rename_i ht
    have hl : t.data.toList.length = t.size := by simp
    have hp : (padded (max s.size (a + t.size)) s).length = max s.size (a + t.size) := padded_length (Nat.le_max_left _ _)
    have e : byteA ⟨(putRow (max s.size (a + t.size)) s a t).toArray⟩ i = (putRow (max s.size (a + t.size)) s a t)[i]?.getD 0 := by simp [byteA]
    rw [e]
    unfold putRow
    by_cases h1 : i < a
    · rw [if_neg (by omega), List.append_assoc, List.getElem?_append_left (by simp only [List.length_take, hp]; omega), List.getElem?_take_of_lt h1, padded_at]
    · by_cases h2 : i < a + t.size
      · rw [if_pos (by omega), List.append_assoc, List.getElem?_append_right (by simp only [List.length_take, hp]; omega), List.getElem?_append_left (by simp only [List.length_take, hp, hl]; omega)]
        simp only [List.length_take, hp]
        rw [show i - min a (max s.size (a + t.size)) = i - a by omega]
        simp [byteA]
      · rw [if_neg (by omega), List.getElem?_append_right (by simp only [List.length_append, List.length_take, hp, hl]; omega)]
        simp only [List.length_append, List.length_take, hp, hl]
        rw [List.getElem?_drop, show a + t.size + (i - (min a (max s.size (a + t.size)) + t.size)) = i by omega, padded_at]

theorem extract_size (s : ByteArray) (a z : Nat) : (s.extract a z).size = min z s.size - a := by
  simp [ByteArray.size_extract]
theorem extract_at (s : ByteArray) (a z i : Nat) : byteA (s.extract a z) i = if a + i < z then byteA s (a + i) else 0 := by
  unfold byteA
  rw [ByteArray.data_extract, Array.getElem?_extract]
  have hs : s.data.size = s.size := rfl
  by_cases h : i < min z s.data.size - a
  · rw [if_pos h, if_pos (by omega)]
  · rw [if_neg h]
    split
    · rw [Array.getElem?_eq_none (by omega)]
    · rfl

structure File where
  now : ByteArray
  last : ByteArray
def noFile : File := ⟨⟨#[]⟩, ⟨#[]⟩⟩
def updF (F : Int → File) (f : Int) (x : File) : Int → File := fun g => if g = f then x else F g
theorem updF_same (F : Int → File) (f : Int) (x : File) : updF F f x f = x := by simp [updF]
theorem updF_other {F : Int → File} {f g : Int} (x : File) (h : g ≠ f) : updF F f x g = F g := by simp [updF, h]

/-- The state of a disk (without the list Keep). -/
structure DS where
  F : Int → File
  Q : List (Int × Int)
  lost : Int
  down : Bool
  armed : Int
def DS.new : DS := ⟨fun _ => noFile, [], 0, false, 0⟩

def mayCode (st : DS) (f : Int) : Int := if st.down then 9 else if f < 0 ∨ 16 ≤ f then 1 else 0
def endsB (st : DS) : Bool := !st.down && st.armed == 1
def endsS (st : DS) : DS := if st.down = true ∨ st.armed = 0 then st else { st with armed := st.armed - 1 }
def readCode (st : DS) (f a z : Int) : Int := if mayCode st f = 0 then (if a < 0 ∨ z < 0 then 1 else 0) else mayCode st f
def readStr (st : DS) (f a z : Int) : ByteArray := if readCode st f a z = 0 then (st.F f).now.extract a.toNat (a.toNat + z.toNat) else ⟨#[]⟩

/-- The sectors that a write makes pending. -/
def addSec (Q : List (Int × Int)) (f n : Int) : List (Int × Int) := if (f, n) ∈ Q then Q else Q ++ [(f, n)]
def addSecs (Q : List (Int × Int)) (f lo : Int) : Nat → List (Int × Int)
  | 0 => Q
  | k + 1 => addSec (addSecs Q f lo k) f (lo + k)
/-- The body of write. -/
def wrCode (st : DS) (f a : Int) (s : ByteArray) : Int :=
  if mayCode st f ≠ 0 then mayCode st f else if a < 0 then 1 else if 16777216 < a ∨ 16777216 - a < (s.size : Int) then 6 else 0
def wrS (st : DS) (f a : Int) (s : ByteArray) : DS :=
  if wrCode st f a s = 0 ∧ 0 < s.size then
    { st with F := updF st.F f { st.F f with now := putB (st.F f).now a.toNat s }, Q := addSecs st.Q f ((a.toNat / 64 : Nat) : Int) ((a.toNat + s.size - 1) / 64 - a.toNat / 64 + 1) }
  else st

/-- Whether the pending sector number i survives. -/
def surv (K : List Int) (i : Nat) : Bool := !K.isEmpty && K[i % K.length]?.getD 0 % 2 == 1
def crashStep (K : List Int) (i : Nat) (F : Int → File) (p : Int × Int) : Int → File :=
  if surv K i = true ∧ p.2 * 64 < ((F p.1).now.size : Int) then
    updF F p.1 ⟨(F p.1).now, putB (F p.1).last (p.2 * 64).toNat ((F p.1).now.extract (p.2 * 64).toNat (min ((p.2 * 64).toNat + 64) (F p.1).now.size))⟩
  else F
def crashTo (K : List Int) (Q : List (Int × Int)) (F : Int → File) : Nat → Int → File
  | 0 => F
  | k + 1 => crashStep K k (crashTo K Q F k) (Q[k]?.getD (0, 0))
def lastF (F : Int → File) : Int → File := fun f => ⟨(F f).last, (F f).last⟩
def crashS (st : DS) (K : List Int) : DS := if st.down then st else ⟨lastF (crashTo K st.Q st.F st.Q.length), [], st.lost, true, 0⟩

def settleS (st : DS) (f : Int) (s : ByteArray) : DS := { st with F := updF st.F f ⟨s, s⟩, Q := st.Q.filter (fun p => p.1 != f) }
/-- A call that may end the machine. -/
def endS (st : DS) (K : List Int) : DS := if endsB st then crashS (endsS st) K else endsS st
def writeCode (st : DS) (f a : Int) (s : ByteArray) : Int := if endsB st then 9 else wrCode (endsS st) f a s
def writeS (st : DS) (K : List Int) (f a : Int) (s : ByteArray) : DS := if endsB st then crashS (wrS (endsS st) f a s) K else wrS (endsS st) f a s
def syncCode (st : DS) (K : List Int) (f : Int) : Int := if mayCode (endS st K) f ≠ 0 then mayCode (endS st K) f else if 0 < st.lost then 10 else 0
def syncS (st : DS) (K : List Int) (f : Int) : DS :=
  let x := endS st K
  if mayCode x f ≠ 0 then x else if 0 < x.lost then { x with lost := x.lost - 1 } else settleS x f (x.F f).now
def truncCode (st : DS) (K : List Int) (f z : Int) : Int := if mayCode (endS st K) f ≠ 0 then mayCode (endS st K) f else if z < 0 ∨ (((endS st K).F f).now.size : Int) < z then 1 else 0
def truncS (st : DS) (K : List Int) (f z : Int) : DS :=
  let x := endS st K
  if mayCode x f ≠ 0 then x else if z < 0 ∨ ((x.F f).now.size : Int) < z then x else settleS x f ((x.F f).now.extract 0 z.toNat)

end Go.Proofs.Ytmikjninonpejaa

/- Contracts of package disk: put. -/
namespace Go.Proofs.Ytmikjninonpejaa
open Go.RowKit Go.Proofs.YtmikjninonpejaaMem
open Go.Lib (byteCells byteCells_length byteCells_append)

theorem Try.underlying119 : Try.prog.underlying 119 = some (.slice 5) := by kernel_rfl
theorem Try.underlying5 : Try.prog.underlying 5 = some (.int .u8) := by kernel_rfl
theorem Try.info5 : (Try.prog.info? 5).map (fun i => (i.zero, i.size, i.bytes)) = some (some (.int .u8 0), 1, 1) := by kernel_rfl

theorem put_empty (s : ByteArray) (a : Int) (w : World) :
    Calls Try.prog 79 #[.string s, .int .i64 a, .string ⟨#[]⟩] w fun e w' => e = .returned (.string s) ∧ w = w' := by
  go_enter Try.func79, Try.ntmps79
  go_wp2_with fail
  go_ret
  exact ⟨rfl, rfl⟩

set_option maxRecDepth 100000 in
/-- The runs of put's four steps on memory. -/
theorem put_runs (s t : ByteArray) (a n : Nat) (w : World) (hs : s.size ≤ n) (ha : a + t.size ≤ n) (hn : n ≤ 40000000) :
    ∃ r0 r1 r2 : Array Value, (Instr.makeSlice 119 (.int .i64 n) (.int .i64 n)).run Try.prog w = .ok (.slice (some ⟨w.heap.size, 0, none⟩) n n) (w.alloc (.cells r0 5)) ∧
      (∀ ty, (Builtin.copy_ #[119, 9] ty #[.slice (some ⟨w.heap.size, 0, none⟩) n n, .string s]).run Try.prog (w.alloc (.cells r0 5)) = .ok (.int .i64 s.size) (w.alloc (.cells r1 5))) ∧
      (∀ ty, (Builtin.copy_ #[119, 9] ty #[.slice (some ⟨w.heap.size, a, none⟩) (n - a) (n - a), .string t]).run Try.prog (w.alloc (.cells r1 5)) = .ok (.int .i64 t.size) (w.alloc (.cells r2 5))) ∧
      (convert 119 9 (.slice (some ⟨w.heap.size, 0, none⟩) n n)).run Try.prog (w.alloc (.cells r2 5)) = .ok (.string ⟨(putRow n s a t).toArray⟩) (w.alloc (.cells r2 5)) := by
  obtain ⟨i0, hi, hz0, hz1, hz2⟩ := info_parts Try.info5
  have hsl : s.data.toList.length = s.size := by simp
  have htl : t.data.toList.length = t.size := by simp
  have hinf : (Try.prog.info? 5).map (·.size) = some 1 := by rw [hi]; simp [hz1]
  have e0 : (madeCells (Value.cells (.int .u8 0)) (n * i0.size)).toList = byteCells (List.replicate n 0) := by
    rw [hz1]
    apply List.ext_getElem
    · simp [size_madeCells, byteCells_length]
    · intro j h1 h2
      simp [madeCells, byteCells, Value.cells, Nat.mod_one]
  refine ⟨(byteCells (List.replicate n 0)).toArray, (byteCells (padded n s)).toArray, (byteCells (putRow n s a t)).toArray, ?_, fun ty => ?_, fun ty => ?_, ?_⟩
  · have := run_make (P := Try.prog) w 119 5 i0 _ Try.underlying119 hi hz0 .i64 .i64 (n : Int) (n : Int) (by omega) (Int.le_refl _) (by rw [hz2]; omega) (by omega)
    rw [this]
    simp only [Int.toNat_natCast]
    rw [← e0]
  · have := Lib.run_copy_row_string (P := Try.prog) (w.alloc (.cells (byteCells (List.replicate n 0)).toArray 5)) 119 9 ty 5 w.heap.size 0 n n s _ 5 Try.underlying119 hinf (heap_alloc_here _ _) hs (by simp [byteCells_length]; omega)
    rw [this, World.setRow_alloc_new]
    congr 3
    simp [padded, byteCells]
  · have := Lib.run_copy_row_string (P := Try.prog) (w.alloc (.cells (byteCells (padded n s)).toArray 5)) 119 9 ty 5 w.heap.size a (n - a) (n - a) t _ 5 Try.underlying119 hinf (heap_alloc_here _ _) (by omega) (by simp [byteCells_length, padded_length hs]; omega)
    rw [this, World.setRow_alloc_new]
    congr 3
    simp [putRow, byteCells, List.map_take, List.map_drop]
  · have hl := putRow_length (t := t) hs ha
    have := run_convert_bytes_back (P := Try.prog) (w.alloc (.cells (byteCells (putRow n s a t)).toArray 5)) 119 9 5 ⟨w.heap.size, 0, none⟩ n (putRow n s a t) Try.underlying119 Try.underlying5 Try.underlying9 (fun j hj => by
      have e : ((⟨w.heap.size, 0, none⟩ : Addr).add j) = ⟨w.heap.size, j, none⟩ := by unfold Addr.add; split <;> simp_all
      rw [e, cell_at (heap_alloc_here _ _)]
      simp [byteCells, hj])
    rw [hl] at this
    exact this

set_option maxHeartbeats 400000 in
set_option maxRecDepth 100000 in
theorem put_some (s t : ByteArray) (a : Nat) (w : World) (ht : 0 < t.size) (hs : s.size ≤ 20000000) (ha : a + t.size ≤ 20000000) :
    Calls Try.prog 79 #[.string s, .int .i64 a, .string t] w fun e w' => e = .returned (.string (putB s a t)) ∧ Turns [] w w' := by
  have hemp : t.toList.isEmpty = false := by
    rw [ByteArray.toList_eq]
    cases h : t.data.toList
    · have : t.data.toList.length = t.size := by simp
      rw [h] at this; simp at this; omega
    · rfl
  have hput : putB s a t = ⟨(putRow (max s.size (a + t.size)) s a t).toArray⟩ := by rw [putB, if_neg (by omega)]
  rw [hput]
  clear hput
  by_cases hm : s.size < a + t.size
  · rw [Nat.max_eq_right (Nat.le_of_lt hm)]
    obtain ⟨r0, r1, r2, h0, h1, h2, h3⟩ := put_runs s t a (a + t.size) w (Nat.le_of_lt hm) (Nat.le_refl _) (by omega)
    have hmi : (s.size : Int) < (a : Int) + (t.size : Int) := by omega
    have hc : ((a + t.size : Nat) : Int) = (a : Int) + (t.size : Int) := by omega
    rw [hc] at h0
    rw [Nat.add_sub_cancel_left] at h2
    have h5 : (a : Int) ≤ (a : Int) + (t.size : Int) := by omega
    have h6 : ¬ t.size = 0 := by omega
    clear hm hc hs
    go_enter Try.func79, Try.ntmps79
    go_wp2_with fail
    go_ret
    exact ⟨rfl, Turns.alloc _ _ _⟩
  · rw [Nat.max_eq_left (by omega)]
    obtain ⟨r0, r1, r2, h0, h1, h2, h3⟩ := put_runs s t a s.size w (Nat.le_refl _) (by omega) (by omega)
    have hmi : ¬ (s.size : Int) < (a : Int) + (t.size : Int) := by omega
    have hmj : (a : Int) + (t.size : Int) ≤ (s.size : Int) := by omega
    have h5 : (a : Int) ≤ (s.size : Int) := by omega
    have h6 : ¬ s.size = a := by omega
    have h7 : ¬ a = s.size := by omega
    go_enter Try.func79, Try.ntmps79
    go_wp2_with fail
    go_ret
    exact ⟨rfl, Turns.alloc _ _ _⟩

theorem put_any (s t : ByteArray) (a : Nat) (w : World) (hs : s.size ≤ 20000000) (ha : a + t.size ≤ 20000000) :
    Calls Try.prog 79 #[.string s, .int .i64 a, .string t] w fun e w' => e = .returned (.string (putB s a t)) ∧ Turns [] w w' := by
  by_cases ht : t.size = 0
  · have e : t = ⟨#[]⟩ := by
      obtain ⟨d⟩ := t
      have : d.size = 0 := ht
      rw [Array.size_eq_zero_iff.1 this]
    subst e
    rw [putB, if_pos ht]
    exact (put_empty s a w).mono fun _ _ ⟨h1, h2⟩ => ⟨h1, h2 ▸ Turns.refl _ _⟩
  · exact put_some s t a w (by omega) hs ha

end Go.Proofs.Ytmikjninonpejaa

/- Plain: the disk's two maps, said by functions. -/
namespace Go.Proofs.Ytmikjninonpejaa
open Go.RowKit Go.Proofs.YtmikjninonpejaaMem Go.Maps

def File.val (x : File) : Value := .agg #[.string x.now, .string x.last]
def File.datum (x : File) : DataW Unit := .agg [.lit (.string x.now.data.toList), .lit (.string x.last.data.toList)]
theorem File.datum_inj {x y : File} (h : x.datum = y.datum) : x = y := by
  obtain ⟨⟨⟨a⟩⟩, ⟨⟨b⟩⟩⟩ := x
  obtain ⟨⟨⟨c⟩⟩, ⟨⟨d⟩⟩⟩ := y
  simp [File.datum] at h
  obtain ⟨rfl, rfl⟩ := h
  rfl
def fileR (v : Value) : Option (DataW Unit × List MemPlace) :=
  match v with
  | .agg ⟨[.string a, .string b]⟩ => some (File.datum ⟨a, b⟩, [])
  | _ => none
theorem fileR_val (x : File) : fileR x.val = some (x.datum, []) := rfl
theorem fileR_inv {v : Value} {x : File} {ps : List MemPlace} (h : fileR v = some (x.datum, ps)) : v = x.val := by
  unfold fileR at h
  split at h
  · rename_i a b
    simp only [Option.some.injEq, Prod.mk.injEq] at h
    have := File.datum_inj (x := ⟨a, b⟩) h.1
    subst this
    rfl
  · cases h

theorem Try.underlying86 : Try.prog.underlying 86 = some (.map 3 96) := by kernel_rfl
theorem Try.underlying87 : Try.prog.underlying 87 = some (.map 103 4) := by kernel_rfl
theorem Try.keyed3 : Keyed Try.prog 3 := int_keyed Try.underlying3
theorem Try.zero96 (w : World) : (zeroValue 96).run Try.prog w = .ok noFile.val w := by kernel_rfl

/-- Block b is a map from numbers to files: what it holds, as a function; at most n entries. -/
def FilesAt (w : World) (b n : Nat) (F : Int → File) : Prop := ∃ D : DataW Unit, w.ownsMap Try.prog 3 fileR b n D ∧ IsMap D ∧ ∀ f : Int, (Lit.int .i64 f).wf = true → D.atKey (.int .i64 f) noFile.datum = (F f).datum

theorem FilesAt.made (w : World) : FilesAt (w.alloc (.map #[] 0)) w.heap.size 0 (fun _ => noFile) := ⟨_, World.ownsMap_made _ _ _ _, isMap_empty, fun _ _ => rfl⟩
theorem FilesAt.look {w : World} {b n : Nat} {F : Int → File} (h : FilesAt w b n F) (f : Int) (hf : (Lit.int .i64 f).wf = true) :
    (Instr.lookup 86 (.map (some b)) (.int .i64 f) false).run Try.prog w = .ok (F f).val w := by
  obtain ⟨D, ho, _, hD⟩ := h
  obtain ⟨v, ps, hr, hv⟩ := ho.lookup Try.keyed3 Try.underlying86 (Try.zero96 w) (fileR_val noFile) (keyOf_int_mk Try.underlying3 hf)
  rw [hD f hf] at hv
  rw [hr, fileR_inv hv]
theorem FilesAt.store {w : World} {b n : Nat} {F : Int → File} (h : FilesAt w b n F) (hn : n < maxLen) (f : Int) (hf : (Lit.int .i64 f).wf = true) (x : File) :
    ∃ w', (Instr.mapUpdate 86 (.map (some b)) (.int .i64 f) x.val).run Try.prog w = .ok () w' ∧ FilesAt w' b (n + 1) (updF F f x) ∧ w.grownBy w' (some b) := by
  obtain ⟨D, ho, hm, hD⟩ := h
  obtain ⟨w', hr, ho', hg⟩ := ho.update Try.keyed3 Try.underlying86 hn (keyOf_int_mk Try.underlying3 hf) (fileR_val x)
  refine ⟨w', hr, ⟨_, ho', hm.put _ _, fun g hg => ?_⟩, hg⟩
  unfold updF
  split
  · rename_i e
    subst e
    exact atKey_put_same hm (Try.keyed3.key (keyOf_int_mk Try.underlying3 hf)) _ _
  · rename_i e
    rw [atKey_put_other (by intro e1; exact e (by simpa using e1))]
    exact hD g hg
theorem FilesAt.lt {w : World} {b n : Nat} {F : Int → File} (h : FilesAt w b n F) : b < w.heap.size := h.elim fun _ h => h.1.lt
theorem FilesAt.kept {w w' : World} {b n : Nat} {F : Int → File} {S : List Nat} (h : FilesAt w b n F) (ht : Turns S w w') (hb : b ∉ S) : FilesAt w' b n F := by
  obtain ⟨D, ho, hm, hD⟩ := h
  have hlt := ho.lt
  obtain ⟨es, clock, hb', F', hs, hDe⟩ := ho
  exact ⟨D, ⟨es, clock, (ht.block b hlt hb).trans hb', F', hs, hDe⟩, hm, hD⟩

end Go.Proofs.Ytmikjninonpejaa

/- Plain: a store at a key that is there, into the map that is ranged over. -/
namespace Go.Proofs.YtmikjninonpejaaMem
open Go Go.ChangeMaps Go.MapKept Go.WideShapes Go.Maps
open Go.WideElems (Fit rd rg pl rd_key rd_val rg_of rd_mk other_key)

section
variable {H : Type} {P : Program} {k : TypeId} {R : Value → Option (DataW H × List MemPlace)} {w : World} {b r n : Nat} {D : DataW H} {left : Lit → Bool} {cnt : Nat}

theorem leftOf_size (es : Array MapEntry) (seen : Array Nat) : (leftOf es seen).size = (es.toList.map (·.born)).countP (fun x => !seen.contains x) := by
  unfold leftOf
  rw [← Array.length_toList, Array.toList_filter, List.countP_map, List.countP_eq_length_filter]
  rfl

/-- 'm[k] = v' IN THE ROUND, k A KEY THAT IS THERE. -/
theorem ranges_store {t e : TypeId} (h : w.ranges P k R b r n D left cnt) (K : Keyed P k) (ht : P.underlying t = some (.map k e)) (hn : n < maxLen) {key val : Value} {kl : Lit} {yv : DataW H × List MemPlace}
    (hkey : keyOf P k key = some kl) (hv : R val = some yv) (hin : Maps.has D kl = true) :
    ∃ w', (Instr.mapUpdate t (.map (some b)) key val).run P w = .ok () w' ∧ w'.ranges P k R b r n (D.put kl yv.1) left cnt ∧ w.grownBy w' (some b) := by
  have hne := h.ne
  obtain ⟨es, clock, since, seen, c0, hb, F, hs, rfl, hr, hold, rfl, hl1, hl2, hsc, hsk⟩ := h
  obtain ⟨es', clock', hrun, F', hput, -, -, -⟩ := Maps.fit_store (R' := R) K ht hb F (Nat.lt_of_le_of_lt hs hn) (fun _ _ _ _ hz => hz) hkey hv
  rcases K.find w hkey es.toList F.keys with ⟨h1, h2⟩ | ⟨j, e0, h1, h2, h3⟩
  · exfalso
    obtain ⟨p, hp, hpk⟩ := List.any_eq_true.1 hin
    obtain ⟨x, hx, rfl⟩ := List.mem_map.1 (mem_sorted.1 hp)
    obtain ⟨y, hy⟩ := F.reads x hx
    have hk1 := rd_key hy
    have e1 := WideAt.sameKey_eq hpk
    rw [rg_of hy] at e1
    rw [e1] at hk1
    exact h2 x hx (K.inj hk1 hkey)
  · have hj : es[j]? = some e0 := by simpa using h2
    have hrun2 : (Instr.mapUpdate t (.map (some b)) key val).run P w = .ok () (setBlock w b (.map (es.modify j (fun e' => { e' with key := key, val := val })) clock)) := by
      simp [Instr.mapUpdate, run_underlying ht, MapKept.run_getObj_map hb, K.check w false hkey, h1, hj, h3, K.stays w hkey, MapKept.run_setObj_map _ hb, Result.andThen, setBlock]
    rw [hrun2] at hrun
    have hw : setBlock w b (.map (es.modify j (fun e' => { e' with key := key, val := val })) clock) = setBlock w b (.map es' clock') := by
      simpa using hrun
    have ho : some (Obj.map (es.modify j (fun e' => { e' with key := key, val := val })) clock) = some (Obj.map es' clock') := by
      rw [← heap_setBlock_same hb (.map (es.modify j (fun e' => { e' with key := key, val := val })) clock), ← heap_setBlock_same hb (.map es' clock'), hw]
    simp only [Option.some.injEq, Obj.map.injEq] at ho
    obtain ⟨he, hc⟩ := ho
    subst hc
    have hlist : es'.toList = es.toList.set j { e0 with key := key, val := val } := by rw [← he, Array.toList_modify, modify_eq_set _ _ _ _ h2]
    have hjl : j < es.toList.length := (List.getElem?_eq_some_iff.1 h2).1
    have hmem0 : e0 ∈ es.toList := List.mem_of_getElem? h2
    have hrg : (rg P k R { e0 with key := key, val := val }).1 = (rg P k R e0).1 := by
      obtain ⟨y, hy⟩ := F.reads e0 hmem0
      have h5 := rd_key hy
      rw [h3, hkey] at h5
      rw [rg_of (rd_mk hkey hv), rg_of hy]
      exact Option.some.inj h5
    have who : ∀ x ∈ es'.toList, x.born = e0.born ∧ (rg P k R x).1 = (rg P k R e0).1 ∨ x ∈ es.toList := by
      intro x hx
      rw [hlist] at hx
      rcases List.mem_or_eq_of_mem_set hx with hx | rfl
      · exact Or.inr hx
      · exact Or.inl ⟨rfl, hrg⟩
    have hborn : es'.toList.map (·.born) = es.toList.map (·.born) := by
      have hje : es.toList[j] = e0 := (List.getElem?_eq_some_iff.1 h2).2
      rw [hlist, List.map_set]
      refine List.ext_getElem (by simp) fun i hi1 hi2 => ?_
      rw [List.getElem_set]
      split
      · rename_i hij
        subst hij
        rw [List.getElem_map, hje]
      · rfl
    refine ⟨_, hrun2, ?_, ⟨rfl, rfl, rfl, by simp [setBlock], fun i _ hi => heap_setBlock_other hb _ (fun e => hi (by rw [e]))⟩⟩
    rw [he]
    refine ⟨es', clock, since, seen, c0, heap_setBlock_same hb _, F', ?_, by rw [DataW.put_eq, hput], (heap_setBlock_other hb _ hne).trans hr, fun x hx => ?_, ?_, fun x hx => ?_, fun k' hk' => ?_, hsc, hsk⟩
    · rw [← he]; simpa using hs
    · rcases who x hx with ⟨hx1, _⟩ | hx
      · rw [hx1]; exact hold e0 hmem0
      · exact hold x hx
    · rw [leftOf_size, leftOf_size, hborn]
    · rcases who x hx with ⟨hx1, hx2⟩ | hx
      · rw [hx1, hx2]; exact hl1 e0 hmem0
      · exact hl1 x hx
    · obtain ⟨x, hx, hxk⟩ := hl2 k' hk'
      obtain ⟨i, hi⟩ := List.getElem?_of_mem hx
      by_cases hij : j = i
      · subst hij
        rw [h2] at hi
        cases hi
        refine ⟨{ e0 with key := key, val := val }, ?_, by rw [hrg, hxk]⟩
        rw [hlist]
        exact List.mem_of_getElem? (i := j) (by rw [List.getElem?_set_self hjl])
      · refine ⟨x, ?_, hxk⟩
        rw [hlist]
        exact List.mem_of_getElem? (i := i) (by rw [List.getElem?_set_ne hij]; exact hi)

end
end Go.Proofs.YtmikjninonpejaaMem

/- Plain: ranging over the disk's files. -/
namespace Go.Proofs.Ytmikjninonpejaa
open Go.RowKit Go.Proofs.YtmikjninonpejaaMem Go.Maps

theorem ranges_has {H : Type} {P : Program} {k : TypeId} {R : Value → Option (DataW H × List MemPlace)} {w : World} {b r n : Nat} {D : DataW H} {left : Lit → Bool} {cnt : Nat} (h : w.ranges P k R b r n D left cnt) (K : Keyed P k)
    {kl : Lit} (hl : left kl = true) : Maps.has D kl = true := by
  obtain ⟨es, clock, since, seen, c0, hb, F, hs, rfl, hr, hold, rfl, hl1, hl2, hsc, hsk⟩ := h
  obtain ⟨x, hx, rfl⟩ := hl2 kl hl
  obtain ⟨y, hy⟩ := F.reads x hx
  exact List.any_eq_true.2 ⟨_, mem_sorted.2 (List.mem_map.2 ⟨x, hx, rfl⟩), WideAt.sameKey_self (by rw [Go.WideElems.rg_of hy]; exact K.key (Go.WideElems.rd_key hy))⟩
theorem key_int {v : Value} {kl : Lit} (h : keyOf Try.prog 3 v = some kl) : ∃ f : Int, v = .int .i64 f ∧ kl = .int .i64 f ∧ (Lit.int .i64 f).wf = true := by
  cases v <;> simp [keyOf, mapKey, Try.underlying3] at h
  obtain ⟨⟨rfl, hw⟩, rfl⟩ := h
  exact ⟨_, rfl, rfl, hw⟩
theorem same_int (f g : Int) (hf : (Lit.int .i64 f).wf = true) : (Lit.int .i64 g).sameKey (.int .i64 f) = (g == f) := by
  cases h : (g == f)
  · refine sameKey_ne (fun e => ?_)
    simp at e h
    exact h e
  · simp at h
    subst h
    exact WideAt.sameKey_self (Try.keyed3.key (keyOf_int_mk Try.underlying3 hf))

/-- Block r is an iterator over the files' map b; here: the keys that are there; left: those still to come. -/
def FRange (w : World) (b r n : Nat) (F : Int → File) (left here : Int → Bool) (cnt : Nat) : Prop :=
  ∃ (D : DataW Unit) (lf : Lit → Bool), w.ranges Try.prog 3 fileR b r n D lf cnt ∧ IsMap D ∧ (∀ f : Int, (Lit.int .i64 f).wf = true → D.atKey (.int .i64 f) noFile.datum = (F f).datum ∧ Maps.has D (.int .i64 f) = here f) ∧
    ∀ f : Int, (Lit.int .i64 f).wf = true → lf (.int .i64 f) = left f

theorem FilesAt.range {w : World} {b n : Nat} {F : Int → File} (h : FilesAt w b n F) :
    ∃ w' here cnt, (Instr.range 86 (.map (some b))).run Try.prog w = .ok (.pointer (some ⟨w.heap.size, 0, none⟩)) w' ∧ FRange w' b w.heap.size n F here here cnt ∧ (∀ f : Int, (Lit.int .i64 f).wf = true → here f = false → F f = noFile) ∧ Turns [] w w' := by
  obtain ⟨D, ho, hm, hD⟩ := h
  obtain ⟨w', hr, hra, hg, -⟩ := ho.range Try.keyed3 Try.underlying86
  refine ⟨w', fun f => Maps.has D (.int .i64 f), _, hr, ⟨D, _, hra, hm, fun f hf => ⟨hD f hf, rfl⟩, fun _ _ => rfl⟩, fun f hf hh => ?_, Turns.of_grown hg (by simp)⟩
  have := hD f hf
  rw [atKey_of_not_has hh] at this
  exact (File.datum_inj this).symm
theorem FRange.files {w : World} {b r n cnt : Nat} {F : Int → File} {left here : Int → Bool} (h : FRange w b r n F left here cnt) : FilesAt w b n F := by
  obtain ⟨D, lf, hr, hm, hD, _⟩ := h
  exact ⟨D, hr.owns, hm, fun f hf => (hD f hf).1⟩
theorem FRange.left_eq {w : World} {b r n cnt : Nat} {F : Int → File} {left here : Int → Bool} (h : FRange w b r n F left here cnt) : w.rangeLeft b r = cnt := by
  obtain ⟨D, lf, hr, _⟩ := h
  exact hr.left_eq
theorem FRange.ne {w : World} {b r n cnt : Nat} {F : Int → File} {left here : Int → Bool} (h : FRange w b r n F left here cnt) : r ≠ b ∧ r < w.heap.size := by
  obtain ⟨D, lf, hr, _⟩ := h
  exact ⟨hr.ne, hr.lt⟩
theorem FRange.next {w : World} {b r n cnt : Nat} {F : Int → File} {left here : Int → Bool} (h : FRange w b r n F left here cnt) (ty : TypeId) :
    ((∀ f : Int, (Lit.int .i64 f).wf = true → left f = false) ∧ (Instr.next (.pointer (some ⟨r, 0, none⟩)) false ty).run Try.prog w = .ok (.tuple #[.bool false]) w) ∨
    ∃ (f : Int) (w' : World) (cnt' : Nat), (Lit.int .i64 f).wf = true ∧ left f = true ∧ here f = true ∧ (Instr.next (.pointer (some ⟨r, 0, none⟩)) false ty).run Try.prog w = .ok (.tuple #[.bool true, .int .i64 f, (F f).val]) w' ∧
      FRange w' b r n F (fun g => left g && !(g == f)) here cnt' ∧ cnt' < cnt ∧ Turns [r] w w' ∧ w'.heap.size = w.heap.size ∧ (Instr.entry (.pointer (some ⟨r, 0, none⟩))).run Try.prog w' = .ok (.tuple #[.int .i64 f, (F f).val]) w' := by
  obtain ⟨D, lf, hr, hm, hD, hl⟩ := h
  rcases hr.next Try.keyed3 ty with ⟨_, h1, h2⟩ | ⟨key, v, kl, y, w', cnt', hk, hlk, hv, hat, hrun, hra, hlt, hg, hsz, hent⟩
  · exact Or.inl ⟨fun f hf => by rw [← hl f hf]; exact h1 _, h2⟩
  · obtain ⟨f, rfl, rfl, hf⟩ := key_int hk
    have hy : y = ((F f).datum, y.2) := by
      rw [← (hD f hf).1, hat]
    rw [hy] at hv
    have hv' := fileR_inv hv
    subst hv'
    refine Or.inr ⟨f, w', cnt', hf, by rw [← hl f hf]; exact hlk, by rw [← (hD f hf).2]; exact ranges_has hr Try.keyed3 hlk, hrun, ⟨D, _, hra, hm, hD, fun g hg => ?_⟩, hlt, Turns.of_grown hg (by simp), hsz, hent⟩
    show (lf _ && !_) = _
    rw [hl g hg, same_int f g hf]
theorem FRange.store {w : World} {b r n cnt : Nat} {F : Int → File} {left here : Int → Bool} (h : FRange w b r n F left here cnt) (hn : n < maxLen) (f : Int) (hf : (Lit.int .i64 f).wf = true) (hh : here f = true) (x : File) :
    ∃ w', (Instr.mapUpdate 86 (.map (some b)) (.int .i64 f) x.val).run Try.prog w = .ok () w' ∧ FRange w' b r n (updF F f x) left here cnt ∧ Turns [b] w w' := by
  obtain ⟨D, lf, hr, hm, hD, hl⟩ := h
  have hkl := keyOf_int_mk Try.underlying3 hf
  obtain ⟨w', hrun, hra, hg⟩ := ranges_store hr Try.keyed3 Try.underlying86 hn hkl (fileR_val x) (by rw [(hD f hf).2]; exact hh)
  refine ⟨w', hrun, ⟨_, lf, hra, hm.put _ _, fun g hg => ?_, hl⟩, Turns.of_grown hg (by simp)⟩
  unfold updF
  split
  · rename_i e
    subst e
    exact ⟨atKey_put_same hm (Try.keyed3.key hkl) _ _, by rw [has_put_same hm (Try.keyed3.key hkl)]; exact hh.symm⟩
  · rename_i e
    have hne : Lit.int .i64 g ≠ Lit.int .i64 f := by intro e1; exact e (by simpa using e1)
    rw [atKey_put_other hne, has_put_other hne]
    exact hD g hg

end Go.Proofs.Ytmikjninonpejaa

/- Plain: the disk's set of pending sectors. -/
namespace Go.Proofs.Ytmikjninonpejaa
open Go.RowKit Go.Proofs.YtmikjninonpejaaMem Go.Maps

theorem Try.laid : laidOutB Try.prog = true := by kernel_rfl
theorem Try.row103 : (103 : TypeId) < Try.prog.types.size := of_decide_eq_true (by kernel_rfl)
theorem Try.wide103 : (match Try.prog.underlying 103 with | some (.array _ _) | some (.struct _) => true | _ => false) = true := by kernel_rfl
set_option maxRecDepth 100000 in
theorem Try.keyed103 : Keyed Try.prog 103 := Keyed.of_law (deep_law_laid Try.laid (m := 2) (by omega) Try.row103 (by kernel_rfl) Try.wide103)
theorem Try.keyType103 : Try.prog.keyType 103 = true := by kernel_rfl
theorem Try.cells103 : Try.prog.cellsOf 103 = 2 := by kernel_rfl
theorem Try.cells3 : Try.prog.cellsOf 3 = 1 := by kernel_rfl
theorem Try.types2 : ∃ d, Try.prog.types.size + 1 = d + 2 := ⟨Try.prog.types.size - 1, by have h : 0 < Try.prog.types.size := of_decide_eq_true (by kernel_rfl); omega⟩
theorem Try.zero4 (w : World) : (zeroValue 4).run Try.prog w = .ok (.bool false) w := by kernel_rfl

def secVal (f m : Int) : Value := .agg #[.int .i64 f, .int .i64 m]
theorem sec_key {f m : Int} (hf : (Lit.int .i64 f).wf = true) (hm : (Lit.int .i64 m).wf = true) : ∃ kl, keyOf Try.prog 103 (secVal f m) = some kl := by
  obtain ⟨d, hd⟩ := Try.types2
  refine ⟨.string (keyBytes [.int .i64 f, .int .i64 m]), ?_⟩
  have h3 : ∀ a : Int, (Lit.int .i64 a).wf = true → Try.prog.keyLits (d + 1) 3 [.int .i64 a] = some [.int .i64 a] := fun a ha => by
    simp [Program.keyLits, Try.underlying3, ha]
  have h103 : Try.prog.keyLits (d + 2) 103 [.int .i64 f, .int .i64 m] = some [.int .i64 f, .int .i64 m] := by
    unfold Program.keyLits
    simp [Try.underlying103, Try.cells103, Try.cells3, h3 f hf, h3 m hm]
  simp only [keyOf, Try.underlying103, Try.keyType103, secVal, Value.formed, Value.cells, hd, h103]
  simp [Try.cells103]

/-- Block b is a set of sectors; at most n of them. -/
def SetAt (w : World) (b n : Nat) (S : Int → Int → Bool) : Prop :=
  ∃ D : DataW Unit, w.ownsMap Try.prog 103 (plainElem Try.prog 4) b n D ∧ IsMap D ∧ ∀ (f m : Int) (kl : Lit), keyOf Try.prog 103 (secVal f m) = some kl → D.atKey kl (.lit (.bool false)) = .lit (.bool (S f m))
def updS (S : Int → Int → Bool) (f m : Int) : Int → Int → Bool := fun g k => if g = f ∧ k = m then true else S g k

set_option maxRecDepth 100000 in
theorem bool_inv {v : Value} {x : Bool} {ps : List MemPlace} (h : plainElem (H := Unit) Try.prog 4 v = some (.lit (.bool x), ps)) : v = .bool x := by
  unfold plainElem at h
  rw [Try.underlying4] at h
  cases v <;> simp at h
  rw [h.1]
theorem SetAt.made (w : World) : SetAt (w.alloc (.map #[] 0)) w.heap.size 0 (fun _ _ => false) := ⟨_, World.ownsMap_made _ _ _ _, isMap_empty, fun _ _ _ _ => rfl⟩
theorem SetAt.look {w : World} {b n : Nat} {S : Int → Int → Bool} (h : SetAt w b n S) (f m : Int) (hf : (Lit.int .i64 f).wf = true) (hm : (Lit.int .i64 m).wf = true) :
    (Instr.lookup 87 (.map (some b)) (secVal f m) false).run Try.prog w = .ok (.bool (S f m)) w := by
  obtain ⟨D, ho, _, hD⟩ := h
  obtain ⟨kl, hk⟩ := sec_key hf hm
  obtain ⟨v, ps, hr, hv⟩ := ho.lookup Try.keyed103 Try.underlying87 (Try.zero4 w) (plainElem_bool Try.underlying4 false) hk
  rw [hD f m kl hk] at hv
  rw [hr, bool_inv hv]
theorem SetAt.store {w : World} {b n : Nat} {S : Int → Int → Bool} (h : SetAt w b n S) (hn : n < maxLen) (f m : Int) (hf : (Lit.int .i64 f).wf = true) (hm : (Lit.int .i64 m).wf = true) :
    ∃ w', (Instr.mapUpdate 87 (.map (some b)) (secVal f m) (.bool true)).run Try.prog w = .ok () w' ∧ SetAt w' b (n + 1) (updS S f m) ∧ Turns [b] w w' := by
  obtain ⟨D, ho, hD0, hD⟩ := h
  obtain ⟨kl, hk⟩ := sec_key hf hm
  obtain ⟨w', hr, ho', hg⟩ := ho.update Try.keyed103 Try.underlying87 hn hk (plainElem_bool Try.underlying4 true)
  refine ⟨w', hr, ⟨_, ho', hD0.put _ _, fun g j kj hj => ?_⟩, Turns.of_grown hg (by simp)⟩
  unfold updS
  split
  · rename_i e
    obtain ⟨rfl, rfl⟩ := e
    rw [hk] at hj
    obtain rfl := Option.some.inj hj
    exact atKey_put_same hD0 (Try.keyed103.key hk) _ _
  · rename_i e
    rw [atKey_put_other]
    · exact hD g j kj hj
    · rintro rfl
      have := Try.keyed103.inj hj hk
      simp [secVal] at this
      exact e this
theorem SetAt.lt {w : World} {b n : Nat} {S : Int → Int → Bool} (h : SetAt w b n S) : b < w.heap.size := h.elim fun _ h => h.1.lt
theorem SetAt.kept {w w' : World} {b n : Nat} {S : Int → Int → Bool} {T : List Nat} (h : SetAt w b n S) (ht : Turns T w w') (hb : b ∉ T) : SetAt w' b n S := by
  obtain ⟨D, ho, hm, hD⟩ := h
  have hlt := ho.lt
  obtain ⟨es, clock, hb', F', hs, hDe⟩ := ho
  exact ⟨D, ⟨es, clock, (ht.block b hlt hb).trans hb', F', hs, hDe⟩, hm, hD⟩

end Go.Proofs.Ytmikjninonpejaa

/- Contracts of package disk: the object, New, Down, Start, Lose, may, Size. -/
namespace Go.Proofs.Ytmikjninonpejaa
open Go.RowKit Go.Proofs.YtmikjninonpejaaMem Go.Maps

def secCells (Q : List (Int × Int)) : List Value := Q.flatMap fun p => [.int .i64 p.1, .int .i64 p.2]

/-- Block b is a disk; FP: the blocks that are its own; N: a bound on the entries of its maps. kv: the slice Keep. -/
def DiskObj (w : World) (b : Nat) (FP : List Nat) (N : Nat) (st : DS) (kv : Value) : Prop :=
  ∃ fb sb qv, w.heap[b]? = some (.cells #[.map (some fb), qv, .map (some sb), .int .i64 st.lost, .bool st.down, .int .i64 st.armed, kv] 90 (0, 0)) ∧ FilesAt w fb N st.F ∧
    SetAt w sb N (fun f m => decide ((f, m) ∈ st.Q)) ∧ w.ownsRow 0 103 2 qv st.Q.length (secCells st.Q) ∧ fb ≠ sb ∧ FP = b :: fb :: sb :: qv.ownBlock.toList

theorem FilesAt.ne {w : World} {b fb n : Nat} {F : Int → File} {cs : Array Value} {t : TypeId} {fr : Nat × Nat} (h : FilesAt w fb n F) (hb : w.heap[b]? = some (.cells cs t fr)) : fb ≠ b := by
  rintro rfl
  obtain ⟨D, ⟨es, clock, hm, _⟩, _⟩ := h
  rw [hb] at hm
  simp at hm
theorem SetAt.ne {w : World} {b sb n : Nat} {S : Int → Int → Bool} {cs : Array Value} {t : TypeId} {fr : Nat × Nat} (h : SetAt w sb n S) (hb : w.heap[b]? = some (.cells cs t fr)) : sb ≠ b := by
  rintro rfl
  obtain ⟨D, ⟨es, clock, hm, _⟩, _⟩ := h
  rw [hb] at hm
  simp at hm
theorem DiskObj.lt {w : World} {b N : Nat} {FP : List Nat} {st : DS} {kv : Value} (h : DiskObj w b FP N st kv) : ∀ x ∈ FP, x < w.heap.size := by
  obtain ⟨fb, sb, qv, hb, hf, hs, hq, _, rfl⟩ := h
  intro x hx
  simp only [List.mem_cons] at hx
  rcases hx with rfl | rfl | rfl | hx
  · exact lt_of_at hb
  · exact hf.lt
  · exact hs.lt
  · exact own_lt hq x hx
theorem DiskObj.kept {w w' : World} {b N : Nat} {FP S : List Nat} {st : DS} {kv : Value} (h : DiskObj w b FP N st kv) (ht : Turns S w w') (hd : ∀ x ∈ FP, x ∉ S) : DiskObj w' b FP N st kv := by
  obtain ⟨fb, sb, qv, hb, hf, hs, hq, hne, rfl⟩ := h
  exact ⟨fb, sb, qv, by rw [ht.block b (lt_of_at hb) (hd b (by simp))]; exact hb, hf.kept ht (hd fb (by simp)), hs.kept ht (hd sb (by simp)), own_kept hq ht (fun x hx => hd x (by simp [hx])), hne, rfl⟩
def diskThing (b N : Nat) (st : DS) (kv : Value) : Thing :=
  ⟨fun w FP => DiskObj w b FP N st kv, fun _ _ h => h.lt, fun _ _ _ _ h ht hd => h.kept ht hd⟩

set_option maxRecDepth 100000 in
theorem disk_new (w : World) : Calls Try.prog 32 #[] w fun e w' => ∃ b FP, e = .returned (.pointer (some ⟨b, 0, none⟩)) ∧ DiskObj w' b FP 0 DS.new (.slice none 0 0) ∧ Turns [] w w' ∧ ∀ x ∈ FP, w.heap.size ≤ x := by
  have hmm := @run_makeMap Try.prog
  go_enter Try.func32, Try.ntmps32
  go_wp2_with fail
  go_ret
  have h2 := heap_alloc_here ((w.alloc (.map #[] 0)).alloc (.map #[] 0)) (.cells #[.map (some w.heap.size), .slice none 0 0, .map (some (w.heap.size + 1)), .int .i64 0, .bool false, .int .i64 0, .slice none 0 0] 90)
  simp only [World.size_alloc] at h2
  refine ⟨w.heap.size + 1 + 1, _, rfl, ⟨w.heap.size, w.heap.size + 1, .slice none 0 0, h2, (FilesAt.made w).kept ((Turns.alloc [] _ _).trans (Turns.alloc [] _ _)) (by simp), ?_, World.ownsRow_nil _ _ _ _, by omega, rfl⟩, ((Turns.alloc [] _ _).trans (Turns.alloc [] _ _)).trans (Turns.alloc [] _ _), ?_⟩
  · have := (SetAt.made (w.alloc (.map #[] 0))).kept (Turns.alloc [] _ (.cells #[.map (some w.heap.size), .slice none 0 0, .map (some (w.heap.size + 1)), .int .i64 0, .bool false, .int .i64 0, .slice none 0 0] 90)) (by simp)
    rw [World.size_alloc] at this
    exact this
  · intro x hx
    simp [Value.ownBlock] at hx
    omega

set_option maxRecDepth 100000 in
theorem disk_down (b N : Nat) (FP : List Nat) (st : DS) (kv : Value) (w : World) (h : DiskObj w b FP N st kv) : Calls Try.prog 36 #[.pointer (some ⟨b, 0, none⟩)] w fun e w' => e = .returned (.bool st.down) ∧ w = w' := by
  obtain ⟨fb, sb, qv, hb, -⟩ := h
  have c4 : w.cell? ⟨b, 4, none⟩ = some (.bool st.down) := cell_at hb 4
  clear hb
  go_enter Try.func36, Try.ntmps36
  go_wp2
  go_ret
  exact ⟨rfl, rfl⟩
set_option maxRecDepth 100000 in
theorem field_now (a b : ByteArray) (w : World) : (Instr.field 96 (.agg #[.string a, .string b]) 0).run Try.prog w = .ok (.string a) w := by kernel_rfl
set_option maxRecDepth 100000 in
theorem field_last (a b : ByteArray) (w : World) : (Instr.field 96 (.agg #[.string a, .string b]) 1).run Try.prog w = .ok (.string b) w := by kernel_rfl
set_option maxRecDepth 100000 in
theorem disk_size (b N : Nat) (FP : List Nat) (st : DS) (kv : Value) (f : Int) (w : World) (h : DiskObj w b FP N st kv) (hf : (Lit.int .i64 f).wf = true) :
    Calls Try.prog 38 #[.pointer (some ⟨b, 0, none⟩), .int .i64 f] w fun e w' => e = .returned (.int .i64 (st.F f).now.size) ∧ w = w' := by
  obtain ⟨fb, sb, qv, hb, hF, -⟩ := h
  have c0 : w.cell? ⟨b, 0, none⟩ = some (.map (some fb)) := cell_at hb 0
  have hl := hF.look f hf
  unfold File.val at hl
  have hfn := field_now
  clear hb
  go_enter Try.func38, Try.ntmps38
  go_wp2
  go_ret
  exact ⟨rfl, rfl⟩
set_option maxRecDepth 100000 in
theorem disk_may (b N : Nat) (FP : List Nat) (st : DS) (kv : Value) (f : Int) (w : World) (h : DiskObj w b FP N st kv) :
    Calls Try.prog 76 #[.pointer (some ⟨b, 0, none⟩), .int .i64 f] w fun e w' => e = .returned (.int .i64 (mayCode st f)) ∧ w = w' := by
  obtain ⟨fb, sb, qv, hb, -⟩ := h
  have c4 : w.cell? ⟨b, 4, none⟩ = some (.bool st.down) := cell_at hb 4
  clear hb
  cases hd : st.down
  · rw [hd] at c4
    by_cases h1 : f < 0
    · have d1 : decide (f < 0) = true := decide_eq_true h1
      rw [show mayCode st f = 1 by simp [mayCode, hd, h1]]
      clear hd
      go_enter Try.func76, Try.ntmps76
      go_wp2
      go_ret
      exact ⟨rfl, rfl⟩
    · have d1 : decide (f < 0) = false := decide_eq_false h1
      by_cases h2 : 16 ≤ f
      · have d2 : decide (16 ≤ f) = true := decide_eq_true h2
        rw [show mayCode st f = 1 by simp [mayCode, hd, h2]]
        clear hd
        go_enter Try.func76, Try.ntmps76
        go_wp2
        go_ret
        exact ⟨rfl, rfl⟩
      · have d2 : decide (16 ≤ f) = false := decide_eq_false h2
        rw [show mayCode st f = 0 by simp [mayCode, hd, h1, h2]]
        clear hd
        go_enter Try.func76, Try.ntmps76
        go_wp2
        go_ret
        exact ⟨rfl, rfl⟩
  · rw [hd] at c4
    rw [show mayCode st f = 9 by simp [mayCode, hd]]
    clear hd
    go_enter Try.func76, Try.ntmps76
    go_wp2
    go_ret
    exact ⟨rfl, rfl⟩

end Go.Proofs.Ytmikjninonpejaa
