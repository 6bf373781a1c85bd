/- Contracts and lemmas (texts DiskA, DiskR, DiskM, DiskN, DiskS, DiskB, DiskC, DiskD, joined by a program). -/
import Derived.Test.YtdcgdnlpagadcaaDoorMc1
import Derived.Laws.MakeOwn
import Derived.Laws.IdiomStrings
import Derived.Deep.WholeRow
import Derived.Lib.BufferWrite
import Derived.Maps.RangeWalk
import Derived.DeepKeys4
/- Contracts of package disk: put. -/
namespace Go.Proofs.YtdcgdnlpagadcaaDoor
open Go.RowKit Go.Proofs.YtdcgdnlpagadcaaDoorMem
open Go.Lib (byteCells byteCells_length byteCells_append)

theorem Tryd.underlying54 : Tryd.prog.underlying 54 = some (.slice 5) := by kernel_rfl
theorem Tryd.underlying5 : Tryd.prog.underlying 5 = some (.int .u8) := by kernel_rfl
theorem Tryd.info5 : (Tryd.prog.info? 5).map (fun i => (i.zero, i.size, i.bytes)) = some (some (.int .u8 0), 1, 1) := by kernel_rfl

theorem put_empty (s : ByteArray) (a : Int) (w : World) :
    Calls Tryd.prog 40 #[.string s, .int .i64 a, .string ⟨#[]⟩] w fun e w' => e = .returned (.string s) ∧ w = w' := by
  go_enter Tryd.func40, Tryd.ntmps40
  go_wp2_with fail
  go_ret
  exact ⟨rfl, rfl⟩

set_option maxRecDepth 100000 in
/-- The runs of put's four steps on memory. -/
theorem put_runs (s t : ByteArray) (a n : Nat) (w : World) (hs : s.size ≤ n) (ha : a + t.size ≤ n) (hn : n ≤ 40000000) :
    ∃ r0 r1 r2 : Array Value, (Instr.makeSlice 54 (.int .i64 n) (.int .i64 n)).run Tryd.prog w = .ok (.slice (some ⟨w.heap.size, 0, none⟩) n n) (w.alloc (.cells r0 5)) ∧
      (∀ ty, (Builtin.copy_ #[54, 9] ty #[.slice (some ⟨w.heap.size, 0, none⟩) n n, .string s]).run Tryd.prog (w.alloc (.cells r0 5)) = .ok (.int .i64 s.size) (w.alloc (.cells r1 5))) ∧
      (∀ ty, (Builtin.copy_ #[54, 9] ty #[.slice (some ⟨w.heap.size, a, none⟩) (n - a) (n - a), .string t]).run Tryd.prog (w.alloc (.cells r1 5)) = .ok (.int .i64 t.size) (w.alloc (.cells r2 5))) ∧
      (convert 54 9 (.slice (some ⟨w.heap.size, 0, none⟩) n n)).run Tryd.prog (w.alloc (.cells r2 5)) = .ok (.string ⟨(putRow n s a t).toArray⟩) (w.alloc (.cells r2 5)) := by
  obtain ⟨i0, hi, hz0, hz1, hz2⟩ := info_parts Tryd.info5
  have hsl : s.data.toList.length = s.size := by simp
  have htl : t.data.toList.length = t.size := by simp
  have hinf : (Tryd.prog.info? 5).map (·.size) = some 1 := by rw [hi]; simp [hz1]
  have e0 : (madeCells (Value.cells (.int .u8 0)) (n * i0.size)).toList = byteCells (List.replicate n 0) := by
    rw [hz1]
    apply List.ext_getElem
    · simp [size_madeCells, byteCells_length]
    · intro j h1 h2
      simp [madeCells, byteCells, Value.cells, Nat.mod_one]
  refine ⟨(byteCells (List.replicate n 0)).toArray, (byteCells (padded n s)).toArray, (byteCells (putRow n s a t)).toArray, ?_, fun ty => ?_, fun ty => ?_, ?_⟩
  · have := run_make (P := Tryd.prog) w 54 5 i0 _ Tryd.underlying54 hi hz0 .i64 .i64 (n : Int) (n : Int) (by omega) (Int.le_refl _) (by rw [hz2]; omega) (by omega)
    rw [this]
    simp only [Int.toNat_natCast]
    rw [← e0]
  · have := Lib.run_copy_row_string (P := Tryd.prog) (w.alloc (.cells (byteCells (List.replicate n 0)).toArray 5)) 54 9 ty 5 w.heap.size 0 n n s _ 5 Tryd.underlying54 hinf (heap_alloc_here _ _) hs (by simp [byteCells_length]; omega)
    rw [this, World.setRow_alloc_new]
    congr 3
    simp [padded, byteCells]
  · have := Lib.run_copy_row_string (P := Tryd.prog) (w.alloc (.cells (byteCells (padded n s)).toArray 5)) 54 9 ty 5 w.heap.size a (n - a) (n - a) t _ 5 Tryd.underlying54 hinf (heap_alloc_here _ _) (by omega) (by simp [byteCells_length, padded_length hs]; omega)
    rw [this, World.setRow_alloc_new]
    congr 3
    simp [putRow, byteCells, List.map_take, List.map_drop]
  · have hl := putRow_length (t := t) hs ha
    have := run_convert_bytes_back (P := Tryd.prog) (w.alloc (.cells (byteCells (putRow n s a t)).toArray 5)) 54 9 5 ⟨w.heap.size, 0, none⟩ n (putRow n s a t) Tryd.underlying54 Tryd.underlying5 Tryd.underlying9 (fun j hj => by
      have e : ((⟨w.heap.size, 0, none⟩ : Addr).add j) = ⟨w.heap.size, j, none⟩ := by unfold Addr.add; split <;> simp_all
      rw [e, cell_at (heap_alloc_here _ _)]
      simp [byteCells, hj])
    rw [hl] at this
    exact this

set_option maxHeartbeats 400000 in
set_option maxRecDepth 100000 in
theorem put_some (s t : ByteArray) (a : Nat) (w : World) (ht : 0 < t.size) (hs : s.size ≤ 20000000) (ha : a + t.size ≤ 20000000) :
    Calls Tryd.prog 40 #[.string s, .int .i64 a, .string t] w fun e w' => e = .returned (.string (putB s a t)) ∧ Turns [] w w' := by
  have hemp : t.toList.isEmpty = false := by
    rw [ByteArray.toList_eq]
    cases h : t.data.toList
    · have : t.data.toList.length = t.size := by simp
      rw [h] at this; simp at this; omega
    · rfl
  have hput : putB s a t = ⟨(putRow (max s.size (a + t.size)) s a t).toArray⟩ := by rw [putB, if_neg (by omega)]
  rw [hput]
  clear hput
  by_cases hm : s.size < a + t.size
  · rw [Nat.max_eq_right (Nat.le_of_lt hm)]
    obtain ⟨r0, r1, r2, h0, h1, h2, h3⟩ := put_runs s t a (a + t.size) w (Nat.le_of_lt hm) (Nat.le_refl _) (by omega)
    have hmi : (s.size : Int) < (a : Int) + (t.size : Int) := by omega
    have hc : ((a + t.size : Nat) : Int) = (a : Int) + (t.size : Int) := by omega
    rw [hc] at h0
    rw [Nat.add_sub_cancel_left] at h2
    have h5 : (a : Int) ≤ (a : Int) + (t.size : Int) := by omega
    have h6 : ¬ t.size = 0 := by omega
    clear hm hc hs
    go_enter Tryd.func40, Tryd.ntmps40
    go_wp2_with fail
    go_ret
    exact ⟨rfl, Turns.alloc _ _ _⟩
  · rw [Nat.max_eq_left (by omega)]
    obtain ⟨r0, r1, r2, h0, h1, h2, h3⟩ := put_runs s t a s.size w (Nat.le_refl _) (by omega) (by omega)
    have hmi : ¬ (s.size : Int) < (a : Int) + (t.size : Int) := by omega
    have hmj : (a : Int) + (t.size : Int) ≤ (s.size : Int) := by omega
    have h5 : (a : Int) ≤ (s.size : Int) := by omega
    have h6 : ¬ s.size = a := by omega
    have h7 : ¬ a = s.size := by omega
    go_enter Tryd.func40, Tryd.ntmps40
    go_wp2_with fail
    go_ret
    exact ⟨rfl, Turns.alloc _ _ _⟩

theorem put_any (s t : ByteArray) (a : Nat) (w : World) (hs : s.size ≤ 20000000) (ha : a + t.size ≤ 20000000) :
    Calls Tryd.prog 40 #[.string s, .int .i64 a, .string t] w fun e w' => e = .returned (.string (putB s a t)) ∧ Turns [] w w' := by
  by_cases ht : t.size = 0
  · have e : t = ⟨#[]⟩ := by
      obtain ⟨d⟩ := t
      have : d.size = 0 := ht
      rw [Array.size_eq_zero_iff.1 this]
    subst e
    rw [putB, if_pos ht]
    exact (put_empty s a w).mono fun _ _ ⟨h1, h2⟩ => ⟨h1, h2 ▸ Turns.refl _ _⟩
  · exact put_some s t a w (by omega) hs ha

end Go.Proofs.YtdcgdnlpagadcaaDoor

/- Plain: a store at a key that is there, into the map that is ranged over. -/
namespace Go.Proofs.YtdcgdnlpagadcaaDoorMem
open Go Go.ChangeMaps Go.MapKept Go.WideShapes Go.Maps
open Go.WideElems (Fit rd rg pl rd_key rd_val rg_of rd_mk other_key)

section
variable {H : Type} {P : Program} {k : TypeId} {R : Value → Option (DataW H × List MemPlace)} {w : World} {b r n : Nat} {D : DataW H} {left : Lit → Bool} {cnt : Nat}

theorem leftOf_size (es : Array MapEntry) (seen : Array Nat) : (leftOf es seen).size = (es.toList.map (·.born)).countP (fun x => !seen.contains x) := by
  unfold leftOf
  rw [← Array.length_toList, Array.toList_filter, List.countP_map, List.countP_eq_length_filter]
  rfl

/-- 'm[k] = v' IN THE ROUND, k A KEY THAT IS THERE. -/
theorem ranges_store {t e : TypeId} (h : w.ranges P k R b r n D left cnt) (K : Keyed P k) (ht : P.underlying t = some (.map k e)) (hn : n < maxLen) {key val : Value} {kl : Lit} {yv : DataW H × List MemPlace}
    (hkey : keyOf P k key = some kl) (hv : R val = some yv) (hin : Maps.has D kl = true) :
    ∃ w', (Instr.mapUpdate t (.map (some b)) key val).run P w = .ok () w' ∧ w'.ranges P k R b r n (D.put kl yv.1) left cnt ∧ w.grownBy w' (some b) := by
  have hne := h.ne
  obtain ⟨es, clock, since, seen, c0, hb, F, hs, rfl, hr, hold, rfl, hl1, hl2, hsc, hsk⟩ := h
  obtain ⟨es', clock', hrun, F', hput, -, -, -⟩ := Maps.fit_store (R' := R) K ht hb F (Nat.lt_of_le_of_lt hs hn) (fun _ _ _ _ hz => hz) hkey hv
  rcases K.find w hkey es.toList F.keys with ⟨h1, h2⟩ | ⟨j, e0, h1, h2, h3⟩
  · exfalso
    obtain ⟨p, hp, hpk⟩ := List.any_eq_true.1 hin
    obtain ⟨x, hx, rfl⟩ := List.mem_map.1 (mem_sorted.1 hp)
    obtain ⟨y, hy⟩ := F.reads x hx
    have hk1 := rd_key hy
    have e1 := WideAt.sameKey_eq hpk
    rw [rg_of hy] at e1
    rw [e1] at hk1
    exact h2 x hx (K.inj hk1 hkey)
  · have hj : es[j]? = some e0 := by simpa using h2
    have hrun2 : (Instr.mapUpdate t (.map (some b)) key val).run P w = .ok () (setBlock w b (.map (es.modify j (fun e' => { e' with key := key, val := val })) clock)) := by
      simp [Instr.mapUpdate, run_underlying ht, MapKept.run_getObj_map hb, K.check w false hkey, h1, hj, h3, K.stays w hkey, MapKept.run_setObj_map _ hb, Result.andThen, setBlock]
    rw [hrun2] at hrun
    have hw : setBlock w b (.map (es.modify j (fun e' => { e' with key := key, val := val })) clock) = setBlock w b (.map es' clock') := by
      simpa using hrun
    have ho : some (Obj.map (es.modify j (fun e' => { e' with key := key, val := val })) clock) = some (Obj.map es' clock') := by
      rw [← heap_setBlock_same hb (.map (es.modify j (fun e' => { e' with key := key, val := val })) clock), ← heap_setBlock_same hb (.map es' clock'), hw]
    simp only [Option.some.injEq, Obj.map.injEq] at ho
    obtain ⟨he, hc⟩ := ho
    subst hc
    have hlist : es'.toList = es.toList.set j { e0 with key := key, val := val } := by rw [← he, Array.toList_modify, modify_eq_set _ _ _ _ h2]
    have hjl : j < es.toList.length := (List.getElem?_eq_some_iff.1 h2).1
    have hmem0 : e0 ∈ es.toList := List.mem_of_getElem? h2
    have hrg : (rg P k R { e0 with key := key, val := val }).1 = (rg P k R e0).1 := by
      obtain ⟨y, hy⟩ := F.reads e0 hmem0
      have h5 := rd_key hy
      rw [h3, hkey] at h5
      rw [rg_of (rd_mk hkey hv), rg_of hy]
      exact Option.some.inj h5
    have who : ∀ x ∈ es'.toList, x.born = e0.born ∧ (rg P k R x).1 = (rg P k R e0).1 ∨ x ∈ es.toList := by
      intro x hx
      rw [hlist] at hx
      rcases List.mem_or_eq_of_mem_set hx with hx | rfl
      · exact Or.inr hx
      · exact Or.inl ⟨rfl, hrg⟩
    have hborn : es'.toList.map (·.born) = es.toList.map (·.born) := by
      have hje : es.toList[j] = e0 := (List.getElem?_eq_some_iff.1 h2).2
      rw [hlist, List.map_set]
      refine List.ext_getElem (by simp) fun i hi1 hi2 => ?_
      rw [List.getElem_set]
      split
      · rename_i hij
        subst hij
        rw [List.getElem_map, hje]
      · rfl
    refine ⟨_, hrun2, ?_, ⟨rfl, rfl, rfl, by simp [setBlock], fun i _ hi => heap_setBlock_other hb _ (fun e => hi (by rw [e]))⟩⟩
    rw [he]
    refine ⟨es', clock, since, seen, c0, heap_setBlock_same hb _, F', ?_, by rw [DataW.put_eq, hput], (heap_setBlock_other hb _ hne).trans hr, fun x hx => ?_, ?_, fun x hx => ?_, fun k' hk' => ?_, hsc, hsk⟩
    · rw [← he]; simpa using hs
    · rcases who x hx with ⟨hx1, _⟩ | hx
      · rw [hx1]; exact hold e0 hmem0
      · exact hold x hx
    · rw [leftOf_size, leftOf_size, hborn]
    · rcases who x hx with ⟨hx1, hx2⟩ | hx
      · rw [hx1, hx2]; exact hl1 e0 hmem0
      · exact hl1 x hx
    · obtain ⟨x, hx, hxk⟩ := hl2 k' hk'
      obtain ⟨i, hi⟩ := List.getElem?_of_mem hx
      by_cases hij : j = i
      · subst hij
        rw [h2] at hi
        cases hi
        refine ⟨{ e0 with key := key, val := val }, ?_, by rw [hrg, hxk]⟩
        rw [hlist]
        exact List.mem_of_getElem? (i := j) (by rw [List.getElem?_set_self hjl])
      · refine ⟨x, ?_, hxk⟩
        rw [hlist]
        exact List.mem_of_getElem? (i := i) (by rw [List.getElem?_set_ne hij]; exact hi)

end
end Go.Proofs.YtdcgdnlpagadcaaDoorMem

/- Plain: the disk's two maps, said by functions. -/
namespace Go.Proofs.YtdcgdnlpagadcaaDoor
open Go.RowKit Go.Proofs.YtdcgdnlpagadcaaDoorMem Go.Maps

def File.val (x : File) : Value := .agg #[.string x.now, .string x.last]
def File.datum (x : File) : DataW Unit := .agg [.lit (.string x.now.data.toList), .lit (.string x.last.data.toList)]
theorem File.datum_inj {x y : File} (h : x.datum = y.datum) : x = y := by
  obtain ⟨⟨⟨a⟩⟩, ⟨⟨b⟩⟩⟩ := x
  obtain ⟨⟨⟨c⟩⟩, ⟨⟨d⟩⟩⟩ := y
  simp [File.datum] at h
  obtain ⟨rfl, rfl⟩ := h
  rfl
def fileR (v : Value) : Option (DataW Unit × List MemPlace) :=
  match v with
  | .agg ⟨[.string a, .string b]⟩ => some (File.datum ⟨a, b⟩, [])
  | _ => none
theorem fileR_val (x : File) : fileR x.val = some (x.datum, []) := rfl
theorem fileR_inv {v : Value} {x : File} {ps : List MemPlace} (h : fileR v = some (x.datum, ps)) : v = x.val := by
  unfold fileR at h
  split at h
  · rename_i a b
    simp only [Option.some.injEq, Prod.mk.injEq] at h
    have := File.datum_inj (x := ⟨a, b⟩) h.1
    subst this
    rfl
  · cases h

theorem Tryd.underlying57 : Tryd.prog.underlying 57 = some (.map 3 83) := by kernel_rfl
theorem Tryd.underlying58 : Tryd.prog.underlying 58 = some (.map 81 4) := by kernel_rfl
theorem Tryd.keyed3 : Keyed Tryd.prog 3 := int_keyed Tryd.underlying3
theorem Tryd.zero83 (w : World) : (zeroValue 83).run Tryd.prog w = .ok noFile.val w := by kernel_rfl

/-- Block b is a map from numbers to files: what it holds, as a function; at most n entries. -/
def FilesAt (w : World) (b n : Nat) (F : Int → File) : Prop := ∃ D : DataW Unit, w.ownsMap Tryd.prog 3 fileR b n D ∧ IsMap D ∧ ∀ f : Int, (Lit.int .i64 f).wf = true → D.atKey (.int .i64 f) noFile.datum = (F f).datum

theorem FilesAt.made (w : World) : FilesAt (w.alloc (.map #[] 0)) w.heap.size 0 (fun _ => noFile) := ⟨_, World.ownsMap_made _ _ _ _, isMap_empty, fun _ _ => rfl⟩
theorem FilesAt.look {w : World} {b n : Nat} {F : Int → File} (h : FilesAt w b n F) (f : Int) (hf : (Lit.int .i64 f).wf = true) :
    (Instr.lookup 57 (.map (some b)) (.int .i64 f) false).run Tryd.prog w = .ok (F f).val w := by
  obtain ⟨D, ho, _, hD⟩ := h
  obtain ⟨v, ps, hr, hv⟩ := ho.lookup Tryd.keyed3 Tryd.underlying57 (Tryd.zero83 w) (fileR_val noFile) (keyOf_int_mk Tryd.underlying3 hf)
  rw [hD f hf] at hv
  rw [hr, fileR_inv hv]
theorem FilesAt.store {w : World} {b n : Nat} {F : Int → File} (h : FilesAt w b n F) (hn : n < maxLen) (f : Int) (hf : (Lit.int .i64 f).wf = true) (x : File) :
    ∃ w', (Instr.mapUpdate 57 (.map (some b)) (.int .i64 f) x.val).run Tryd.prog w = .ok () w' ∧ FilesAt w' b (n + 1) (updF F f x) ∧ w.grownBy w' (some b) := by
  obtain ⟨D, ho, hm, hD⟩ := h
  obtain ⟨w', hr, ho', hg⟩ := ho.update Tryd.keyed3 Tryd.underlying57 hn (keyOf_int_mk Tryd.underlying3 hf) (fileR_val x)
  refine ⟨w', hr, ⟨_, ho', hm.put _ _, fun g hg => ?_⟩, hg⟩
  unfold updF
  split
  · rename_i e
    subst e
    exact atKey_put_same hm (Tryd.keyed3.key (keyOf_int_mk Tryd.underlying3 hf)) _ _
  · rename_i e
    rw [atKey_put_other (by intro e1; exact e (by simpa using e1))]
    exact hD g hg
theorem FilesAt.lt {w : World} {b n : Nat} {F : Int → File} (h : FilesAt w b n F) : b < w.heap.size := h.elim fun _ h => h.1.lt
theorem FilesAt.kept {w w' : World} {b n : Nat} {F : Int → File} {S : List Nat} (h : FilesAt w b n F) (ht : Turns S w w') (hb : b ∉ S) : FilesAt w' b n F := by
  obtain ⟨D, ho, hm, hD⟩ := h
  have hlt := ho.lt
  obtain ⟨es, clock, hb', F', hs, hDe⟩ := ho
  exact ⟨D, ⟨es, clock, (ht.block b hlt hb).trans hb', F', hs, hDe⟩, hm, hD⟩

end Go.Proofs.YtdcgdnlpagadcaaDoor

/- Plain: ranging over the disk's files. -/
namespace Go.Proofs.YtdcgdnlpagadcaaDoor
open Go.RowKit Go.Proofs.YtdcgdnlpagadcaaDoorMem Go.Maps

theorem ranges_has {H : Type} {P : Program} {k : TypeId} {R : Value → Option (DataW H × List MemPlace)} {w : World} {b r n : Nat} {D : DataW H} {left : Lit → Bool} {cnt : Nat} (h : w.ranges P k R b r n D left cnt) (K : Keyed P k)
    {kl : Lit} (hl : left kl = true) : Maps.has D kl = true := by
  obtain ⟨es, clock, since, seen, c0, hb, F, hs, rfl, hr, hold, rfl, hl1, hl2, hsc, hsk⟩ := h
  obtain ⟨x, hx, rfl⟩ := hl2 kl hl
  obtain ⟨y, hy⟩ := F.reads x hx
  exact List.any_eq_true.2 ⟨_, mem_sorted.2 (List.mem_map.2 ⟨x, hx, rfl⟩), WideAt.sameKey_self (by rw [Go.WideElems.rg_of hy]; exact K.key (Go.WideElems.rd_key hy))⟩
theorem key_int {v : Value} {kl : Lit} (h : keyOf Tryd.prog 3 v = some kl) : ∃ f : Int, v = .int .i64 f ∧ kl = .int .i64 f ∧ (Lit.int .i64 f).wf = true := by
  cases v <;> simp [keyOf, mapKey, Tryd.underlying3] at h
  obtain ⟨⟨rfl, hw⟩, rfl⟩ := h
  exact ⟨_, rfl, rfl, hw⟩
theorem same_int (f g : Int) (hf : (Lit.int .i64 f).wf = true) : (Lit.int .i64 g).sameKey (.int .i64 f) = (g == f) := by
  cases h : (g == f)
  · refine sameKey_ne (fun e => ?_)
    simp at e h
    exact h e
  · simp at h
    subst h
    exact WideAt.sameKey_self (Tryd.keyed3.key (keyOf_int_mk Tryd.underlying3 hf))

/-- Block r is an iterator over the files' map b; here: the keys that are there; left: those still to come. -/
def FRange (w : World) (b r n : Nat) (F : Int → File) (left here : Int → Bool) (cnt : Nat) : Prop :=
  ∃ (D : DataW Unit) (lf : Lit → Bool), w.ranges Tryd.prog 3 fileR b r n D lf cnt ∧ IsMap D ∧ (∀ f : Int, (Lit.int .i64 f).wf = true → D.atKey (.int .i64 f) noFile.datum = (F f).datum ∧ Maps.has D (.int .i64 f) = here f) ∧
    ∀ f : Int, (Lit.int .i64 f).wf = true → lf (.int .i64 f) = left f

theorem FilesAt.range {w : World} {b n : Nat} {F : Int → File} (h : FilesAt w b n F) :
    ∃ w' here cnt, (Instr.range 57 (.map (some b))).run Tryd.prog w = .ok (.pointer (some ⟨w.heap.size, 0, none⟩)) w' ∧ FRange w' b w.heap.size n F here here cnt ∧ (∀ f : Int, (Lit.int .i64 f).wf = true → here f = false → F f = noFile) ∧ Turns [] w w' := by
  obtain ⟨D, ho, hm, hD⟩ := h
  obtain ⟨w', hr, hra, hg, -⟩ := ho.range Tryd.keyed3 Tryd.underlying57
  refine ⟨w', fun f => Maps.has D (.int .i64 f), _, hr, ⟨D, _, hra, hm, fun f hf => ⟨hD f hf, rfl⟩, fun _ _ => rfl⟩, fun f hf hh => ?_, Turns.of_grown hg (by simp)⟩
  have := hD f hf
  rw [atKey_of_not_has hh] at this
  exact (File.datum_inj this).symm
theorem FRange.files {w : World} {b r n cnt : Nat} {F : Int → File} {left here : Int → Bool} (h : FRange w b r n F left here cnt) : FilesAt w b n F := by
  obtain ⟨D, lf, hr, hm, hD, _⟩ := h
  exact ⟨D, hr.owns, hm, fun f hf => (hD f hf).1⟩
theorem FRange.left_eq {w : World} {b r n cnt : Nat} {F : Int → File} {left here : Int → Bool} (h : FRange w b r n F left here cnt) : w.rangeLeft b r = cnt := by
  obtain ⟨D, lf, hr, _⟩ := h
  exact hr.left_eq
theorem FRange.ne {w : World} {b r n cnt : Nat} {F : Int → File} {left here : Int → Bool} (h : FRange w b r n F left here cnt) : r ≠ b ∧ r < w.heap.size := by
  obtain ⟨D, lf, hr, _⟩ := h
  exact ⟨hr.ne, hr.lt⟩
theorem FRange.next {w : World} {b r n cnt : Nat} {F : Int → File} {left here : Int → Bool} (h : FRange w b r n F left here cnt) (ty : TypeId) :
    ((∀ f : Int, (Lit.int .i64 f).wf = true → left f = false) ∧ (Instr.next (.pointer (some ⟨r, 0, none⟩)) false ty).run Tryd.prog w = .ok (.tuple #[.bool false]) w) ∨
    ∃ (f : Int) (w' : World) (cnt' : Nat), (Lit.int .i64 f).wf = true ∧ left f = true ∧ here f = true ∧ (Instr.next (.pointer (some ⟨r, 0, none⟩)) false ty).run Tryd.prog w = .ok (.tuple #[.bool true, .int .i64 f, (F f).val]) w' ∧
      FRange w' b r n F (fun g => left g && !(g == f)) here cnt' ∧ cnt' < cnt ∧ Turns [r] w w' ∧ w'.heap.size = w.heap.size ∧ (Instr.entry (.pointer (some ⟨r, 0, none⟩))).run Tryd.prog w' = .ok (.tuple #[.int .i64 f, (F f).val]) w' := by
  obtain ⟨D, lf, hr, hm, hD, hl⟩ := h
  rcases hr.next Tryd.keyed3 ty with ⟨_, h1, h2⟩ | ⟨key, v, kl, y, w', cnt', hk, hlk, hv, hat, hrun, hra, hlt, hg, hsz, hent⟩
  · exact Or.inl ⟨fun f hf => by rw [← hl f hf]; exact h1 _, h2⟩
  · obtain ⟨f, rfl, rfl, hf⟩ := key_int hk
    have hy : y = ((F f).datum, y.2) := by
      rw [← (hD f hf).1, hat]
    rw [hy] at hv
    have hv' := fileR_inv hv
    subst hv'
    refine Or.inr ⟨f, w', cnt', hf, by rw [← hl f hf]; exact hlk, by rw [← (hD f hf).2]; exact ranges_has hr Tryd.keyed3 hlk, hrun, ⟨D, _, hra, hm, hD, fun g hg => ?_⟩, hlt, Turns.of_grown hg (by simp), hsz, hent⟩
    show (lf _ && !_) = _
    rw [hl g hg, same_int f g hf]
theorem FRange.store {w : World} {b r n cnt : Nat} {F : Int → File} {left here : Int → Bool} (h : FRange w b r n F left here cnt) (hn : n < maxLen) (f : Int) (hf : (Lit.int .i64 f).wf = true) (hh : here f = true) (x : File) :
    ∃ w', (Instr.mapUpdate 57 (.map (some b)) (.int .i64 f) x.val).run Tryd.prog w = .ok () w' ∧ FRange w' b r n (updF F f x) left here cnt ∧ Turns [b] w w' := by
  obtain ⟨D, lf, hr, hm, hD, hl⟩ := h
  have hkl := keyOf_int_mk Tryd.underlying3 hf
  obtain ⟨w', hrun, hra, hg⟩ := ranges_store hr Tryd.keyed3 Tryd.underlying57 hn hkl (fileR_val x) (by rw [(hD f hf).2]; exact hh)
  refine ⟨w', hrun, ⟨_, lf, hra, hm.put _ _, fun g hg => ?_, hl⟩, Turns.of_grown hg (by simp)⟩
  unfold updF
  split
  · rename_i e
    subst e
    exact ⟨atKey_put_same hm (Tryd.keyed3.key hkl) _ _, by rw [has_put_same hm (Tryd.keyed3.key hkl)]; exact hh.symm⟩
  · rename_i e
    have hne : Lit.int .i64 g ≠ Lit.int .i64 f := by intro e1; exact e (by simpa using e1)
    rw [atKey_put_other hne, has_put_other hne]
    exact hD g hg

end Go.Proofs.YtdcgdnlpagadcaaDoor

/- Plain: the disk's set of pending sectors. -/
namespace Go.Proofs.YtdcgdnlpagadcaaDoor
open Go.RowKit Go.Proofs.YtdcgdnlpagadcaaDoorMem Go.Maps

theorem Tryd.laid : laidOutB Tryd.prog = true := by kernel_rfl
theorem Tryd.row81 : (81 : TypeId) < Tryd.prog.types.size := of_decide_eq_true (by kernel_rfl)
theorem Tryd.wide81 : (match Tryd.prog.underlying 81 with | some (.array _ _) | some (.struct _) => true | _ => false) = true := by kernel_rfl
set_option maxRecDepth 100000 in
theorem Tryd.keyed81 : Keyed Tryd.prog 81 := Keyed.of_law (deep_law_laid Tryd.laid (m := 2) (by omega) Tryd.row81 (by kernel_rfl) Tryd.wide81)
theorem Tryd.keyType81 : Tryd.prog.keyType 81 = true := by kernel_rfl
theorem Tryd.cells81 : Tryd.prog.cellsOf 81 = 2 := by kernel_rfl
theorem Tryd.cells3 : Tryd.prog.cellsOf 3 = 1 := by kernel_rfl
theorem Tryd.types2 : ∃ d, Tryd.prog.types.size + 1 = d + 2 := ⟨Tryd.prog.types.size - 1, by have h : 0 < Tryd.prog.types.size := of_decide_eq_true (by kernel_rfl); omega⟩
theorem Tryd.zero4 (w : World) : (zeroValue 4).run Tryd.prog w = .ok (.bool false) w := by kernel_rfl

def secVal (f m : Int) : Value := .agg #[.int .i64 f, .int .i64 m]
theorem sec_key {f m : Int} (hf : (Lit.int .i64 f).wf = true) (hm : (Lit.int .i64 m).wf = true) : ∃ kl, keyOf Tryd.prog 81 (secVal f m) = some kl := by
  obtain ⟨d, hd⟩ := Tryd.types2
  refine ⟨.string (keyBytes [.int .i64 f, .int .i64 m]), ?_⟩
  have h3 : ∀ a : Int, (Lit.int .i64 a).wf = true → Tryd.prog.keyLits (d + 1) 3 [.int .i64 a] = some [.int .i64 a] := fun a ha => by
    simp [Program.keyLits, Tryd.underlying3, ha]
  have h103 : Tryd.prog.keyLits (d + 2) 81 [.int .i64 f, .int .i64 m] = some [.int .i64 f, .int .i64 m] := by
    unfold Program.keyLits
    simp [Tryd.underlying81, Tryd.cells81, Tryd.cells3, h3 f hf, h3 m hm]
  simp only [keyOf, Tryd.underlying81, Tryd.keyType81, secVal, Value.formed, Value.cells, hd, h103]
  simp [Tryd.cells81]

/-- Block b is a set of sectors; at most n of them. -/
def SetAt (w : World) (b n : Nat) (S : Int → Int → Bool) : Prop :=
  ∃ D : DataW Unit, w.ownsMap Tryd.prog 81 (plainElem Tryd.prog 4) b n D ∧ IsMap D ∧ ∀ (f m : Int) (kl : Lit), keyOf Tryd.prog 81 (secVal f m) = some kl → D.atKey kl (.lit (.bool false)) = .lit (.bool (S f m))
def updS (S : Int → Int → Bool) (f m : Int) : Int → Int → Bool := fun g k => if g = f ∧ k = m then true else S g k

set_option maxRecDepth 100000 in
theorem bool_inv {v : Value} {x : Bool} {ps : List MemPlace} (h : plainElem (H := Unit) Tryd.prog 4 v = some (.lit (.bool x), ps)) : v = .bool x := by
  unfold plainElem at h
  rw [Tryd.underlying4] at h
  cases v <;> simp at h
  rw [h.1]
theorem SetAt.made (w : World) : SetAt (w.alloc (.map #[] 0)) w.heap.size 0 (fun _ _ => false) := ⟨_, World.ownsMap_made _ _ _ _, isMap_empty, fun _ _ _ _ => rfl⟩
theorem SetAt.look {w : World} {b n : Nat} {S : Int → Int → Bool} (h : SetAt w b n S) (f m : Int) (hf : (Lit.int .i64 f).wf = true) (hm : (Lit.int .i64 m).wf = true) :
    (Instr.lookup 58 (.map (some b)) (secVal f m) false).run Tryd.prog w = .ok (.bool (S f m)) w := by
  obtain ⟨D, ho, _, hD⟩ := h
  obtain ⟨kl, hk⟩ := sec_key hf hm
  obtain ⟨v, ps, hr, hv⟩ := ho.lookup Tryd.keyed81 Tryd.underlying58 (Tryd.zero4 w) (plainElem_bool Tryd.underlying4 false) hk
  rw [hD f m kl hk] at hv
  rw [hr, bool_inv hv]
theorem SetAt.store {w : World} {b n : Nat} {S : Int → Int → Bool} (h : SetAt w b n S) (hn : n < maxLen) (f m : Int) (hf : (Lit.int .i64 f).wf = true) (hm : (Lit.int .i64 m).wf = true) :
    ∃ w', (Instr.mapUpdate 58 (.map (some b)) (secVal f m) (.bool true)).run Tryd.prog w = .ok () w' ∧ SetAt w' b (n + 1) (updS S f m) ∧ Turns [b] w w' := by
  obtain ⟨D, ho, hD0, hD⟩ := h
  obtain ⟨kl, hk⟩ := sec_key hf hm
  obtain ⟨w', hr, ho', hg⟩ := ho.update Tryd.keyed81 Tryd.underlying58 hn hk (plainElem_bool Tryd.underlying4 true)
  refine ⟨w', hr, ⟨_, ho', hD0.put _ _, fun g j kj hj => ?_⟩, Turns.of_grown hg (by simp)⟩
  unfold updS
  split
  · rename_i e
    obtain ⟨rfl, rfl⟩ := e
    rw [hk] at hj
    obtain rfl := Option.some.inj hj
    exact atKey_put_same hD0 (Tryd.keyed81.key hk) _ _
  · rename_i e
    rw [atKey_put_other]
    · exact hD g j kj hj
    · rintro rfl
      have := Tryd.keyed81.inj hj hk
      simp [secVal] at this
      exact e this
theorem SetAt.lt {w : World} {b n : Nat} {S : Int → Int → Bool} (h : SetAt w b n S) : b < w.heap.size := h.elim fun _ h => h.1.lt
theorem SetAt.kept {w w' : World} {b n : Nat} {S : Int → Int → Bool} {T : List Nat} (h : SetAt w b n S) (ht : Turns T w w') (hb : b ∉ T) : SetAt w' b n S := by
  obtain ⟨D, ho, hm, hD⟩ := h
  have hlt := ho.lt
  obtain ⟨es, clock, hb', F', hs, hDe⟩ := ho
  exact ⟨D, ⟨es, clock, (ht.block b hlt hb).trans hb', F', hs, hDe⟩, hm, hD⟩

end Go.Proofs.YtdcgdnlpagadcaaDoor

/- Contracts of package disk: the object, New, Down, Start, Lose, may, Size. -/
namespace Go.Proofs.YtdcgdnlpagadcaaDoor
open Go.RowKit Go.Proofs.YtdcgdnlpagadcaaDoorMem Go.Maps

def secCells (Q : List (Int × Int)) : List Value := Q.flatMap fun p => [.int .i64 p.1, .int .i64 p.2]

/-- Block b is a disk; FP: the blocks that are its own; N: a bound on the entries of its maps. kv: the slice Keep. -/
def DiskObj (w : World) (b : Nat) (FP : List Nat) (N : Nat) (st : DS) (kv : Value) : Prop :=
  ∃ fb sb qv, w.heap[b]? = some (.cells #[.map (some fb), qv, .map (some sb), .int .i64 st.lost, .bool st.down, .int .i64 st.armed, kv] 61 (0, 0)) ∧ FilesAt w fb N st.F ∧
    SetAt w sb N (fun f m => decide ((f, m) ∈ st.Q)) ∧ w.ownsRow 0 81 2 qv st.Q.length (secCells st.Q) ∧ fb ≠ sb ∧ FP = b :: fb :: sb :: qv.ownBlock.toList

theorem FilesAt.ne {w : World} {b fb n : Nat} {F : Int → File} {cs : Array Value} {t : TypeId} {fr : Nat × Nat} (h : FilesAt w fb n F) (hb : w.heap[b]? = some (.cells cs t fr)) : fb ≠ b := by
  rintro rfl
  obtain ⟨D, ⟨es, clock, hm, _⟩, _⟩ := h
  rw [hb] at hm
  simp at hm
theorem SetAt.ne {w : World} {b sb n : Nat} {S : Int → Int → Bool} {cs : Array Value} {t : TypeId} {fr : Nat × Nat} (h : SetAt w sb n S) (hb : w.heap[b]? = some (.cells cs t fr)) : sb ≠ b := by
  rintro rfl
  obtain ⟨D, ⟨es, clock, hm, _⟩, _⟩ := h
  rw [hb] at hm
  simp at hm
theorem DiskObj.lt {w : World} {b N : Nat} {FP : List Nat} {st : DS} {kv : Value} (h : DiskObj w b FP N st kv) : ∀ x ∈ FP, x < w.heap.size := by
  obtain ⟨fb, sb, qv, hb, hf, hs, hq, _, rfl⟩ := h
  intro x hx
  simp only [List.mem_cons] at hx
  rcases hx with rfl | rfl | rfl | hx
  · exact lt_of_at hb
  · exact hf.lt
  · exact hs.lt
  · exact own_lt hq x hx
theorem DiskObj.kept {w w' : World} {b N : Nat} {FP S : List Nat} {st : DS} {kv : Value} (h : DiskObj w b FP N st kv) (ht : Turns S w w') (hd : ∀ x ∈ FP, x ∉ S) : DiskObj w' b FP N st kv := by
  obtain ⟨fb, sb, qv, hb, hf, hs, hq, hne, rfl⟩ := h
  exact ⟨fb, sb, qv, by rw [ht.block b (lt_of_at hb) (hd b (by simp))]; exact hb, hf.kept ht (hd fb (by simp)), hs.kept ht (hd sb (by simp)), own_kept hq ht (fun x hx => hd x (by simp [hx])), hne, rfl⟩
def diskThing (b N : Nat) (st : DS) (kv : Value) : Thing :=
  ⟨fun w FP => DiskObj w b FP N st kv, fun _ _ h => h.lt, fun _ _ _ _ h ht hd => h.kept ht hd⟩

set_option maxRecDepth 100000 in
theorem disk_new (w : World) : Calls Tryd.prog 10 #[] w fun e w' => ∃ b FP, e = .returned (.pointer (some ⟨b, 0, none⟩)) ∧ DiskObj w' b FP 0 DS.new (.slice none 0 0) ∧ Turns [] w w' ∧ ∀ x ∈ FP, w.heap.size ≤ x := by
  have hmm := @run_makeMap Tryd.prog
  go_enter Tryd.func10, Tryd.ntmps10
  go_wp2_with fail
  go_ret
  have h2 := heap_alloc_here ((w.alloc (.map #[] 0)).alloc (.map #[] 0)) (.cells #[.map (some w.heap.size), .slice none 0 0, .map (some (w.heap.size + 1)), .int .i64 0, .bool false, .int .i64 0, .slice none 0 0] 61)
  simp only [World.size_alloc] at h2
  refine ⟨w.heap.size + 1 + 1, _, rfl, ⟨w.heap.size, w.heap.size + 1, .slice none 0 0, h2, (FilesAt.made w).kept ((Turns.alloc [] _ _).trans (Turns.alloc [] _ _)) (by simp), ?_, World.ownsRow_nil _ _ _ _, by omega, rfl⟩, ((Turns.alloc [] _ _).trans (Turns.alloc [] _ _)).trans (Turns.alloc [] _ _), ?_⟩
  · have := (SetAt.made (w.alloc (.map #[] 0))).kept (Turns.alloc [] _ (.cells #[.map (some w.heap.size), .slice none 0 0, .map (some (w.heap.size + 1)), .int .i64 0, .bool false, .int .i64 0, .slice none 0 0] 61)) (by simp)
    rw [World.size_alloc] at this
    exact this
  · intro x hx
    simp [Value.ownBlock] at hx
    omega

set_option maxRecDepth 100000 in
theorem field_now (a b : ByteArray) (w : World) : (Instr.field 83 (.agg #[.string a, .string b]) 0).run Tryd.prog w = .ok (.string a) w := by kernel_rfl
set_option maxRecDepth 100000 in
theorem field_last (a b : ByteArray) (w : World) : (Instr.field 83 (.agg #[.string a, .string b]) 1).run Tryd.prog w = .ok (.string b) w := by kernel_rfl
set_option maxRecDepth 100000 in
theorem disk_size (b N : Nat) (FP : List Nat) (st : DS) (kv : Value) (f : Int) (w : World) (h : DiskObj w b FP N st kv) (hf : (Lit.int .i64 f).wf = true) :
    Calls Tryd.prog 28 #[.pointer (some ⟨b, 0, none⟩), .int .i64 f] w fun e w' => e = .returned (.int .i64 (st.F f).now.size) ∧ w = w' := by
  obtain ⟨fb, sb, qv, hb, hF, -⟩ := h
  have c0 : w.cell? ⟨b, 0, none⟩ = some (.map (some fb)) := cell_at hb 0
  have hl := hF.look f hf
  unfold File.val at hl
  have hfn := field_now
  clear hb
  go_enter Tryd.func28, Tryd.ntmps28
  go_wp2
  go_ret
  exact ⟨rfl, rfl⟩
set_option maxRecDepth 100000 in
theorem disk_may (b N : Nat) (FP : List Nat) (st : DS) (kv : Value) (f : Int) (w : World) (h : DiskObj w b FP N st kv) :
    Calls Tryd.prog 41 #[.pointer (some ⟨b, 0, none⟩), .int .i64 f] w fun e w' => e = .returned (.int .i64 (mayCode st f)) ∧ w = w' := by
  obtain ⟨fb, sb, qv, hb, -⟩ := h
  have c4 : w.cell? ⟨b, 4, none⟩ = some (.bool st.down) := cell_at hb 4
  clear hb
  cases hd : st.down
  · rw [hd] at c4
    by_cases h1 : f < 0
    · have d1 : decide (f < 0) = true := decide_eq_true h1
      rw [show mayCode st f = 1 by simp [mayCode, hd, h1]]
      clear hd
      go_enter Tryd.func41, Tryd.ntmps41
      go_wp2
      go_ret
      exact ⟨rfl, rfl⟩
    · have d1 : decide (f < 0) = false := decide_eq_false h1
      by_cases h2 : 16 ≤ f
      · have d2 : decide (16 ≤ f) = true := decide_eq_true h2
        rw [show mayCode st f = 1 by simp [mayCode, hd, h2]]
        clear hd
        go_enter Tryd.func41, Tryd.ntmps41
        go_wp2
        go_ret
        exact ⟨rfl, rfl⟩
      · have d2 : decide (16 ≤ f) = false := decide_eq_false h2
        rw [show mayCode st f = 0 by simp [mayCode, hd, h1, h2]]
        clear hd
        go_enter Tryd.func41, Tryd.ntmps41
        go_wp2
        go_ret
        exact ⟨rfl, rfl⟩
  · rw [hd] at c4
    rw [show mayCode st f = 9 by simp [mayCode, hd]]
    clear hd
    go_enter Tryd.func41, Tryd.ntmps41
    go_wp2
    go_ret
    exact ⟨rfl, rfl⟩

end Go.Proofs.YtdcgdnlpagadcaaDoor

/- Contracts of package disk: Start, Lose, ends. -/
namespace Go.Proofs.YtdcgdnlpagadcaaDoor
open Go.RowKit Go.Proofs.YtdcgdnlpagadcaaDoorMem Go.Maps

theorem DiskObj.set_cell {w : World} {b N : Nat} {FP : List Nat} {st st' : DS} {kv kv' : Value} (h : DiskObj w b FP N st kv) (i : Nat) (x : Value) (hF : st'.F = st.F) (hQ : st'.Q = st.Q)
    (hc : ∀ u0 u1 u2 : Value, (Obj.cells ((#[u0, u1, u2, .int .i64 st.lost, .bool st.down, .int .i64 st.armed, kv] : Array Value).setIfInBounds i x) 61 (0, 0)) = .cells #[u0, u1, u2, .int .i64 st'.lost, .bool st'.down, .int .i64 st'.armed, kv'] 61 (0, 0)) :
    DiskObj (w.setCell ⟨b, i, none⟩ x) b FP N st' kv' ∧ Turns FP w (w.setCell ⟨b, i, none⟩ x) := by
  obtain ⟨fb, sb, qv, hb, hf, hs, hq, hne, rfl⟩ := h
  have ht : Turns [b] w (w.setCell ⟨b, i, none⟩ x) := Turns.setCell _ _ _ (by simp)
  refine ⟨⟨fb, sb, qv, ?_, ?_, ?_, ?_, hne, rfl⟩, ht.mono (by simp)⟩
  · rw [heap_setCell_at hb]; exact congrArg some (hc _ _ _)
  · rw [hF]; exact hf.kept ht (by simp; exact hf.ne hb)
  · rw [hQ]; exact hs.kept ht (by simp; exact hs.ne hb)
  · rw [hQ]; exact own_kept hq ht (fun x hx hxb => own_ne hq hb (by decide) (by simp at hxb; exact hxb ▸ hx))

/-- Behind a call: the disk in its new state; only its own blocks have turned. -/
def DiskPost (w : World) (b : Nat) (FP : List Nat) (N : Nat) (st : DS) (kv : Value) (w' : World) : Prop := ∃ FP', DiskObj w' b FP' N st kv ∧ Evolves FP FP' w w'

set_option maxRecDepth 100000 in
theorem disk_start (b N : Nat) (FP : List Nat) (st : DS) (kv : Value) (w : World) (h : DiskObj w b FP N st kv) :
    Calls Tryd.prog 27 #[.pointer (some ⟨b, 0, none⟩)] w fun e w' => e = .returned (.tuple #[]) ∧ DiskPost w b FP N { st with down := false } kv w' := by
  obtain ⟨h1, h2⟩ := h.set_cell (st' := { st with down := false }) (kv' := kv) 4 (.bool false) rfl rfl (fun _ _ _ => rfl)
  have HP := Lib.hid (show DiskPost w b FP N { st with down := false } kv _ from ⟨FP, h1, Evolves.of_same h2⟩)
  obtain ⟨fb, sb, qv, hb, -⟩ := h
  have c4 : w.cell? ⟨b, 4, none⟩ = some (.bool st.down) := cell_at hb 4
  have f4 : w.frozen? ⟨b, 4, none⟩ = false := free_at hb 4
  clear hb h1 h2
  go_enter Tryd.func27, Tryd.ntmps27
  go_wp2
  go_end0
  exact ⟨rfl, HP.out⟩

set_option maxRecDepth 100000 in
theorem disk_ends (b N : Nat) (FP : List Nat) (st : DS) (kv : Value) (w : World) (h : DiskObj w b FP N st kv) (ha : 0 ≤ st.armed) (ha2 : st.armed ≤ 9223372036854775807) :
    Calls Tryd.prog 44 #[.pointer (some ⟨b, 0, none⟩)] w fun e w' => e = .returned (.bool (endsB st)) ∧ DiskPost w b FP N (endsS st) kv w' := by
  obtain ⟨h1, h2⟩ := h.set_cell (st' := { st with armed := st.armed - 1 }) (kv' := kv) 5 (.int .i64 (st.armed - 1)) rfl rfl (fun _ _ _ => rfl)
  have HP := Lib.hid (And.intro h (show DiskPost w b FP N { st with armed := st.armed - 1 } kv _ from ⟨FP, h1, Evolves.of_same h2⟩))
  obtain ⟨fb, sb, qv, hb, -⟩ := h
  have c4 : w.cell? ⟨b, 4, none⟩ = some (.bool st.down) := cell_at hb 4
  have c5 : w.cell? ⟨b, 5, none⟩ = some (.int .i64 st.armed) := cell_at hb 5
  have f5 : w.frozen? ⟨b, 5, none⟩ = false := free_at hb 5
  clear hb h1 h2
  cases hd : st.down
  · rw [hd] at c4
    by_cases h0 : st.armed = 0
    · have e0 : (st.armed == 0) = true := by simp [h0]
      rw [show endsB st = false by simp [endsB, h0], show endsS st = st by simp [endsS, h0]]
      have h0' := Lib.hid h0
      clear hd h0
      go_enter Tryd.func44, Tryd.ntmps44
      go_wp2
      go_ret
      exact ⟨rfl, FP, HP.out.1, Evolves.of_same (Turns.refl _ _)⟩
    · have e0 : (st.armed == 0) = false := by simp [h0]
      have hw : IntKind.i64.wrap (st.armed - 1) = st.armed - 1 := by rw [IntKind.wrap_i64]; omega
      have e1 : endsS st = { st with armed := st.armed - 1 } := by simp [endsS, h0, hd]
      have e2 : endsB st = (st.armed - 1 == 0) := by
        by_cases h3 : st.armed = 1
        · simp [endsB, hd, h3]
        · have : (st.armed - 1 == 0) = false := by simp; omega
          rw [this]; simp [endsB, h3]
      rw [e1, e2]
      clear hd h0 e1 e2
      go_enter Tryd.func44, Tryd.ntmps44
      go_wp2
      go_ret
      exact ⟨rfl, HP.out.2⟩
  · rw [hd] at c4
    rw [show endsB st = false by simp [endsB, hd], show endsS st = st by simp [endsS, hd]]
    clear hd
    go_enter Tryd.func44, Tryd.ntmps44
    go_wp2
    go_ret
    exact ⟨rfl, FP, HP.out.1, Evolves.of_same (Turns.refl _ _)⟩

end Go.Proofs.YtdcgdnlpagadcaaDoor

/- Contracts of package disk: Lose, Read. -/
namespace Go.Proofs.YtdcgdnlpagadcaaDoor
open Go.RowKit Go.Proofs.YtdcgdnlpagadcaaDoorMem Go.Maps

set_option maxRecDepth 100000 in
theorem disk_lose (b N : Nat) (FP : List Nat) (st : DS) (kv : Value) (n : Int) (w : World) (h : DiskObj w b FP N st kv) :
    Calls Tryd.prog 13 #[.pointer (some ⟨b, 0, none⟩), .int .i64 n] w fun e w' => e = .returned (.tuple #[]) ∧ DiskPost w b FP N { st with lost := max n 0 } kv w' := by
  obtain ⟨h1, h2⟩ := h.set_cell (st' := { st with lost := max n 0 }) (kv' := kv) 3 (.int .i64 (max n 0)) rfl rfl (fun _ _ _ => rfl)
  have hp : DiskPost w b FP N { st with lost := max n 0 } kv _ := ⟨FP, h1, Evolves.of_same h2⟩
  obtain ⟨fb, sb, qv, hb, -⟩ := h
  have c3 : w.cell? ⟨b, 3, none⟩ = some (.int .i64 st.lost) := cell_at hb 3
  have f3 : w.frozen? ⟨b, 3, none⟩ = false := free_at hb 3
  clear hb h1 h2
  by_cases hn : n < 0
  · have e : max n 0 = 0 := by omega
    rw [e] at hp ⊢
    have HP := Lib.hid hp; clear hp e
    go_enter Tryd.func13, Tryd.ntmps13
    go_wp2
    go_end0
    exact ⟨rfl, HP.out⟩
  · have e : max n 0 = n := by omega
    rw [e] at hp ⊢
    have HP := Lib.hid hp; clear hp e
    go_enter Tryd.func13, Tryd.ntmps13
    go_wp2
    go_end0
    exact ⟨rfl, HP.out⟩

theorem ext_bytes {s t : ByteArray} (h : ∀ i : Nat, s.data[i]? = t.data[i]?) : s = t := ByteArray.ext (Array.ext_getElem? h)
theorem cut_past {s : ByteArray} {a z : Nat} (h : s.size ≤ a) : s.extract a (a + z) = ByteArray.empty := ext_bytes fun i => by
  have hs : s.data.size = s.size := rfl
  have he : ByteArray.empty.data = #[] := rfl
  rw [ByteArray.data_extract, Array.getElem?_extract, if_neg (by omega), he]
  simp
theorem cut_all {s : ByteArray} {a z : Nat} (h : s.size - a ≤ z) : (s.extract a s.size).extract 0 (s.size - a) = s.extract a (a + z) := ext_bytes fun i => by
  have hs : s.data.size = s.size := rfl
  simp only [ByteArray.data_extract, Array.getElem?_extract, Array.size_extract, hs, Nat.zero_add]
  by_cases hi : i < s.size - a
  · rw [if_pos (by omega), if_pos (by omega), if_pos (by omega)]
  · rw [if_neg (by omega), if_neg (by omega)]
theorem cut_some {s : ByteArray} {a z : Nat} (h : z ≤ s.size - a) : (s.extract a s.size).extract 0 z = s.extract a (a + z) := ext_bytes fun i => by
  have hs : s.data.size = s.size := rfl
  simp only [ByteArray.data_extract, Array.getElem?_extract, Array.size_extract, hs, Nat.zero_add]
  by_cases hi : i < z
  · rw [if_pos (by omega), if_pos (by omega), if_pos (by omega)]
  · rw [if_neg (by omega), if_neg (by omega)]
theorem cut_none (z : Nat) : ByteArray.empty.extract 0 z = ByteArray.empty := ext_bytes fun i => by
  have he : ByteArray.empty.data = #[] := rfl
  rw [ByteArray.data_extract, he]
  simp

set_option maxHeartbeats 800000 in
set_option maxRecDepth 100000 in
theorem read_err (b N : Nat) (FP : List Nat) (st : DS) (kv : Value) (f a z : Int) (w : World) (h : DiskObj w b FP N st kv) (hm : mayCode st f ≠ 0) :
    Calls Tryd.prog 29 #[.pointer (some ⟨b, 0, none⟩), .int .i64 f, .int .i64 a, .int .i64 z] w fun e w' => e = .returned (.tuple #[.string ⟨#[]⟩, .int .i64 (mayCode st f)]) ∧ w = w' := by
  have hb : (mayCode st f != 0) = true := by simp [hm]
  have hb2 : (mayCode st f == 0) = false := by simp [hm]
  have HN := Lib.hid h; clear h hm
  go_enter Tryd.func29, Tryd.ntmps29
  go_wp2_with fail
  refine (disk_may b N FP st kv f _ HN.out).mono ?_
  rintro e w' ⟨rfl, rfl⟩
  go_wp2_with fail
  refine bodyPost_ret (v := .tuple #[.string ⟨#[]⟩, .int .i64 (mayCode st f)]) (by simp [results, Tryd.results29, go_sem]) rfl ⟨rfl, rfl⟩

set_option maxHeartbeats 800000 in
set_option maxRecDepth 100000 in
theorem read_ok (b N : Nat) (FP : List Nat) (st : DS) (kv : Value) (f : Int) (a z : Nat) (w : World) (h : DiskObj w b FP N st kv) (hf : (Lit.int .i64 f).wf = true) (hm : mayCode st f = 0) :
    Calls Tryd.prog 29 #[.pointer (some ⟨b, 0, none⟩), .int .i64 f, .int .i64 a, .int .i64 z] w fun e w' => e = .returned (.tuple #[.string ((st.F f).now.extract a (a + z)), .int .i64 0]) ∧ w = w' := by
  have HN := Lib.hid h
  have HM := Lib.hid hm; clear hm
  obtain ⟨fb, sb, qv, hb, hF, -⟩ := h
  have c0 : w.cell? ⟨b, 0, none⟩ = some (.map (some fb)) := cell_at hb 0
  have hl := hF.look f hf
  obtain ⟨x, hx⟩ : ∃ x, x = st.F f := ⟨_, rfl⟩
  rw [← hx] at hl ⊢
  unfold File.val at hl
  have hfn := field_now
  clear hb hF hx
  have hd1 : decide ((a : Int) < 0) = false := decide_eq_false (by omega)
  have hd2 : decide ((z : Int) < 0) = false := decide_eq_false (by omega)
  go_enter Tryd.func29, Tryd.ntmps29
  go_wp2_with fail
  refine (disk_may b N FP st kv f _ HN.out).mono ?_
  rintro e w' ⟨rfl, rfl⟩
  rw [HM.out]
  go_wp2_with fail
  case inl.inl =>
    refine bodyPost_ret (v := .tuple #[.string (ByteArray.empty), .int .i64 0]) (by simp [results, Tryd.results29, go_sem]) rfl ⟨?_, rfl⟩
    rw [cut_past (Nat.le_of_lt (by assumption))]
  case inl.inr =>
    refine bodyPost_ret (v := .tuple #[.string (ByteArray.empty.extract 0 z), .int .i64 0]) (by simp [results, Tryd.results29, go_sem]) rfl ⟨?_, rfl⟩
    rw [cut_none, cut_past (Nat.le_of_lt (by assumption))]
  case inr.inl =>
    refine bodyPost_ret (v := .tuple #[.string ((x.now.extract a x.now.size).extract 0 (x.now.size - a)), .int .i64 0]) (by simp [results, Tryd.results29, go_sem]) rfl ⟨?_, rfl⟩
    rw [cut_all (z := z) (by omega)]
  case inr.inr =>
    refine bodyPost_ret (v := .tuple #[.string ((x.now.extract a x.now.size).extract 0 z), .int .i64 0]) (by simp [results, Tryd.results29, go_sem]) rfl ⟨?_, rfl⟩
    rw [cut_some (by omega)]

end Go.Proofs.YtdcgdnlpagadcaaDoor
