/- Contracts and lemmas (texts DiskE, DiskG, DiskH, DiskI, DiskT, DiskU, DiskV, PureB, DiskW1, joined by a program). -/
import Derived.Test.YtdcgdnlpagadcaaDoorMc2
import Derived.Maps.RangeWalk
import Derived.Deep.RegionLawGrows
/- Contracts of package disk: Read, whole. -/
namespace Go.Proofs.YtdcgdnlpagadcaaDoor
open Go.RowKit Go.Proofs.YtdcgdnlpagadcaaDoorMem Go.Maps

set_option maxHeartbeats 800000 in
set_option maxRecDepth 100000 in
theorem read_arg (b N : Nat) (FP : List Nat) (st : DS) (kv : Value) (f a z : Int) (w : World) (h : DiskObj w b FP N st kv) (hm : mayCode st f = 0) (haz : a < 0 ∨ z < 0) :
    Calls Tryd.prog 29 #[.pointer (some ⟨b, 0, none⟩), .int .i64 f, .int .i64 a, .int .i64 z] w fun e w' => e = .returned (.tuple #[.string ⟨#[]⟩, .int .i64 1]) ∧ w = w' := by
  have HN := Lib.hid h; clear h
  have HM := Lib.hid hm; clear hm
  by_cases ha : a < 0
  · have d1 : decide (a < 0) = true := decide_eq_true ha
    clear haz
    go_enter Tryd.func29, Tryd.ntmps29
    go_wp2_with fail
    refine (disk_may b N FP st kv f _ HN.out).mono ?_
    rintro e w' ⟨rfl, rfl⟩
    rw [HM.out]
    go_wp2_with fail
    refine bodyPost_ret (v := .tuple #[.string ⟨#[]⟩, .int .i64 1]) (by simp [results, Tryd.results29, go_sem]) rfl ⟨rfl, rfl⟩
  · have d1 : decide (a < 0) = false := decide_eq_false ha
    have hz : z < 0 := haz.resolve_left ha
    have d2 : decide (z < 0) = true := decide_eq_true hz
    clear haz ha hz
    go_enter Tryd.func29, Tryd.ntmps29
    go_wp2_with fail
    refine (disk_may b N FP st kv f _ HN.out).mono ?_
    rintro e w' ⟨rfl, rfl⟩
    rw [HM.out]
    go_wp2_with fail
    refine bodyPost_ret (v := .tuple #[.string ⟨#[]⟩, .int .i64 1]) (by simp [results, Tryd.results29, go_sem]) rfl ⟨rfl, rfl⟩

theorem disk_read (b N : Nat) (FP : List Nat) (st : DS) (kv : Value) (f a z : Int) (w : World) (h : DiskObj w b FP N st kv) (hf : (Lit.int .i64 f).wf = true) :
    Calls Tryd.prog 29 #[.pointer (some ⟨b, 0, none⟩), .int .i64 f, .int .i64 a, .int .i64 z] w fun e w' => e = .returned (.tuple #[.string (readStr st f a z), .int .i64 (readCode st f a z)]) ∧ w = w' := by
  by_cases hm : mayCode st f = 0
  · by_cases haz : a < 0 ∨ z < 0
    · have e1 : readCode st f a z = 1 := by simp [readCode, hm, haz]
      rw [readStr, e1, if_neg (by decide)]
      exact read_arg b N FP st kv f a z w h hm haz
    · have e1 : readCode st f a z = 0 := by simp [readCode, hm, haz]
      rw [readStr, e1, if_pos rfl]
      obtain ⟨a', rfl⟩ := Int.eq_ofNat_of_zero_le (show 0 ≤ a by omega)
      obtain ⟨z', rfl⟩ := Int.eq_ofNat_of_zero_le (show 0 ≤ z by omega)
      exact read_ok b N FP st kv f a' z' w h hf hm
  · have e1 : readCode st f a z = mayCode st f := by simp [readCode, hm]
    rw [readStr, e1, if_neg hm]
    exact read_err b N FP st kv f a z w h hm

end Go.Proofs.YtdcgdnlpagadcaaDoor

/- Contracts of package disk: slices.Clone of the queue and of Keep. -/
namespace Go.Proofs.YtdcgdnlpagadcaaDoor
open Go.RowKit Go.Proofs.YtdcgdnlpagadcaaDoorMem Go.Maps

theorem Tryd.info81 : (Tryd.prog.info? 81).map (fun i => (i.zero, i.size, i.bytes)) = some (some (.agg #[.int .i64 0, .int .i64 0]), 2, 16) := by kernel_rfl
theorem secCells_length (Q : List (Int × Int)) : (secCells Q).length = Q.length * 2 := by
  induction Q with
  | nil => rfl
  | cons a Q ih =>
    have : secCells (a :: Q) = [.int .i64 a.1, .int .i64 a.2] ++ secCells Q := rfl
    rw [this, List.length_append, ih]; simp; omega
theorem secs_oneCell (Q : List (Int × Int)) : ∀ u ∈ secCells Q, u.oneCell' = true := by
  intro u hu
  obtain ⟨p, _, hp⟩ := List.mem_flatMap.1 hu
  simp at hp
  rcases hp with rfl | rfl <;> rfl

end Go.Proofs.YtdcgdnlpagadcaaDoor

/- Contracts of package disk: slices.Clone of Keep, Arm. -/
namespace Go.Proofs.YtdcgdnlpagadcaaDoor
open Go.RowKit Go.Proofs.YtdcgdnlpagadcaaDoorMem Go.Maps

theorem Tryd.info3 : (Tryd.prog.info? 3).map (fun i => (i.zero, i.size, i.bytes)) = some (some (.int .i64 0), 1, 8) := by kernel_rfl
def intCells (K : List Int) : List Value := K.map (.int .i64)
/-- A slice of numbers, wherever it lies. -/
def IntsV (w : World) (v : Value) (K : List Int) : Prop := ∃ a cap, v = .slice a K.length cap ∧ IntsAt w a K
/-- A row of numbers made by the call, or nil. -/
def OwnInts (w : World) (B : Nat) (v : Value) (K : List Int) : Prop := w.ownsRow B 3 1 v K.length (intCells K)
theorem OwnInts.intsV {w : World} {B : Nat} {v : Value} {K : List Int} (h : OwnInts w B v K) : IntsV w v K := by
  rcases id h.2 with ⟨rfl, h0⟩ | ⟨g, cap, cur, rfl, _, hg, hcap, hmax, hsz, htake⟩
  · exact ⟨none, 0, by rw [h0], fun i hi => by omega⟩
  · refine ⟨_, cap, rfl, fun i hi => ⟨g, 0, rfl, ?_⟩⟩
    have := h.cells (g := g) rfl i (.int .i64 K[i]) (by simp [intCells, hi])
    have e : ((⟨g, 0, none⟩ : Addr).add i) = ⟨g, 0 + i, none⟩ := by unfold Addr.add; split <;> simp_all
    rw [e] at this
    exact this

set_option maxHeartbeats 400000 in
set_option maxRecDepth 100000 in
theorem clone_ints (v : Value) (K : List Int) (w : World) (hv : IntsV w v K) (hl : K.length ≤ 1000000) :
    Calls Tryd.prog 36 #[v] w fun e w' => ∃ v', e = .returned v' ∧ OwnInts w' w.heap.size v' K ∧ Turns [] w w' := by
  obtain ⟨a, cap, rfl, hi⟩ := hv
  cases a with
  | none =>
    obtain rfl : K = [] := by
      cases K with
      | nil => rfl
      | cons x K => obtain ⟨b, off, h0, _⟩ := hi 0 (by simp); cases h0
    clear hi
    have hq := fun w => Lib.run_eql_slice_nil (P := Tryd.prog) w 23 3 none 0 cap 0 0 Tryd.underlying23
    go_enter Tryd.func36, Tryd.ntmps36
    go_wp2
    go_ret
    exact ⟨_, rfl, World.ownsRow_nil _ _ _ _, Turns.refl _ _⟩
  | some ad =>
    have hq := fun w => Lib.run_eql_slice_nil (P := Tryd.prog) w 23 3 (some ad) K.length cap 0 0 Tryd.underlying23
    have hc : Hid (∀ o, SrcAt (w.alloc o) (.slice (some ad) K.length cap) K.length (intCells K)) := by
      intro o
      refine .inr ⟨ad, cap, rfl, fun j u hu => ?_⟩
      have hj : j < K.length := by have := (List.getElem?_eq_some_iff.1 hu).1; simpa [intCells] using this
      obtain ⟨b, off, h0, h1⟩ := hi j hj
      obtain rfl := Option.some.inj h0
      have e : ((⟨b, off, none⟩ : Addr).add j) = ⟨b, off + j, none⟩ := by unfold Addr.add; split <;> simp_all
      rw [e, World.cell?_alloc_past _ _ _ (World.block_lt_of_cell? w _ h1), h1]
      simpa [intCells, hj] using hu
    clear hi
    obtain ⟨i0, hi, hz0, hz1, hz2⟩ := info_parts Tryd.info3
    have hnil : Hid ((w.alloc (.cells #[] 3)).ownsRow w.heap.size 3 1 (.slice (some ⟨w.heap.size, 0, none⟩) 0 0) 0 []) := World.ownsRow_made w #[] 0 (Nat.le_refl _) (by unfold maxLen; omega) rfl
    go_enter Tryd.func36, Tryd.ntmps36
    go_wp2_with (at_builtin; refine wpList_append_src _ rfl (.tmp 5) (.tmp 6) 23 rfl 3 i0 (.int .i64 0) 1 8 Tryd.underlying23 hi hz0 hz1 hz2 rfl (by decide) (.slice (some ⟨w.heap.size, 0, none⟩) 0 0) 0 [] rfl (own_base hnil.out (Nat.zero_le _)) (.slice (some ad) K.length cap) K.length (intCells K) rfl (hc.out _) ?c1 ?c3 ?c4 ?c5 ?_)
    case c1 => simp [intCells]
    case c3 => intro u hu; obtain ⟨x, _, rfl⟩ := List.mem_map.1 hu; rfl
    case c4 => unfold maxLen; omega
    case c5 => omega
    · intro v' w1 hown hgr hat
      have hw : Hid (OwnInts w1 w.heap.size v' K ∧ Turns [] w w1) := by
        refine ⟨own_above (by simpa using hown) (fun x hx => ?_), (Turns.alloc _ w _).trans_new (Turns.of_grown (S := [w.heap.size]) hgr (fun k hk => by simp [Value.ownBlock] at hk; simp [hk])) (fun x hx => by simp at hx; exact Or.inr (by omega))⟩
        rcases hat with h | h
        · rw [h] at hx; simp [Value.ownBlock] at hx; omega
        · rw [h] at hx; simp at hx; omega
      clear hown hgr hat
      go_wp2
      go_ret
      exact ⟨_, rfl, hw.out.1, hw.out.2⟩

end Go.Proofs.YtdcgdnlpagadcaaDoor

/- Contracts of package disk: Arm. -/
namespace Go.Proofs.YtdcgdnlpagadcaaDoor
open Go.RowKit Go.Proofs.YtdcgdnlpagadcaaDoorMem Go.Maps

/-- Behind Arm. -/
def ArmPost (w : World) (b : Nat) (FP : List Nat) (N : Nat) (st : DS) (K : List Int) (w' : World) : Prop :=
  ∃ kv', OwnInts w' w.heap.size kv' K ∧ DiskObj w' b FP N st kv' ∧ Turns FP w w'
theorem arm_post {w w1 : World} {b N : Nat} {FP : List Nat} {st : DS} {kv kv' : Value} {K : List Int} (m : Int) (h : DiskObj w b FP N st kv) (hk : OwnInts w1 w.heap.size kv' K) (ht : Turns [] w w1) :
    ArmPost w b FP N { st with armed := m } K ((w1.setCell ⟨b, 5, none⟩ (.int .i64 m)).setCell ⟨b, 6, none⟩ kv') := by
  have h1 := h.kept ht (by simp)
  obtain ⟨h2, t2⟩ := h1.set_cell (st' := { st with armed := m }) (kv' := kv) 5 (.int .i64 m) rfl rfl (fun _ _ _ => rfl)
  obtain ⟨h3, t3⟩ := h2.set_cell (st' := { st with armed := m }) (kv' := kv') 6 kv' rfl rfl (fun _ _ _ => rfl)
  have htt := (t2.trans t3)
  refine ⟨kv', own_above (own_kept (own_base hk (Nat.zero_le _)) htt (fun x hx hF => ?_)) (fun x hx => (hk.lt x (by simpa using hx)).1), h3, (ht.mono (by simp)).trans htt⟩
  have a1 := (hk.lt x (by simpa using hx)).1
  have a2 := h.lt x hF
  omega

set_option maxHeartbeats 800000 in
set_option maxRecDepth 100000 in
theorem disk_arm (b N : Nat) (FP : List Nat) (st : DS) (kv v : Value) (n : Int) (K : List Int) (w : World) (h : DiskObj w b FP N st kv) (hv : IntsV w v K) (hl : K.length ≤ 1000000) :
    Calls Tryd.prog 14 #[.pointer (some ⟨b, 0, none⟩), .int .i64 n, v] w fun e w' => e = .returned (.tuple #[]) ∧ ArmPost w b FP N { st with armed := max n 0 } K w' := by
  have HN := Lib.hid h
  have HV := Lib.hid hv; clear hv
  have hbs := h.lt b (by obtain ⟨_, _, _, _, _, _, _, _, rfl⟩ := h; simp)
  obtain ⟨fb, sb, qv, hb, -⟩ := h
  have HB := Lib.hid hb; clear hb
  by_cases hn : n < 0
  · have e : max n 0 = 0 := by omega
    rw [e]; clear e
    go_enter Tryd.func14, Tryd.ntmps14
    go_wp2_with fail
    refine (clone_ints v K _ HV.out hl).mono ?_
    rintro e w1 ⟨kv', rfl, hk, ht⟩
    have hb1 : w1.heap[b]? = _ := (ht.block b hbs (by simp)).trans HB.out
    have c5 : w1.cell? ⟨b, 5, none⟩ = some (.int .i64 st.armed) := cell_at hb1 5
    have f5 : w1.frozen? ⟨b, 5, none⟩ = false := free_at hb1 5
    have c6 : w1.cell? ⟨b, 6, none⟩ = some kv := cell_at hb1 6
    have f6 : w1.frozen? ⟨b, 6, none⟩ = false := free_at hb1 6
    have HP := Lib.hid (arm_post 0 HN.out hk ht)
    obtain ⟨a', c', hkv, -⟩ := own_shape (own_base hk (Nat.zero_le _))
    subst hkv
    clear hk ht hb1
    go_wp2
    go_end0
    exact ⟨rfl, HP.out⟩
  · have e : max n 0 = n := by omega
    rw [e]; clear e
    go_enter Tryd.func14, Tryd.ntmps14
    go_wp2_with fail
    refine (clone_ints v K _ HV.out hl).mono ?_
    rintro e w1 ⟨kv', rfl, hk, ht⟩
    have hb1 : w1.heap[b]? = _ := (ht.block b hbs (by simp)).trans HB.out
    have c5 : w1.cell? ⟨b, 5, none⟩ = some (.int .i64 st.armed) := cell_at hb1 5
    have f5 : w1.frozen? ⟨b, 5, none⟩ = false := free_at hb1 5
    have c6 : w1.cell? ⟨b, 6, none⟩ = some kv := cell_at hb1 6
    have f6 : w1.frozen? ⟨b, 6, none⟩ = false := free_at hb1 6
    have HP := Lib.hid (arm_post n HN.out hk ht)
    obtain ⟨a', c', hkv, -⟩ := own_shape (own_base hk (Nat.zero_le _))
    subst hkv
    clear hk ht hb1
    go_wp2
    go_end0
    exact ⟨rfl, HP.out⟩

end Go.Proofs.YtdcgdnlpagadcaaDoor

/- Plain: mapEntry, then entryStore: together a mapUpdate. -/
namespace Go.Proofs.YtdcgdnlpagadcaaDoorMem
open Go Go.ChangeMaps Go.MapKept Go.WideShapes Go.Maps
open Go.WideElems (Fit rd rg pl rd_key rd_val rg_of rd_mk other_key)

section
variable {H : Type} {P : Program} {k : TypeId} {R : Value → Option (DataW H × List MemPlace)} {w : World} {b : Nat}

theorem find_born {es : Array MapEntry} {clock : Nat} (h : Stamped es clock) {j : Nat} {e0 : MapEntry} (hj : es[j]? = some e0) : es.findIdx? (fun e => (e.born : Int) == (e0.born : Int)) = some j := by
  have hjs := (Array.getElem?_eq_some_iff.1 hj).1
  have hje := (Array.getElem?_eq_some_iff.1 hj).2
  rw [Array.findIdx?_eq_some_iff_getElem]
  refine ⟨hjs, by simp [hje], fun i hi => ?_⟩
  have hnd := h.2.1
  have : es[i].born ≠ e0.born := by
    intro e
    have hp := List.pairwise_iff_getElem.1 hnd i j (by simpa using Nat.lt_trans hi hjs) (by simpa using hjs) hi
    simp only [List.getElem_map, Array.getElem_toList] at hp
    exact hp (by rw [e, hje])
  simp
  omega

theorem modify_push {es : Array MapEntry} (x : MapEntry) (f : MapEntry → MapEntry) : (es.push x).modify es.size f = es.push (f x) := by
  apply Array.ext
  · simp
  · intro i h1 h2
    rw [Array.getElem_modify]
    by_cases hi : es.size = i
    · subst hi; simp
    · have : i < es.size := by simp at h2; omega
      rw [if_neg hi]
      simp [Array.getElem_push, this]

theorem modify_twice {es : Array MapEntry} (j : Nat) (f g : MapEntry → MapEntry) : (es.modify j f).modify j g = es.modify j (fun x => g (f x)) := by
  apply Array.ext
  · simp
  · intro i h1 h2
    simp only [Array.getElem_modify]
    split <;> rfl

/-- mapEntry, anything that leaves the map's block as it is, entryStore: what one mapUpdate does. -/
theorem entry_then_store {t e : TypeId} {es : Array MapEntry} {clock : Nat} (K : Keyed P k) (ht : P.underlying t = some (.map k e)) (hb : w.heap[b]? = some (.map es clock)) (F : Fit P k R es clock) {key z : Value} {kl : Lit}
    (hkey : keyOf P k key = some kl) (hz : (zeroValue e).run P w = .ok z w) :
    ∃ (v : Value) (s : Int) (es1 : Array MapEntry) (clock1 : Nat), (Instr.mapEntry t (.map (some b)) key).run P w = .ok (.tuple #[v, .int .i64 s]) (setBlock w b (.map es1 clock1)) ∧
      ∀ (w2 : World) (val : Value), w2.heap[b]? = some (.map es1 clock1) → ∃ es' clock', (Instr.entryStore t (.map (some b)) (.int .i64 s) val).run P w2 = .ok () (setBlock w2 b (.map es' clock')) ∧
        (Instr.mapUpdate t (.map (some b)) key val).run P w = .ok () (setBlock w b (.map es' clock')) := by
  rcases K.find w hkey es.toList F.keys with ⟨h1, h2⟩ | ⟨j, e0, h1, h2, h3⟩
  · refine ⟨z, clock, es.push ⟨key, z, clock⟩, clock + 1, ?_, fun w2 val hw2 => ⟨es.push ⟨key, val, clock⟩, clock + 1, ?_, ?_⟩⟩
    · simp [Instr.mapEntry, run_underlying ht, MapKept.run_getObj_map hb, K.check w false hkey, h1, hz, MapKept.run_setObj_map _ hb, Result.andThen, setBlock, goInt]
    · have hst := stamped_push F.stamped (val := z) h2
      have hf := find_born hst (j := es.size) (e0 := ⟨key, z, clock⟩) (by simp)
      simp [Instr.entryStore, MapKept.run_getObj_map hw2, asInt, asIntOf, hf, MapKept.run_setObj_map _ hw2, Result.andThen, setBlock, modify_push]
    · simp [Instr.mapUpdate, run_underlying ht, MapKept.run_getObj_map hb, K.check w false hkey, h1, MapKept.run_setObj_map _ hb, Result.andThen, setBlock]
  · have hj : es[j]? = some e0 := by simpa using h2
    have hkeyf : ∀ e', es[j]? = some e' → ({ e' with key := key } : MapEntry).key = e'.key := fun e' he' => by rw [hj] at he'; cases he'; exact h3.symm
    refine ⟨e0.val, e0.born, es.modify j (fun e' => { e' with key := key }), clock, ?_, fun w2 val hw2 => ⟨es.modify j (fun e' => { e' with key := key, val := val }), clock, ?_, ?_⟩⟩
    · simp [Instr.mapEntry, run_underlying ht, MapKept.run_getObj_map hb, K.check w false hkey, h1, hj, h3, K.stays w hkey, MapKept.run_setObj_map _ hb, Result.andThen, setBlock, goInt]
    · have hst := stamped_modify F.stamped j (fun e' => { e' with key := key }) (fun _ _ => rfl) (fun e' _ he' => hkeyf e' he')
      have hf := find_born hst (j := j) (e0 := { e0 with key := key }) (by rw [Array.getElem?_modify, if_pos rfl, hj]; rfl)
      simp only at hf
      simp [Instr.entryStore, MapKept.run_getObj_map hw2, asInt, asIntOf, hf, MapKept.run_setObj_map _ hw2, Result.andThen, setBlock, modify_twice]
    · simp [Instr.mapUpdate, run_underlying ht, MapKept.run_getObj_map hb, K.check w false hkey, h1, hj, h3, K.stays w hkey, MapKept.run_setObj_map _ hb, Result.andThen, setBlock]

end
end Go.Proofs.YtdcgdnlpagadcaaDoorMem

/- Plain: the set of sectors: mapEntry, then entryStore. -/
namespace Go.Proofs.YtdcgdnlpagadcaaDoor
open Go.RowKit Go.Proofs.YtdcgdnlpagadcaaDoorMem Go.Maps Go.ChangeMaps

theorem setBlock_turns (w : World) (b : Nat) (es : Array MapEntry) (clock : Nat) {es0 : Array MapEntry} {c0 : Nat} (hb : w.heap[b]? = some (.map es0 c0)) : Turns [b] w (setBlock w b (.map es clock)) :=
  ⟨rfl, rfl, rfl, by simp [setBlock], fun i _ hi => heap_setBlock_other hb _ (fun e => hi (by simp [e]))⟩

theorem SetAt.entry {w : World} {b n : Nat} {S : Int → Int → Bool} (h : SetAt w b n S) (hn : n < maxLen) (f m : Int) (hf : (Lit.int .i64 f).wf = true) (hm : (Lit.int .i64 m).wf = true) :
    ∃ (v : Value) (s : Int) (w1 : World), (Instr.mapEntry 58 (.map (some b)) (secVal f m)).run Tryd.prog w = .ok (.tuple #[v, .int .i64 s]) w1 ∧ Turns [b] w w1 ∧
      ∀ w2 : World, w2.heap[b]? = w1.heap[b]? → ∃ w3, (Instr.entryStore 58 (.map (some b)) (.int .i64 s) (.bool true)).run Tryd.prog w2 = .ok () w3 ∧ SetAt w3 b (n + 1) (updS S f m) ∧ Turns [b] w2 w3 := by
  obtain ⟨w', hr, hs', ht'⟩ := h.store hn f m hf hm
  obtain ⟨D, ho, _, _⟩ := h
  obtain ⟨es, clock, hb, F, _, _⟩ := ho
  obtain ⟨kl, hk⟩ := sec_key hf hm
  obtain ⟨v, s, es1, clock1, h1, h2⟩ := entry_then_store Tryd.keyed81 Tryd.underlying58 hb F hk (Tryd.zero4 w)
  have hb1 := heap_setBlock_same hb (.map es1 clock1)
  refine ⟨v, s, _, h1, setBlock_turns w b es1 clock1 hb, fun w2 hw2 => ?_⟩
  rw [hb1] at hw2
  obtain ⟨es', clock', h3, h4⟩ := h2 w2 (.bool true) hw2
  rw [hr] at h4
  have e4 : w' = setBlock w b (.map es' clock') := by simpa using h4
  subst e4
  refine ⟨_, h3, ?_, setBlock_turns w2 b es' clock' hw2⟩
  obtain ⟨D', ⟨es'', clock'', hb'', F'', hs'', hD''⟩, hm', hat'⟩ := hs'
  rw [heap_setBlock_same hb] at hb''
  exact ⟨D', ⟨es'', clock'', by rw [heap_setBlock_same hw2]; exact hb'', F'', hs'', hD''⟩, hm', hat'⟩

end Go.Proofs.YtdcgdnlpagadcaaDoor

/- Contracts of package disk: write. -/
namespace Go.Proofs.YtdcgdnlpagadcaaDoor
open Go.RowKit Go.Proofs.YtdcgdnlpagadcaaDoorMem Go.Maps

set_option maxHeartbeats 800000 in
set_option maxRecDepth 100000 in
theorem write_err (b N : Nat) (FP : List Nat) (st : DS) (kv : Value) (f a : Int) (s : ByteArray) (w : World) (h : DiskObj w b FP N st kv) (hm : mayCode st f ≠ 0) :
    Calls Tryd.prog 45 #[.pointer (some ⟨b, 0, none⟩), .int .i64 f, .int .i64 a, .string s] w fun e w' => e = .returned (.int .i64 (mayCode st f)) ∧ w = w' := by
  have hb : (mayCode st f != 0) = true := by simp [hm]
  have hb2 : (mayCode st f == 0) = false := by simp [hm]
  have HN := Lib.hid h; clear h hm
  go_enter Tryd.func45, Tryd.ntmps45
  go_wp2_with fail
  refine (disk_may b N FP st kv f _ HN.out).mono ?_
  rintro e w' ⟨rfl, rfl⟩
  go_wp2_with fail
  go_ret
  exact ⟨rfl, rfl⟩

end Go.Proofs.YtdcgdnlpagadcaaDoor

/- Plain: the disk's states: what is always so, and what a crash leaves. No program in sight. -/
namespace Go.Proofs.YtdcgdnlpagadcaaDoor

/-- Whether sector n of file f survives among the first k pending ones. -/
def sv (K : List Int) (Q : List (Int × Int)) (f : Int) (n : Nat) : Nat → Bool
  | 0 => false
  | k + 1 => sv K Q f n k || (surv K k && Q[k]?.getD (0, 0) == (f, (n : Int)))

theorem sv_mem {K : List Int} {Q : List (Int × Int)} {f : Int} {n : Nat} : ∀ {k : Nat}, k ≤ Q.length → sv K Q f n k = true → (f, (n : Int)) ∈ Q
  | 0, _, h => by simp [sv] at h
  | k + 1, hk, h => by
    simp only [sv, Bool.or_eq_true, Bool.and_eq_true] at h
    rcases h with h | ⟨_, h⟩
    · exact sv_mem (by omega) h
    · rw [List.getElem?_eq_getElem (by omega)] at h
      simp only [Option.getD_some, beq_iff_eq] at h
      rw [← h]
      exact List.getElem_mem _
theorem sv_all {Q : List (Int × Int)} {K : List Int} (hK : ∀ i, surv K i = true) {f : Int} {n : Nat} : ∀ {k : Nat}, k ≤ Q.length → ∀ j, j < k → Q[j]? = some (f, (n : Int)) → sv K Q f n k = true
  | 0, _, j, hj, _ => by omega
  | k + 1, hk, j, hj, h => by
    simp only [sv, Bool.or_eq_true, Bool.and_eq_true]
    by_cases e : j = k
    · subst e
      exact Or.inr ⟨hK _, by rw [h]; simp⟩
    · exact Or.inl (sv_all hK (by omega) j (by omega) h)
theorem surv_one (i : Nat) : surv [1] i = true := by simp [surv, Nat.mod_one]
theorem surv_nil (i : Nat) : surv [] i = false := by simp [surv]

/-- What is so of a file behind the first k pending sectors. -/
structure Left (x R : File) (s : Nat → Bool) : Prop where
  now : R.now = x.now
  lo : x.last.size ≤ R.last.size
  hi : R.last.size ≤ max x.last.size x.now.size
  at' : ∀ i, byteA R.last i = if s (i / 64) = true ∧ i < x.now.size then byteA x.now i else byteA x.last i
  end' : ∀ n, s n = true → n * 64 < x.now.size → min (n * 64 + 64) x.now.size ≤ R.last.size

theorem left_to (K : List Int) (Q : List (Int × Int)) (F : Int → File) (f : Int) (hQ : ∀ p ∈ Q, 0 ≤ p.2) : ∀ k, k ≤ Q.length → Left (F f) (crashTo K Q F k f) (fun n => sv K Q f n k)
  | 0, _ => ⟨rfl, Nat.le_refl _, Nat.le_max_left _ _, fun i => by simp [sv, crashTo], fun n h => by simp [sv] at h⟩
  | k + 1, hk => by
    have ih := left_to K Q F f hQ k (by omega)
    have hp2 := hQ Q[k] (List.getElem_mem _)
    simp only [crashTo, sv, List.getElem?_eq_getElem (show k < Q.length by omega), Option.getD_some]
    generalize hGe : crashTo K Q F k = G at ih ⊢
    clear hGe
    obtain ⟨p, hp⟩ : ∃ p, p = Q[k] := ⟨_, rfl⟩
    rw [← hp] at hp2 ⊢
    obtain ⟨pf, pn⟩ := p
    simp only at hp2
    obtain ⟨n0, rfl⟩ := Int.eq_ofNat_of_zero_le hp2
    clear hp hp2
    unfold crashStep
    simp only
    by_cases hf : pf = f
    · subst hf
      by_cases hs : surv K k = true
      · by_cases ha : (n0 : Int) * 64 < ((G pf).now.size : Int)
        · rw [if_pos ⟨hs, ha⟩, updF_same]
          have e64 : ((n0 : Int) * 64).toNat = n0 * 64 := by omega
          rw [e64]
          have hts : ((G pf).now.extract (n0 * 64) (min (n0 * 64 + 64) (G pf).now.size)).size = min (n0 * 64 + 64) (G pf).now.size - n0 * 64 := by
            rw [extract_size]; omega
          have hnow := ih.now
          have hsz : (putB (G pf).last (n0 * 64) ((G pf).now.extract (n0 * 64) (min (n0 * 64 + 64) (G pf).now.size))).size = max (G pf).last.size (min (n0 * 64 + 64) (G pf).now.size) := by
            rw [putB_size, hts, if_neg (by omega)]; omega
          have hlo := ih.lo
          have hhi := ih.hi
          rw [hnow] at ha hsz hts
          refine ⟨hnow, ?_, ?_, fun i => ?_, fun n hn hlt => ?_⟩
          · show _ ≤ (putB _ _ _).size
            rw [hnow, hsz]; omega
          · show (putB _ _ _).size ≤ _
            rw [hnow, hsz]; omega
          · show byteA (putB _ _ _) i = _
            rw [hnow, putB_at, hts]
            by_cases h1 : n0 * 64 ≤ i ∧ i < n0 * 64 + (min (n0 * 64 + 64) (F pf).now.size - n0 * 64)
            · rw [if_pos h1, extract_at, if_pos (by omega)]
              have e1 : i / 64 = n0 := by omega
              rw [if_pos ⟨by simp [hs, e1], by omega⟩]
              congr 1
              omega
            · rw [if_neg h1, ih.at' i]
              by_cases h2 : i < (F pf).now.size
              · have e1 : ¬ i / 64 = n0 := by omega
                have e2 : ((pf, (n0 : Int)) == (pf, ((i / 64 : Nat) : Int))) = false := by
                  simp; omega
                simp only [e2, Bool.and_false, Bool.or_false]
              · rw [if_neg (by omega), if_neg (by omega)]
          · show _ ≤ (putB _ _ _).size
            rw [hnow, hsz]
            simp only [Bool.or_eq_true, Bool.and_eq_true] at hn
            rcases hn with hn | ⟨_, hn⟩
            · have := ih.end' n hn hlt; omega
            · have : n0 = n := by
                have h5 : (n0 : Int) = n := by simpa using hn
                omega
              subst this; omega
        · rw [if_neg (by simp [ha])]
          have hnow := ih.now
          rw [hnow] at ha
          refine ⟨hnow, ih.lo, ih.hi, fun i => ?_, fun n hn hlt => ?_⟩
          · rw [ih.at' i]
            by_cases h2 : i < (F pf).now.size
            · have e2 : ((pf, (n0 : Int)) == (pf, ((i / 64 : Nat) : Int))) = false := by
                simp; omega
              simp only [e2, Bool.and_false, Bool.or_false]
            · rw [if_neg (by omega), if_neg (by omega)]
          · simp only [Bool.or_eq_true, Bool.and_eq_true] at hn
            rcases hn with hn | ⟨_, hn⟩
            · exact ih.end' n hn hlt
            · have : n0 = n := by
                have h5 : (n0 : Int) = n := by simpa using hn
                omega
              subst this; omega
      · have hs' : surv K k = false := by simpa using hs
        rw [if_neg (by simp [hs])]
        simp only [hs', Bool.false_and, Bool.or_false]
        exact ih
    · have e2 : ∀ n : Nat, ((pf, (n0 : Int)) == (f, (n : Int))) = false := by
        intro n; simp; intro e; exact absurd e hf
      simp only [e2, Bool.and_false, Bool.or_false]
      split
      · rw [updF_other _ (fun e => hf e.symm)]; exact ih
      · exact ih

theorem crashTo_other {K : List Int} {Q : List (Int × Int)} {F : Int → File} {f : Int} (h : ∀ p ∈ Q, p.1 ≠ f) : ∀ k, k ≤ Q.length → crashTo K Q F k f = F f
  | 0, _ => rfl
  | k + 1, hk => by
    have hp := h Q[k] (List.getElem_mem _)
    simp only [crashTo, List.getElem?_eq_getElem (show k < Q.length by omega), Option.getD_some, crashStep]
    split
    · rw [updF_other _ (fun e => hp e.symm)]; exact crashTo_other h k (by omega)
    · exact crashTo_other h k (by omega)
theorem crashTo_nil (Q : List (Int × Int)) (F : Int → File) : ∀ k, crashTo [] Q F k = F
  | 0 => rfl
  | k + 1 => by rw [crashTo, crashTo_nil Q F k, crashStep, if_neg (by simp [surv_nil])]

theorem mem_addSec {Q : List (Int × Int)} {f n : Int} {p : Int × Int} : p ∈ addSec Q f n ↔ p ∈ Q ∨ p = (f, n) := by
  unfold addSec
  split
  · rename_i h
    exact ⟨Or.inl, fun h' => h'.elim id (fun e => e ▸ h)⟩
  · simp
theorem mem_addSecs {Q : List (Int × Int)} {f lo : Int} {p : Int × Int} : ∀ {k : Nat}, p ∈ addSecs Q f lo k ↔ p ∈ Q ∨ ∃ j : Nat, j < k ∧ p = (f, lo + j)
  | 0 => by simp [addSecs]
  | k + 1 => by
    rw [addSecs, mem_addSec, mem_addSecs]
    constructor
    · rintro ((h | ⟨j, hj, e⟩) | e)
      · exact Or.inl h
      · exact Or.inr ⟨j, by omega, e⟩
      · exact Or.inr ⟨k, by omega, e⟩
    · rintro (h | ⟨j, hj, e⟩)
      · exact Or.inl (Or.inl h)
      · by_cases hjk : j = k
        · subst hjk; exact Or.inr e
        · exact Or.inl (Or.inr ⟨j, by omega, e⟩)
theorem addSec_length (Q : List (Int × Int)) (f n : Int) : (addSec Q f n).length ≤ Q.length + 1 := by
  unfold addSec; split <;> simp
theorem addSecs_length (Q : List (Int × Int)) (f lo : Int) : ∀ k, (addSecs Q f lo k).length ≤ Q.length + k
  | 0 => by simp [addSecs]
  | k + 1 => by have := addSec_length (addSecs Q f lo k) f (lo + k); have := addSecs_length Q f lo k; simp only [addSecs]; omega

/-- What is always so of a disk's state. -/
structure DInv (st : DS) : Prop where
  size : ∀ f, (st.F f).last.size ≤ (st.F f).now.size ∧ (st.F f).now.size ≤ 16777216
  secs : ∀ p ∈ st.Q, 0 ≤ p.1 ∧ p.1 < 16 ∧ 0 ≤ p.2 ∧ p.2 < 262144
  cont : ∀ (f : Int) (i : Nat), i < (st.F f).now.size → (f, ((i / 64 : Nat) : Int)) ∈ st.Q ∨ byteA (st.F f).last i = byteA (st.F f).now i
  tail : ∀ f, (st.F f).last.size < (st.F f).now.size → (f, ((((st.F f).now.size - 1) / 64 : Nat) : Int)) ∈ st.Q
  armed : 0 ≤ st.armed ∧ st.armed ≤ 9223372036854775807
  lost : 0 ≤ st.lost ∧ st.lost ≤ 9223372036854775807

theorem noFile_now : noFile.now.size = 0 := rfl
theorem noFile_last : noFile.last.size = 0 := rfl
theorem DInv.new : DInv DS.new := ⟨fun f => by simp only [DS.new, noFile_now, noFile_last]; omega, fun p h => by simp [DS.new] at h, fun f i h => by simp only [DS.new, noFile_now] at h; omega, fun f h => absurd h (Nat.lt_irrefl _), by simp [DS.new], by simp [DS.new]⟩
theorem DInv.setLost {st : DS} (h : DInv st) (n : Int) (h0 : 0 ≤ n) (h1 : n ≤ 9223372036854775807) : DInv { st with lost := n } := ⟨h.size, h.secs, h.cont, h.tail, h.armed, ⟨h0, h1⟩⟩
theorem DInv.setArmed {st : DS} (h : DInv st) (n : Int) (h0 : 0 ≤ n) (h1 : n ≤ 9223372036854775807) : DInv { st with armed := n } := ⟨h.size, h.secs, h.cont, h.tail, ⟨h0, h1⟩, h.lost⟩
theorem DInv.setDown {st : DS} (h : DInv st) (b : Bool) : DInv { st with down := b } := ⟨h.size, h.secs, h.cont, h.tail, h.armed, h.lost⟩
theorem DInv.ends {st : DS} (h : DInv st) : DInv (endsS st) := by
  unfold endsS
  split
  · exact h
  · have := h.armed
    exact h.setArmed _ (by omega) (by omega)

theorem DInv.wr {st : DS} (h : DInv st) (f a : Int) (s : ByteArray) : DInv (wrS st f a s) := by
  unfold wrS
  split
  · rename_i hc
    obtain ⟨hc, hs⟩ := hc
    unfold wrCode at hc
    split at hc
    · contradiction
    split at hc
    · contradiction
    split at hc
    · contradiction
    rename_i hm ha hb
    have hm' : mayCode st f = 0 := by simpa using hm
    have hf : 0 ≤ f ∧ f < 16 := by
      unfold mayCode at hm'
      split at hm'
      · contradiction
      split at hm'
      · contradiction
      omega
    obtain ⟨n, rfl⟩ := Int.eq_ofNat_of_zero_le (show 0 ≤ a by omega)
    simp only [Int.toNat_natCast]
    have hps : (putB (st.F f).now n s).size = max (st.F f).now.size (n + s.size) := by rw [putB_size, if_neg (by omega)]
    have hz := h.size f
    refine ⟨fun g => ?_, fun p hp => ?_, fun g i hi => ?_, fun g hg => ?_, h.armed, h.lost⟩
    · simp only
      by_cases e : g = f
      · subst e; rw [updF_same]; simp only [hps]; omega
      · rw [updF_other _ e]; exact h.size g
    · rw [mem_addSecs] at hp
      rcases hp with hp | ⟨j, hj, rfl⟩
      · exact h.secs p hp
      · simp only; omega
    · simp only at hi ⊢
      by_cases e : g = f
      · subst e
        rw [updF_same] at hi ⊢
        simp only [hps] at hi ⊢
        rw [mem_addSecs, putB_at]
        by_cases h1 : n ≤ i ∧ i < n + s.size
        · refine Or.inl (Or.inr ⟨i / 64 - n / 64, by omega, ?_⟩)
          congr 1
          omega
        · rw [if_neg h1]
          by_cases h2 : i < (st.F g).now.size
          · rcases h.cont g i h2 with h3 | h3
            · exact Or.inl (Or.inl h3)
            · exact Or.inr h3
          · exact Or.inr (by rw [byteA_past (by omega), byteA_past (by omega)])
      · rw [updF_other _ e] at hi ⊢
        rw [mem_addSecs]
        rcases h.cont g i hi with h3 | h3
        · exact Or.inl (Or.inl h3)
        · exact Or.inr h3
    · simp only at hg ⊢
      by_cases e : g = f
      · subst e
        rw [updF_same] at hg ⊢
        simp only [hps] at hg ⊢
        rw [mem_addSecs]
        by_cases h1 : (st.F g).now.size ≤ n + s.size
        · refine Or.inr ⟨(n + s.size - 1) / 64 - n / 64, by omega, ?_⟩
          congr 1
          omega
        · rw [Nat.max_eq_left (by omega)] at hg ⊢
          exact Or.inl (h.tail g hg)
      · rw [updF_other _ e] at hg ⊢
        rw [mem_addSecs]
        exact Or.inl (h.tail g hg)
  · exact h

theorem DInv.crash {st : DS} (h : DInv st) (K : List Int) : DInv (crashS st K) := by
  unfold crashS
  split
  · exact h
  · have hL := fun f => left_to K st.Q st.F f (fun p hp => (h.secs p hp).2.2.1) st.Q.length (Nat.le_refl _)
    refine ⟨fun f => ?_, fun p hp => by simp at hp, fun f i hi => Or.inr rfl, fun f hf => absurd hf (Nat.lt_irrefl _), by simp, h.lost⟩
    have := (hL f).hi
    have := h.size f
    simp only [lastF]
    omega

theorem DInv.settle {st : DS} (h : DInv st) (f : Int) (s : ByteArray) (hs : s.size ≤ 16777216) : DInv (settleS st f s) := by
  unfold settleS
  refine ⟨fun g => ?_, fun p hp => ?_, fun g i hi => ?_, fun g hg => ?_, h.armed, h.lost⟩
  · simp only
    by_cases e : g = f
    · subst e; rw [updF_same]; exact ⟨Nat.le_refl _, hs⟩
    · rw [updF_other _ e]; exact h.size g
  · exact h.secs p (List.mem_filter.1 hp).1
  · simp only at hi ⊢
    by_cases e : g = f
    · subst e; rw [updF_same]; exact Or.inr rfl
    · rw [updF_other _ e] at hi ⊢
      rcases h.cont g i hi with h3 | h3
      · exact Or.inl (List.mem_filter.2 ⟨h3, by simpa using e⟩)
      · exact Or.inr h3
  · simp only at hg ⊢
    by_cases e : g = f
    · subst e; rw [updF_same] at hg; exact absurd hg (Nat.lt_irrefl _)
    · rw [updF_other _ e] at hg ⊢
      exact List.mem_filter.2 ⟨h.tail g hg, by simpa using e⟩

theorem DInv.end {st : DS} (h : DInv st) (K : List Int) : DInv (endS st K) := by
  unfold endS
  split
  · exact h.ends.crash K
  · exact h.ends
theorem DInv.write {st : DS} (h : DInv st) (K : List Int) (f a : Int) (s : ByteArray) : DInv (writeS st K f a s) := by
  unfold writeS
  split
  · exact (h.ends.wr f a s).crash K
  · exact h.ends.wr f a s
theorem DInv.sync {st : DS} (h : DInv st) (K : List Int) (f : Int) : DInv (syncS st K f) := by
  have hx := h.end K
  unfold syncS
  simp only
  split
  · exact hx
  split
  · have := hx.lost
    exact hx.setLost _ (by omega) (by omega)
  · exact hx.settle f _ (hx.size f).2
theorem DInv.trunc {st : DS} (h : DInv st) (K : List Int) (f z : Int) : DInv (truncS st K f z) := by
  have hx := h.end K
  unfold truncS
  simp only
  split
  · exact hx
  split
  · exact hx
  · refine hx.settle f _ ?_
    have := (hx.size f).2
    rw [extract_size]; omega

end Go.Proofs.YtdcgdnlpagadcaaDoor

/- Contracts of package disk: write: a sector becomes pending. -/
namespace Go.Proofs.YtdcgdnlpagadcaaDoor
open Go.RowKit Go.Proofs.YtdcgdnlpagadcaaDoorMem Go.Maps

theorem wf64 {n : Int} (h0 : -9223372036854775808 ≤ n) (h1 : n ≤ 9223372036854775807) : (Lit.int .i64 n).wf = true := by
  have e0 : IntKind.i64.min = -9223372036854775808 := by decide
  have e1 : IntKind.i64.max = 9223372036854775807 := by decide
  simp [Lit.wf, e0, e1]; omega
theorem FilesAt.more {w : World} {b n m : Nat} {F : Int → File} (h : FilesAt w b n F) (hm : n ≤ m) : FilesAt w b m F := by
  obtain ⟨D, ⟨es, clock, hb, F', hs, hD⟩, r⟩ := h
  exact ⟨D, ⟨es, clock, hb, F', Nat.le_trans hs hm, hD⟩, r⟩
theorem SetAt.more {w : World} {b n m : Nat} {S : Int → Int → Bool} (h : SetAt w b n S) (hm : n ≤ m) : SetAt w b m S := by
  obtain ⟨D, ⟨es, clock, hb, F', hs, hD⟩, r⟩ := h
  exact ⟨D, ⟨es, clock, hb, F', Nat.le_trans hs hm, hD⟩, r⟩
theorem DiskObj.more {w : World} {b N M : Nat} {FP : List Nat} {st : DS} {kv : Value} (h : DiskObj w b FP N st kv) (hm : N ≤ M) : DiskObj w b FP M st kv := by
  obtain ⟨fb, sb, qv, hb, hF, hS, r⟩ := h
  exact ⟨fb, sb, qv, hb, hF.more hm, hS.more hm, r⟩
theorem own_not_map {w : World} {base : Nat} {e : TypeId} {size : Nat} {v : Value} {n : Nat} {xs : List Value} (h : w.ownsRow base e size v n xs) {b : Nat} {es : Array MapEntry} {c : Nat}
    (hb : w.heap[b]? = some (.map es c)) : b ∉ v.ownBlock.toList := by
  intro hk
  rcases h.2 with ⟨rfl, _⟩ | ⟨g, cap, cur, rfl, _, hg, _⟩
  · simp [Value.ownBlock] at hk
  · simp [Value.ownBlock] at hk
    subst hk
    rw [hb] at hg
    simp at hg
theorem FilesAt.not_own {w : World} {base : Nat} {e : TypeId} {size : Nat} {v : Value} {n m b : Nat} {xs : List Value} {F : Int → File} (h : FilesAt w b m F) (ho : w.ownsRow base e size v n xs) : b ∉ v.ownBlock.toList := by
  obtain ⟨D, ⟨es, clock, hb, _⟩, _⟩ := h
  exact own_not_map ho hb
theorem SetAt.not_own {w : World} {base : Nat} {e : TypeId} {size : Nat} {v : Value} {n m b : Nat} {xs : List Value} {S : Int → Int → Bool} (h : SetAt w b m S) (ho : w.ownsRow base e size v n xs) : b ∉ v.ownBlock.toList := by
  obtain ⟨D, ⟨es, clock, hb, _⟩, _⟩ := h
  exact own_not_map ho hb

theorem _root_.Go.Proofs.YtdcgdnlpagadcaaDoorMem.Evolves.trans {A B C : List Nat} {a b c : World} (h : Evolves A B a b) (k : Evolves B C b c) : Evolves A C a c :=
  ⟨h.1.trans_new k.1 h.2, fun x hx => by
    rcases k.2 x hx with h1 | h1
    · exact h.2 x h1
    · exact Or.inr (Nat.le_trans h.1.size h1)⟩
theorem DiskPost.trans {a b c : World} {o N : Nat} {A B : List Nat} {st : DS} {kv : Value} (h : Evolves A B a b) (k : DiskPost b o B N st kv c) : DiskPost a o A N st kv c := by
  obtain ⟨FP', hD, hev⟩ := k
  exact ⟨FP', hD, h.trans hev⟩
theorem secCells_snoc (Q : List (Int × Int)) (f n : Int) : secCells (Q ++ [(f, n)]) = secCells Q ++ [.int .i64 f, .int .i64 n] := by simp [secCells]

/-- A sector that is not pending becomes so: append, store, mapEntry, entryStore. -/
theorem sec_added {V W11 w12 : World} {b fb sb M : Nat} {FP : List Nat} {st : DS} {kv qv v' : Value} {f n : Int} (hfw : (Lit.int .i64 f).wf = true) (hnw : (Lit.int .i64 n).wf = true) (hM : M < maxLen)
    (hb : V.heap[b]? = some (.cells #[.map (some fb), qv, .map (some sb), .int .i64 st.lost, .bool st.down, .int .i64 st.armed, kv] 61 (0, 0))) (hF : FilesAt V fb M st.F)
    (hS : SetAt V sb M (fun f m => decide ((f, m) ∈ st.Q))) (hQ : V.ownsRow 0 81 2 qv st.Q.length (secCells st.Q)) (hne : fb ≠ sb) (hFP : FP = b :: fb :: sb :: qv.ownBlock.toList)
    (h11 : Turns [] V W11) (hown : w12.ownsRow 0 81 2 v' (st.Q.length + 1) (secCells st.Q ++ [.int .i64 f, .int .i64 n])) (hgr : W11.grownBy w12 qv.ownBlock) (hat : v'.ownBlock = qv.ownBlock ∨ v'.ownBlock = some W11.heap.size) :
    w12.cell? ⟨b, 1, none⟩ = some qv ∧ w12.frozen? ⟨b, 1, none⟩ = false ∧ Turns qv.ownBlock.toList V w12 ∧ sb ≠ b ∧
    ∃ (ve : Value) (se : Int) (wE wS : World), (Instr.mapEntry 58 (.map (some sb)) (secVal f n)).run Tryd.prog (w12.setCell ⟨b, 1, none⟩ v') = .ok (.tuple #[ve, .int .i64 se]) wE ∧ Turns [sb] (w12.setCell ⟨b, 1, none⟩ v') wE ∧
      (Instr.entryStore 58 (.map (some sb)) (.int .i64 se) (.bool true)).run Tryd.prog wE = .ok () wS ∧ Turns [sb] (w12.setCell ⟨b, 1, none⟩ v') wS ∧ DiskPost V b FP (M + 1) { st with Q := st.Q ++ [(f, n)] } kv wS := by
  have t12 : Turns qv.ownBlock.toList V w12 := (h11.mono (by simp)).trans_new (Turns.of_grown (S := qv.ownBlock.toList) hgr (fun k hk => Or.inl (by simp [hk]))) (fun x hx => Or.inl hx)
  have hbq := own_ne hQ hb (by decide)
  have hb12 := (t12.block b (lt_of_at hb) hbq).trans hb
  have t15 : Turns (b :: sb :: qv.ownBlock.toList) V (w12.setCell ⟨b, 1, none⟩ v') := (t12.mono (by intro x hx; simp [hx])).trans (Turns.setCell _ _ _ (by simp))
  have hsb : sb ≠ b := hS.ne hb
  have hfb : fb ≠ b := hF.ne hb
  have hS15 : SetAt (w12.setCell ⟨b, 1, none⟩ v') sb M (fun f m => decide ((f, m) ∈ st.Q)) := (hS.kept t12 (hS.not_own hQ)).kept (Turns.setCell (S := [b]) _ _ _ (by simp)) (by simp; exact hsb)
  obtain ⟨ve, se, wE, h1, h2, h3⟩ := hS15.entry hM f n hfw hnw
  obtain ⟨wS, h4, h5, h6⟩ := h3 wE rfl
  have tE := t15.trans (h2.mono (by simp))
  have tS := tE.trans (h6.mono (by simp))
  have hsz12 : W11.heap.size ≤ w12.heap.size := hgr.size
  have h26 : Turns [sb] (w12.setCell ⟨b, 1, none⟩ v') wS := h2.trans h6
  have hsets : updS (fun f m => decide ((f, m) ∈ st.Q)) f n = fun f' m => decide ((f', m) ∈ st.Q ++ [(f, n)]) := by
    funext g j
    unfold updS
    by_cases e : g = f ∧ j = n
    · obtain ⟨rfl, rfl⟩ := e; simp
    · rw [if_neg e]
      simp [e]
  rw [hsets] at h5
  have hb15 : (w12.setCell ⟨b, 1, none⟩ v').heap[b]? = some (.cells #[.map (some fb), v', .map (some sb), .int .i64 st.lost, .bool st.down, .int .i64 st.armed, kv] 61 (0, 0)) := by
    rw [heap_setCell_at hb12]; rfl
  have hvb : b ∉ v'.ownBlock.toList := own_ne hown hb12 (by decide)
  have hv15 : (w12.setCell ⟨b, 1, none⟩ v').ownsRow 0 81 2 v' (st.Q.length + 1) (secCells st.Q ++ [.int .i64 f, .int .i64 n]) := own_kept hown (Turns.setCell (S := [b]) _ _ _ (by simp)) (fun x hx hxb => by simp at hxb; subst hxb; exact hvb hx)
  have hvs : sb ∉ v'.ownBlock.toList := hS15.not_own hv15
  refine ⟨cell_at hb12 1, free_at hb12 1, t12, hsb, ve, se, wE, wS, h1, h2, h4, h26, b :: fb :: sb :: v'.ownBlock.toList, ⟨fb, sb, v', ?_, ?_, h5, ?_, hne, rfl⟩, ?_, ?_⟩
  · rw [h26.block b (lt_of_at hb15) (by simp; exact fun e => hsb e.symm)]; exact hb15
  · exact (hF.more (by omega)).kept tS (by
      simp only [List.mem_cons, not_or]
      exact ⟨hfb, hne, hF.not_own hQ⟩)
  · show World.ownsRow _ 0 81 2 v' (st.Q ++ [(f, n)]).length (secCells (st.Q ++ [(f, n)]))
    rw [secCells_snoc, List.length_append]
    exact own_kept hv15 h26 (fun x hx hxb => by simp at hxb; subst hxb; exact hvs hx)
  · exact tS.mono (by rw [hFP]; intro x hx; simp only [List.mem_cons] at hx ⊢; rcases hx with h | h | h <;> simp [h])
  · intro x hx
    simp only [List.mem_cons] at hx
    rw [hFP]
    rcases hx with h | h | h | h
    · exact Or.inl (by simp [h])
    · exact Or.inl (by simp [h])
    · exact Or.inl (by simp [h])
    · rcases hat with e | e
      · rw [e] at h; exact Or.inl (by simp only [List.mem_cons]; exact Or.inr (Or.inr (Or.inr h)))
      · rw [e] at h; simp at h; subst h
        exact Or.inr h11.size

end Go.Proofs.YtdcgdnlpagadcaaDoor
