/- Contracts and lemmas (texts DoF, NetRead, ActRead, PureD, joined by a program). -/
import Derived.Test.YtmikjninonpejaaMb12
import Derived.Deep.Slices
import Derived.ProofKit
/- Statements about the disk: played. -/
namespace Go.Proofs.Ytmikjninonpejaa
open Go.RowKit Go.Proofs.YtmikjninonpejaaMem Go.Maps

theorem Sep.mach {w0 w : World} {b B : Nat} {st : DS} {K : List Int} (pre post : List Thing) (h : Sep w0 w (pre ++ machThing b B st K :: post)) :
    ∃ kv FP0, DiskI w b FP0 B st kv ∧ KeepV w kv K FP0 ∧ (∀ x ∈ FP0, w0.heap.size ≤ x) ∧ ∀ {B' : Nat} {st' : DS} {K' : List Int} {w' : World}, DoPost w b FP0 B' st' kv K' w' → Sep w0 w' (pre ++ machThing b B' st' K' :: post) := by
  obtain ⟨FP, hM, hge, step⟩ := h.pick pre _ post
  obtain ⟨kv, FP0, hD, hK, hsub, hstep⟩ := Mach.open hM
  refine ⟨kv, FP0, hD, hK, fun x hx => hge x (hsub x hx), fun {B' st' K' w'} hP => ?_⟩
  obtain ⟨FP', hM', hev⟩ := hstep hP
  exact step w' FP' (machThing b B' st' K') hev hM'
theorem mach_new {w0 w : World} (ts : List Thing) (h : Sep w0 w ts) : Calls Try.prog 32 #[] w fun e w' => ∃ b, e = .returned (.pointer (some ⟨b, 0, none⟩)) ∧ Sep w0 w' (machThing b 0 DS.new [] :: ts) :=
  (disk_new w).mono fun e w' ⟨b, FP, h1, h2, h3, h4⟩ => ⟨b, h1, h.add (t := machThing b 0 DS.new []) (FP := FP ++ []) h3 ⟨.slice none 0 0, FP, ⟨DInv.new, 0, by simp [DS.new], h2⟩, World.ownsRow_nil _ _ _ _, by simp [Value.ownBlock], by simp [Value.ownBlock]⟩ (by simpa using h4)⟩

section
variable {w0 w : World} {b B : Nat} {st : DS} {K : List Int}
theorem do_sep (pre post : List Thing) (a : DAct) (av : Value) (h : Sep w0 w (pre ++ machThing b B st K :: post)) (ha : IntsV w0 av a.keep) (hw : a.wf) (hB : B + a.s.size ≤ 700000) (hK : K.length ≤ 1000000) (hK2 : a.keep.length ≤ 1000000) :
    Calls Try.prog 34 #[.pointer (some ⟨b, 0, none⟩), .agg #[.int .i64 a.doo, .int .i64 a.f, .int .i64 a.n, .string a.s, av]] w fun e w' => e = .returned (.int .i64 (doC st K a)) ∧ Sep w0 w' (pre ++ machThing b (B + 8 + a.s.size) (doS st K a) (doK K a) :: post) := by
  obtain ⟨kv, FP0, hD, hK0, hge, step⟩ := Sep.mach pre post h
  exact (do_raw a hD hK0 (ha.old h.turns hge) hw.1 hw.2 hB hK hK2).mono fun e w' ⟨h1, h2⟩ => ⟨h1, step h2⟩
theorem dwrite_sep (pre post : List Thing) (f a : Int) (s : ByteArray) (h : Sep w0 w (pre ++ machThing b B st K :: post)) (hf : (Lit.int .i64 f).wf = true) (hB : B + s.size ≤ 800000) (hK : K.length ≤ 1000000) :
    Calls Try.prog 51 #[.pointer (some ⟨b, 0, none⟩), .int .i64 f, .int .i64 a, .string s] w fun e w' => e = .returned (.int .i64 (writeCode st f a s)) ∧ Sep w0 w' (pre ++ machThing b (B + 8 + s.size) (writeS st K f a s) K :: post) := by
  obtain ⟨kv, FP0, hD, hK0, hge, step⟩ := Sep.mach pre post h
  exact (writeI hD hK0 f a s hf hB hK).mono fun e w' ⟨h1, h2⟩ => ⟨h1, step (DoPost.of h2 hK0 (Nat.le_refl _))⟩
theorem dsync_sep (pre post : List Thing) (f : Int) (h : Sep w0 w (pre ++ machThing b B st K :: post)) (hf : (Lit.int .i64 f).wf = true) (hB : B ≤ 800000) (hK : K.length ≤ 1000000) :
    Calls Try.prog 41 #[.pointer (some ⟨b, 0, none⟩), .int .i64 f] w fun e w' => e = .returned (.int .i64 (syncCode st K f)) ∧ Sep w0 w' (pre ++ machThing b (B + 1) (syncS st K f) K :: post) := by
  obtain ⟨kv, FP0, hD, hK0, hge, step⟩ := Sep.mach pre post h
  exact (syncI hD hK0 f hf hB hK).mono fun e w' ⟨h1, h2⟩ => ⟨h1, step (DoPost.of h2 hK0 (Nat.le_refl _))⟩
theorem dtrunc_sep (pre post : List Thing) (f z : Int) (h : Sep w0 w (pre ++ machThing b B st K :: post)) (hf : (Lit.int .i64 f).wf = true) (hB : B ≤ 800000) (hK : K.length ≤ 1000000) :
    Calls Try.prog 52 #[.pointer (some ⟨b, 0, none⟩), .int .i64 f, .int .i64 z] w fun e w' => e = .returned (.int .i64 (truncCode st K f z)) ∧ Sep w0 w' (pre ++ machThing b (B + 1) (truncS st K f z) K :: post) := by
  obtain ⟨kv, FP0, hD, hK0, hge, step⟩ := Sep.mach pre post h
  exact (truncI hD hK0 f z hf hB hK).mono fun e w' ⟨h1, h2⟩ => ⟨h1, step (DoPost.of h2 hK0 (Nat.le_refl _))⟩
theorem dcrash_sep (pre post : List Thing) (v : Value) (C : List Int) (h : Sep w0 w (pre ++ machThing b B st K :: post)) (hv : IntsV w0 v C) (hB : B ≤ 900000) (hC : C.length ≤ 1000000) :
    Calls Try.prog 47 #[.pointer (some ⟨b, 0, none⟩), v] w fun e w' => e = .returned (.tuple #[]) ∧ Sep w0 w' (pre ++ machThing b B (crashS st C) K :: post) := by
  obtain ⟨kv, FP0, hD, hK0, hge, step⟩ := Sep.mach pre post h
  exact (crashI hD (hv.old h.turns hge) hB hC).mono fun e w' ⟨h1, h2⟩ => ⟨h1, step (DoPost.of h2 hK0 (Nat.le_refl _))⟩
theorem darm_sep (pre post : List Thing) (n : Int) (v : Value) (C : List Int) (h : Sep w0 w (pre ++ machThing b B st K :: post)) (hv : IntsV w0 v C) (hn : n ≤ 9223372036854775807) (hC : C.length ≤ 1000000) :
    Calls Try.prog 49 #[.pointer (some ⟨b, 0, none⟩), .int .i64 n, v] w fun e w' => e = .returned (.tuple #[]) ∧ Sep w0 w' (pre ++ machThing b B { st with armed := max n 0 } C :: post) := by
  obtain ⟨kv, FP0, hD, hK0, hge, step⟩ := Sep.mach pre post h
  exact (armI n hD (hv.old h.turns hge).ints.1 hn hC).mono fun e w' ⟨h1, kv', h2, h3, h4, h5⟩ => ⟨h1, step ⟨FP0, kv', h2, h3, Evolves.of_same h4, Or.inr h5⟩⟩
theorem dstart_sep (pre post : List Thing) (h : Sep w0 w (pre ++ machThing b B st K :: post)) :
    Calls Try.prog 48 #[.pointer (some ⟨b, 0, none⟩)] w fun e w' => e = .returned (.tuple #[]) ∧ Sep w0 w' (pre ++ machThing b B { st with down := false } K :: post) := by
  obtain ⟨kv, FP0, hD, hK0, hge, step⟩ := Sep.mach pre post h
  exact (startI hD).mono fun e w' ⟨h1, h2⟩ => ⟨h1, step (DoPost.of h2 hK0 (Nat.le_refl _))⟩
theorem dread_sep (pre post : List Thing) (f a z : Int) (h : Sep w0 w (pre ++ machThing b B st K :: post)) (hf : (Lit.int .i64 f).wf = true) :
    Calls Try.prog 42 #[.pointer (some ⟨b, 0, none⟩), .int .i64 f, .int .i64 a, .int .i64 z] w fun e w' => e = .returned (.tuple #[.string (readStr st f a z), .int .i64 (readCode st f a z)]) ∧ w = w' := by
  obtain ⟨kv, FP0, hD, hK0, hge, step⟩ := Sep.mach pre post h
  exact readI hD f a z hf
theorem dsize_sep (pre post : List Thing) (f : Int) (h : Sep w0 w (pre ++ machThing b B st K :: post)) (hf : (Lit.int .i64 f).wf = true) :
    Calls Try.prog 38 #[.pointer (some ⟨b, 0, none⟩), .int .i64 f] w fun e w' => e = .returned (.int .i64 (st.F f).now.size) ∧ w = w' := by
  obtain ⟨kv, FP0, hD, hK0, hge, step⟩ := Sep.mach pre post h
  exact sizeI hD f hf
theorem ddown_sep (pre post : List Thing) (h : Sep w0 w (pre ++ machThing b B st K :: post)) :
    Calls Try.prog 36 #[.pointer (some ⟨b, 0, none⟩)] w fun e w' => e = .returned (.bool st.down) ∧ w = w' := by
  obtain ⟨kv, FP0, hD, hK0, hge, step⟩ := Sep.mach pre post h
  exact downI hD
theorem mach_inv (pre post : List Thing) (h : Sep w0 w (pre ++ machThing b B st K :: post)) : DInv st := by
  obtain ⟨kv, FP0, hD, hK0, hge, step⟩ := Sep.mach pre post h
  exact hD.1
end

theorem fewD_act {l : List DAct} (h : fewD l = true) {i : Nat} (hi : i < l.length) : l[i].s.size ≤ 300 ∧ l[i].keep.length ≤ 60 := by
  have h1 := List.all_eq_true.1 (by simp [fewD] at h; rw [List.all_eq_true]; exact h.1 : l.all fewAct = true) _ (List.getElem_mem hi)
  simp only [fewAct, Bool.and_eq_true, decide_eq_true_eq] at h1
  exact ⟨h1.1, h1.2.1⟩
theorem fewD_len {l : List DAct} (h : fewD l = true) : l.length ≤ 40 := by
  simp [fewD] at h
  omega
theorem playTo_keep {l : List DAct} (h : fewD l = true) (st : DS) (K : List Int) (hK : K.length ≤ 60) : ∀ k, k ≤ l.length → (playTo st K l k).2.length ≤ 60
  | 0, _ => hK
  | k + 1, hk => by
    rw [playTo_succ st K l k (by omega)]
    have := playTo_keep h st K hK k (by omega)
    simp only [doK]
    split
    · exact (fewD_act h (by omega)).2
    · exact this

set_option maxHeartbeats 1600000 in
set_option maxRecDepth 100000 in
theorem played_any {w0 : World} (ts : List Thing) (a : Option Addr) (cap : Nat) (l : List DAct) (w : World) (h : Sep w0 w ts) (hA : ActsAt w0 a l) (hl : fewD l = true) :
    Calls Try.prog 44 #[.slice a l.length cap] w fun e w' => ∃ b, e = .returned (.pointer (some ⟨b, 0, none⟩)) ∧ Sep w0 w' (machThing b (l.length * 310) (playTo DS.new [] l l.length).1 (playTo DS.new [] l l.length).2 :: ts) := by
  have HA := Lib.hid hA; clear hA
  have HL := Lib.hid hl; clear hl
  have hlen := fewD_len HL.out
  have HS := Lib.hid h; clear h
  go_enter Try.func44, Try.ntmps44
  go_wp2_with fail
  refine (mach_new ts HS.out).mono ?_
  rintro e w1 ⟨b, rfl, h1⟩
  have H1 := Lib.hid h1; clear h1
  go_wp2_with fail
  go_loopw [4] (fun i wr => ∃ k : Nat, k ≤ l.length ∧ i = .int .i64 k ∧ Hid (Sep w0 wr (machThing b (k * 310) (playTo DS.new [] l k).1 (playTo DS.new [] l k).2 :: ts))) (fun i _ => l.length - (intOf i).toNat)
  case atStart => exact ⟨0, Nat.zero_le _, rfl, by have := H1.out; show Sep _ _ _; rw [Nat.zero_mul]; exact this⟩
  case round =>
    obtain ⟨k, hk, rfl, HR⟩ := hrel
    by_cases hlt : k < l.length
    · obtain ⟨hwf, bb, off, kv, rfl, -⟩ := HA.out k hlt
      obtain ⟨-, bb', off', kv', e', c0, c1, c2, c3, c4, hkv⟩ := HA.out.kept HR.out.turns k hlt
      obtain ⟨kv0, d0, d1, d2, d3, d4, hkv0⟩ := HA.out.same hlt rfl
      simp only [Option.some.injEq, Addr.mk.injEq] at e'
      obtain ⟨rfl, rfl, -⟩ := e'
      have hkk : kv' = kv0 := by
        have := (HR.out.turns.cell (a := ⟨bb, off + k * 5 + 4, none⟩) (World.block_lt_of_cell? _ _ d4) (by simp)).trans d4
        rw [c4] at this
        simpa using this
      subst hkk
      obtain ⟨x, hx⟩ : ∃ x, x = l[k] := ⟨_, rfl⟩
      have hsz := fewD_act HL.out hlt
      rw [← hx] at hwf c0 c1 c2 c3 hkv0 hsz
      have hltI : (k : Int) < (l.length : Int) := by omega
      have HX := Lib.hid hx
      have hkl := playTo_keep HL.out DS.new [] (by simp) k hk
      have HKV := Lib.hid (And.intro hkv0 (And.intro hwf (And.intro hsz hkl)))
      obtain ⟨ka, kc, rfl, -⟩ := hkv0
      clear hx hsz d0 d1 d2 d3 d4 hkl hwf hkv
      go_wp2_with fail
      refine (do_sep [] ts x _ HR.out HKV.out.1 HKV.out.2.1 (by have := HKV.out.2.2.1; omega) (by have := HKV.out.2.2.2; omega) (by have := HKV.out.2.2.1; omega)).mono ?_
      rintro e w2 ⟨rfl, h2⟩
      have H2 : Hid (Sep w0 w2 (machThing b ((k + 1) * 310) (playTo DS.new [] l (k + 1)).1 (playTo DS.new [] l (k + 1)).2 :: ts)) := by
        show Sep _ _ _
        rw [playTo_succ _ _ _ _ hlt, ← HX.out]
        obtain ⟨FP, hM, _, step⟩ := h2.pick [] _ ts
        refine step w2 FP (machThing b ((k + 1) * 310) _ _) (Evolves.of_same (Turns.refl _ _)) ?_
        obtain ⟨kv, FP0, q1, q2, q3, q4⟩ := hM
        exact ⟨kv, FP0, q1.more (by have := HKV.out.2.2.1; omega), q2, q3, q4⟩
      clear h2
      go_wp2_with fail
      go_roundw
      case rel => exact ⟨k + 1, by omega, by go_num, H2.out⟩
      case measure => simp [intOf]; omega
    · obtain rfl : k = l.length := by omega
      have hltI : decide ((l.length : Int) < (l.length : Int)) = false := decide_eq_false (by omega)
      go_wp2_with fail
      go_ret
      exact ⟨b, rfl, HR.out⟩

end Go.Proofs.Ytmikjninonpejaa

/- The arguments of the statements about net, read out of memory. -/
namespace Go.Proofs.Ytmikjninonpejaa
open Go.RowKit Go.Proofs.YtmikjninonpejaaMem Go.Deep

theorem addr_plain {w : World} {x : Addr} {v : Value} (h : w.cell? x = some v) : x = ⟨x.block, x.off, none⟩ := by
  obtain ⟨b, o, s⟩ := x
  cases s with
  | none => rfl
  | some s =>
    simp only [World.cell?] at h
    split at h <;> simp at h

theorem add_plain (b o i : Nat) : (⟨b, o, none⟩ : Addr).add i = ⟨b, o + i, none⟩ := by unfold Addr.add; split <;> simp_all

theorem four {l : List Value} (h : l.length = 4) : ∃ a b c d, l = [a, b, c, d] := by
  match l, h with
  | [a, b, c, d], _ => exact ⟨a, b, c, d, rfl⟩

section
variable {H : Type} {enc : TypeId × Value → H} {w : World} {fuel : Nat} {a : Option Addr} {len cap : Nat} {x : DataW H × List MemPlace}

theorem open_ops (h : DataW.trod enc Try.prog w 0 (fun _ => true) true fuel 22 [.slice a len cap] = some x) : ∃ ops : List NOp, ops.length = len ∧ OpsAt w a ops := by
  rcases open_slice Try.underlying22 h with ⟨hcs, _⟩ | ⟨a', len', cap', m, n, D, Pl, hcs, _, hl, hm, hmm, _, hx⟩
  · simp at hcs
    exact ⟨[], by simp [hcs.2.1], fun i hi => by simp at hi⟩
  · simp at hcs
    obtain ⟨rfl, rfl, rfl⟩ := hcs
    have hc4 : Try.prog.cellsOf 30 = 4 := by kernel_rfl
    simp only [if_true] at hmm
    subst hmm
    have key : ∀ i, i < len → ∃ o : NOp, w.cell? (a'.add (i * 4)) = some (.int .i64 o.doo) ∧ w.cell? ((a'.add (i * 4)).add 1) = some (.int .i64 o.n) ∧ w.cell? ((a'.add (i * 4)).add 2) = some (.int .i64 o.to) ∧ w.cell? ((a'.add (i * 4)).add 3) = some (.string o.s) := by
      intro i hi
      obtain ⟨cs', h1, h2⟩ := hx i (by omega)
      rw [hc4] at h1
      obtain ⟨_, hlen, hcell⟩ := World.cells?_some h1
      obtain ⟨xs, n', _, _, _, hxl, hf⟩ := DataW.trod_struct Try.underlying30 h2
      have f0 := hf 0 _ rfl
      have f1 := hf 1 _ rfl
      have f2 := hf 2 _ rfl
      have f3 := hf 3 _ rfl
      have hxl' : xs.length = 4 := hxl
      obtain ⟨c0, c1, c2, c3, rfl⟩ := four hlen
      rw [List.getElem?_eq_getElem (by omega)] at f0 f1 f2 f3
      obtain ⟨n0, e0, _, _⟩ := DataW.trod_int Try.underlying3 f0
      obtain ⟨n1, e1, _, _⟩ := DataW.trod_int Try.underlying3 f1
      obtain ⟨n2, e2, _, _⟩ := DataW.trod_int Try.underlying3 f2
      obtain ⟨n3, e3, _, _⟩ := DataW.trod_string Try.underlying9 f3
      have k3 : Try.prog.cellsOf 3 = 1 := by kernel_rfl
      have k9 : Try.prog.cellsOf 9 = 1 := by kernel_rfl
      simp [k3, k9] at e0 e1 e2 e3
      subst e0 e1 e2 e3
      exact ⟨⟨n0, n1, n2, n3⟩, by simpa [Addr.add] using hcell 0 (by omega), by simpa using hcell 1 (by omega), by simpa using hcell 2 (by omega), by simpa using hcell 3 (by omega)⟩
    have : Inhabited NOp := ⟨⟨0, 0, 0, ByteArray.empty⟩⟩
    obtain ⟨F, hF⟩ := choose_lt key
    refine ⟨(List.range len).map F, by simp, fun i hi => ?_⟩
    have hi' : i < len := by simpa using hi
    obtain ⟨k0, k1, k2, k3⟩ := hF i hi'
    have hp : a' = ⟨a'.block, a'.off, none⟩ := by
      have := (hF 0 (by omega)).1
      rw [Nat.zero_mul] at this
      exact addr_plain (by simpa [Addr.add] using this)
    rw [hp] at k0 k1 k2 k3
    simp only [add_plain] at k0 k1 k2 k3
    refine ⟨a'.block, a'.off, by rw [← hp], ?_⟩
    simp only [List.getElem_map, List.getElem_range]
    exact ⟨k0, k1, k2, k3⟩

theorem open_nums (h : DataW.trod enc Try.prog w 0 (fun _ => true) true fuel 23 [.slice a len cap] = some x) : ∃ zs : List Int, zs.length = len ∧ IntsAt w a zs := by
  rcases open_slice1 Try.underlying23 (by kernel_rfl) h with ⟨hcs, _⟩ | ⟨a', len', cap', m, n, V, D, Pl, hcs, _, hl, hm, hmm, _, hx⟩
  · simp at hcs
    exact ⟨[], by simp [hcs.2.1], fun i hi => by simp at hi⟩
  · simp at hcs
    obtain ⟨rfl, rfl, rfl⟩ := hcs
    simp only [if_true] at hmm
    subst hmm
    have key : ∀ i, i < len → ∃ z : Int, w.cell? (a'.add i) = some (.int .i64 z) := by
      intro i hi
      obtain ⟨h1, h2⟩ := hx i (by omega)
      obtain ⟨z, e, _, _⟩ := DataW.trod_int Try.underlying3 h2
      simp at e
      exact ⟨z, by rw [h1, e]⟩
    obtain ⟨F, hF⟩ := choose_lt key
    refine ⟨(List.range len).map F, by simp, fun i hi => ?_⟩
    have hi' : i < len := by simpa using hi
    have hp : a' = ⟨a'.block, a'.off, none⟩ := addr_plain (by simpa [Addr.add] using hF 0 (by omega))
    have k0 := hF i hi'
    rw [hp, add_plain] at k0
    exact ⟨a'.block, a'.off, by rw [← hp], by simpa using k0⟩
end

end Go.Proofs.Ytmikjninonpejaa

/- The arguments of the statements about the disk, read out of memory. -/
namespace Go.Proofs.Ytmikjninonpejaa
open Go.RowKit Go.Proofs.YtmikjninonpejaaMem Go.Deep

def ActsIn (w : World) (a : Option Addr) (l : List DAct) : Prop := l.length ≤ maxLen ∧ ActsAt w a l
def IntsIn (w : World) (a : Option Addr) (l : List Int) : Prop := l.length ≤ maxLen ∧ IntsAt w a l

theorem five {l : List Value} (h : l.length = 5) : ∃ a b c d e, l = [a, b, c, d, e] := by
  match l, h with
  | [a, b, c, d, e], _ => exact ⟨a, b, c, d, e, rfl⟩

section
variable {H : Type} {enc : TypeId × Value → H} {w : World} {fuel : Nat} {a : Option Addr} {len cap : Nat} {x : DataW H × List MemPlace}

theorem open_ints (h : DataW.trod enc Try.prog w 0 (fun _ => true) true fuel 23 [.slice a len cap] = some x) : ∃ zs : List Int, zs.length = len ∧ IntsIn w a zs := by
  obtain ⟨zs, h1, h2⟩ := open_nums h
  refine ⟨zs, h1, ?_, h2⟩
  rcases open_slice Try.underlying23 h with ⟨hcs, _⟩ | ⟨a', len', cap', m, n, D, Pl, hcs, _, hl, hm, hmm, _, hx⟩
  · simp at hcs
    rw [h1, hcs.2.1]; exact Nat.zero_le _
  · simp at hcs
    omega
theorem open_acts (h : DataW.trod enc Try.prog w 0 (fun _ => true) true fuel 55 [.slice a len cap] = some x) : ∃ l : List DAct, l.length = len ∧ ActsIn w a l := by
  rcases open_slice Try.underlying55 h with ⟨hcs, _⟩ | ⟨a', len', cap', m, n, D, Pl, hcs, _, hl, hm, hmm, _, hx⟩
  · simp at hcs
    exact ⟨[], by simp [hcs.2.1], Nat.zero_le _, fun i hi => by simp at hi⟩
  · simp at hcs
    obtain ⟨rfl, rfl, rfl⟩ := hcs
    have hc5 : Try.prog.cellsOf 63 = 5 := by kernel_rfl
    simp only [if_true] at hmm
    subst hmm
    have key : ∀ i, i < len → ∃ o : DAct, o.wf ∧ w.cell? (a'.add (i * 5)) = some (.int .i64 o.doo) ∧ w.cell? ((a'.add (i * 5)).add 1) = some (.int .i64 o.f) ∧ w.cell? ((a'.add (i * 5)).add 2) = some (.int .i64 o.n) ∧ w.cell? ((a'.add (i * 5)).add 3) = some (.string o.s) ∧
        ∃ kv, w.cell? ((a'.add (i * 5)).add 4) = some kv ∧ IntsV w kv o.keep := by
      intro i hi
      obtain ⟨cs', h1, h2⟩ := hx i (by omega)
      rw [hc5] at h1
      obtain ⟨_, hlen, hcell⟩ := World.cells?_some h1
      obtain ⟨xs, n', _, _, _, hxl, hf⟩ := DataW.trod_struct Try.underlying63 h2
      have f0 := hf 0 _ rfl
      have f1 := hf 1 _ rfl
      have f2 := hf 2 _ rfl
      have f3 := hf 3 _ rfl
      have f4 := hf 4 _ rfl
      have hxl' : xs.length = 5 := hxl
      obtain ⟨c0, c1, c2, c3, c4, rfl⟩ := five hlen
      rw [List.getElem?_eq_getElem (by omega)] at f0 f1 f2 f3 f4
      obtain ⟨n0, e0, _, _⟩ := DataW.trod_int Try.underlying3 f0
      obtain ⟨n1, e1, _, hw1⟩ := DataW.trod_int Try.underlying3 f1
      obtain ⟨n2, e2, _, hw2⟩ := DataW.trod_int Try.underlying3 f2
      obtain ⟨n3, e3, _, _⟩ := DataW.trod_string Try.underlying9 f3
      have k3 : Try.prog.cellsOf 3 = 1 := by kernel_rfl
      have k9 : Try.prog.cellsOf 9 = 1 := by kernel_rfl
      have k23 : Try.prog.cellsOf 23 = 1 := by kernel_rfl
      simp [k3, k9] at e0 e1 e2 e3
      subst e0 e1 e2 e3
      simp [k23] at f4
      have hsl : ∃ ka kn kc, c4 = .slice ka kn kc := by
        rcases open_slice Try.underlying23 f4 with ⟨hcs, _⟩ | ⟨a', len', cap', m, n, D, Pl, hcs, _⟩
        · simp at hcs; exact ⟨_, _, _, hcs⟩
        · simp at hcs; exact ⟨_, _, _, hcs⟩
      obtain ⟨ka, kn, kc, rfl⟩ := hsl
      obtain ⟨zs, hz1, hz2⟩ := open_nums f4
      subst hz1
      refine ⟨⟨n0, n1, n2, n3, zs⟩, ⟨hw1, ?_⟩, by simpa [Addr.add] using hcell 0 (by omega), by simpa using hcell 1 (by omega), by simpa using hcell 2 (by omega), by simpa using hcell 3 (by omega), _, by simpa using hcell 4 (by omega), ka, kc, rfl, hz2⟩
      have e1 : IntKind.i64.max = 9223372036854775807 := by decide
      have := hw2
      simp [Lit.wf, e1] at this
      exact this.2
    have : Inhabited DAct := ⟨⟨0, 0, 0, ByteArray.empty, []⟩⟩
    obtain ⟨F, hF⟩ := choose_lt key
    refine ⟨(List.range len).map F, by simp, by simp; omega, fun i hi => ?_⟩
    have hi' : i < len := by simpa using hi
    obtain ⟨kw, k0, k1, k2, k3, kv, k4, k5⟩ := hF i hi'
    have hp : a' = ⟨a'.block, a'.off, none⟩ := by
      have := (hF 0 (by omega)).2.1
      rw [Nat.zero_mul] at this
      exact addr_plain (by simpa [Addr.add] using this)
    rw [hp] at k0 k1 k2 k3 k4
    simp only [add_plain] at k0 k1 k2 k3 k4
    simp only [List.getElem_map, List.getElem_range]
    exact ⟨kw, a'.block, a'.off, kv, by rw [← hp], k0, k1, k2, k3, k4, k5⟩
end

end Go.Proofs.Ytmikjninonpejaa

/- Plain: a file that is synced is not touched. No program in sight. -/
namespace Go.Proofs.Ytmikjninonpejaa

/-- File f is n, durably. -/
def Quiet (st : DS) (f : Int) (n : ByteArray) : Prop := st.F f = ⟨n, n⟩ ∧ ∀ p ∈ st.Q, p.1 ≠ f
theorem may_zero {st : DS} {f : Int} (h : mayCode st f = 0) : st.down = false ∧ 0 ≤ f ∧ f < 16 := by
  unfold mayCode at h
  split at h
  · cases h
  · rename_i hd
    split at h
    · cases h
    · exact ⟨by simpa using hd, by omega, by omega⟩
theorem may_of {st : DS} {f : Int} (h : st.down = false) (h0 : 0 ≤ f) (h1 : f < 16) : mayCode st f = 0 := by
  unfold mayCode
  rw [h, if_neg (by simp), if_neg (by omega)]
theorem Quiet.ends {st : DS} {f : Int} {n : ByteArray} (h : Quiet st f n) : Quiet (endsS st) f n := by
  unfold endsS; split <;> exact h
theorem Quiet.wr {st : DS} {f g : Int} {n : ByteArray} (h : Quiet st f n) (hg : g ≠ f) (a : Int) (s : ByteArray) : Quiet (wrS st g a s) f n := by
  unfold wrS
  split
  · refine ⟨?_, fun p hp => ?_⟩
    · simp only; rw [updF_other _ (fun e => hg e.symm)]; exact h.1
    · simp only at hp
      rw [mem_addSecs] at hp
      rcases hp with hp | ⟨j, _, rfl⟩
      · exact h.2 p hp
      · exact hg
  · exact h
theorem Quiet.crash {st : DS} {f : Int} {n : ByteArray} (h : Quiet st f n) (K : List Int) : Quiet (crashS st K) f n := by
  unfold crashS
  split
  · exact h
  · refine ⟨?_, fun p hp => by simp at hp⟩
    simp only [lastF]
    rw [crashTo_other h.2 _ (Nat.le_refl _), h.1]
theorem Quiet.settle {st : DS} {f g : Int} {n : ByteArray} (h : Quiet st f n) (hg : g ≠ f) (s : ByteArray) : Quiet (settleS st g s) f n := by
  refine ⟨?_, fun p hp => h.2 p (List.mem_filter.1 hp).1⟩
  simp only [settleS]; rw [updF_other _ (fun e => hg e.symm)]; exact h.1
theorem Quiet.end {st : DS} {f : Int} {n : ByteArray} (h : Quiet st f n) (K : List Int) : Quiet (endS st K) f n := by
  unfold endS; split
  · exact h.ends.crash K
  · exact h.ends
theorem Quiet.do {st : DS} {f : Int} {n : ByteArray} (h : Quiet st f n) (K : List Int) (a : DAct) (ha : a.doo % 8 < 4 ∧ a.f ≠ f ∨ a.doo % 8 = 4) : Quiet (doS st K a) f n := by
  unfold doS
  by_cases h4 : a.doo % 8 = 4
  · rw [if_neg (by omega), if_neg (by omega), if_pos h4]; exact h
  · obtain ⟨hlt, hf⟩ := ha.resolve_right h4
    have hx := h.end K
    split
    · unfold syncS
      simp only
      split
      · exact hx
      split
      · exact hx
      · exact hx.settle hf _
    split
    · unfold truncS
      simp only
      split
      · exact hx
      split
      · exact hx
      · exact hx.settle hf _
    rw [if_neg (by omega), if_neg (by omega), if_neg (by omega)]
    unfold writeS
    split
    · exact (h.ends.wr hf _ _).crash K
    · exact h.ends.wr hf _ _
theorem sync_ok {st : DS} {K : List Int} {f : Int} (h : syncCode st K f = 0) : mayCode st f = 0 ∧ mayCode (syncS st K f) f = 0 ∧ Quiet (syncS st K f) f (st.F f).now := by
  unfold syncCode at h
  split at h
  · contradiction
  rename_i hm
  have hm' : mayCode (endS st K) f = 0 := by simpa using hm
  split at h
  · cases h
  rename_i hl
  obtain ⟨hd, h0, h1⟩ := may_zero hm'
  have hE : endsB st = false := by
    cases hE : endsB st
    · rfl
    · unfold endS at hd
      rw [if_pos hE] at hd
      unfold crashS at hd
      split at hd
      · rename_i h2; rw [h2] at hd; cases hd
      · cases hd
  have he : endS st K = endsS st := by simp [endS, hE]
  have hsd : st.down = false := by
    rw [he] at hd
    unfold endsS at hd
    split at hd
    · exact hd
    · exact hd
  have hF : (endsS st).F = st.F := by unfold endsS; split <;> rfl
  have hll : (endsS st).lost = st.lost := by unfold endsS; split <;> rfl
  have hs : syncS st K f = settleS (endsS st) f (st.F f).now := by
    unfold syncS
    simp only [he]
    rw [if_neg (by rw [← he]; exact hm), hll, if_neg hl, hF]
  refine ⟨may_of hsd h0 h1, ?_, ?_⟩
  · rw [hs]
    rw [he] at hm'
    exact hm'
  · rw [hs]
    refine ⟨by simp only [settleS]; rw [updF_same], fun p hp => ?_⟩
    have := (List.mem_filter.1 hp).2
    simpa using this
theorem read_whole {st : DS} {f : Int} (h : mayCode st f = 0) : readCode st f 0 16777216 = 0 ∧ readStr st f 0 16777216 = (st.F f).now.extract 0 16777216 := by
  have e : readCode st f 0 16777216 = 0 := by rw [readCode, if_pos h, if_neg (by omega)]
  refine ⟨e, ?_⟩
  rw [readStr, if_pos e]
  rfl

end Go.Proofs.Ytmikjninonpejaa
