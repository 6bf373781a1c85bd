/- Contracts and lemmas (texts CelH, joined by a program). -/
import Derived.Test.YtdcgdnlpagadcaaDoorMc11
import Derived.Deep.Slices
import Derived.ProofKit
import Derived.Test.YtdcgdnlpagadcaaDoorRows
import Derived.LaidMore
import Derived.OpenShut
import Derived.Stop.Joined
/- The arguments of the statements about cell, read out of memory; the table of the offsets. -/
namespace Go.Proofs.YtdcgdnlpagadcaaDoor
open Go.RowKit Go.Proofs.YtdcgdnlpagadcaaDoorMem Go.Deep

def COpsIn (w : World) (a : Option Addr) (l : List COp) : Prop := l.length ≤ maxLen ∧ COpsAt w a l
def IntsIn (w : World) (a : Option Addr) (l : List Int) : Prop := l.length ≤ maxLen ∧ IntsAt w a l
theorem four {l : List Value} (h : l.length = 4) : ∃ a b c d, l = [a, b, c, d] := by
  match l, h with
  | [a, b, c, d], _ => exact ⟨a, b, c, d, rfl⟩

section
variable {H : Type} {enc : TypeId × Value → H} {w : World} {fuel : Nat} {a : Option Addr} {len cap : Nat} {x : DataW H × List MemPlace}

theorem open_nums (h : DataW.trod enc Tryd.prog w 0 (fun _ => true) true fuel 23 [.slice a len cap] = some x) : ∃ zs : List Int, zs.length = len ∧ IntsAt w a zs := by
  rcases open_slice1 Tryd.underlying23 (by kernel_rfl) h with ⟨hcs, _⟩ | ⟨a', len', cap', m, n, V, D, Pl, hcs, _, hl, hm, hmm, _, hx⟩
  · simp at hcs
    exact ⟨[], by simp [hcs.2.1], fun i hi => by simp at hi⟩
  · simp at hcs
    obtain ⟨rfl, rfl, rfl⟩ := hcs
    simp only [if_true] at hmm
    subst hmm
    have key : ∀ i, i < len → ∃ z : Int, w.cell? (a'.add i) = some (.int .i64 z) := by
      intro i hi
      obtain ⟨h1, h2⟩ := hx i (by omega)
      obtain ⟨z, e, _, _⟩ := DataW.trod_int Tryd.underlying3 h2
      simp at e
      exact ⟨z, by rw [h1, e]⟩
    obtain ⟨F, hF⟩ := choose_lt key
    refine ⟨(List.range len).map F, by simp, fun i hi => ?_⟩
    have hi' : i < len := by simpa using hi
    have hp : a' = ⟨a'.block, a'.off, none⟩ := addr_plain (by simpa [Addr.add] using hF 0 (by omega))
    have k0 := hF i hi'
    rw [hp, add_plain] at k0
    exact ⟨a'.block, a'.off, by rw [← hp], by simpa using k0⟩

theorem open_ints (h : DataW.trod enc Tryd.prog w 0 (fun _ => true) true fuel 23 [.slice a len cap] = some x) : ∃ zs : List Int, zs.length = len ∧ IntsIn w a zs := by
  obtain ⟨zs, h1, h2⟩ := open_nums h
  refine ⟨zs, h1, ?_, h2⟩
  rcases open_slice Tryd.underlying23 h with ⟨hcs, _⟩ | ⟨a', len', cap', m, n, D, Pl, hcs, _, hl, hm, hmm, _, hx⟩
  · simp at hcs
    rw [h1, hcs.2.1]; exact Nat.zero_le _
  · simp at hcs
    omega
theorem open_cops (h : DataW.trod enc Tryd.prog w 0 (fun _ => true) true fuel 22 [.slice a len cap] = some x) : ∃ l : List COp, l.length = len ∧ COpsIn w a l := by
  rcases open_slice Tryd.underlying22 h with ⟨hcs, _⟩ | ⟨a', len', cap', m, n, D, Pl, hcs, _, hl, hm, hmm, _, hx⟩
  · simp at hcs
    exact ⟨[], by simp [hcs.2.1], Nat.zero_le _, fun i hi => by simp at hi⟩
  · simp at hcs
    obtain ⟨rfl, rfl, rfl⟩ := hcs
    have hc4 : Tryd.prog.cellsOf 34 = 4 := by kernel_rfl
    simp only [if_true] at hmm
    subst hmm
    have key : ∀ i, i < len → ∃ o : COp, o.n ≤ 9223372036854775807 ∧ w.cell? (a'.add (i * 4)) = some (.int .i64 o.kind) ∧ w.cell? ((a'.add (i * 4)).add 1) = some (.string o.s) ∧ w.cell? ((a'.add (i * 4)).add 2) = some (.int .i64 o.n) ∧
        ∃ kv, w.cell? ((a'.add (i * 4)).add 3) = some kv ∧ IntsV w kv o.keep := by
      intro i hi
      obtain ⟨cs', h1, h2⟩ := hx i (by omega)
      rw [hc4] at h1
      obtain ⟨_, hlen, hcell⟩ := World.cells?_some h1
      obtain ⟨xs, n', _, _, _, hxl, hf⟩ := DataW.trod_struct Tryd.underlying34 h2
      have f0 := hf 0 _ rfl
      have f1 := hf 1 _ rfl
      have f2 := hf 2 _ rfl
      have f3 := hf 3 _ rfl
      have hxl' : xs.length = 4 := hxl
      obtain ⟨c0, c1, c2, c3, rfl⟩ := four hlen
      rw [List.getElem?_eq_getElem (by omega)] at f0 f1 f2 f3
      obtain ⟨n0, e0, _, _⟩ := DataW.trod_int Tryd.underlying3 f0
      obtain ⟨n1, e1, _, _⟩ := DataW.trod_string Tryd.underlying9 f1
      obtain ⟨n2, e2, _, hw2⟩ := DataW.trod_int Tryd.underlying3 f2
      have k3 : Tryd.prog.cellsOf 3 = 1 := by kernel_rfl
      have k9 : Tryd.prog.cellsOf 9 = 1 := by kernel_rfl
      have k23 : Tryd.prog.cellsOf 23 = 1 := by kernel_rfl
      simp [k3, k9] at e0 e1 e2
      subst e0 e1 e2
      simp [k23] at f3
      have hsl : ∃ ka kn kc, c3 = .slice ka kn kc := by
        rcases open_slice Tryd.underlying23 f3 with ⟨hcs, _⟩ | ⟨a', len', cap', m, n, D, Pl, hcs, _⟩
        · simp at hcs; exact ⟨_, _, _, hcs⟩
        · simp at hcs; exact ⟨_, _, _, hcs⟩
      obtain ⟨ka, kn, kc, rfl⟩ := hsl
      obtain ⟨zs, hz1, hz2⟩ := open_nums f3
      subst hz1
      refine ⟨⟨n0, n1, n2, zs⟩, ?_, by simpa [Addr.add] using hcell 0 (by omega), by simpa using hcell 1 (by omega), by simpa using hcell 2 (by omega), _, by simpa using hcell 3 (by omega), ka, kc, rfl, hz2⟩
      have e1 : IntKind.i64.max = 9223372036854775807 := by decide
      have := hw2
      simp [Lit.wf, e1] at this
      exact this.2
    have : Inhabited COp := ⟨⟨0, ByteArray.empty, 0, []⟩⟩
    obtain ⟨F, hF⟩ := choose_lt key
    refine ⟨(List.range len).map F, by simp, by simp; omega, fun i hi => ?_⟩
    have hi' : i < len := by simpa using hi
    obtain ⟨kw, k0, k1, k2, kv, k3, k4⟩ := hF i hi'
    have hp : a' = ⟨a'.block, a'.off, none⟩ := by
      have := (hF 0 (by omega)).2.1
      rw [Nat.zero_mul] at this
      exact addr_plain (by simpa [Addr.add] using this)
    rw [hp] at k0 k1 k2 k3
    simp only [add_plain] at k0 k1 k2 k3
    simp only [List.getElem_map, List.getElem_range]
    exact ⟨kw, a'.block, a'.off, kv, by rw [← hp], k0, k1, k2, k3, k4⟩
end

theorem gOffs : Tryd.prog.globalNamed "errata/cell.offsets" = some 0 := by kernel_rfl
theorem tOffs : (Tryd.prog.globals[0]?).map (·.type) = some 65 := by kernel_rfl
theorem Tryd.underlying65 : Tryd.prog.underlying 65 = some (.array 3 3) := by kernel_rfl
theorem offs_of_laid {W : World} (h : laidMetH Tryd.prog [("errata/cell.offsets", Rows.laid_errata_cell_offsets)] W) : Offs W := by
  rw [MakeChecks.laidMetH_plain _ _ _ (by kernel_rfl)] at h
  obtain ⟨ps, ⟨g0, t0, cs0, f0, p0, q0, hg0, ht0, hv0, hd0, _, _⟩, _, _⟩ := h
  obtain rfl := Option.some.inj (gOffs.symm.trans hg0)
  obtain rfl := Option.some.inj (tOffs.symm.trans ht0)
  obtain ⟨xs, m1, rfl, hx1, hlen, hn3, hel⟩ := DataW.trod_array Tryd.underlying65 hd0
  have c3 : Tryd.prog.cellsOf 3 = 1 := by kernel_rfl
  have c65 : Tryd.prog.cellsOf 65 = 3 := by kernel_rfl
  simp only [Rows.laid_errata_cell_offsets, Prod.mk.injEq, DataW.agg.injEq] at hx1
  rw [c3] at hel
  have h0 := hel 0 (by decide)
  have h1 := hel 1 (by decide)
  have h2 := hel 2 (by decide)
  have v0 := World.var?_cell hg0 hv0 0
  have v1 := World.var?_cell hg0 hv0 1
  have v2 := World.var?_cell hg0 hv0 2
  match xs, hn3, hx1, h0, h1, h2 with
  | [x0, x1, x2], _, hx1, h0, h1, h2 =>
    simp only [List.map_cons, List.map_nil, List.cons.injEq] at hx1
    obtain ⟨k0, e0, g0, _⟩ := DataW.trod_int Tryd.underlying3 (show DataW.trod _ Tryd.prog W 0 _ false m1 3 _ = some x0 from h0)
    obtain ⟨k1, e1, g1, _⟩ := DataW.trod_int Tryd.underlying3 (show DataW.trod _ Tryd.prog W 0 _ false m1 3 _ = some x1 from h1)
    obtain ⟨k2, e2, g2, _⟩ := DataW.trod_int Tryd.underlying3 (show DataW.trod _ Tryd.prog W 0 _ false m1 3 _ = some x2 from h2)
    have q0 : k0 = 0 := by rw [g0] at hx1; simpa using hx1.1.1.symm
    have q1 : k1 = 64 := by rw [g1] at hx1; simpa using hx1.1.2.1.symm
    have q2 : k2 = 131072 := by rw [g2] at hx1; simpa using hx1.1.2.2.1.symm
    subst q0 q1 q2
    have key : ∀ (j : Nat) (v : Value), List.take 1 (List.drop (j * 1) cs0.toList) = [v] → cs0[j]? = some v := by
      intro j v e
      have := congrArg (fun l => l[0]?) e
      simpa [List.getElem?_take, List.getElem?_drop] using this
    exact ⟨v0.trans (key 0 _ e0), v1.trans (key 1 _ e1), v2.trans (key 2 _ e2)⟩
end Go.Proofs.YtdcgdnlpagadcaaDoor
