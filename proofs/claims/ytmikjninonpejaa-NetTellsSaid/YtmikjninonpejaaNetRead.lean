/- The arguments of the statements about net, read out of memory. -/
import Derived.Test.YtmikjninonpejaaNetV
import Derived.Deep.Slices
import Derived.ProofKit
namespace Go.Proofs.Ytmikjninonpejaa
open Go.RowKit Go.Proofs.YtmikjninonpejaaMem Go.Deep

theorem addr_plain {w : World} {x : Addr} {v : Value} (h : w.cell? x = some v) : x = ⟨x.block, x.off, none⟩ := by
  obtain ⟨b, o, s⟩ := x
  cases s with
  | none => rfl
  | some s =>
    simp only [World.cell?] at h
    split at h <;> simp at h

theorem add_plain (b o i : Nat) : (⟨b, o, none⟩ : Addr).add i = ⟨b, o + i, none⟩ := by unfold Addr.add; split <;> simp_all

theorem four {l : List Value} (h : l.length = 4) : ∃ a b c d, l = [a, b, c, d] := by
  match l, h with
  | [a, b, c, d], _ => exact ⟨a, b, c, d, rfl⟩

section
variable {H : Type} {enc : TypeId × Value → H} {w : World} {fuel : Nat} {a : Option Addr} {len cap : Nat} {x : DataW H × List MemPlace}

theorem open_ops (h : DataW.trod enc Try.prog w 0 (fun _ => true) true fuel 22 [.slice a len cap] = some x) : ∃ ops : List NOp, ops.length = len ∧ OpsAt w a ops := by
  rcases open_slice Try.underlying22 h with ⟨hcs, _⟩ | ⟨a', len', cap', m, n, D, Pl, hcs, _, hl, hm, hmm, _, hx⟩
  · simp at hcs
    exact ⟨[], by simp [hcs.2.1], fun i hi => by simp at hi⟩
  · simp at hcs
    obtain ⟨rfl, rfl, rfl⟩ := hcs
    have hc4 : Try.prog.cellsOf 30 = 4 := by kernel_rfl
    simp only [if_true] at hmm
    subst hmm
    have key : ∀ i, i < len → ∃ o : NOp, w.cell? (a'.add (i * 4)) = some (.int .i64 o.doo) ∧ w.cell? ((a'.add (i * 4)).add 1) = some (.int .i64 o.n) ∧ w.cell? ((a'.add (i * 4)).add 2) = some (.int .i64 o.to) ∧ w.cell? ((a'.add (i * 4)).add 3) = some (.string o.s) := by
      intro i hi
      obtain ⟨cs', h1, h2⟩ := hx i (by omega)
      rw [hc4] at h1
      obtain ⟨_, hlen, hcell⟩ := World.cells?_some h1
      obtain ⟨xs, n', _, _, _, hxl, hf⟩ := DataW.trod_struct Try.underlying30 h2
      have f0 := hf 0 _ rfl
      have f1 := hf 1 _ rfl
      have f2 := hf 2 _ rfl
      have f3 := hf 3 _ rfl
      have hxl' : xs.length = 4 := hxl
      obtain ⟨c0, c1, c2, c3, rfl⟩ := four hlen
      rw [List.getElem?_eq_getElem (by omega)] at f0 f1 f2 f3
      obtain ⟨n0, e0, _, _⟩ := DataW.trod_int Try.underlying3 f0
      obtain ⟨n1, e1, _, _⟩ := DataW.trod_int Try.underlying3 f1
      obtain ⟨n2, e2, _, _⟩ := DataW.trod_int Try.underlying3 f2
      obtain ⟨n3, e3, _, _⟩ := DataW.trod_string Try.underlying9 f3
      have k3 : Try.prog.cellsOf 3 = 1 := by kernel_rfl
      have k9 : Try.prog.cellsOf 9 = 1 := by kernel_rfl
      simp [k3, k9] at e0 e1 e2 e3
      subst e0 e1 e2 e3
      exact ⟨⟨n0, n1, n2, n3⟩, by simpa [Addr.add] using hcell 0 (by omega), by simpa using hcell 1 (by omega), by simpa using hcell 2 (by omega), by simpa using hcell 3 (by omega)⟩
    have : Inhabited NOp := ⟨⟨0, 0, 0, ByteArray.empty⟩⟩
    obtain ⟨F, hF⟩ := choose_lt key
    refine ⟨(List.range len).map F, by simp, fun i hi => ?_⟩
    have hi' : i < len := by simpa using hi
    obtain ⟨k0, k1, k2, k3⟩ := hF i hi'
    have hp : a' = ⟨a'.block, a'.off, none⟩ := by
      have := (hF 0 (by omega)).1
      rw [Nat.zero_mul] at this
      exact addr_plain (by simpa [Addr.add] using this)
    rw [hp] at k0 k1 k2 k3
    simp only [add_plain] at k0 k1 k2 k3
    refine ⟨a'.block, a'.off, by rw [← hp], ?_⟩
    simp only [List.getElem_map, List.getElem_range]
    exact ⟨k0, k1, k2, k3⟩

theorem open_nums (h : DataW.trod enc Try.prog w 0 (fun _ => true) true fuel 23 [.slice a len cap] = some x) : ∃ zs : List Int, zs.length = len ∧ IntsAt w a zs := by
  rcases open_slice1 Try.underlying23 (by kernel_rfl) h with ⟨hcs, _⟩ | ⟨a', len', cap', m, n, V, D, Pl, hcs, _, hl, hm, hmm, _, hx⟩
  · simp at hcs
    exact ⟨[], by simp [hcs.2.1], fun i hi => by simp at hi⟩
  · simp at hcs
    obtain ⟨rfl, rfl, rfl⟩ := hcs
    simp only [if_true] at hmm
    subst hmm
    have key : ∀ i, i < len → ∃ z : Int, w.cell? (a'.add i) = some (.int .i64 z) := by
      intro i hi
      obtain ⟨h1, h2⟩ := hx i (by omega)
      obtain ⟨z, e, _, _⟩ := DataW.trod_int Try.underlying3 h2
      simp at e
      exact ⟨z, by rw [h1, e]⟩
    obtain ⟨F, hF⟩ := choose_lt key
    refine ⟨(List.range len).map F, by simp, fun i hi => ?_⟩
    have hi' : i < len := by simpa using hi
    have hp : a' = ⟨a'.block, a'.off, none⟩ := addr_plain (by simpa [Addr.add] using hF 0 (by omega))
    have k0 := hF i hi'
    rw [hp, add_plain] at k0
    exact ⟨a'.block, a'.off, by rw [← hp], by simpa using k0⟩
end

end Go.Proofs.Ytmikjninonpejaa
