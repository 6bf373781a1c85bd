/- Statements about net: loops over the operations and over lists of packets (few, Same, count). -/
import Derived.Test.YtmikjninonpejaaNetT
namespace Go.Proofs.Ytmikjninonpejaa
open Go.RowKit Go.Proofs.YtmikjninonpejaaMem

/-- An operation of a statement. -/
structure NOp where
  doo : Int
  n : Int
  to : Int
  s : ByteArray

/-- The operations lie in memory as a slice's elements. -/
def OpsAt (w : World) (a : Option Addr) (ops : List NOp) : Prop :=
  ∀ i (h : i < ops.length), ∃ b off, a = some ⟨b, off, none⟩ ∧ w.cell? ⟨b, off + i * 4, none⟩ = some (.int .i64 ops[i].doo) ∧ w.cell? ⟨b, off + i * 4 + 1, none⟩ = some (.int .i64 ops[i].n) ∧
    w.cell? ⟨b, off + i * 4 + 2, none⟩ = some (.int .i64 ops[i].to) ∧ w.cell? ⟨b, off + i * 4 + 3, none⟩ = some (.string ops[i].s)

theorem OpsAt.below {w w' : World} {a : Option Addr} {ops : List NOp} (h : OpsAt w a ops) (hb : Below w.heap.size w w') : OpsAt w' a ops := by
  intro i hi
  obtain ⟨b, off, rfl, h0, h1, h2, h3⟩ := h i hi
  have hlt := World.block_lt_of_cell? w _ h0
  exact ⟨b, off, rfl, (hb.cell (p := ⟨b, off + i * 4, none⟩) hlt).trans h0, (hb.cell (p := ⟨b, off + i * 4 + 1, none⟩) hlt).trans h1, (hb.cell (p := ⟨b, off + i * 4 + 2, none⟩) hlt).trans h2, (hb.cell (p := ⟨b, off + i * 4 + 3, none⟩) hlt).trans h3⟩

def fewB (ops : List NOp) (most : Int) : Bool := (ops.take 1000).all (fun o => decide (o.s.size ≤ 100)) && decide ((ops.length : Int) ≤ most)

theorem all_take_succ (ops : List NOp) (k : Nat) (h : k < ops.length) : (ops.take (k + 1)).all (fun o => decide (o.s.size ≤ 100)) = ((ops.take k).all (fun o => decide (o.s.size ≤ 100)) && decide (ops[k].s.size ≤ 100)) := by
  rw [List.take_succ_eq_append_getElem h, List.all_append]; simp

set_option maxHeartbeats 400000 in
theorem few_any (a : Option Addr) (cap : Nat) (ops : List NOp) (most : Int) (w : World) (hops : OpsAt w a ops) :
    Calls Try.prog 14 #[.slice a ops.length cap, .int .i64 most] w fun e w' => e = .returned (.bool (fewB ops most)) ∧ w = w' := by
  have HO := Lib.hid hops; clear hops
  go_enter Try.func14, Try.ntmps14
  go_wp2_with fail
  go_loop [5] (fun i => ∃ k : Nat, k ≤ ops.length ∧ k ≤ 1000 ∧ i = .int .i64 k ∧ Hid ((ops.take k).all (fun o => decide (o.s.size ≤ 100)) = true)) (fun i => 1000 - (intOf i).toNat)
  case atStart => exact ⟨0, Nat.zero_le _, by omega, rfl, rfl⟩
  case round =>
    obtain ⟨k, hk, hk2, rfl, hall⟩ := hrel
    by_cases hlt : k < ops.length ∧ k < 1000
    · obtain ⟨b, off, rfl, -, -, -, h3⟩ := HO.out k hlt.1
      obtain ⟨hlt, hlt2⟩ := hlt
      obtain ⟨sz, hsz⟩ : ∃ s, s = ops[k].s := ⟨_, rfl⟩
      rw [← hsz] at h3
      have HS := Lib.hid hsz; clear hsz
      have hd1 : decide ((k : Int) < (ops.length : Int)) = true := decide_eq_true (by omega)
      have hd2 : decide ((k : Int) < 1000) = true := decide_eq_true (by omega)
      by_cases hs : sz.size ≤ 100
      · have hs2 : decide ((100 : Int) < (sz.size : Int)) = false := decide_eq_false (by omega)
        go_wp2
        go_round
        case rel => exact ⟨k + 1, by omega, by omega, by go_num, by show _ = _; rw [all_take_succ _ _ hlt, hall.out, ← HS.out]; simp [hs]⟩
        case measure => simp [intOf]; omega
      · have hs2 : decide ((100 : Int) < (sz.size : Int)) = true := decide_eq_true (by omega)
        go_wp2
        go_ret
        refine ⟨?_, rfl⟩
        have : fewB ops most = false := by
          have h1 : (ops.take (k + 1)).all (fun o => decide (o.s.size ≤ 100)) = false := by rw [all_take_succ _ _ hlt, ← HS.out]; simp [hs]
          have h2 : (ops.take 1000).all (fun o => decide (o.s.size ≤ 100)) = false := by
            rw [Bool.eq_false_iff] at h1 ⊢
            intro h
            apply h1
            rw [List.all_eq_true] at h ⊢
            intro x hx
            exact h x (by rw [show k + 1 = min (k + 1) 1000 by omega, ← List.take_take] at hx; exact List.mem_of_mem_take hx)
          simp [fewB, h2]
        rw [this]; rfl
    · have hfin : fewB ops most = decide ((ops.length : Int) ≤ most) := by
        have h2 : (ops.take 1000).all (fun o => decide (o.s.size ≤ 100)) = true := by
          by_cases h : k < ops.length
          · rw [show (1000 : Nat) = k by omega]; exact hall.out
          · have h1 := hall.out
            rw [List.take_of_length_le (by omega)] at h1 ⊢
            exact h1
        simp [fewB, h2]
      have HFIN := Lib.hid hfin; clear hfin
      by_cases hl : k < ops.length
      · have hd1 : decide ((k : Int) < (ops.length : Int)) = true := decide_eq_true (by omega)
        have hd2 : decide ((k : Int) < 1000) = false := decide_eq_false (by omega)
        clear hlt
        go_wp2
        go_ret
        exact ⟨by rw [HFIN.out]; rfl, rfl⟩
      · have hd1 : decide ((k : Int) < (ops.length : Int)) = false := decide_eq_false (by omega)
        clear hlt
        go_wp2
        go_ret
        exact ⟨by rw [HFIN.out]; rfl, rfl⟩

/-- Packets lie in memory as a slice's elements. -/
def PktsAt (w : World) (v : Value) (l : List Pkt) : Prop :=
  ∃ a c, v = .slice a l.length c ∧ ∀ i (h : i < l.length), ∃ b off, a = some ⟨b, off, none⟩ ∧ w.cell? ⟨b, off + i * 3, none⟩ = some (.int .i64 l[i].src) ∧ w.cell? ⟨b, off + i * 3 + 1, none⟩ = some (.int .i64 l[i].dst) ∧
    w.cell? ⟨b, off + i * 3 + 2, none⟩ = some (.string l[i].body)

theorem pktsAt_own {w : World} {base : Nat} {v : Value} {l : List Pkt} (h : w.ownsRow base 34 3 v l.length (pktCells l)) : PktsAt w v l := by
  rcases h.2 with ⟨rfl, h0⟩ | ⟨g, cap, cur, rfl, _, hg, hcap, hmax, hsz, htake⟩
  · exact ⟨none, 0, by rw [h0], fun i hi => by omega⟩
  · refine ⟨_, cap, rfl, fun i hi => ⟨g, 0, rfl, ?_⟩⟩
    have := pkt_cell hg htake i hi
    simpa using this

theorem samePkt_iff (x y : Pkt) : samePkt x y = true ↔ x = y := by
  obtain ⟨x0, x1, x2⟩ := x
  obtain ⟨y0, y1, y2⟩ := y
  simp only [samePkt, Bool.and_eq_true, beq_iff_eq, Pkt.mk.injEq]
  have : x2.toList = y2.toList ↔ x2 = y2 := ⟨fun h => by
    rw [ByteArray.toList_eq, ByteArray.toList_eq] at h
    obtain ⟨⟨a⟩⟩ := x2
    obtain ⟨⟨b⟩⟩ := y2
    simp at h; subst h; rfl, fun h => h ▸ rfl⟩
  rw [this]
instance : DecidableEq Pkt := fun x y => if h : samePkt x y = true then .isTrue ((samePkt_iff x y).1 h) else .isFalse (fun e => h ((samePkt_iff x y).2 e))
theorem samePkt_eq (x y : Pkt) : samePkt x y = decide (x = y) := by
  by_cases h : x = y
  · rw [decide_eq_true h]; exact (samePkt_iff x y).2 h
  · rw [decide_eq_false h]; exact Bool.eq_false_iff.2 (fun e => h ((samePkt_iff x y).1 e))

set_option maxHeartbeats 400000 in
set_option maxRecDepth 100000 in
theorem same_any (v1 v2 : Value) (l1 l2 : List Pkt) (w : World) (h1 : PktsAt w v1 l1) (h2 : PktsAt w v2 l2) (hm1 : l1.length ≤ 2000) (hm2 : l2.length ≤ 2000) :
    Calls Try.prog 17 #[v1, v2] w fun e w' => e = .returned (.bool (decide (l1 = l2))) ∧ ∃ n, w' = w.drewN n := by
  obtain ⟨a1, c1, rfl, h1⟩ := h1
  obtain ⟨a2, c2, rfl, h2⟩ := h2
  have H1 := Lib.hid h1; clear h1
  have H2 := Lib.hid h2; clear h2
  by_cases hl : l1.length = l2.length
  · have hd : ((l1.length : Int) != (l2.length : Int)) = false := by simp [hl]
    have hd' : (l1.length != l2.length) = false := by simp [hl]
    have HL := Lib.hid hl
    have hl2 : l2.length ≤ l1.length := by omega
    have hl1 : l1.length ≤ l2.length := by omega
    have hne := neq34
    clear hl
    go_enter Try.func17, Try.ntmps17
    go_wp2_with fail
    go_loopw [5] (fun i wr => ∃ (k n : Nat), k ≤ l1.length ∧ i = .int .i64 k ∧ wr = w.drewN n ∧ Hid (l1.take k = l2.take k)) (fun i _ => l1.length - (intOf i).toNat)
    case atStart => exact ⟨0, 0, Nat.zero_le _, rfl, rfl, rfl⟩
    case round =>
      obtain ⟨k, n, hk, rfl, rfl, hall⟩ := hrel
      by_cases hlt : k < l1.length
      · obtain ⟨b1, o1, rfl, p0, p1, p2⟩ := H1.out k hlt
        obtain ⟨b2, o2, rfl, q0, q1, q2⟩ := H2.out k (by omega)
        obtain ⟨x, hx⟩ : ∃ x, x = l1[k] := ⟨_, rfl⟩
        obtain ⟨y, hy⟩ : ∃ y, y = l2[k] := ⟨_, rfl⟩
        rw [← hx] at p0 p1 p2
        rw [← hy] at q0 q1 q2
        have HX := Lib.hid (And.intro hx hy); clear hx hy
        have hlt2 : (k : Int) < (l1.length : Int) := by omega
        have hlt3 : (k : Int) < (l2.length : Int) := by omega
        cases hs : samePkt x y
        · go_wp2_with fail
          go_quiet (fail)
          go_wp2_with fail
          go_ret
          refine ⟨?_, n + nq, World.drewN_drewN _ _ _⟩
          have hne2 : decide (l1 = l2) = false := by
            rw [decide_eq_false_iff_not]
            intro e
            have hxy : x = y := by rw [HX.out.1, HX.out.2]; subst e; rfl
            rw [(samePkt_iff x y).2 hxy] at hs
            cases hs
          rw [hne2]; rfl
        · go_wp2_with fail
          go_quiet (fail)
          go_wp2_with fail
          go_roundw
          case rel =>
            refine ⟨k + 1, n + nq, by omega, by go_num, (by first | rfl | exact World.drewN_drewN _ _ _), ?_⟩
            show _ = _
            have hxy := (samePkt_iff x y).1 hs
            rw [List.take_succ_eq_append_getElem hlt, List.take_succ_eq_append_getElem (by omega), hall.out, ← HX.out.1, ← HX.out.2, hxy]
          case measure => simp [intOf]; omega
      · have hlt2 : (l1.length : Int) ≤ (k : Int) := by omega
        have hfin : decide (l1 = l2) = true := by
          rw [decide_eq_true_iff]
          have h1 := hall.out
          rw [List.take_of_length_le (by omega), List.take_of_length_le (by omega)] at h1
          exact h1
        have HFIN := Lib.hid hfin; clear hfin
        go_wp2
        go_ret
        exact ⟨by rw [HFIN.out]; rfl, n, rfl⟩
  · have hfin : decide (l1 = l2) = false := decide_eq_false (fun e => hl (by rw [e]))
    have hd : ((l1.length : Int) != (l2.length : Int)) = true := by simp; omega
    have hd' : (l1.length != l2.length) = true := by simp; omega
    have HFIN := Lib.hid hfin; clear hfin
    clear hl
    go_enter Try.func17, Try.ntmps17
    go_wp2
    go_ret
    exact ⟨by rw [HFIN.out]; rfl, 0, rfl⟩

end Go.Proofs.Ytmikjninonpejaa
