/- Statements about net: NetHonest, the count and the plain law. -/
import Derived.Test.YtmikjninonpejaaNetDo
namespace Go.Proofs.Ytmikjninonpejaa
open Go.RowKit Go.Proofs.YtmikjninonpejaaMem

/-- How often a packet is in a list. -/
def cnt (l : List Pkt) (p : Pkt) : Nat := l.countP (fun x => samePkt x p)
theorem cnt_append (a b : List Pkt) (p : Pkt) : cnt (a ++ b) p = cnt a p + cnt b p := by simp [cnt]
theorem cnt_erase (l : List Pkt) (m : Nat) (h : m < l.length) (p : Pkt) : cnt (l.eraseIdx m) p + cnt [l[m]] p = cnt l p := by
  have e : l = l.take m ++ ([l[m]] ++ l.drop (m + 1)) := by simp
  have h1 : cnt l p = cnt (l.take m) p + (cnt [l[m]] p + cnt (l.drop (m + 1)) p) := by
    conv => lhs; rw [e]
    rw [cnt_append, cnt_append]
  have h2 : cnt (l.eraseIdx m) p = cnt (l.take m) p + cnt (l.drop (m + 1)) p := by
    rw [List.eraseIdx_eq_take_drop_succ, cnt_append]
  rw [h1, h2]; omega
theorem cnt_le (l : List Pkt) (p : Pkt) : cnt l p ≤ l.length := List.countP_le_length
theorem cnt_take_succ (l : List Pkt) (k : Nat) (h : k < l.length) (p : Pkt) : cnt (l.take (k + 1)) p = cnt (l.take k) p + (if samePkt l[k] p then 1 else 0) := by
  rw [List.take_succ_eq_append_getElem h, cnt_append]
  cases hs : samePkt l[k] p <;> simp [cnt, hs]

/-- Nothing is delivered or in flight more often than it was made. -/
def Inv (M G L : List Pkt) : Prop := ∀ p, cnt (G ++ L) p ≤ cnt M p
theorem Inv.nil : Inv [] [] [] := fun _ => Nat.le_refl _
theorem Inv.both {M G L : List Pkt} (h : Inv M G L) (q : Pkt) : Inv (M ++ [q]) G (L ++ [q]) := fun p => by
  have := h p
  simp only [cnt_append] at *
  omega
theorem Inv.erase {M G L : List Pkt} (h : Inv M G L) (m : Nat) : Inv M G (L.eraseIdx m) := fun p => by
  have := h p
  simp only [cnt_append] at *
  by_cases hm : m < L.length
  · have := cnt_erase L m hm p; omega
  · rw [List.eraseIdx_of_length_le (by omega)]; omega
theorem Inv.deliver {M G L : List Pkt} (h : Inv M G L) (m : Nat) (hm : m < L.length) : Inv M (G ++ [L[m]]) (L.eraseIdx m) := fun p => by
  have := h p
  have := cnt_erase L m hm p
  simp only [cnt_append] at *
  omega

set_option maxHeartbeats 400000 in
set_option maxRecDepth 100000 in
theorem count_pkt (v : Value) (l : List Pkt) (p : Pkt) (w : World) (h1 : PktsAt w v l) (hm1 : l.length ≤ 2000) :
    Calls Try.prog 25 #[v, .agg #[.int .i64 p.src, .int .i64 p.dst, .string p.body]] w fun e w' => e = .returned (.int .i64 (cnt l p)) ∧ ∃ n, w' = (w.alloc (.cells #[.int .i64 p.src, .int .i64 p.dst, .string p.body] 34)).drewN n := by
  obtain ⟨a1, c1, rfl, h1⟩ := h1
  have H1 := Lib.hid h1; clear h1
  have heq := eq34
  go_enter Try.func25, Try.ntmps25
  go_wp2_with fail
  go_loopw [5, 6] (fun c i wr => ∃ (k n : Nat), k ≤ l.length ∧ i = .int .i64 k ∧ c = .int .i64 (cnt (l.take k) p) ∧ wr = (w.alloc (.cells #[.int .i64 p.src, .int .i64 p.dst, .string p.body] 34)).drewN n) (fun _ i _ => l.length - (intOf i).toNat)
  case atStart => exact ⟨0, 0, Nat.zero_le _, rfl, rfl, rfl⟩
  case round =>
    obtain ⟨k, n, hk, rfl, rfl, rfl⟩ := hrel
    by_cases hlt : k < l.length
    · obtain ⟨b1, o1, rfl, p0, p1, p2⟩ := H1.out k hlt
      have hlt1 := World.block_lt_of_cell? w _ p0
      obtain ⟨x, hx⟩ : ∃ x, x = l[k] := ⟨_, rfl⟩
      rw [← hx] at p0 p1 p2
      have hsucc := cnt_take_succ l k hlt p
      rw [← hx] at hsucc
      have HX := Lib.hid hsucc; clear hx hsucc
      have q0 : ∀ o, (w.alloc o).cell? ⟨b1, o1 + k * 3, none⟩ = some (.int .i64 x.src) := fun o => by rw [World.cell?_alloc_past _ _ _ hlt1]; exact p0
      have q1 : ∀ o, (w.alloc o).cell? ⟨b1, o1 + k * 3 + 1, none⟩ = some (.int .i64 x.dst) := fun o => by rw [World.cell?_alloc_past _ _ _ hlt1]; exact p1
      have q2 : ∀ o, (w.alloc o).cell? ⟨b1, o1 + k * 3 + 2, none⟩ = some (.string x.body) := fun o => by rw [World.cell?_alloc_past _ _ _ hlt1]; exact p2
      have hlt2 : (k : Int) < (l.length : Int) := by omega
      have hcl : cnt (l.take k) p ≤ 2000 := Nat.le_trans (cnt_le _ _) (by simp; omega)
      clear p0 p1 p2
      cases hs : samePkt x p
      · go_wp2_with fail
        go_quiet (fail)
        go_wp2_with fail
        go_roundw
        case rel => exact ⟨k + 1, n + nq, by omega, by go_num, by rw [HX.out, hs]; rfl, (by first | rfl | exact World.drewN_drewN _ _ _)⟩
        case measure => simp [intOf]; omega
      · go_wp2_with fail
        go_quiet (fail)
        go_wp2_with fail
        go_roundw
        case rel => exact ⟨k + 1, n + nq, by omega, by go_num, by rw [HX.out, hs]; rfl, (by first | rfl | exact World.drewN_drewN _ _ _)⟩
        case measure => simp [intOf]; omega
    · have hlt2 : (l.length : Int) ≤ (k : Int) := by omega
      have hfin : cnt (l.take k) p = cnt l p := by rw [List.take_of_length_le (by omega)]
      have HF := Lib.hid hfin; clear hfin
      go_wp2_with fail
      go_ret
      exact ⟨by rw [← HF.out]; rfl, n, rfl⟩

end Go.Proofs.Ytmikjninonpejaa
