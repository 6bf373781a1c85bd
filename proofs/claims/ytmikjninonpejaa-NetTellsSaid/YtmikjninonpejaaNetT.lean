/- Statements about net: the documented examples (small). -/
import Derived.Test.YtmikjninonpejaaNetS
namespace Go.Proofs.Ytmikjninonpejaa
open Go.RowKit Go.Proofs.YtmikjninonpejaaMem

/-- Two packets are the same. -/
def samePkt (x y : Pkt) : Bool := x.src == y.src && (x.dst == y.dst && x.body.toList == y.body.toList)

theorem eq34 (w : World) (a0 a1 : Int) (a2 : ByteArray) (b0 b1 : Int) (b2 : ByteArray) :
    (binOp .eql 34 (.agg #[.int .i64 a0, .int .i64 a1, .string a2]) (.agg #[.int .i64 b0, .int .i64 b1, .string b2])).run Try.prog w = .ok (.bool (samePkt ⟨a0, a1, a2⟩ ⟨b0, b1, b2⟩)) w := by
  have u3 := Try.underlying3
  have u9 := Try.underlying9
  have hS : Try.prog.underlying 34 = some (.struct (Try.prog.fieldsOf 34)) := by kernel_rfl
  have hp : Try.prog.stoodInHeld 34 = false := by kernel_rfl
  rw [run_eql_struct, show (10000 : Nat) = 9999 + 1 from rfl, run_equalIn_agg w 9999 34 _ _ hS hp]
  simp only [Program.fieldsOf, Try.underlying34]
  go_simp
  by_cases h1 : a0 = b0 <;> by_cases h2 : a1 = b1 <;> by_cases h3 : a2.toList = b2.toList <;> simp [samePkt, h1, h2, h3]

theorem neq34 (w : World) (a0 a1 : Int) (a2 : ByteArray) (b0 b1 : Int) (b2 : ByteArray) :
    (binOp .neq 34 (.agg #[.int .i64 a0, .int .i64 a1, .string a2]) (.agg #[.int .i64 b0, .int .i64 b1, .string b2])).run Try.prog w = .ok (.bool (!samePkt ⟨a0, a1, a2⟩ ⟨b0, b1, b2⟩)) w := by
  have u3 := Try.underlying3
  have u9 := Try.underlying9
  have hS : Try.prog.underlying 34 = some (.struct (Try.prog.fieldsOf 34)) := by kernel_rfl
  have hp : Try.prog.stoodInHeld 34 = false := by kernel_rfl
  rw [run_neq_struct, show (10000 : Nat) = 9999 + 1 from rfl, run_equalIn_agg w 9999 34 _ _ hS hp]
  simp only [Program.fieldsOf, Try.underlying34]
  go_simp
  by_cases h1 : a0 = b0 <;> by_cases h2 : a1 = b1 <;> by_cases h3 : a2.toList = b2.toList <;> simp [samePkt, h1, h2, h3]

theorem new_fresh (w0 : World) (ts : List Thing) (w : World) (h : Sep w0 w ts) : Calls Try.prog 13 #[] w (FreshNet w0 81 [] 0 ts) :=
  (new_sep ts w h).mono fun _ _ ⟨he, hw⟩ => ⟨_, he, hw⟩

def sA : ByteArray := ⟨#[97]⟩
def sB : ByteArray := ⟨#[98]⟩

set_option maxHeartbeats 1600000 in
set_option maxRecDepth 100000 in
theorem small_any (w : World) : Calls Try.prog 12 #[] w fun e w' => e = .returned (.bool true) ∧ Turns [] w w' := by
  have heq := eq34
  go_enter Try.func12, Try.ntmps12
  go_wp2_with fail
  refine (new_fresh w [] _ (Sep.start w)).mono ?_
  rintro e w1 ⟨n, rfl, h1⟩
  go_wp2_with fail
  refine (new_fresh w _ _ h1).mono ?_
  rintro e w2 ⟨m, rfl, h2⟩
  clear h1
  go_wp2_with fail
  refine (send_sep [netThing 81 m [] 0] [] n [] 0 0 1 sA _ h2 (by decide)).mono ?_
  rintro e w3 ⟨rfl, h3⟩
  rw [show sendCode [] 0 0 1 = 0 from by kernel_rfl]
  rw [show sendList [] 0 0 1 sA = [⟨0, 1, sA⟩] from by kernel_rfl] at h3
  clear h2
  go_wp2_with fail
  refine (send_sep [netThing 81 m [] 0] [] n [⟨0, 1, sA⟩] 0 0 2 sB _ h3 (by decide)).mono ?_
  rintro e w4 ⟨rfl, h4⟩
  rw [show sendCode [⟨0, 1, sA⟩] 0 0 2 = 0 from by kernel_rfl]
  rw [show sendList [⟨0, 1, sA⟩] 0 0 2 sB = [⟨0, 1, sA⟩, ⟨0, 2, sB⟩] from by kernel_rfl] at h4
  clear h3
  go_wp2_with fail
  refine (deliver_sep [netThing 81 m [] 0] [] n [⟨0, 1, sA⟩, ⟨0, 2, sB⟩] 0 1 _ h4 (by decide)).mono ?_
  rintro e w5 ⟨rfl, h5⟩
  rw [show deliverPkt [⟨0, 1, sA⟩, ⟨0, 2, sB⟩] 0 1 = ⟨0, 2, sB⟩ from by kernel_rfl, show deliverCode [⟨0, 1, sA⟩, ⟨0, 2, sB⟩] 0 1 = 0 from by kernel_rfl]
  rw [show without [⟨0, 1, sA⟩, ⟨0, 2, sB⟩] 1 = [⟨0, 1, sA⟩] from by kernel_rfl] at h5
  clear h4
  go_wp2_with fail
  refine (deliver_sep [blockThing w5.heap.size (.cells #[.int .i64 0, .int .i64 2, .string sB] 34), netThing 81 m [] 0] [] n [⟨0, 1, sA⟩] 0 0 _ (h5.alloc _) (by decide)).mono ?_
  rintro e w6 ⟨rfl, h6⟩
  rw [show deliverPkt [⟨0, 1, sA⟩] 0 0 = ⟨0, 1, sA⟩ from by kernel_rfl, show deliverCode [⟨0, 1, sA⟩] 0 0 = 0 from by kernel_rfl]
  rw [show without [⟨0, 1, sA⟩] 0 = [] from by kernel_rfl] at h6
  generalize hx : w5.heap.size = x at *
  have HX := Lib.hid hx; clear hx h5
  go_wp2_with fail
  refine (send_sep [blockThing w6.heap.size (.cells #[.int .i64 0, .int .i64 1, .string sA] 34), blockThing x (.cells #[.int .i64 0, .int .i64 2, .string sB] 34)] [netThing 81 n [] 0] m [] 0 0 1 sA _ (h6.alloc _) (by decide)).mono ?_
  rintro e w7 ⟨rfl, h7⟩
  rw [show sendList [] 0 0 1 sA = [⟨0, 1, sA⟩] from by kernel_rfl] at h7
  generalize hy : w6.heap.size = y at *
  have HY := Lib.hid hy; clear hy h6
  go_wp2_with fail
  refine (split_sep [blockThing y (.cells #[.int .i64 0, .int .i64 1, .string sA] 34), blockThing x (.cells #[.int .i64 0, .int .i64 2, .string sB] 34)] [netThing 81 n [] 0] m [⟨0, 1, sA⟩] 0 1 _ h7).mono ?_
  rintro e w8 ⟨rfl, h8⟩
  rw [show bits .and .i64 1 65535 = 1 from by kernel_rfl] at h8
  clear h7
  go_wp2_with fail
  refine (deliver_sep [blockThing y (.cells #[.int .i64 0, .int .i64 1, .string sA] 34), blockThing x (.cells #[.int .i64 0, .int .i64 2, .string sB] 34)] [netThing 81 n [] 0] m [⟨0, 1, sA⟩] 1 0 _ h8 (by decide)).mono ?_
  rintro e w9 ⟨rfl, h9⟩
  rw [show deliverPkt [⟨0, 1, sA⟩] 1 0 = noPkt from by kernel_rfl, show deliverCode [⟨0, 1, sA⟩] 1 0 = 10 from by kernel_rfl]
  rw [show without [⟨0, 1, sA⟩] 0 = [] from by kernel_rfl] at h9
  clear h8
  simp only [noPkt]
  go_wp2_with fail
  have h9' := h9.quiet (Turns.alloc [] w9 (.cells #[.int .i64 0, .int .i64 0, .string ⟨#[]⟩] 34))
  clear h9
  refine (count_sep [blockThing y (.cells #[.int .i64 0, .int .i64 1, .string sA] 34), blockThing x (.cells #[.int .i64 0, .int .i64 2, .string sB] 34)] [netThing 81 n [] 0] m [] 1 _ h9').mono ?_
  rintro e wA ⟨rfl, rfl⟩
  go_wp2_with fail
  refine (split_sep [blockThing y (.cells #[.int .i64 0, .int .i64 1, .string sA] 34), blockThing x (.cells #[.int .i64 0, .int .i64 2, .string sB] 34)] [netThing 81 n [] 0] m [] 1 3 _ h9').mono ?_
  rintro e wB ⟨rfl, hB⟩
  rw [show bits .and .i64 3 65535 = 3 from by kernel_rfl] at hB
  clear h9'
  go_wp2_with fail
  refine (send_sep [blockThing y (.cells #[.int .i64 0, .int .i64 1, .string sA] 34), blockThing x (.cells #[.int .i64 0, .int .i64 2, .string sB] 34)] [netThing 81 n [] 0] m [] 3 0 1 sA _ hB (by decide)).mono ?_
  rintro e wC ⟨rfl, hC⟩
  rw [show sendCode [] 3 0 1 = 0 from by kernel_rfl]
  rw [show sendList [] 3 0 1 sA = [⟨0, 1, sA⟩] from by kernel_rfl] at hC
  clear hB
  go_wp2_with fail
  refine (send_sep [blockThing y (.cells #[.int .i64 0, .int .i64 1, .string sA] 34), blockThing x (.cells #[.int .i64 0, .int .i64 2, .string sB] 34)] [netThing 81 n [] 0] m [⟨0, 1, sA⟩] 3 1 2 sB _ hC (by decide)).mono ?_
  rintro e wD ⟨rfl, hD⟩
  rw [show sendCode [⟨0, 1, sA⟩] 3 1 2 = 10 from by kernel_rfl]
  rw [show sendList [⟨0, 1, sA⟩] 3 1 2 sB = [⟨0, 1, sA⟩] from by kernel_rfl] at hD
  clear hC
  have hby := hD.block (b := y) [] _
  have hbx := hD.block (b := x) [blockThing y (.cells #[.int .i64 0, .int .i64 1, .string sA] 34)] _
  have x0 : wD.cell? ⟨x, 0, none⟩ = some (.int .i64 0) := cell_at hbx 0
  have x1 : wD.cell? ⟨x, 1, none⟩ = some (.int .i64 2) := cell_at hbx 1
  have x2 : wD.cell? ⟨x, 2, none⟩ = some (.string ⟨#[98]⟩) := cell_at hbx 2
  have y1 : wD.cell? ⟨y, 1, none⟩ = some (.int .i64 1) := cell_at hby 1
  have y2 : wD.cell? ⟨y, 2, none⟩ = some (.string ⟨#[97]⟩) := cell_at hby 2
  have e1 : samePkt ⟨0, 2, ⟨#[98]⟩⟩ ⟨0, 2, ⟨#[98]⟩⟩ = true := by kernel_rfl
  clear hbx hby
  go_wp2_with fail
  refine (hear_sep [blockThing y (.cells #[.int .i64 0, .int .i64 1, .string sA] 34), blockThing x (.cells #[.int .i64 0, .int .i64 2, .string sB] 34)] [netThing 81 n [] 0] m [⟨0, 1, sA⟩] 3 0 1 true _ hD (by kernel_rfl)).mono ?_
  rintro e wE ⟨rfl, q1, rfl⟩
  go_wp2_with fail
  refine (hear_sep [blockThing y (.cells #[.int .i64 0, .int .i64 1, .string sA] 34), blockThing x (.cells #[.int .i64 0, .int .i64 2, .string sB] 34)] [netThing 81 n [] 0] m [⟨0, 1, sA⟩] 3 1 2 false _ (hD.quiet ((Turns.refl _ _).drewN q1)) (by kernel_rfl)).mono ?_
  rintro e wF ⟨rfl, q2, rfl⟩
  go_wp2_with fail
  go_ret
  exact ⟨rfl, (hD.turns.drewN _)⟩

end Go.Proofs.Ytmikjninonpejaa
