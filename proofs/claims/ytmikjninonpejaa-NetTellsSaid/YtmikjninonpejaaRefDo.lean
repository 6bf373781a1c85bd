/- Statements about net: model, which performs an operation on the reference. -/
import Derived.Test.YtmikjninonpejaaRefS
import Derived.Test.YtmikjninonpejaaNetDo
namespace Go.Proofs.Ytmikjninonpejaa
open Go.RowKit Go.Proofs.YtmikjninonpejaaMem

variable {w0 : World}
theorem split_zero : bits .and .i64 0 65535 = 0 := by rw [and65535]; rfl
def ModelPost (w0 : World) (pre post : List Thing) (b : Nat) (l : List Pkt) (s : Int) (o : NOp) (e : Ending) (w' : World) : Prop :=
  e = .returned (.tuple #[.agg #[.int .i64 (opPkt l s o).src, .int .i64 (opPkt l s o).dst, .string (opPkt l s o).body], .int .i64 (opCode l s o)]) ∧ Sep w0 w' (pre ++ netThing 51 b (opList l s o) (opSplit s o) :: post)

set_option maxHeartbeats 800000 in
set_option maxRecDepth 100000 in
theorem model_three (pre post : List Thing) (b : Nat) (l : List Pkt) (s : Int) (o : NOp) (w : World) (h : Sep w0 w (pre ++ netThing 51 b l s :: post)) (hl : l.length ≤ 1000) (hk : kindOf o = 3) :
    Calls Try.prog 28 #[.pointer (some ⟨b, 0, none⟩), .agg #[.int .i64 o.doo, .int .i64 o.n, .int .i64 o.to, .string o.s]] w (ModelPost w0 pre post b l s o) := by
  have eC : opCode l s o = deliverCode l s o.n := by simp [opCode, hk]
  have eP : opPkt l s o = deliverPkt l s o.n := by simp [opPkt, hk]
  have eL : opList l s o = without l o.n := by simp [opList, hk]
  have eS : opSplit s o = s := by simp [opSplit, hk]
  have k3 : (bits .and .i64 o.doo 7 == 3) = true := by have := hk; unfold kindOf at this; rw [this]; rfl
  have H0 : Hid (Sep w0 ((w.alloc (.cells #[.int .i64 o.doo, .int .i64 o.n, .int .i64 o.to, .string o.s] 30)).alloc (.cells #[.int .i64 0, .int .i64 0, .string ⟨#[]⟩] 34)) (blockThing (w.heap.size + 1) (.cells #[.int .i64 0, .int .i64 0, .string ⟨#[]⟩] 34) :: (pre ++ netThing 51 b l s :: post))) := by
    have := (h.quiet (Turns.alloc [] w (.cells #[.int .i64 o.doo, .int .i64 o.n, .int .i64 o.to, .string o.s] 30))).alloc (.cells #[.int .i64 0, .int .i64 0, .string ⟨#[]⟩] 34)
    rw [World.size_alloc] at this
    exact this
  have HC := Lib.hid (And.intro eC (And.intro eP (And.intro eL eS))); clear eC eP eL eS h hk
  go_enter Try.func28, Try.ntmps28
  go_wp2_with fail
  refine (rdeliver_sep (blockThing (w.heap.size + 1) (.cells #[.int .i64 0, .int .i64 0, .string ⟨#[]⟩] 34) :: pre) post b l s o.n _ H0.out hl).mono ?_
  rintro e w1 ⟨rfl, h1⟩
  have H1 := Lib.hid h1; clear h1
  have hz1 : w1.heap[w.heap.size + 1]? = some (.cells #[.int .i64 0, .int .i64 0, .string ⟨#[]⟩] 34 (0, 0)) := H1.out.block [] _
  have z0 : w1.cell? ⟨w.heap.size + 1, 0, none⟩ = some (.int .i64 0) := cell_at hz1 0
  have z1 : w1.cell? ⟨w.heap.size + 1, 1, none⟩ = some (.int .i64 0) := cell_at hz1 1
  have z2 : w1.cell? ⟨w.heap.size + 1, 2, none⟩ = some (.string ⟨#[]⟩) := cell_at hz1 2
  have y0 : w1.frozen? ⟨w.heap.size + 1, 0, none⟩ = false := free_at hz1 0
  have y1 : w1.frozen? ⟨w.heap.size + 1, 1, none⟩ = false := free_at hz1 1
  have y2 : w1.frozen? ⟨w.heap.size + 1, 2, none⟩ = false := free_at hz1 2
  clear hz1
  go_wp2_with fail
  refine bodyPost_ret (v := .tuple #[.agg #[.int .i64 (deliverPkt l s o.n).src, .int .i64 (deliverPkt l s o.n).dst, .string (deliverPkt l s o.n).body], .int .i64 (deliverCode l s o.n)]) (by simp [results, Try.results28, go_sem, z0, z1, z2]) rfl ⟨?_, ?_⟩
  · rw [HC.out.1, HC.out.2.1] <;> rfl
  · rw [HC.out.2.2.1, HC.out.2.2.2]
    exact H1.out.set3_drop _ _ _

set_option maxHeartbeats 800000 in
set_option maxRecDepth 100000 in
theorem model_four (pre post : List Thing) (b : Nat) (l : List Pkt) (s : Int) (o : NOp) (w : World) (h : Sep w0 w (pre ++ netThing 51 b l s :: post)) (hl : l.length ≤ 1000) (hk : kindOf o = 4) :
    Calls Try.prog 28 #[.pointer (some ⟨b, 0, none⟩), .agg #[.int .i64 o.doo, .int .i64 o.n, .int .i64 o.to, .string o.s]] w (ModelPost w0 pre post b l s o) := by
  have eC : opCode l s o = dropCode l o.n := by simp [opCode, hk]
  have eP : opPkt l s o = noPkt := by simp [opPkt, hk]
  have eL : opList l s o = without l o.n := by simp [opList, hk]
  have eS : opSplit s o = s := by simp [opSplit, hk]
  have k3 : (bits .and .i64 o.doo 7 == 3) = false := by have := hk; unfold kindOf at this; rw [this]; rfl
  have k4 : (bits .and .i64 o.doo 7 == 4) = true := by have := hk; unfold kindOf at this; rw [this]; rfl
  have H0 : Hid (Sep w0 ((w.alloc (.cells #[.int .i64 o.doo, .int .i64 o.n, .int .i64 o.to, .string o.s] 30)).alloc (.cells #[.int .i64 0, .int .i64 0, .string ⟨#[]⟩] 34)) (blockThing (w.heap.size + 1) (.cells #[.int .i64 0, .int .i64 0, .string ⟨#[]⟩] 34) :: (pre ++ netThing 51 b l s :: post))) := by
    have := (h.quiet (Turns.alloc [] w (.cells #[.int .i64 o.doo, .int .i64 o.n, .int .i64 o.to, .string o.s] 30))).alloc (.cells #[.int .i64 0, .int .i64 0, .string ⟨#[]⟩] 34)
    rw [World.size_alloc] at this
    exact this
  have HC := Lib.hid (And.intro eC (And.intro eP (And.intro eL eS))); clear eC eP eL eS h hk
  go_enter Try.func28, Try.ntmps28
  go_wp2_with fail
  refine (rdrop_sep (blockThing (w.heap.size + 1) (.cells #[.int .i64 0, .int .i64 0, .string ⟨#[]⟩] 34) :: pre) post b l s o.n _ H0.out hl).mono ?_
  rintro e w1 ⟨rfl, h1⟩
  have H1 := Lib.hid h1; clear h1
  have hz1 : w1.heap[w.heap.size + 1]? = some (.cells #[.int .i64 0, .int .i64 0, .string ⟨#[]⟩] 34 (0, 0)) := H1.out.block [] _
  have z0 : w1.cell? ⟨w.heap.size + 1, 0, none⟩ = some (.int .i64 0) := cell_at hz1 0
  have z1 : w1.cell? ⟨w.heap.size + 1, 1, none⟩ = some (.int .i64 0) := cell_at hz1 1
  have z2 : w1.cell? ⟨w.heap.size + 1, 2, none⟩ = some (.string ⟨#[]⟩) := cell_at hz1 2
  have y0 : w1.frozen? ⟨w.heap.size + 1, 0, none⟩ = false := free_at hz1 0
  have y1 : w1.frozen? ⟨w.heap.size + 1, 1, none⟩ = false := free_at hz1 1
  have y2 : w1.frozen? ⟨w.heap.size + 1, 2, none⟩ = false := free_at hz1 2
  clear hz1
  go_wp2_with fail
  refine bodyPost_ret (v := .tuple #[.agg #[.int .i64 0, .int .i64 0, .string ⟨#[]⟩], .int .i64 (dropCode l o.n)]) (by simp [results, Try.results28, go_sem, z0, z1, z2]) rfl ⟨?_, ?_⟩
  · rw [HC.out.1, HC.out.2.1] <;> rfl
  · rw [HC.out.2.2.1, HC.out.2.2.2]
    exact H1.out.set3_drop _ _ _

set_option maxHeartbeats 800000 in
set_option maxRecDepth 100000 in
theorem model_five (pre post : List Thing) (b : Nat) (l : List Pkt) (s : Int) (o : NOp) (w : World) (h : Sep w0 w (pre ++ netThing 51 b l s :: post)) (hl : l.length ≤ 1000) (hk : kindOf o = 5) :
    Calls Try.prog 28 #[.pointer (some ⟨b, 0, none⟩), .agg #[.int .i64 o.doo, .int .i64 o.n, .int .i64 o.to, .string o.s]] w (ModelPost w0 pre post b l s o) := by
  have eC : opCode l s o = doubleCode l o.n := by simp [opCode, hk]
  have eP : opPkt l s o = noPkt := by simp [opPkt, hk]
  have eL : opList l s o = doubled l o.n := by simp [opList, hk]
  have eS : opSplit s o = s := by simp [opSplit, hk]
  have k3 : (bits .and .i64 o.doo 7 == 3) = false := by have := hk; unfold kindOf at this; rw [this]; rfl
  have k4 : (bits .and .i64 o.doo 7 == 4) = false := by have := hk; unfold kindOf at this; rw [this]; rfl
  have k5 : (bits .and .i64 o.doo 7 == 5) = true := by have := hk; unfold kindOf at this; rw [this]; rfl
  have H0 : Hid (Sep w0 ((w.alloc (.cells #[.int .i64 o.doo, .int .i64 o.n, .int .i64 o.to, .string o.s] 30)).alloc (.cells #[.int .i64 0, .int .i64 0, .string ⟨#[]⟩] 34)) (blockThing (w.heap.size + 1) (.cells #[.int .i64 0, .int .i64 0, .string ⟨#[]⟩] 34) :: (pre ++ netThing 51 b l s :: post))) := by
    have := (h.quiet (Turns.alloc [] w (.cells #[.int .i64 o.doo, .int .i64 o.n, .int .i64 o.to, .string o.s] 30))).alloc (.cells #[.int .i64 0, .int .i64 0, .string ⟨#[]⟩] 34)
    rw [World.size_alloc] at this
    exact this
  have HC := Lib.hid (And.intro eC (And.intro eP (And.intro eL eS))); clear eC eP eL eS h hk
  go_enter Try.func28, Try.ntmps28
  go_wp2_with fail
  refine (rdouble_sep (blockThing (w.heap.size + 1) (.cells #[.int .i64 0, .int .i64 0, .string ⟨#[]⟩] 34) :: pre) post b l s o.n _ H0.out hl).mono ?_
  rintro e w1 ⟨rfl, h1⟩
  have H1 := Lib.hid h1; clear h1
  have hz1 : w1.heap[w.heap.size + 1]? = some (.cells #[.int .i64 0, .int .i64 0, .string ⟨#[]⟩] 34 (0, 0)) := H1.out.block [] _
  have z0 : w1.cell? ⟨w.heap.size + 1, 0, none⟩ = some (.int .i64 0) := cell_at hz1 0
  have z1 : w1.cell? ⟨w.heap.size + 1, 1, none⟩ = some (.int .i64 0) := cell_at hz1 1
  have z2 : w1.cell? ⟨w.heap.size + 1, 2, none⟩ = some (.string ⟨#[]⟩) := cell_at hz1 2
  have y0 : w1.frozen? ⟨w.heap.size + 1, 0, none⟩ = false := free_at hz1 0
  have y1 : w1.frozen? ⟨w.heap.size + 1, 1, none⟩ = false := free_at hz1 1
  have y2 : w1.frozen? ⟨w.heap.size + 1, 2, none⟩ = false := free_at hz1 2
  clear hz1
  go_wp2_with fail
  refine bodyPost_ret (v := .tuple #[.agg #[.int .i64 0, .int .i64 0, .string ⟨#[]⟩], .int .i64 (doubleCode l o.n)]) (by simp [results, Try.results28, go_sem, z0, z1, z2]) rfl ⟨?_, ?_⟩
  · rw [HC.out.1, HC.out.2.1] <;> rfl
  · rw [HC.out.2.2.1, HC.out.2.2.2]
    exact H1.out.set3_drop _ _ _

set_option maxHeartbeats 800000 in
set_option maxRecDepth 100000 in
theorem model_six (pre post : List Thing) (b : Nat) (l : List Pkt) (s : Int) (o : NOp) (w : World) (h : Sep w0 w (pre ++ netThing 51 b l s :: post)) (hk : kindOf o = 6) :
    Calls Try.prog 28 #[.pointer (some ⟨b, 0, none⟩), .agg #[.int .i64 o.doo, .int .i64 o.n, .int .i64 o.to, .string o.s]] w (ModelPost w0 pre post b l s o) := by
  have eC : opCode l s o = 0 := by simp [opCode, hk]
  have eP : opPkt l s o = noPkt := by simp [opPkt, hk]
  have eL : opList l s o = l := by simp [opList, hk]
  have eS : opSplit s o = bits .and .i64 o.n 65535 := by simp [opSplit, hk]
  have k3 : (bits .and .i64 o.doo 7 == 3) = false := by have := hk; unfold kindOf at this; rw [this]; rfl
  have k4 : (bits .and .i64 o.doo 7 == 4) = false := by have := hk; unfold kindOf at this; rw [this]; rfl
  have k5 : (bits .and .i64 o.doo 7 == 5) = false := by have := hk; unfold kindOf at this; rw [this]; rfl
  have k6 : (bits .and .i64 o.doo 7 == 6) = true := by have := hk; unfold kindOf at this; rw [this]; rfl
  have H0 : Hid (Sep w0 ((w.alloc (.cells #[.int .i64 o.doo, .int .i64 o.n, .int .i64 o.to, .string o.s] 30)).alloc (.cells #[.int .i64 0, .int .i64 0, .string ⟨#[]⟩] 34)) (blockThing (w.heap.size + 1) (.cells #[.int .i64 0, .int .i64 0, .string ⟨#[]⟩] 34) :: (pre ++ netThing 51 b l s :: post))) := by
    have := (h.quiet (Turns.alloc [] w (.cells #[.int .i64 o.doo, .int .i64 o.n, .int .i64 o.to, .string o.s] 30))).alloc (.cells #[.int .i64 0, .int .i64 0, .string ⟨#[]⟩] 34)
    rw [World.size_alloc] at this
    exact this
  have HC := Lib.hid (And.intro eC (And.intro eP (And.intro eL eS))); clear eC eP eL eS h hk
  go_enter Try.func28, Try.ntmps28
  go_wp2_with fail
  refine (rsplit_sep (blockThing (w.heap.size + 1) (.cells #[.int .i64 0, .int .i64 0, .string ⟨#[]⟩] 34) :: pre) post b l s o.n _ H0.out).mono ?_
  rintro e w1 ⟨rfl, h1⟩
  have H1 := Lib.hid h1; clear h1
  have hz1 : w1.heap[w.heap.size + 1]? = some (.cells #[.int .i64 0, .int .i64 0, .string ⟨#[]⟩] 34 (0, 0)) := H1.out.block [] _
  have z0 : w1.cell? ⟨w.heap.size + 1, 0, none⟩ = some (.int .i64 0) := cell_at hz1 0
  have z1 : w1.cell? ⟨w.heap.size + 1, 1, none⟩ = some (.int .i64 0) := cell_at hz1 1
  have z2 : w1.cell? ⟨w.heap.size + 1, 2, none⟩ = some (.string ⟨#[]⟩) := cell_at hz1 2
  have y0 : w1.frozen? ⟨w.heap.size + 1, 0, none⟩ = false := free_at hz1 0
  have y1 : w1.frozen? ⟨w.heap.size + 1, 1, none⟩ = false := free_at hz1 1
  have y2 : w1.frozen? ⟨w.heap.size + 1, 2, none⟩ = false := free_at hz1 2
  clear hz1
  go_wp2_with fail
  refine bodyPost_ret (v := .tuple #[.agg #[.int .i64 0, .int .i64 0, .string ⟨#[]⟩], .int .i64 0]) (by simp [results, Try.results28, go_sem, z0, z1, z2]) rfl ⟨?_, ?_⟩
  · rw [HC.out.1, HC.out.2.1] <;> rfl
  · rw [HC.out.2.2.1, HC.out.2.2.2]
    exact H1.out.set3_drop _ _ _

set_option maxHeartbeats 800000 in
set_option maxRecDepth 100000 in
theorem model_seven (pre post : List Thing) (b : Nat) (l : List Pkt) (s : Int) (o : NOp) (w : World) (h : Sep w0 w (pre ++ netThing 51 b l s :: post)) (hk : kindOf o = 7) :
    Calls Try.prog 28 #[.pointer (some ⟨b, 0, none⟩), .agg #[.int .i64 o.doo, .int .i64 o.n, .int .i64 o.to, .string o.s]] w (ModelPost w0 pre post b l s o) := by
  have eC : opCode l s o = 0 := by simp [opCode, hk]
  have eP : opPkt l s o = noPkt := by simp [opPkt, hk]
  have eL : opList l s o = l := by simp [opList, hk]
  have eS : opSplit s o = 0 := by simp [opSplit, hk]
  have k3 : (bits .and .i64 o.doo 7 == 3) = false := by have := hk; unfold kindOf at this; rw [this]; rfl
  have k4 : (bits .and .i64 o.doo 7 == 4) = false := by have := hk; unfold kindOf at this; rw [this]; rfl
  have k5 : (bits .and .i64 o.doo 7 == 5) = false := by have := hk; unfold kindOf at this; rw [this]; rfl
  have k6 : (bits .and .i64 o.doo 7 == 6) = false := by have := hk; unfold kindOf at this; rw [this]; rfl
  have k7 : (bits .and .i64 o.doo 7 == 7) = true := by have := hk; unfold kindOf at this; rw [this]; rfl
  have H0 : Hid (Sep w0 ((w.alloc (.cells #[.int .i64 o.doo, .int .i64 o.n, .int .i64 o.to, .string o.s] 30)).alloc (.cells #[.int .i64 0, .int .i64 0, .string ⟨#[]⟩] 34)) (blockThing (w.heap.size + 1) (.cells #[.int .i64 0, .int .i64 0, .string ⟨#[]⟩] 34) :: (pre ++ netThing 51 b l s :: post))) := by
    have := (h.quiet (Turns.alloc [] w (.cells #[.int .i64 o.doo, .int .i64 o.n, .int .i64 o.to, .string o.s] 30))).alloc (.cells #[.int .i64 0, .int .i64 0, .string ⟨#[]⟩] 34)
    rw [World.size_alloc] at this
    exact this
  have HC := Lib.hid (And.intro eC (And.intro eP (And.intro eL eS))); clear eC eP eL eS h hk
  go_enter Try.func28, Try.ntmps28
  go_wp2_with fail
  refine (rsplit_sep (blockThing (w.heap.size + 1) (.cells #[.int .i64 0, .int .i64 0, .string ⟨#[]⟩] 34) :: pre) post b l s 0 _ H0.out).mono ?_
  rintro e w1 ⟨rfl, h1⟩
  rw [split_zero] at h1
  have H1 := Lib.hid h1; clear h1
  have hz1 : w1.heap[w.heap.size + 1]? = some (.cells #[.int .i64 0, .int .i64 0, .string ⟨#[]⟩] 34 (0, 0)) := H1.out.block [] _
  have z0 : w1.cell? ⟨w.heap.size + 1, 0, none⟩ = some (.int .i64 0) := cell_at hz1 0
  have z1 : w1.cell? ⟨w.heap.size + 1, 1, none⟩ = some (.int .i64 0) := cell_at hz1 1
  have z2 : w1.cell? ⟨w.heap.size + 1, 2, none⟩ = some (.string ⟨#[]⟩) := cell_at hz1 2
  have y0 : w1.frozen? ⟨w.heap.size + 1, 0, none⟩ = false := free_at hz1 0
  have y1 : w1.frozen? ⟨w.heap.size + 1, 1, none⟩ = false := free_at hz1 1
  have y2 : w1.frozen? ⟨w.heap.size + 1, 2, none⟩ = false := free_at hz1 2
  clear hz1
  go_wp2_with fail
  refine bodyPost_ret (v := .tuple #[.agg #[.int .i64 0, .int .i64 0, .string ⟨#[]⟩], .int .i64 0]) (by simp [results, Try.results28, go_sem, z0, z1, z2]) rfl ⟨?_, ?_⟩
  · rw [HC.out.1, HC.out.2.1] <;> rfl
  · rw [HC.out.2.2.1, HC.out.2.2.2]
    exact H1.out.set3_drop _ _ _

set_option maxHeartbeats 800000 in
set_option maxRecDepth 100000 in
theorem model_send (pre post : List Thing) (b : Nat) (l : List Pkt) (s : Int) (o : NOp) (w : World) (h : Sep w0 w (pre ++ netThing 51 b l s :: post)) (hl : l.length ≤ 1000) (hk : kindOf o < 3) :
    Calls Try.prog 28 #[.pointer (some ⟨b, 0, none⟩), .agg #[.int .i64 o.doo, .int .i64 o.n, .int .i64 o.to, .string o.s]] w (ModelPost w0 pre post b l s o) := by
  have g3 : ¬ kindOf o = 3 := by omega
  have g4 : ¬ kindOf o = 4 := by omega
  have g5 : ¬ kindOf o = 5 := by omega
  have g6 : ¬ kindOf o = 6 := by omega
  have g7 : ¬ kindOf o = 7 := by omega
  have eC : opCode l s o = sendCode l s o.n o.to := by simp [opCode, g3, g4, g5, g6, g7]
  have eP : opPkt l s o = noPkt := by simp [opPkt, g3]
  have eL : opList l s o = sendList l s o.n o.to o.s := by simp [opList, g3, g4, g5, g6, g7]
  have eS : opSplit s o = s := by simp [opSplit, g6, g7]
  have k3 : (bits .and .i64 o.doo 7 == 3) = false := by have := hk; unfold kindOf at this; simp; omega
  have k4 : (bits .and .i64 o.doo 7 == 4) = false := by have := hk; unfold kindOf at this; simp; omega
  have k5 : (bits .and .i64 o.doo 7 == 5) = false := by have := hk; unfold kindOf at this; simp; omega
  have k6 : (bits .and .i64 o.doo 7 == 6) = false := by have := hk; unfold kindOf at this; simp; omega
  have k7 : (bits .and .i64 o.doo 7 == 7) = false := by have := hk; unfold kindOf at this; simp; omega
  have H0 : Hid (Sep w0 ((w.alloc (.cells #[.int .i64 o.doo, .int .i64 o.n, .int .i64 o.to, .string o.s] 30)).alloc (.cells #[.int .i64 0, .int .i64 0, .string ⟨#[]⟩] 34)) (blockThing (w.heap.size + 1) (.cells #[.int .i64 0, .int .i64 0, .string ⟨#[]⟩] 34) :: (pre ++ netThing 51 b l s :: post))) := by
    have := (h.quiet (Turns.alloc [] w (.cells #[.int .i64 o.doo, .int .i64 o.n, .int .i64 o.to, .string o.s] 30))).alloc (.cells #[.int .i64 0, .int .i64 0, .string ⟨#[]⟩] 34)
    rw [World.size_alloc] at this
    exact this
  have HC := Lib.hid (And.intro eC (And.intro eP (And.intro eL eS))); clear eC eP eL eS h hk g3 g4 g5 g6 g7
  go_enter Try.func28, Try.ntmps28
  go_wp2_with fail
  refine (rsend_sep (blockThing (w.heap.size + 1) (.cells #[.int .i64 0, .int .i64 0, .string ⟨#[]⟩] 34) :: pre) post b l s o.n o.to o.s _ H0.out hl).mono ?_
  rintro e w1 ⟨rfl, h1⟩
  have H1 := Lib.hid h1; clear h1
  have hz1 : w1.heap[w.heap.size + 1]? = some (.cells #[.int .i64 0, .int .i64 0, .string ⟨#[]⟩] 34 (0, 0)) := H1.out.block [] _
  have z0 : w1.cell? ⟨w.heap.size + 1, 0, none⟩ = some (.int .i64 0) := cell_at hz1 0
  have z1 : w1.cell? ⟨w.heap.size + 1, 1, none⟩ = some (.int .i64 0) := cell_at hz1 1
  have z2 : w1.cell? ⟨w.heap.size + 1, 2, none⟩ = some (.string ⟨#[]⟩) := cell_at hz1 2
  have y0 : w1.frozen? ⟨w.heap.size + 1, 0, none⟩ = false := free_at hz1 0
  have y1 : w1.frozen? ⟨w.heap.size + 1, 1, none⟩ = false := free_at hz1 1
  have y2 : w1.frozen? ⟨w.heap.size + 1, 2, none⟩ = false := free_at hz1 2
  clear hz1
  go_wp2_with fail
  refine bodyPost_ret (v := .tuple #[.agg #[.int .i64 0, .int .i64 0, .string ⟨#[]⟩], .int .i64 (sendCode l s o.n o.to)]) (by simp [results, Try.results28, go_sem, z0, z1, z2]) rfl ⟨?_, ?_⟩
  · rw [HC.out.1, HC.out.2.1] <;> rfl
  · rw [HC.out.2.2.1, HC.out.2.2.2]
    exact H1.out.set3_drop _ _ _

theorem model_any (pre post : List Thing) (b : Nat) (l : List Pkt) (s : Int) (o : NOp) (w : World) (h : Sep w0 w (pre ++ netThing 51 b l s :: post)) (hl : l.length ≤ 1000) :
    Calls Try.prog 28 #[.pointer (some ⟨b, 0, none⟩), .agg #[.int .i64 o.doo, .int .i64 o.n, .int .i64 o.to, .string o.s]] w (ModelPost w0 pre post b l s o) := by
  have hr := kind_range o
  by_cases h3 : kindOf o = 3
  · exact model_three pre post b l s o w h hl h3
  by_cases h4 : kindOf o = 4
  · exact model_four pre post b l s o w h hl h4
  by_cases h5 : kindOf o = 5
  · exact model_five pre post b l s o w h hl h5
  by_cases h6 : kindOf o = 6
  · exact model_six pre post b l s o w h h6
  by_cases h7 : kindOf o = 7
  · exact model_seven pre post b l s o w h h7
  exact model_send pre post b l s o w h hl (by omega)

end Go.Proofs.Ytmikjninonpejaa
