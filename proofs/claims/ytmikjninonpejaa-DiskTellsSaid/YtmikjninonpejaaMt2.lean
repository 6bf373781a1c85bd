/- Contracts and lemmas (texts RefX, RefY, RefZ, RefS2, RefT2, RefU2, joined by a program). -/
import Derived.Test.YtmikjninonpejaaMt1
/- Contracts of the reference for disk: add. -/
namespace Go.Proofs.Ytmikjninonpejaa
open Go.RowKit Go.Proofs.YtmikjninonpejaaMem Go.Maps

theorem Try.info112 : (Try.prog.info? 112).map (fun i => (i.zero, i.size, i.bytes)) = some (some (.agg #[.int .i64 0, .int .i64 0]), 2, 16) := by kernel_rfl
/-- The reference's disk: its struct, its files, its queue. -/
def refL (b : Nat) (fv qv kv : Value) (st : DS) (L : List RF) (post : List Thing) : List Thing :=
  blockThing b (refObj fv qv kv st) :: rowThing 98 3 fv L.length (rfCells L) :: rowThing 112 2 qv st.Q.length (secCells st.Q) :: post
def RefAt (w0 w : World) (b : Nat) (kv : Value) (st : DS) (post : List Thing) : Prop := ∃ fv qv L, Rep L st.F ∧ Sep w0 w (refL b fv qv kv st L post)

set_option maxHeartbeats 3200000 in
set_option maxRecDepth 100000 in
theorem radd_some {w0 w : World} {b : Nat} {kv : Value} {st : DS} {post : List Thing} (f : Int) (a : Nat) (s : ByteArray) (h : RefAt w0 w b kv st post) (hs : 0 < s.size) (hf : 0 ≤ f ∧ f < 16) (ha : a + s.size ≤ 16777216) (hI : DInv st) (hQ : st.Q.length ≤ 600000) :
    Calls Try.prog 88 #[.pointer (some ⟨b, 0, none⟩), .int .i64 f, .int .i64 a, .string s] w fun e w' => e = .returned (.tuple #[]) ∧
      RefAt w0 w' b kv { st with F := updF st.F f { st.F f with now := putB (st.F f).now a s }, Q := addSecs st.Q f ((a : Int) / 64) ((a + s.size - 1) / 64 - a / 64 + 1) } post := by
  obtain ⟨i0, hi, hz0, hz1, hz2⟩ := info_parts Try.info112
  obtain ⟨fv, qv, L, hR, h0⟩ := h
  have hlen := hR.len
  have H0 := Lib.hid h0; clear h0
  have hemp : s.toList.isEmpty = false := by
    rw [ByteArray.toList_eq]
    cases h : s.data.toList
    · have : s.data.toList.length = s.size := by simp
      rw [h] at this; simp at this; omega
    · rfl
  have hfile := hR.file f
  have hnum := rget_num L f
  obtain ⟨x, hx⟩ : ∃ x, x = rget L f := ⟨_, rfl⟩
  have hsz := (hI.size f).2
  rw [← hx] at hfile hnum
  go_enter Try.func88, Try.ntmps88
  go_wp2_with fail
  refine (rget_any b fv qv kv st L f w (Sep.block [] _ H0.out) (Sep.row (pre := [_]) H0.out) (by omega)).mono ?_
  rintro e w1 ⟨rfl, ht1⟩
  rw [← hx]
  have HX := Lib.hid (And.intro hR (And.intro hx (And.intro hfile (And.intro hnum hsz)))); clear hx hfile hnum hsz hR
  unfold RF.val
  have H1 : Hid (Sep w0 (w1.alloc (.cells #[.int .i64 x.num, .string x.now, .string x.last] 98)) (blockThing w1.heap.size (xObj x) :: refL b fv qv kv st L post)) := Sep.alloc (H0.out.quiet ht1) (xObj x)
  clear H0 ht1
  go_wp2_with fail
  generalize w1.alloc (.cells #[.int .i64 x.num, .string x.now, .string x.last] 98) = W1 at *
  generalize w1.heap.size = pb at *
  have hxs : x.now.size ≤ 16777216 := by
    obtain ⟨_, _, k3, _, k5⟩ := HX.out
    rw [← k3] at k5
    exact k5
  refine (rput_any x.now s a W1 (by omega) (by omega)).mono ?_
  rintro e W2 ⟨rfl, ht2⟩
  have H2 := Lib.hid (H1.out.quiet ht2); clear ht2 H1
  have hb := Sep.block [] _ H2.out
  have p0 : W2.cell? ⟨pb, 0, none⟩ = some (.int .i64 x.num) := cell_at hb 0
  have p1 : W2.cell? ⟨pb, 1, none⟩ = some (.string x.now) := cell_at hb 1
  have p2 : W2.cell? ⟨pb, 2, none⟩ = some (.string x.last) := cell_at hb 2
  have f1 : W2.frozen? ⟨pb, 1, none⟩ = false := free_at hb 1
  have HB := Lib.hid hb; clear hb
  go_wp2_with fail
  have H3 : Hid (Sep w0 (W2.setCell ⟨pb, 1, none⟩ (.string (putB x.now a s))) (refL b fv qv kv st L post)) :=
    (Sep.block_turned (o' := xObj ⟨x.num, putB x.now a s, x.last⟩) [] _ H2.out (Turns.setCell _ _ _ (by simp)) (heap_setCell_at HB.out 1 _)).drop
  clear H2 HB p0 p1 p2 f1
  generalize W2.setCell ⟨pb, 1, none⟩ (.string (putB x.now a s)) = W3 at *
  refine (rset_sep _ ⟨x.num, putB x.now a s, x.last⟩ H3.out (by omega)).mono ?_
  rintro e W4 ⟨rfl, fv', h4⟩
  have H4 := Lib.hid h4; clear h4 H3
  go_wp2_with fail
  obtain ⟨cnt, hcnt⟩ : ∃ cnt, cnt = (a + s.size - 1) / 64 - a / 64 + 1 := ⟨_, rfl⟩
  generalize hL' : rset L ⟨x.num, putB x.now a s, x.last⟩ = L' at *
  go_loopw [9] (fun iv wr => ∃ k : Nat, k ≤ cnt ∧ iv = .int .i64 ((a : Int) / 64 + (k : Int)) ∧ Hid (∃ qv, Sep w0 wr (refL b fv' qv kv { st with Q := addSecs st.Q f ((a : Int) / 64) k } L' post))) (fun iv _ => cnt - (intOf iv - (a : Int) / 64).toNat)
  case atStart => exact ⟨0, Nat.zero_le _, by simp, _, H4.out⟩
  case round =>
    clear H4
    obtain ⟨k, hk, rfl, qv', hS⟩ := hrel
    have HS := Lib.hid hS; clear hS
    obtain ⟨Q', hQ'⟩ : ∃ Q', Q' = addSecs st.Q f ((a : Int) / 64) k := ⟨_, rfl⟩
    have hql : Q'.length ≤ 900000 := by
      have := addSecs_length st.Q f ((a : Int) / 64) k
      rw [← hQ'] at this
      omega
    have HQ := Lib.hid hQ'
    rw [← hQ'] at HS
    clear hQ'
    obtain ⟨qa, qc, rfl, -⟩ := secs_at (Sep.row (pre := [_, _]) HS.out)
    have hb := Sep.block [] _ HS.out
    have c1 : wr.cell? ⟨b, 1, none⟩ = some (.slice qa Q'.length qc) := cell_at hb 1
    have f1 : wr.frozen? ⟨b, 1, none⟩ = false := free_at hb 1
    have HB := Lib.hid hb; clear hb
    by_cases hlt : k < cnt
    · have hd4 : decide ((a : Int) / 64 + (k : Int) ≤ ((a : Int) + (s.size : Int) - 1) / 64) = true := decide_eq_true (by omega)
      go_wp2_with fail
      refine (rpending_any b fv' _ kv _ Q' f ((a : Int) / 64 + (k : Int)) wr HB.out (Sep.row (pre := [_, _]) HS.out) (by omega)).mono ?_
      rintro e W5 ⟨rfl, rfl⟩
      by_cases hm : (f, (a : Int) / 64 + (k : Int)) ∈ Q'
      · rw [decide_eq_true hm]
        have HN : Hid (addSecs st.Q f ((a : Int) / 64) (k + 1) = Q') := by
          show addSec (addSecs st.Q f ((a : Int) / 64) k) f ((a : Int) / 64 + (k : Int)) = Q'
          rw [← HQ.out, addSec, if_pos hm]
        clear hm
        go_wp2_with fail
        go_roundw
        case rel => exact ⟨k + 1, by omega, by congr 1, _, by rw [HN.out]; exact HS.out⟩
        case measure => simp [intOf]; omega
      · rw [decide_eq_false hm]
        have HN : Hid (addSecs st.Q f ((a : Int) / 64) (k + 1) = Q' ++ [(f, (a : Int) / 64 + (k : Int))]) := by
          show addSec (addSecs st.Q f ((a : Int) / 64) k) f ((a : Int) / 64 + (k : Int)) = _
          rw [← HQ.out, addSec, if_neg hm]
        clear hm
        have HR : Hid ((wr.alloc (.cells #[.int .i64 f, .int .i64 ((a : Int) / 64 + (k : Int))] 112)).ownsRow 0 112 2 (.slice qa Q'.length qc) Q'.length (secCells Q')) := own_kept (Sep.row (pre := [_, _]) HS.out) (Turns.alloc [] wr _) (by simp)
        go_wp2_with (at_builtin; refine wpList_append_src _ rfl (.tmp 45) (.tmp 49) 92 rfl 112 i0 (.agg #[.int .i64 0, .int .i64 0]) 2 16 Try.underlying92 hi hz0 hz1 hz2 rfl (by decide) (.slice qa Q'.length qc) Q'.length (secCells Q') rfl HR.out (.slice (some ⟨wr.heap.size, 0, none⟩) 1 1) 1 [.int .i64 f, .int .i64 ((a : Int) / 64 + (k : Int))] rfl (.inr ⟨_, _, rfl, new_cells wr _ 112 _ rfl⟩) ?c1 ?c3 ?c4 ?c5 ?_)
        case c1 => rfl
        case c3 => intro u hu; simp at hu; rcases hu with rfl | rfl <;> rfl
        case c4 => unfold maxLen; omega
        case c5 => omega
        intro v' w5 hown hgr hat
        have HW := Lib.hid (Sep.row_grown [_, _] post HS.out hown hgr hat)
        clear hown hgr hat HR c1 f1
        have hb := Sep.block [] _ HW.out
        have c1 : w5.cell? ⟨b, 1, none⟩ = some (.slice qa Q'.length qc) := cell_at hb 1
        have f1 : w5.frozen? ⟨b, 1, none⟩ = false := free_at hb 1
        have HB2 := Lib.hid hb; clear hb
        obtain ⟨va, vc, rfl, -⟩ := own_shape (Sep.row (pre := [_, _]) HW.out)
        go_wp2_with fail
        go_roundw
        case rel =>
          refine ⟨k + 1, by omega, by congr 1, .slice va (Q'.length + 1) vc, ?_⟩
          rw [HN.out]
          have e1 : secCells (Q' ++ [(f, (a : Int) / 64 + (k : Int))]) = secCells Q' ++ [.int .i64 f, .int .i64 ((a : Int) / 64 + (k : Int))] := by simp [secCells]
          have e2 : (Q' ++ [(f, (a : Int) / 64 + (k : Int))]).length = Q'.length + 1 := by simp
          unfold refL
          simp only []
          rw [e1, e2]
          exact Sep.block_turned (o' := refObj fv' (.slice va (Q'.length + 1) vc) kv { st with Q := Q' }) [] _ HW.out (Turns.setCell w5 ⟨b, 1, none⟩ _ (by simp)) (heap_setCell_at HB2.out 1 _)
        case measure => simp [intOf]; omega
    · have hd4 : decide ((a : Int) / 64 + (k : Int) ≤ ((a : Int) + (s.size : Int) - 1) / 64) = false := decide_eq_false (by omega)
      obtain rfl : k = cnt := by omega
      go_wp2_with fail
      go_end0
      obtain ⟨k1, k2, k3, k4, k5⟩ := HX.out
      rw [← hcnt]
      refine ⟨rfl, fv', .slice qa Q'.length qc, L', ?_, ?_⟩
      · rw [← hL']
        rw [← k3]
        show Rep (rset L ⟨x.num, putB x.now a s, x.last⟩) (updF st.F f ⟨putB x.now a s, x.last⟩)
        have := k1.set ⟨x.num, putB x.now a s, x.last⟩ (by rw [k4]; exact hf)
        rw [k4] at this ⊢
        exact this
      · rw [← HQ.out]
        exact HS.out
end Go.Proofs.Ytmikjninonpejaa

/- Contracts of the reference for disk: settle. -/
namespace Go.Proofs.Ytmikjninonpejaa
open Go.RowKit Go.Proofs.YtmikjninonpejaaMem Go.Maps

def keepS (f : Int) (Q : List (Int × Int)) : List (Int × Int) := Q.filter (fun p => p.1 != f)
theorem keepS_yes {f : Int} {Q : List (Int × Int)} {k : Nat} (hk : k < Q.length) (h : (Q[k].1 != f) = true) : keepS f (Q.take (k + 1)) = keepS f (Q.take k) ++ [Q[k]] := by
  unfold keepS
  rw [List.take_succ_eq_append_getElem hk, List.filter_append]
  simp [h]
theorem keepS_no {f : Int} {Q : List (Int × Int)} {k : Nat} (hk : k < Q.length) (h : (Q[k].1 != f) = false) : keepS f (Q.take (k + 1)) = keepS f (Q.take k) := by
  unfold keepS
  rw [List.take_succ_eq_append_getElem hk, List.filter_append]
  simp [h]
theorem keepS_len (f : Int) (Q : List (Int × Int)) (k : Nat) : (keepS f (Q.take k)).length ≤ Q.length := by
  unfold keepS
  exact Nat.le_trans (List.length_filter_le _ _) (by rw [List.length_take]; omega)
theorem secCells_snoc2 (Q : List (Int × Int)) (p : Int × Int) : secCells (Q ++ [p]) = secCells Q ++ [.int .i64 p.1, .int .i64 p.2] := by simp [secCells]

set_option maxHeartbeats 3200000 in
set_option maxRecDepth 100000 in
theorem rsettle_sep {w0 w : World} {b : Nat} {kv : Value} {st : DS} {post : List Thing} (f : Int) (s : ByteArray) (h : RefAt w0 w b kv st post) (hf : 0 ≤ f ∧ f < 16) (hQ : st.Q.length ≤ 900000) :
    Calls Try.prog 85 #[.pointer (some ⟨b, 0, none⟩), .int .i64 f, .string s] w fun e w' => e = .returned (.tuple #[]) ∧ RefAt w0 w' b kv (settleS st f s) post := by
  obtain ⟨i0, hi, hz0, hz1, hz2⟩ := info_parts Try.info112
  obtain ⟨fv, qv, L, hR, h0⟩ := h
  have hlen := hR.len
  have H0 := Lib.hid h0; clear h0
  have HR0 := Lib.hid hR; clear hR
  go_enter Try.func85, Try.ntmps85
  go_wp2_with fail
  refine (rset_sep _ ⟨f, s, s⟩ H0.out (by omega)).mono ?_
  rintro e W1 ⟨rfl, fv', h1⟩
  obtain ⟨qa, qc, rfl, -⟩ := secs_at (Sep.row (pre := [_, _]) h1)
  have H1 : Hid (Sep w0 W1 (rowThing 112 2 (.slice none 0 0) 0 [] :: refL b fv' (.slice qa st.Q.length qc) kv st (rset L ⟨f, s, s⟩) post)) := Sep.row_start h1 112 2
  clear h1 H0
  go_wp2_with fail
  obtain ⟨L', hL'⟩ : ∃ L', L' = rset L ⟨f, s, s⟩ := ⟨_, rfl⟩
  rw [← hL'] at H1
  have HL := Lib.hid hL'; clear hL'
  go_loopw [6, 7] (fun ov iv wr => ∃ k : Nat, k ≤ st.Q.length ∧ iv = .int .i64 k ∧ Hid (Sep w0 wr (rowThing 112 2 ov (keepS f (st.Q.take k)).length (secCells (keepS f (st.Q.take k))) :: refL b fv' (.slice qa st.Q.length qc) kv st L' post))) (fun _ iv _ => st.Q.length - (intOf iv).toNat)
  case atStart => exact ⟨0, Nat.zero_le _, rfl, H1.out⟩
  case round =>
    clear H1
    obtain ⟨k, hk, rfl, hS⟩ := hrel
    have HS := Lib.hid hS.out; clear hS
    obtain ⟨oa, oc, rfl, -⟩ := secs_at (Sep.row (pre := []) HS.out)
    have hb := Sep.block [_] _ HS.out
    obtain ⟨a', c', he, hat⟩ := secs_at (Sep.row (pre := [_, _, _]) HS.out)
    obtain ⟨rfl, -, rfl⟩ := Value.slice.inj he
    have c1 : wr.cell? ⟨b, 1, none⟩ = some (.slice qa st.Q.length qc) := cell_at hb 1
    have f1 : wr.frozen? ⟨b, 1, none⟩ = false := free_at hb 1
    have HB := Lib.hid hb; clear hb he
    have hkl := keepS_len f st.Q k
    by_cases hlt : k < st.Q.length
    · have hltI : (k : Int) < (st.Q.length : Int) := by omega
      obtain ⟨g, rfl, x0, x1⟩ := hat k hlt
      obtain ⟨y, hy⟩ : ∃ y, y = st.Q[k] := ⟨_, rfl⟩
      rw [← hy] at x0 x1
      have HY := Lib.hid hy; clear hy hat
      cases hn : (y.1 != f)
      · have HN := Lib.hid hn
        go_wp2_with fail
        go_roundw
        case rel =>
          refine ⟨k + 1, by omega, by go_num, ?_⟩
          show Sep w0 wr _
          rw [keepS_no hlt (by rw [← HY.out]; exact HN.out)]
          exact HS.out
        case measure => simp [intOf]; omega
      · have HN := Lib.hid hn
        have HR : Hid ((wr.alloc (.cells #[.int .i64 y.1, .int .i64 y.2] 112)).ownsRow 0 112 2 (.slice oa (keepS f (st.Q.take k)).length oc) (keepS f (st.Q.take k)).length (secCells (keepS f (st.Q.take k)))) := own_kept (Sep.row (pre := []) HS.out) (Turns.alloc [] wr _) (by simp)
        go_wp2_with (at_builtin; refine wpList_append_src _ rfl (.tmp 33) (.tmp 41) 92 rfl 112 i0 (.agg #[.int .i64 0, .int .i64 0]) 2 16 Try.underlying92 hi hz0 hz1 hz2 rfl (by decide) (.slice oa (keepS f (st.Q.take k)).length oc) (keepS f (st.Q.take k)).length (secCells (keepS f (st.Q.take k))) rfl HR.out (.slice (some ⟨wr.heap.size, 0, none⟩) 1 1) 1 [.int .i64 y.1, .int .i64 y.2] rfl (.inr ⟨_, _, rfl, new_cells wr _ 112 _ rfl⟩) ?c1 ?c3 ?c4 ?c5 ?_)
        case c1 => rfl
        case c3 => intro u hu; simp at hu; rcases hu with rfl | rfl <;> rfl
        case c4 => unfold maxLen; omega
        case c5 => omega
        intro v' w1 hown hgr hat
        have HW : Hid (Sep w0 w1 (rowThing 112 2 v' (keepS f (st.Q.take (k + 1))).length (secCells (keepS f (st.Q.take (k + 1)))) :: refL b fv' (.slice (some ⟨g, 0, none⟩) st.Q.length qc) kv st L' post)) := by
          have := Sep.row_grown [] _ HS.out hown hgr hat
          rw [keepS_yes hlt (by rw [← HY.out]; exact HN.out), ← HY.out, secCells_snoc2, List.length_append]
          exact this
        clear hown hgr hat HR c1 x0 x1
        go_wp2_with fail
        go_roundw
        case rel => exact ⟨k + 1, by omega, by go_num, HW.out⟩
        case measure => simp [intOf]; omega
    · have hltI : ¬ (k : Int) < (st.Q.length : Int) := by omega
      go_wp2_with fail
      go_end0
      have h1 := Sep.block_turned (o' := refObj fv' (.slice oa (keepS f (st.Q.take k)).length oc) kv st) [_] _ HS.out (Turns.setCell wr ⟨b, 1, none⟩ _ (by simp)) (heap_setCell_at HB.out 1 _)
      have h2 := (Sep.toFront [_, _, _] _ h1).drop
      have h3 := Sep.fromFront [_, _] _ h2
      refine ⟨rfl, fv', .slice oa (keepS f (st.Q.take k)).length oc, L', ?_, ?_⟩
      · rw [HL.out]
        exact HR0.out.set ⟨f, s, s⟩ hf
      · rw [List.take_of_length_le (by omega)] at h3 ⊢
        exact h3
end Go.Proofs.Ytmikjninonpejaa

/- Contracts of the reference for disk: survive. -/
namespace Go.Proofs.Ytmikjninonpejaa
open Go.RowKit Go.Proofs.YtmikjninonpejaaMem Go.Maps

def survF (F : Int → File) (p : Int × Int) : Int → File :=
  if p.2 * 64 < ((F p.1).now.size : Int) then updF F p.1 ⟨(F p.1).now, putB (F p.1).last (p.2 * 64).toNat ((F p.1).now.extract (p.2 * 64).toNat (min ((p.2 * 64).toNat + 64) (F p.1).now.size))⟩ else F
theorem updF_id (F : Int → File) (f : Int) : updF F f (F f) = F := by
  funext g
  unfold updF
  split
  · rename_i h; rw [h]
  · rfl

set_option maxHeartbeats 3200000 in
set_option maxRecDepth 100000 in
theorem rsurvive_sep {w0 w : World} {b : Nat} {kv : Value} {st : DS} {post : List Thing} (pf : Int) (n0 : Nat) (h : RefAt w0 w b kv st post) (hf : 0 ≤ pf ∧ pf < 16) (hs1 : (st.F pf).now.size ≤ 16777216) (hs2 : (st.F pf).last.size ≤ 16777216) (hn : n0 ≤ 300000) :
    Calls Try.prog 86 #[.pointer (some ⟨b, 0, none⟩), .agg #[.int .i64 pf, .int .i64 (n0 : Int)]] w fun e w' => e = .returned (.tuple #[]) ∧ RefAt w0 w' b kv { st with F := survF st.F (pf, (n0 : Int)) } post := by
  obtain ⟨fv, qv, L, hR, h0⟩ := h
  have hlen := hR.len
  have HA : Hid (Sep w0 (w.alloc (.cells #[.int .i64 pf, .int .i64 (n0 : Int)] 112)) (blockThing w.heap.size (.cells #[.int .i64 pf, .int .i64 (n0 : Int)] 112 (0, 0)) :: refL b fv qv kv st L post)) := Sep.alloc h0 _
  clear h0
  have hfile := hR.file pf
  have hnum := rget_num L pf
  obtain ⟨x, hx⟩ : ∃ x, x = rget L pf := ⟨_, rfl⟩
  rw [← hx] at hfile hnum
  have hz1 : x.now.size ≤ 16777216 := by rw [← hfile] at hs1; exact hs1
  have hz2 : x.last.size ≤ 16777216 := by rw [← hfile] at hs2; exact hs2
  go_enter Try.func86, Try.ntmps86
  go_wp2_with fail
  generalize w.alloc (.cells #[.int .i64 pf, .int .i64 (n0 : Int)] 112) = W0 at *
  generalize w.heap.size = sb at *
  refine (rget_any b fv qv kv st L pf W0 (Sep.block [_] _ HA.out) (Sep.row (pre := [_, _]) HA.out) (by omega)).mono ?_
  rintro e w1 ⟨rfl, ht1⟩
  rw [← hx]
  have HX := Lib.hid (And.intro hR (And.intro hx (And.intro hfile (And.intro hnum (And.intro hz1 hz2))))); clear hx hfile hnum hz1 hz2 hR hs1 hs2
  unfold RF.val
  have H1 : Hid (Sep w0 (w1.alloc (.cells #[.int .i64 x.num, .string x.now, .string x.last] 98)) (blockThing w1.heap.size (xObj x) :: blockThing sb (.cells #[.int .i64 pf, .int .i64 (n0 : Int)] 112 (0, 0)) :: refL b fv qv kv st L post)) := Sep.alloc (HA.out.quiet ht1) (xObj x)
  clear HA
  have hsb := Sep.block [_] _ H1.out
  have y1 : (w1.alloc (.cells #[.int .i64 x.num, .string x.now, .string x.last] 98)).cell? ⟨sb, 1, none⟩ = some (.int .i64 (n0 : Int)) := cell_at hsb 1
  clear ht1
  by_cases hlo : n0 * 64 < x.now.size
  · have hloI : 64 * (n0 : Int) < (x.now.size : Int) := by omega
    clear y1
    have hlo1 : 64 * (n0 : Int) ≤ (x.now.size : Int) := by omega
    obtain ⟨m, hm⟩ : ∃ m : Nat, m = min (n0 * 64 + 64) x.now.size := ⟨_, rfl⟩
    have hite : (if (x.now.size : Int) < 64 * (n0 : Int) + 64 then (x.now.size : Int) else 64 * (n0 : Int) + 64) = (m : Int) := by rw [hm]; split <;> omega
    have hlo2 : n0 * 64 ≤ m := by omega
    have hlo3 : m ≤ x.now.size := by omega
    have hlo5 : 64 * (n0 : Int) ≤ (m : Int) := by omega
    have hlo6 : (m : Int) ≤ (x.now.size : Int) := by omega
    have hsl : ∀ w', (Instr.slice 9 (.string x.now) (some (.int .i64 (64 * (n0 : Int)))) (some (.int .i64 (m : Int))) none).run Try.prog w' = .ok (.string (x.now.extract (n0 * 64) m)) w' := fun w' => by
      rw [run_slice_string (P := Try.prog) w' 9 x.now .i64 .i64 (64 * (n0 : Int)) (m : Int) Try.underlying9 (by omega) (by omega) (by omega), show (64 * (n0 : Int)).toNat = n0 * 64 by omega, Int.toNat_natCast]
    have hw1 : IntKind.i64.wrap (64 * (n0 : Int)) = 64 * (n0 : Int) := by rw [IntKind.wrap_i64]; omega
    have hw2 : IntKind.i64.wrap (64 * (n0 : Int) + 64) = 64 * (n0 : Int) + 64 := by rw [IntKind.wrap_i64]; omega
    have HPUT : Hid (∀ W, Calls Try.prog 95 #[.string x.last, .int .i64 (64 * (n0 : Int)), .string (x.now.extract (n0 * 64) m)] W fun e w' => e = .returned (.string (putB x.last (n0 * 64) (x.now.extract (n0 * 64) m))) ∧ Turns [] W w') := by
      intro W
      have := rput_any x.last (x.now.extract (n0 * 64) m) (n0 * 64) W (by have := HX.out.2.2.2.2; omega) (by rw [extract_size]; have := HX.out.2.2.2.2; omega)
      rwa [show ((n0 * 64 : Nat) : Int) = 64 * (n0 : Int) by omega] at this
    have HM := Lib.hid (And.intro hm hlo); clear hm hlo
    have hpb := Sep.block [] _ H1.out
    have p1 : (w1.alloc (.cells #[.int .i64 x.num, .string x.now, .string x.last] 98)).cell? ⟨w1.heap.size, 1, none⟩ = some (.string x.now) := cell_at hpb 1
    have s1 : (w1.alloc (.cells #[.int .i64 x.num, .string x.now, .string x.last] 98)).cell? ⟨sb, 1, none⟩ = some (.int .i64 (n0 : Int)) := cell_at hsb 1
    clear hsb hpb
    go_wp2_with fail
    clear p1 s1
    have H2 := Lib.hid (H1.out.quiet (Turns.refl [] _).drew); clear H1
    refine wp_region_N (fun w' => w'.cell? ⟨w1.heap.size, 1, none⟩ = some (.string x.now) ∧ w'.cell? ⟨w1.heap.size, 2, none⟩ = some (.string x.last) ∧ w'.cell? ⟨sb, 0, none⟩ = some (.int .i64 pf) ∧ w'.cell? ⟨sb, 1, none⟩ = some (.int .i64 (n0 : Int))) (fun _ => True) (fun j => decide (j < 21)) (by kernel_rfl) ?_
    generalize (w1.alloc (.cells #[.int .i64 x.num, .string x.now, .string x.last] 98)).drew = W1 at *
    generalize w1.heap.size = pb at *
    have hs1 : W1.cell? ⟨pb, 1, none⟩ = some (.string x.now) ∧ W1.cell? ⟨pb, 2, none⟩ = some (.string x.last) ∧ W1.cell? ⟨sb, 0, none⟩ = some (.int .i64 pf) ∧ W1.cell? ⟨sb, 1, none⟩ = some (.int .i64 (n0 : Int)) :=
      ⟨cell_at (Sep.block [] _ H2.out) 1, cell_at (Sep.block [] _ H2.out) 2, cell_at (Sep.block [_] _ H2.out) 0, cell_at (Sep.block [_] _ H2.out) 1⟩
    have hs2 : True := trivial
    refine wpAnyN_take1 3 (some 16) (i := 0) (v := ?_) rfl rfl (by kernel_rfl) (by kernel_rfl) (by kernel_rfl) (by kernel_rfl) (by kernel_rfl) (fun _ _ _ h => h) (Or.inl ⟨by rfl, ?_⟩) ⟨hs1, hs2⟩ ?_
    rotate_left
    · intro w' hSw; obtain ⟨⟨g1, g2, g3, g4⟩, -⟩ := hSw; go_simp; try (with_reducible rfl)
    simp only [Act.put, List.setIfInBounds_toArray, List.set_cons_zero, List.set_cons_succ]
    refine wpAnyN_take1 3 (some 17) (i := 1) (v := ?_) rfl rfl (by kernel_rfl) (by kernel_rfl) (by kernel_rfl) (by kernel_rfl) (by kernel_rfl) (fun _ _ _ h => h) (Or.inl ⟨by rfl, ?_⟩) ⟨hs1, hs2⟩ ?_
    rotate_left
    · intro w' hSw; obtain ⟨⟨g1, g2, g3, g4⟩, -⟩ := hSw; go_simp; try (with_reducible rfl)
    simp only [Act.put, List.setIfInBounds_toArray, List.set_cons_zero, List.set_cons_succ]
    refine wpAnyN_take1 3 (some 18) (i := 2) (v := ?_) rfl rfl (by kernel_rfl) (by kernel_rfl) (by kernel_rfl) (by kernel_rfl) (by kernel_rfl) (fun _ _ _ h => h) (Or.inl ⟨by rfl, ?_⟩) ⟨hs1, hs2⟩ ?_
    rotate_left
    · intro w' hSw; obtain ⟨⟨g1, g2, g3, g4⟩, -⟩ := hSw; go_simp; try (with_reducible rfl)
    simp only [Act.put, List.setIfInBounds_toArray, List.set_cons_zero, List.set_cons_succ]
    refine wpAnyN_take1 3 (some 19) (i := 3) (v := ?_) rfl rfl (by kernel_rfl) (by kernel_rfl) (by kernel_rfl) (by kernel_rfl) (by kernel_rfl) (fun _ _ _ h => h) (Or.inl ⟨by rfl, ?_⟩) ⟨hs1, hs2⟩ ?_
    rotate_left
    · intro w' hSw; obtain ⟨⟨g1, g2, g3, g4⟩, -⟩ := hSw; go_simp; try (with_reducible rfl)
    simp only [Act.put, List.setIfInBounds_toArray, List.set_cons_zero, List.set_cons_succ]
    refine wpAnyN_take1 3 (some 20) (i := 4) (v := ?_) rfl rfl (by kernel_rfl) (by kernel_rfl) (by kernel_rfl) (by kernel_rfl) (by kernel_rfl) (fun _ _ _ h => h) (Or.inl ⟨by rfl, ?_⟩) ⟨hs1, hs2⟩ ?_
    rotate_left
    · intro w' hSw; obtain ⟨⟨g1, g2, g3, g4⟩, -⟩ := hSw; go_simp; try (with_reducible rfl)
    simp only [Act.put, List.setIfInBounds_toArray, List.set_cons_zero, List.set_cons_succ]
    refine wpAnyN_take1 3 (some 21) (i := 5) (v := ?_) rfl rfl (by kernel_rfl) (by kernel_rfl) (by kernel_rfl) (by kernel_rfl) (by kernel_rfl) (fun _ _ _ h => h) (Or.inl ⟨by rfl, ?_⟩) ⟨hs1, hs2⟩ ?_
    rotate_left
    · intro w' hSw; obtain ⟨⟨g1, g2, g3, g4⟩, -⟩ := hSw; go_simp; try (with_reducible rfl)
    simp only [Act.put, List.setIfInBounds_toArray, List.set_cons_zero, List.set_cons_succ]
    refine wpAnyN_take1 3 (some 22) (i := 6) (v := ?_) rfl rfl (by kernel_rfl) (by kernel_rfl) (by kernel_rfl) (by kernel_rfl) (by kernel_rfl) (fun _ _ _ h => h) (Or.inl ⟨by rfl, ?_⟩) ⟨hs1, hs2⟩ ?_
    rotate_left
    · intro w' hSw; obtain ⟨⟨g1, g2, g3, g4⟩, -⟩ := hSw; go_simp; try (with_reducible rfl)
    simp only [Act.put, List.setIfInBounds_toArray, List.set_cons_zero, List.set_cons_succ]
    refine wpAnyN_take1 3 (some 23) (i := 7) (v := ?_) rfl rfl (by kernel_rfl) (by kernel_rfl) (by kernel_rfl) (by kernel_rfl) (by kernel_rfl) (fun _ _ _ h => h) (Or.inl ⟨by rfl, ?_⟩) ⟨hs1, hs2⟩ ?_
    rotate_left
    · intro w' hSw; obtain ⟨⟨g1, g2, g3, g4⟩, -⟩ := hSw; go_simp; try (with_reducible rfl)
    simp only [Act.put, List.setIfInBounds_toArray, List.set_cons_zero, List.set_cons_succ]
    refine wpAnyN_take1 3 (some 24) (i := 8) (v := ?_) rfl rfl (by kernel_rfl) (by kernel_rfl) (by kernel_rfl) (by kernel_rfl) (by kernel_rfl) (fun _ _ _ h => h) (Or.inl ⟨by rfl, ?_⟩) ⟨hs1, hs2⟩ ?_
    rotate_left
    · intro w' hSw; obtain ⟨⟨g1, g2, g3, g4⟩, -⟩ := hSw; go_simp; try (with_reducible rfl)
    simp only [Act.put, List.setIfInBounds_toArray, List.set_cons_zero, List.set_cons_succ]
    refine wpAnyN_take1 3 (some 25) (i := 9) (v := ?_) rfl rfl (by kernel_rfl) (by kernel_rfl) (by kernel_rfl) (by kernel_rfl) (by kernel_rfl) (fun _ _ _ h => h) (Or.inl ⟨by rfl, ?_⟩) ⟨hs1, hs2⟩ ?_
    rotate_left
    · intro w' hSw; obtain ⟨⟨g1, g2, g3, g4⟩, -⟩ := hSw; go_simp; try (with_reducible rfl)
    simp only [Act.put, List.setIfInBounds_toArray, List.set_cons_zero, List.set_cons_succ]
    refine wpAnyN_take1 3 (some 26) (i := 10) (v := ?_) rfl rfl (by kernel_rfl) (by kernel_rfl) (by kernel_rfl) (by kernel_rfl) (by kernel_rfl) (fun _ _ _ h => h) (Or.inl ⟨by rfl, ?_⟩) ⟨hs1, hs2⟩ ?_
    rotate_left
    · intro w' hSw; obtain ⟨⟨g1, g2, g3, g4⟩, -⟩ := hSw; go_simp; try (with_reducible rfl)
    simp only [Act.put, List.setIfInBounds_toArray, List.set_cons_zero, List.set_cons_succ]
    refine wpAnyN_take1 3 (some 27) (i := 11) (v := ?_) rfl rfl (by kernel_rfl) (by kernel_rfl) (by kernel_rfl) (by kernel_rfl) (by kernel_rfl) (fun _ _ _ h => h) (Or.inl ⟨by rfl, ?_⟩) ⟨hs1, hs2⟩ ?_
    rotate_left
    · intro w' hSw; obtain ⟨⟨g1, g2, g3, g4⟩, -⟩ := hSw; go_simp; try (with_reducible rfl)
    simp only [Act.put, List.setIfInBounds_toArray, List.set_cons_zero, List.set_cons_succ]
    refine wpAnyN_take1 3 (some 28) (i := 12) (v := ?_) rfl rfl (by kernel_rfl) (by kernel_rfl) (by kernel_rfl) (by kernel_rfl) (by kernel_rfl) (fun _ _ _ h => h) (Or.inl ⟨by rfl, ?_⟩) ⟨hs1, hs2⟩ ?_
    rotate_left
    · intro w' hSw; obtain ⟨⟨g1, g2, g3, g4⟩, -⟩ := hSw; go_simp; try (with_reducible rfl)
    simp only [Act.put, List.setIfInBounds_toArray, List.set_cons_zero, List.set_cons_succ]
    refine wpAnyN_take1 3 (some 29) (i := 13) (v := ?_) rfl rfl (by kernel_rfl) (by kernel_rfl) (by kernel_rfl) (by kernel_rfl) (by kernel_rfl) (fun _ _ _ h => h) (Or.inl ⟨by rfl, ?_⟩) ⟨hs1, hs2⟩ ?_
    rotate_left
    · intro w' hSw; obtain ⟨⟨g1, g2, g3, g4⟩, -⟩ := hSw; go_simp; try (with_reducible rfl)
    simp only [Act.put, List.setIfInBounds_toArray, List.set_cons_zero, List.set_cons_succ]
    refine wpAnyN_take1 3 (some 30) (i := 14) (v := ?_) rfl rfl (by kernel_rfl) (by kernel_rfl) (by kernel_rfl) (by kernel_rfl) (by kernel_rfl) (fun _ _ _ h => h) (Or.inl ⟨by rfl, ?_⟩) ⟨hs1, hs2⟩ ?_
    rotate_left
    · intro w' hSw; obtain ⟨⟨g1, g2, g3, g4⟩, -⟩ := hSw; go_simp; try (with_reducible rfl)
    simp only [Act.put, List.setIfInBounds_toArray, List.set_cons_zero, List.set_cons_succ]
    refine wpAnyN_take1 3 (some 31) (i := 15) (v := ?_) rfl rfl (by kernel_rfl) (by kernel_rfl) (by kernel_rfl) (by kernel_rfl) (by kernel_rfl) (fun _ _ _ h => h) (Or.inl ⟨by rfl, ?_⟩) ⟨hs1, hs2⟩ ?_
    rotate_left
    · intro w' hSw; obtain ⟨⟨g1, g2, g3, g4⟩, -⟩ := hSw; go_simp; try (with_reducible rfl)
    simp only [Act.put, List.setIfInBounds_toArray, List.set_cons_zero, List.set_cons_succ]
    refine wpAnyN_take1 3 (some 32) (i := 16) (v := ?_) rfl rfl (by kernel_rfl) (by kernel_rfl) (by kernel_rfl) (by kernel_rfl) (by kernel_rfl) (fun _ _ _ h => h) (Or.inl ⟨by rfl, ?_⟩) ⟨hs1, hs2⟩ ?_
    rotate_left
    · intro w' hSw; obtain ⟨⟨g1, g2, g3, g4⟩, -⟩ := hSw; go_simp; try (with_reducible rfl)
    simp only [Act.put, List.setIfInBounds_toArray, List.set_cons_zero, List.set_cons_succ]
    refine wpAnyN_take1 3 (some 33) (i := 17) (v := ?_) rfl rfl (by kernel_rfl) (by kernel_rfl) (by kernel_rfl) (by kernel_rfl) (by kernel_rfl) (fun _ _ _ h => h) (Or.inl ⟨by rfl, ?_⟩) ⟨hs1, hs2⟩ ?_
    rotate_left
    · intro w' hSw; obtain ⟨⟨g1, g2, g3, g4⟩, -⟩ := hSw; go_simp; try (with_reducible rfl)
    simp only [Act.put, List.setIfInBounds_toArray, List.set_cons_zero, List.set_cons_succ]
    refine wpAnyN_take1 3 (some 34) (i := 18) (v := ?_) rfl rfl (by kernel_rfl) (by kernel_rfl) (by kernel_rfl) (by kernel_rfl) (by kernel_rfl) (fun _ _ _ h => h) (Or.inl ⟨by rfl, ?_⟩) ⟨hs1, hs2⟩ ?_
    rotate_left
    · intro w' hSw; obtain ⟨⟨g1, g2, g3, g4⟩, -⟩ := hSw; go_simp; try (with_reducible rfl)
    simp only [Act.put, List.setIfInBounds_toArray, List.set_cons_zero, List.set_cons_succ]
    refine wpAnyN_one (i := 19) (by kernel_rfl) rfl fun K' hK' => ?_
    go_simp
    refine (HPUT.out _).mono ?_
    rintro e W3 ⟨rfl, ht3⟩
    go_simp
    have H3 := Lib.hid (H2.out.quiet ht3); clear H2 ht3 hs1
    have hpb := Sep.block [] _ H3.out
    have b2 : W3.frozen? ⟨pb, 2, none⟩ = false := free_at hpb 2
    have q0 : W3.cell? ⟨pb, 0, none⟩ = some (.int .i64 x.num) := cell_at hpb 0
    have q1 : W3.cell? ⟨pb, 1, none⟩ = some (.string x.now) := cell_at hpb 1
    have q2 : W3.cell? ⟨pb, 2, none⟩ = some (.string x.last) := cell_at hpb 2
    have HP := Lib.hid hpb; clear hpb
    refine hK'.out _ _ trivial (fun _ => ⟨q1, q2, cell_at (Sep.block [_] _ H3.out) 0, cell_at (Sep.block [_] _ H3.out) 1⟩) ?_
    clear hK' K'
    try (simp only [Act.put, List.setIfInBounds_toArray, List.set_cons_zero, List.set_cons_succ])
    refine wpAnyN_one (i := 20) (by kernel_rfl) rfl fun K' hK' => ?_
    go_simp
    refine hK'.out _ _ trivial (fun _ => ⟨q1, q2, cell_at (Sep.block [_] _ H3.out) 0, cell_at (Sep.block [_] _ H3.out) 1⟩) ?_
    clear hK' K'
    try (simp only [Act.put, List.setIfInBounds_toArray, List.set_cons_zero, List.set_cons_succ])
    refine wpAnyN_one (i := 21) (by kernel_rfl) rfl fun K' hK' => ?_
    go_simp
    refine hK'.out _ _ trivial (fun h => absurd h (by decide)) ?_
    clear hK' K'
    refine wpAnyN_done (by kernel_rfl) ?_ _
    try (simp only [Act.put, List.setIfInBounds_toArray])
    go_wp2_with fail
    have H4 : Hid (Sep w0 (W3.setCell ⟨pb, 2, none⟩ (.string (putB x.last (n0 * 64) (x.now.extract (n0 * 64) m)))) (refL b fv qv kv st L post)) :=
      (Sep.block_turned (o' := xObj ⟨x.num, x.now, putB x.last (n0 * 64) (x.now.extract (n0 * 64) m)⟩) [] _ H3.out (Turns.setCell _ _ _ (by simp)) (heap_setCell_at HP.out 2 _)).drop.drop
    clear H3 HP b2 q0 q1 q2 hsl
    generalize W3.setCell ⟨pb, 2, none⟩ (.string (putB x.last (n0 * 64) (x.now.extract (n0 * 64) m))) = W4 at *
    refine (rset_sep _ ⟨x.num, x.now, putB x.last (n0 * 64) (x.now.extract (n0 * 64) m)⟩ H4.out (by omega)).mono ?_
    rintro e W5 ⟨rfl, fv', h5⟩
    have H5 := Lib.hid h5; clear h5 H4
    go_wp2_with fail
    go_end0
    obtain ⟨k1, k2, k3, k4, k5, k6⟩ := HX.out
    refine ⟨rfl, fv', qv, _, ?_, H5.out⟩
    have := k1.set ⟨x.num, x.now, putB x.last (n0 * 64) (x.now.extract (n0 * 64) m)⟩ (by rw [k4]; exact hf)
    show Rep _ (survF st.F (pf, (n0 : Int)))
    have e : survF st.F (pf, (n0 : Int)) = updF st.F pf ⟨x.now, putB x.last (n0 * 64) (x.now.extract (n0 * 64) m)⟩ := by
      unfold survF
      simp only []
      rw [← k3]
      simp only []
      rw [if_pos (by have := HM.out.2; omega), show ((n0 : Int) * 64).toNat = n0 * 64 by omega, HM.out.1]
    rw [e]
    rw [k4] at this ⊢
    exact this
  · have hloI : ¬ 64 * (n0 : Int) < (x.now.size : Int) := by omega
    have hpb := Sep.block [] _ H1.out
    have HE : Hid (survF st.F (pf, (n0 : Int)) = st.F) := by
      show survF st.F (pf, (n0 : Int)) = st.F
      obtain ⟨k1, k2, k3, k4, k5, k6⟩ := HX.out
      unfold survF
      simp only []
      rw [← k3]
      simp only []
      rw [if_neg (by omega)]
    clear hpb
    go_wp2_with fail
    refine (rset_sep _ ⟨x.num, x.now, x.last⟩ (H1.out.drop.drop) (by omega)).mono ?_
    rintro e W5 ⟨rfl, fv', h5⟩
    have H5 := Lib.hid h5; clear h5 H1 y1 hsb
    go_wp2_with fail
    go_end0
    obtain ⟨k1, k2, k3, k4, k5, k6⟩ := HX.out
    refine ⟨rfl, fv', qv, _, ?_, H5.out⟩
    show Rep _ (survF st.F (pf, (n0 : Int)))
    rw [HE.out]
    have := k1.set ⟨x.num, x.now, x.last⟩ (by rw [k4]; exact hf)
    rw [k4] at this
    rw [show updF st.F pf ⟨x.now, x.last⟩ = st.F by rw [k3]; exact updF_id _ _] at this
    rw [k4]
    exact this
end Go.Proofs.Ytmikjninonpejaa

/- Contracts of the reference for disk: may, Size, Start, Lose, New. -/
namespace Go.Proofs.Ytmikjninonpejaa
open Go.RowKit Go.Proofs.YtmikjninonpejaaMem Go.Maps

theorem RefAt.block {w0 w : World} {b : Nat} {kv : Value} {st : DS} {post : List Thing} (h : RefAt w0 w b kv st post) : ∃ fv qv, w.heap[b]? = some (refObj fv qv kv st) := by
  obtain ⟨fv, qv, L, _, h⟩ := h
  exact ⟨fv, qv, Sep.block [] _ h⟩
theorem RefAt.quiet {w0 w w' : World} {b : Nat} {kv : Value} {st : DS} {post : List Thing} (h : RefAt w0 w b kv st post) (ht : Turns [] w w') : RefAt w0 w' b kv st post := by
  obtain ⟨fv, qv, L, hR, h⟩ := h
  exact ⟨fv, qv, L, hR, h.quiet ht⟩
/-- A field of the struct turned. -/
theorem RefAt.set {w0 w : World} {b : Nat} {kv kv' : Value} {st st' : DS} {post : List Thing} (h : RefAt w0 w b kv st post) (i : Nat) (x : Value) (hF : st'.F = st.F) (hQ : st'.Q = st.Q)
    (hc : ∀ u0 u1 : Value, (Obj.cells ((#[u0, u1, .int .i64 st.lost, .bool st.down, .int .i64 st.armed, kv] : Array Value).setIfInBounds i x) 94 (0, 0)) = refObj u0 u1 kv' st') :
    RefAt w0 (w.setCell ⟨b, i, none⟩ x) b kv' st' post := by
  obtain ⟨fv, qv, L, hR, h⟩ := h
  refine ⟨fv, qv, L, by rw [hF]; exact hR, ?_⟩
  unfold refL
  rw [hQ]
  exact Sep.block_turned [] _ h (Turns.setCell _ _ _ (by simp)) ((heap_setCell_at (Sep.block [] _ h) i x).trans (congrArg some (hc fv qv)))

section
variable {w0 w : World} {b : Nat} {kv : Value} {st : DS} {post : List Thing}
set_option maxRecDepth 100000 in
theorem rmay_any (f : Int) (h : RefAt w0 w b kv st post) :
    Calls Try.prog 78 #[.pointer (some ⟨b, 0, none⟩), .int .i64 f] w fun e w' => e = .returned (.int .i64 (mayCode st f)) ∧ w = w' := by
  obtain ⟨fv, qv, hb⟩ := h.block
  have c3 : w.cell? ⟨b, 3, none⟩ = some (.bool st.down) := cell_at hb 3
  clear hb h
  cases hd : st.down
  · rw [hd] at c3
    by_cases h0 : f < 0
    · have e : mayCode st f = 1 := by rw [mayCode, hd, if_neg (by simp), if_pos (Or.inl h0)]
      have d0 : decide (f < 0) = true := decide_eq_true h0
      rw [e]; clear e
      go_enter Try.func78, Try.ntmps78
      go_wp2_with fail
      go_ret
      exact ⟨rfl, rfl⟩
    · have d0 : decide (f < 0) = false := decide_eq_false h0
      by_cases h1 : 15 < f
      · have e : mayCode st f = 1 := by rw [mayCode, hd, if_neg (by simp), if_pos (Or.inr (by omega))]
        have d1 : decide (15 < f) = true := decide_eq_true h1
        rw [e]; clear e
        go_enter Try.func78, Try.ntmps78
        go_wp2_with fail
        go_ret
        exact ⟨rfl, rfl⟩
      · have e : mayCode st f = 0 := by rw [mayCode, hd, if_neg (by simp), if_neg (by omega)]
        have d1 : decide (15 < f) = false := decide_eq_false h1
        rw [e]; clear e
        go_enter Try.func78, Try.ntmps78
        go_wp2_with fail
        go_ret
        exact ⟨rfl, rfl⟩
  · rw [hd] at c3
    have e : mayCode st f = 9 := by rw [mayCode, hd, if_pos rfl]
    rw [e]; clear e
    go_enter Try.func78, Try.ntmps78
    go_wp2_with fail
    go_ret
    exact ⟨rfl, rfl⟩

theorem RefAt.get (f : Int) (h : RefAt w0 w b kv st post) : ∃ x : RF, x.now = (st.F f).now ∧ Calls Try.prog 71 #[.pointer (some ⟨b, 0, none⟩), .int .i64 f] w fun e w' => e = .returned x.val ∧ Turns [] w w' := by
  obtain ⟨fv, qv, L, hR, h⟩ := h
  refine ⟨rget L f, by rw [← hR.file f], ?_⟩
  exact rget_any b fv qv kv st L f w (Sep.block [] _ h) (Sep.row (pre := [_]) h) (by have := hR.len; omega)
theorem field_rnow (n : Int) (a b : ByteArray) (w : World) : (Instr.field 98 (.agg #[.int .i64 n, .string a, .string b]) 1).run Try.prog w = .ok (.string a) w := by kernel_rfl
set_option maxRecDepth 100000 in
theorem rsize_any (f : Int) (h : RefAt w0 w b kv st post) :
    Calls Try.prog 39 #[.pointer (some ⟨b, 0, none⟩), .int .i64 f] w fun e w' => e = .returned (.int .i64 ((st.F f).now.size : Int)) ∧ Turns [] w w' := by
  obtain ⟨x, hx, hc⟩ := h.get f
  rw [← hx]
  have HC := Lib.hid hc; clear hc
  have hfl := field_rnow
  have HXN := Lib.hid hx; clear hx
  go_enter Try.func39, Try.ntmps39
  go_wp2_with fail
  refine HC.out.mono ?_
  rintro e w1 ⟨rfl, ht⟩
  unfold RF.val
  have HT := Lib.hid ht; clear ht
  go_wp2_with fail
  go_ret
  exact ⟨rfl, HT.out⟩
set_option maxRecDepth 100000 in
theorem rstart_any (h : RefAt w0 w b kv st post) :
    Calls Try.prog 69 #[.pointer (some ⟨b, 0, none⟩)] w fun e w' => e = .returned (.tuple #[]) ∧ RefAt w0 w' b kv { st with down := false } post := by
  have H := Lib.hid (h.set (st' := { st with down := false }) (kv' := kv) 3 (.bool false) rfl rfl (fun _ _ => rfl))
  obtain ⟨fv, qv, hb⟩ := h.block
  have c3 : w.cell? ⟨b, 3, none⟩ = some (.bool st.down) := cell_at hb 3
  have f3 : w.frozen? ⟨b, 3, none⟩ = false := free_at hb 3
  clear hb h
  go_enter Try.func69, Try.ntmps69
  go_wp2
  go_end0
  exact ⟨rfl, H.out⟩
set_option maxRecDepth 100000 in
theorem rlose_any (n : Int) (h : RefAt w0 w b kv st post) :
    Calls Try.prog 66 #[.pointer (some ⟨b, 0, none⟩), .int .i64 n] w fun e w' => e = .returned (.tuple #[]) ∧ RefAt w0 w' b kv { st with lost := max n 0 } post := by
  have H := Lib.hid (h.set (st' := { st with lost := max n 0 }) (kv' := kv) 2 (.int .i64 (max n 0)) rfl rfl (fun _ _ => rfl))
  obtain ⟨fv, qv, hb⟩ := h.block
  have c2 : w.cell? ⟨b, 2, none⟩ = some (.int .i64 st.lost) := cell_at hb 2
  have f2 : w.frozen? ⟨b, 2, none⟩ = false := free_at hb 2
  clear hb h
  by_cases h0 : n < 0
  · rw [show max n 0 = 0 by omega] at H ⊢
    go_enter Try.func66, Try.ntmps66
    go_wp2
    go_end0
    exact ⟨rfl, H.out⟩
  · rw [show max n 0 = n by omega] at H ⊢
    have h1 : 0 ≤ n := by omega
    go_enter Try.func66, Try.ntmps66
    go_wp2
    go_end0
    exact ⟨rfl, H.out⟩
end
end Go.Proofs.Ytmikjninonpejaa

/- Contracts of the reference for disk: Read, fits. -/
namespace Go.Proofs.Ytmikjninonpejaa
open Go.RowKit Go.Proofs.YtmikjninonpejaaMem Go.Maps

section
variable {w0 w : World} {b : Nat} {kv : Value} {st : DS} {post : List Thing}
set_option maxHeartbeats 800000 in
set_option maxRecDepth 100000 in
theorem rread_any (f a z : Int) (h : RefAt w0 w b kv st post) (hs : (st.F f).now.size ≤ 16777216) (haw : a ≤ 9223372036854775807) (hzw : z ≤ 9223372036854775807) :
    Calls Try.prog 43 #[.pointer (some ⟨b, 0, none⟩), .int .i64 f, .int .i64 a, .int .i64 z] w fun e w' => e = .returned (.tuple #[.string (readStr st f a z), .int .i64 (readCode st f a z)]) ∧ Turns [] w w' := by
  have HM := Lib.hid (rmay_any f h)
  obtain ⟨x, hx, hc⟩ := h.get f
  have HC := Lib.hid hc; clear hc
  have hfl := field_rnow
  by_cases hm : mayCode st f = 0
  · rw [hm] at HM
    by_cases ha : a < 0
    · have e1 : readCode st f a z = 1 := by simp [readCode, hm, ha]
      rw [readStr, e1, if_neg (by decide)]
      have d1 : decide (a < 0) = true := decide_eq_true ha
      clear e1 hx hm
      go_enter Try.func43, Try.ntmps43
      go_wp2_with fail
      refine HM.out.mono ?_
      rintro e w1 ⟨rfl, rfl⟩
      go_wp2_with fail
      go_ret2
      exact ⟨rfl, Turns.refl _ _⟩
    · have d1 : decide (a < 0) = false := decide_eq_false ha
      by_cases hz : z < 0
      · have e1 : readCode st f a z = 1 := by simp [readCode, hm, hz]
        rw [readStr, e1, if_neg (by decide)]
        have d2 : decide (z < 0) = true := decide_eq_true hz
        clear e1 hx hm
        go_enter Try.func43, Try.ntmps43
        go_wp2_with fail
        refine HM.out.mono ?_
        rintro e w1 ⟨rfl, rfl⟩
        go_wp2_with fail
        go_ret2
        exact ⟨rfl, Turns.refl _ _⟩
      · have d2 : decide (z < 0) = false := decide_eq_false hz
        have e1 : readCode st f a z = 0 := by rw [readCode, if_pos hm, if_neg (by omega)]
        obtain ⟨a, rfl⟩ := Int.eq_ofNat_of_zero_le (show 0 ≤ a by omega)
        obtain ⟨z, rfl⟩ := Int.eq_ofNat_of_zero_le (show 0 ≤ z by omega)
        rw [readStr, if_pos e1, e1, ← hx, Int.toNat_natCast, Int.toNat_natCast]
        rw [← hx] at hs
        have HE := Lib.hid (And.intro e1 (And.intro hx hm)); clear e1 hx hm d1 d2 ha hz
        by_cases hge : x.now.size ≤ a
        · have hgeI : (x.now.size : Int) ≤ (a : Int) := by omega
          have hemp : x.now.extract a (a + z) = ⟨#[]⟩ := by
            have : (x.now.extract a (a + z)).size = 0 := by rw [extract_size]; omega
            obtain ⟨d, hd⟩ : ∃ d, d = x.now.extract a (a + z) := ⟨_, rfl⟩
            rw [← hd] at this ⊢
            obtain ⟨d⟩ := d
            have : d.size = 0 := this
            rw [Array.size_eq_zero_iff.1 this]
          rw [hemp]; clear hemp
          go_enter Try.func43, Try.ntmps43
          go_wp2_with fail
          refine HM.out.mono ?_
          rintro e w1 ⟨rfl, rfl⟩
          go_wp2_with fail
          refine HC.out.mono ?_
          rintro e w2 ⟨rfl, ht⟩
          unfold RF.val
          have HT := Lib.hid ht; clear ht
          go_wp2_with fail
          go_ret2
          exact ⟨rfl, HT.out⟩
        · have hgeI : ¬ (x.now.size : Int) ≤ (a : Int) := by omega
          obtain ⟨m, hm⟩ : ∃ m : Nat, m = min z (x.now.size - a) := ⟨_, rfl⟩
          have hite : (if (x.now.size : Int) - (a : Int) < (z : Int) then (x.now.size : Int) - (a : Int) else (z : Int)) = (m : Int) := by rw [hm]; split <;> omega
          have hsl : ∀ w', (Instr.slice 9 (.string x.now) (some (.int .i64 (a : Int))) (some (.int .i64 ((a : Int) + (m : Int)))) none).run Try.prog w' = .ok (.string (x.now.extract a (a + z))) w' := fun w' => by
            rw [run_slice_string (P := Try.prog) w' 9 x.now .i64 .i64 (a : Int) ((a : Int) + (m : Int)) Try.underlying9 (by omega) (by omega) (by omega), Int.toNat_natCast, show ((a : Int) + (m : Int)).toNat = a + m by omega]
            congr 2
            refine bytes_ext (by rw [extract_size, extract_size]; omega) (fun i hi => ?_)
            rw [extract_size] at hi
            rw [extract_at, extract_at, if_pos (by omega), if_pos (by omega)]
          have HMM := Lib.hid hm; clear hm
          go_enter Try.func43, Try.ntmps43
          go_wp2_with fail
          refine HM.out.mono ?_
          rintro e w1 ⟨rfl, rfl⟩
          go_wp2_with fail
          refine HC.out.mono ?_
          rintro e w2 ⟨rfl, ht⟩
          unfold RF.val
          have HT := Lib.hid ht; clear ht
          go_wp2_with fail
          go_ret2
          exact ⟨rfl, HT.out⟩
  · have e1 : readCode st f a z = mayCode st f := by rw [readCode, if_neg hm]
    rw [readStr, e1, if_neg hm]
    generalize mayCode st f = c at *
    clear e1 hx
    go_enter Try.func43, Try.ntmps43
    go_wp2_with fail
    refine HM.out.mono ?_
    rintro e w1 ⟨rfl, rfl⟩
    go_wp2_with fail
    go_ret2
    exact ⟨rfl, Turns.refl _ _⟩
end
end Go.Proofs.Ytmikjninonpejaa

/- Contracts of the reference for disk: New, Down, fits. -/
namespace Go.Proofs.Ytmikjninonpejaa
open Go.RowKit Go.Proofs.YtmikjninonpejaaMem Go.Maps

set_option maxRecDepth 100000 in
theorem rnew_any {w0 w : World} {ts : List Thing} (h : Sep w0 w ts) :
    Calls Try.prog 33 #[] w fun e w' => ∃ b, e = .returned (.pointer (some ⟨b, 0, none⟩)) ∧ RefAt w0 w' b (.slice none 0 0) DS.new ts := by
  go_enter Try.func33, Try.ntmps33
  go_wp2_with fail
  go_ret
  refine ⟨w.heap.size, rfl, .slice none 0 0, .slice none 0 0, [], Rep.new, ?_⟩
  have h1 := Sep.alloc h (refObj (.slice none 0 0) (.slice none 0 0) (.slice none 0 0) DS.new)
  have h2 := Sep.row_start (Sep.row_start h1 112 2) 98 3
  exact Sep.toFront [_, _] _ h2

section
variable {w0 w : World} {b : Nat} {kv : Value} {st : DS} {post : List Thing}
set_option maxRecDepth 100000 in
theorem rdown_any (h : RefAt w0 w b kv st post) :
    Calls Try.prog 37 #[.pointer (some ⟨b, 0, none⟩)] w fun e w' => e = .returned (.bool st.down) ∧ w = w' := by
  obtain ⟨fv, qv, hb⟩ := h.block
  have c3 : w.cell? ⟨b, 3, none⟩ = some (.bool st.down) := cell_at hb 3
  clear hb h
  go_enter Try.func37, Try.ntmps37
  go_wp2_with fail
  go_ret
  exact ⟨rfl, rfl⟩
end
/-- Whether the bytes lie within a file's bound. -/
def fitsB (a : Int) (s : ByteArray) : Bool := decide (0 ≤ a) && (decide (a ≤ 16777216) && decide (a + (s.size : Int) ≤ 16777216))
set_option maxRecDepth 100000 in
theorem rfits_any (a : Int) (s : ByteArray) (w : World) (hs : s.size ≤ 100000000) :
    Calls Try.prog 87 #[.int .i64 a, .string s] w fun e w' => e = .returned (.bool (fitsB a s)) ∧ w = w' := by
  by_cases h0 : 0 ≤ a
  · have d0 : decide (0 ≤ a) = true := decide_eq_true h0
    by_cases h1 : a ≤ 16777216
    · have d1 : decide (a ≤ 16777216) = true := decide_eq_true h1
      by_cases h2 : a + (s.size : Int) ≤ 16777216
      · have d2 : decide (a + (s.size : Int) ≤ 16777216) = true := decide_eq_true h2
        have HE : Hid (fitsB a s = true) := by show fitsB a s = true; rw [fitsB, d0, d1, d2]; rfl
        go_enter Try.func87, Try.ntmps87
        go_wp2_with fail
        go_ret
        exact ⟨by rw [HE.out]; rfl, rfl⟩
      · have d2 : decide (a + (s.size : Int) ≤ 16777216) = false := decide_eq_false h2
        have HE : Hid (fitsB a s = false) := by show fitsB a s = false; rw [fitsB, d0, d1, d2]; rfl
        go_enter Try.func87, Try.ntmps87
        go_wp2_with fail
        go_ret
        exact ⟨by rw [HE.out]; rfl, rfl⟩
    · have d1 : decide (a ≤ 16777216) = false := decide_eq_false h1
      have HE : Hid (fitsB a s = false) := by show fitsB a s = false; rw [fitsB, d0, d1]; rfl
      go_enter Try.func87, Try.ntmps87
      go_wp2_with fail
      go_ret
      exact ⟨by rw [HE.out]; rfl, rfl⟩
  · have d0 : decide (0 ≤ a) = false := decide_eq_false h0
    have HE : Hid (fitsB a s = false) := by show fitsB a s = false; rw [fitsB, d0]; rfl
    go_enter Try.func87, Try.ntmps87
    go_wp2_with fail
    go_ret
    exact ⟨by rw [HE.out]; rfl, rfl⟩
end Go.Proofs.Ytmikjninonpejaa
