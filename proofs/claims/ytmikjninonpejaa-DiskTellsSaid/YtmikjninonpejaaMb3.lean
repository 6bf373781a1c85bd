/- Contracts and lemmas (texts NetS, RefA, NetT, NetU, joined by a program). -/
import Derived.Test.YtmikjninonpejaaMb2
/- Contracts of package net, each over several things that lie apart. -/
namespace Go.Proofs.Ytmikjninonpejaa
open Go.RowKit Go.Proofs.YtmikjninonpejaaMem

variable {w0 : World}

theorem new_sep (ts : List Thing) (w : World) (h : Sep w0 w ts) : Calls Try.prog 13 #[] w fun e w' => e = .returned (.pointer (some ⟨w.heap.size, 0, none⟩)) ∧ Sep w0 w' (netThing 81 w.heap.size [] 0 :: ts) :=
  (new_any w).mono fun e w' ⟨he, hw⟩ => ⟨he, by
    subst hw
    exact h.add (t := netThing 81 w.heap.size [] 0) (FP := [w.heap.size]) (Turns.alloc _ _ _) ⟨_, heap_alloc_here _ _, World.ownsRow_nil _ _ _ _, rfl⟩ (by simp)⟩

theorem heal_sep (pre post : List Thing) (b : Nat) (l : List Pkt) (s : Int) (w : World) (h : Sep w0 w (pre ++ netThing 81 b l s :: post)) :
    Calls Try.prog 21 #[.pointer (some ⟨b, 0, none⟩)] w fun e w' => e = .returned (.tuple #[]) ∧ Sep w0 w' (pre ++ netThing 81 b l 0 :: post) := by
  obtain ⟨FP, hF, _, step⟩ := h.pick pre _ post
  refine (heal_any b FP l s w hF).mono ?_
  rintro e w' ⟨rfl, rfl⟩
  obtain ⟨v, hb, ho, rfl⟩ := hF
  refine ⟨rfl, step _ _ _ (Evolves.of_same (Turns.setCell _ _ _ (by simp))) ⟨v, ?_, ?_, rfl⟩⟩
  · rw [heap_setCell_at hb]; rfl
  · exact own_kept ho (Turns.setCell (S := [b]) _ _ _ (by simp)) (fun k hk hkb => own_ne ho hb (by decide) (by simp at hkb; exact hkb ▸ hk))

theorem split_sep (pre post : List Thing) (b : Nat) (l : List Pkt) (s m : Int) (w : World) (h : Sep w0 w (pre ++ netThing 81 b l s :: post)) :
    Calls Try.prog 19 #[.pointer (some ⟨b, 0, none⟩), .int .i64 m] w fun e w' => e = .returned (.tuple #[]) ∧ Sep w0 w' (pre ++ netThing 81 b l (bits .and .i64 m 65535) :: post) := by
  obtain ⟨FP, hF, _, step⟩ := h.pick pre _ post
  refine (split_any b FP l s m w hF).mono ?_
  rintro e w' ⟨rfl, rfl⟩
  obtain ⟨v, hb, ho, rfl⟩ := hF
  refine ⟨rfl, step _ _ _ (Evolves.of_same (Turns.setCell _ _ _ (by simp))) ⟨v, ?_, ?_, rfl⟩⟩
  · rw [heap_setCell_at hb]; rfl
  · exact own_kept ho (Turns.setCell (S := [b]) _ _ _ (by simp)) (fun k hk hkb => own_ne ho hb (by decide) (by simp at hkb; exact hkb ▸ hk))

theorem count_sep (pre post : List Thing) (b : Nat) (l : List Pkt) (s : Int) (w : World) (h : Sep w0 w (pre ++ netThing 81 b l s :: post)) :
    Calls Try.prog 22 #[.pointer (some ⟨b, 0, none⟩)] w fun e w' => e = .returned (.int .i64 l.length) ∧ w = w' := by
  obtain ⟨FP, hF, _, _⟩ := h.pick pre _ post
  exact count_any b FP l s w hF

theorem hear_sep (pre post : List Thing) (b : Nat) (l : List Pkt) (s x y : Int) (r : Bool) (w : World) (h : Sep w0 w (pre ++ netThing 81 b l s :: post)) (hr : hears s x y = r) :
    Calls Try.prog 20 #[.pointer (some ⟨b, 0, none⟩), .int .i64 x, .int .i64 y] w fun e w' => e = .returned (.bool r) ∧ ∃ n, w' = w.drewN n := by
  obtain ⟨FP, hF, _, _⟩ := h.pick pre _ post
  exact hear_is b FP l s x y w hF r hr

theorem send_sep (pre post : List Thing) (b : Nat) (l : List Pkt) (s x y : Int) (body : ByteArray) (w : World) (h : Sep w0 w (pre ++ netThing 81 b l s :: post)) (hl : l.length ≤ 1000) :
    Calls Try.prog 15 #[.pointer (some ⟨b, 0, none⟩), .int .i64 x, .int .i64 y, .string body] w fun e w' => e = .returned (.int .i64 (sendCode l s x y)) ∧
      Sep w0 w' (pre ++ netThing 81 b (sendList l s x y body) s :: post) := by
  obtain ⟨FP, hF, _, step⟩ := h.pick pre _ post
  cases h1 : (!isEnd x || !isEnd y || x == y)
  · cases h2 : hears s x y
    · refine (send_lost b FP l s x y body w hF h1 h2).mono ?_
      rintro e w' ⟨rfl, n, rfl⟩
      have e1 : sendCode l s x y = 10 := by simp [sendCode, h1, h2]
      refine ⟨by rw [e1], ?_⟩
      rw [show sendList l s x y body = l by simp [sendList, e1]]
      exact h.quiet ((Turns.refl _ _).drewN n)
    · by_cases h3 : 500 ≤ l.length
      · refine (send_full b FP l s x y body w hF h1 h2 h3 hl).mono ?_
        rintro e w' ⟨rfl, n, rfl⟩
        have e1 : sendCode l s x y = 6 := by simp [sendCode, h1, h2, h3]
        refine ⟨by rw [e1], ?_⟩
        rw [show sendList l s x y body = l by simp [sendList, e1]]
        exact h.quiet ((Turns.refl _ _).drewN n)
      · refine (send_ok b FP l s x y body w hF h1 h2 (by omega)).mono ?_
        rintro e w' ⟨rfl, FP', hn, hev⟩
        have e1 : sendCode l s x y = 0 := by simp [sendCode, h1, h2, h3]
        refine ⟨by rw [e1], ?_⟩
        rw [show sendList l s x y body = l ++ [⟨x, y, body⟩] by simp [sendList, e1]]
        exact step _ _ _ hev hn
  · refine (send_arg b x y body w h1).mono ?_
    rintro e w' ⟨rfl, rfl⟩
    have e1 : sendCode l s x y = 1 := by simp [sendCode, h1]
    refine ⟨by rw [e1], ?_⟩
    rw [show sendList l s x y body = l by simp [sendList, e1]]
    exact h

def noPkt : Pkt := ⟨0, 0, ⟨#[]⟩⟩
def inList (l : List Pkt) (i : Int) : Bool := decide (0 ≤ i) && decide (i < l.length)
def pktAt (l : List Pkt) (i : Int) : Pkt := l.getD i.toNat noPkt
def deliverCode (l : List Pkt) (s i : Int) : Int := if inList l i then (if hears s (pktAt l i).src (pktAt l i).dst then 0 else 10) else 4
def deliverPkt (l : List Pkt) (s i : Int) : Pkt := if deliverCode l s i = 0 then pktAt l i else noPkt
def without (l : List Pkt) (i : Int) : List Pkt := if inList l i then l.eraseIdx i.toNat else l

theorem inList_yes {l : List Pkt} {i : Int} (h : inList l i = true) : ∃ k : Nat, i = k ∧ k < l.length := by
  simp [inList] at h
  exact ⟨i.toNat, by omega, by omega⟩
theorem inList_no {l : List Pkt} {i : Int} (h : inList l i = false) : i < 0 ∨ (l.length : Int) ≤ i := by
  simp [inList] at h
  omega

theorem deliver_sep (pre post : List Thing) (b : Nat) (l : List Pkt) (s i : Int) (w : World) (h : Sep w0 w (pre ++ netThing 81 b l s :: post)) (hl : l.length ≤ 1000) :
    Calls Try.prog 16 #[.pointer (some ⟨b, 0, none⟩), .int .i64 i] w fun e w' => e = .returned (.tuple #[.agg #[.int .i64 (deliverPkt l s i).src, .int .i64 (deliverPkt l s i).dst, .string (deliverPkt l s i).body], .int .i64 (deliverCode l s i)]) ∧
      Sep w0 w' (pre ++ netThing 81 b (without l i) s :: post) := by
  obtain ⟨FP, hF, _, step⟩ := h.pick pre _ post
  cases hi : inList l i
  · refine (deliver_none b FP l s i w hF (inList_no hi) hl).mono ?_
    rintro e w' ⟨rfl, ht⟩
    have e1 : deliverCode l s i = 4 := by simp [deliverCode, hi]
    have e2 : deliverPkt l s i = noPkt := by simp [deliverPkt, e1]
    refine ⟨by rw [e1, e2]; rfl, ?_⟩
    rw [show without l i = l by simp [without, hi]]
    exact h.quiet ht
  · obtain ⟨k, rfl, hk⟩ := inList_yes hi
    have e0 : pktAt l k = l[k] := by simp [pktAt, hk]
    refine (deliver_some b FP l s k w hF hk hl _ rfl).mono ?_
    rintro e w' ⟨rfl, FP', hn, hev⟩
    refine ⟨?_, ?_⟩
    · cases hr : hears s l[k].src l[k].dst
      · have e1 : deliverCode l s k = 10 := by simp [deliverCode, hi, e0, hr]
        have e2 : deliverPkt l s k = noPkt := by simp [deliverPkt, e1]
        rw [e1, e2]; rfl
      · have e1 : deliverCode l s k = 0 := by simp [deliverCode, hi, e0, hr]
        have e2 : deliverPkt l s k = l[k] := by simp [deliverPkt, e1, e0]
        rw [e1, e2]; rfl
    · rw [show without l k = l.eraseIdx k by simp [without, hi]]
      exact step _ _ _ hev hn

def dropCode (l : List Pkt) (i : Int) : Int := if inList l i then 0 else 4
theorem drop_sep (pre post : List Thing) (b : Nat) (l : List Pkt) (s i : Int) (w : World) (h : Sep w0 w (pre ++ netThing 81 b l s :: post)) (hl : l.length ≤ 1000) :
    Calls Try.prog 56 #[.pointer (some ⟨b, 0, none⟩), .int .i64 i] w fun e w' => e = .returned (.int .i64 (dropCode l i)) ∧ Sep w0 w' (pre ++ netThing 81 b (without l i) s :: post) := by
  obtain ⟨FP, hF, _, step⟩ := h.pick pre _ post
  cases hi : inList l i
  · refine (drop_none b FP l s i w hF (inList_no hi) hl).mono ?_
    rintro e w' ⟨rfl, ht⟩
    refine ⟨by simp [dropCode, hi], ?_⟩
    rw [show without l i = l by simp [without, hi]]
    exact h.quiet ht
  · obtain ⟨k, rfl, hk⟩ := inList_yes hi
    refine (drop_some b FP l s k w hF hk hl).mono ?_
    rintro e w' ⟨rfl, FP', hn, hev⟩
    refine ⟨by simp [dropCode, hi], ?_⟩
    rw [show without l k = l.eraseIdx k by simp [without, hi]]
    exact step _ _ _ hev hn

def doubleCode (l : List Pkt) (i : Int) : Int := if inList l i then (if 500 ≤ l.length then 6 else 0) else 4
def doubled (l : List Pkt) (i : Int) : List Pkt := if doubleCode l i = 0 then l ++ [pktAt l i] else l
theorem double_sep (pre post : List Thing) (b : Nat) (l : List Pkt) (s i : Int) (w : World) (h : Sep w0 w (pre ++ netThing 81 b l s :: post)) (hl : l.length ≤ 1000) :
    Calls Try.prog 23 #[.pointer (some ⟨b, 0, none⟩), .int .i64 i] w fun e w' => e = .returned (.int .i64 (doubleCode l i)) ∧ Sep w0 w' (pre ++ netThing 81 b (doubled l i) s :: post) := by
  obtain ⟨FP, hF, _, step⟩ := h.pick pre _ post
  cases hi : inList l i
  · refine (double_none b FP l s i w hF (inList_no hi) hl).mono ?_
    rintro e w' ⟨rfl, rfl⟩
    have e1 : doubleCode l i = 4 := by simp [doubleCode, hi]
    refine ⟨by rw [e1], ?_⟩
    rw [show doubled l i = l by simp [doubled, e1]]
    exact h
  · obtain ⟨k, rfl, hk⟩ := inList_yes hi
    by_cases hf : 500 ≤ l.length
    · refine (double_full b FP l s k w hF hk hl hf).mono ?_
      rintro e w' ⟨rfl, rfl⟩
      have e1 : doubleCode l k = 6 := by simp [doubleCode, hi, hf]
      refine ⟨by rw [e1], ?_⟩
      rw [show doubled l k = l by simp [doubled, e1]]
      exact h
    · refine (double_ok b FP l s k w hF hk (by omega)).mono ?_
      rintro e w' ⟨rfl, FP', hn, hev⟩
      have e1 : doubleCode l k = 0 := by simp [doubleCode, hi, hf]
      refine ⟨by rw [e1], ?_⟩
      rw [show doubled l k = l ++ [l[k]] by simp [doubled, e1, pktAt, hk]]
      exact step _ _ _ hev hn

def FreshList (w0 : World) (l : List Pkt) (ts : List Thing) (e : Ending) (w' : World) : Prop := ∃ v, e = .returned v ∧ Sep w0 w' (pktThing v l :: ts)
theorem list_sep (pre post : List Thing) (b : Nat) (l : List Pkt) (s : Int) (w : World) (h : Sep w0 w (pre ++ netThing 81 b l s :: post)) (hl : l.length ≤ 1000) :
    Calls Try.prog 18 #[.pointer (some ⟨b, 0, none⟩)] w (FreshList w0 l (pre ++ netThing 81 b l s :: post)) := by
  obtain ⟨FP, hF, _, _⟩ := h.pick pre _ post
  refine (list_any b FP l s w hF hl).mono ?_
  rintro e w' ⟨v, rfl, ho, ht⟩
  exact ⟨v, rfl, h.add (t := pktThing v l) (FP := v.ownBlock.toList) ht ⟨own_base ho (Nat.zero_le _), rfl⟩ (fun x hx => (ho.lt x (by simpa using hx)).1)⟩

def FreshNet (w0 : World) (T : TypeId) (l : List Pkt) (s : Int) (ts : List Thing) (e : Ending) (w' : World) : Prop := ∃ b, e = .returned (.pointer (some ⟨b, 0, none⟩)) ∧ Sep w0 w' (netThing T b l s :: ts)
theorem copy_sep (pre post : List Thing) (b : Nat) (l : List Pkt) (s : Int) (w : World) (h : Sep w0 w (pre ++ netThing 81 b l s :: post)) (hl : l.length ≤ 1000) :
    Calls Try.prog 26 #[.pointer (some ⟨b, 0, none⟩)] w (FreshNet w0 81 l s (pre ++ netThing 81 b l s :: post)) := by
  obtain ⟨FP, hF, _, _⟩ := h.pick pre _ post
  refine (copy_any b FP l s w hF hl).mono ?_
  rintro e w' ⟨b', FP', rfl, hn, hx, ht⟩
  exact ⟨b', rfl, h.add (t := netThing 81 b' l s) ht hn hx⟩

end Go.Proofs.Ytmikjninonpejaa

/- Contracts of the reference for net: side, Hear, Split, Send. -/
namespace Go.Proofs.Ytmikjninonpejaa
open Go.RowKit Go.Proofs.YtmikjninonpejaaMem

set_option maxHeartbeats 400000 in
theorem rside_any (b : Nat) (s a : Int) (w : World) (h1 : w.cell? ⟨b, 1, none⟩ = some (.int .i64 s)) (ha0 : 0 ≤ a) (ha : a < 16) :
    Calls Try.prog 62 #[.pointer (some ⟨b, 0, none⟩), .int .i64 a] w fun e w' => e = .returned (.int .i64 (side s a)) ∧ w = w' := by
  have hw : IntKind.u64.wrap a = a := by rw [IntKind.wrap_u64]; omega
  go_enter Try.func62, Try.ntmps62
  go_wp2_with fail
  go_ret
  exact ⟨by simp [side, Nat.min_eq_left (show a.toNat ≤ 64 by omega)], rfl⟩
theorem isEnd_yes {a : Int} (h0 : 0 ≤ a) (h : a < 16) : isEnd a = true := by simp [isEnd]; omega
theorem isEnd_neg {a : Int} (h0 : a < 0) : isEnd a = false := by simp [isEnd]; omega
theorem isEnd_big {a : Int} (h0 : 15 < a) : isEnd a = false := by simp [isEnd]; omega

set_option maxHeartbeats 400000 in
theorem rhear_neg (b : Nat) (s x y : Int) (w : World) (hx : x < 0) :
    Calls Try.prog 29 #[.pointer (some ⟨b, 0, none⟩), .int .i64 x, .int .i64 y] w fun e w' => e = .returned (.bool (hears s x y)) ∧ ∃ n, w' = w.drewN n := by
  rw [show hears s x y = false by simp [hears, isEnd_neg hx]]
  have dx : decide (x < 0) = true := decide_eq_true hx
  go_enter Try.func29, Try.ntmps29
  go_wp2_with fail
  go_ret
  exact ⟨rfl, 0, rfl⟩

set_option maxHeartbeats 400000 in
theorem rsend_neg (b : Nat) (l : List Pkt) (s x y : Int) (body : ByteArray) (w : World) (hx : x < 0) :
    Calls Try.prog 61 #[.pointer (some ⟨b, 0, none⟩), .int .i64 x, .int .i64 y, .string body] w fun e w' => e = .returned (.int .i64 (sendCode l s x y)) ∧ w = w' := by
  rw [show sendCode l s x y = 1 by simp [sendCode, isEnd_neg hx]]
  have dx : decide (x < 0) = true := decide_eq_true hx
  go_enter Try.func61, Try.ntmps61
  go_wp2_with fail
  go_ret
  exact ⟨rfl, rfl⟩

set_option maxHeartbeats 400000 in
theorem rhear_big (b : Nat) (s x y : Int) (w : World) (hx : 0 ≤ x ∧ 15 < x) :
    Calls Try.prog 29 #[.pointer (some ⟨b, 0, none⟩), .int .i64 x, .int .i64 y] w fun e w' => e = .returned (.bool (hears s x y)) ∧ ∃ n, w' = w.drewN n := by
  rw [show hears s x y = false by simp [hears, isEnd_big hx.2]]
  have dx : decide (x < 0) = false := decide_eq_false (by omega)
  have ex : decide (15 < x) = true := decide_eq_true hx.2
  go_enter Try.func29, Try.ntmps29
  go_wp2_with fail
  go_ret
  exact ⟨rfl, 0, rfl⟩

set_option maxHeartbeats 400000 in
theorem rsend_big (b : Nat) (l : List Pkt) (s x y : Int) (body : ByteArray) (w : World) (hx : 0 ≤ x ∧ 15 < x) :
    Calls Try.prog 61 #[.pointer (some ⟨b, 0, none⟩), .int .i64 x, .int .i64 y, .string body] w fun e w' => e = .returned (.int .i64 (sendCode l s x y)) ∧ w = w' := by
  rw [show sendCode l s x y = 1 by simp [sendCode, isEnd_big hx.2]]
  have dx : decide (x < 0) = false := decide_eq_false (by omega)
  have ex : decide (15 < x) = true := decide_eq_true hx.2
  go_enter Try.func61, Try.ntmps61
  go_wp2_with fail
  go_ret
  exact ⟨rfl, rfl⟩

set_option maxHeartbeats 400000 in
theorem rhear_ok_neg (b : Nat) (s x y : Int) (w : World) (hx : 0 ≤ x ∧ x < 16) (hy : y < 0) :
    Calls Try.prog 29 #[.pointer (some ⟨b, 0, none⟩), .int .i64 x, .int .i64 y] w fun e w' => e = .returned (.bool (hears s x y)) ∧ ∃ n, w' = w.drewN n := by
  rw [show hears s x y = false by simp [hears, isEnd_yes hx.1 hx.2, isEnd_neg hy]]
  have dx : decide (x < 0) = false := decide_eq_false (by omega)
  have ex : decide (15 < x) = false := decide_eq_false (by omega)
  have dy : decide (y < 0) = true := decide_eq_true hy
  go_enter Try.func29, Try.ntmps29
  go_wp2_with fail
  go_ret
  exact ⟨rfl, 0, rfl⟩

set_option maxHeartbeats 400000 in
theorem rsend_ok_neg (b : Nat) (l : List Pkt) (s x y : Int) (body : ByteArray) (w : World) (hx : 0 ≤ x ∧ x < 16) (hy : y < 0) :
    Calls Try.prog 61 #[.pointer (some ⟨b, 0, none⟩), .int .i64 x, .int .i64 y, .string body] w fun e w' => e = .returned (.int .i64 (sendCode l s x y)) ∧ w = w' := by
  rw [show sendCode l s x y = 1 by simp [sendCode, isEnd_yes hx.1 hx.2, isEnd_neg hy]]
  have dx : decide (x < 0) = false := decide_eq_false (by omega)
  have ex : decide (15 < x) = false := decide_eq_false (by omega)
  have dy : decide (y < 0) = true := decide_eq_true hy
  go_enter Try.func61, Try.ntmps61
  go_wp2_with fail
  go_ret
  exact ⟨rfl, rfl⟩

set_option maxHeartbeats 400000 in
theorem rhear_ok_big (b : Nat) (s x y : Int) (w : World) (hx : 0 ≤ x ∧ x < 16) (hy : 0 ≤ y ∧ 15 < y) :
    Calls Try.prog 29 #[.pointer (some ⟨b, 0, none⟩), .int .i64 x, .int .i64 y] w fun e w' => e = .returned (.bool (hears s x y)) ∧ ∃ n, w' = w.drewN n := by
  rw [show hears s x y = false by simp [hears, isEnd_yes hx.1 hx.2, isEnd_big hy.2]]
  have dx : decide (x < 0) = false := decide_eq_false (by omega)
  have ex : decide (15 < x) = false := decide_eq_false (by omega)
  have dy : decide (y < 0) = false := decide_eq_false (by omega)
  have ey : decide (15 < y) = true := decide_eq_true hy.2
  go_enter Try.func29, Try.ntmps29
  go_wp2_with fail
  go_ret
  exact ⟨rfl, 0, rfl⟩

set_option maxHeartbeats 400000 in
theorem rsend_ok_big (b : Nat) (l : List Pkt) (s x y : Int) (body : ByteArray) (w : World) (hx : 0 ≤ x ∧ x < 16) (hy : 0 ≤ y ∧ 15 < y) :
    Calls Try.prog 61 #[.pointer (some ⟨b, 0, none⟩), .int .i64 x, .int .i64 y, .string body] w fun e w' => e = .returned (.int .i64 (sendCode l s x y)) ∧ w = w' := by
  rw [show sendCode l s x y = 1 by simp [sendCode, isEnd_yes hx.1 hx.2, isEnd_big hy.2]]
  have dx : decide (x < 0) = false := decide_eq_false (by omega)
  have ex : decide (15 < x) = false := decide_eq_false (by omega)
  have dy : decide (y < 0) = false := decide_eq_false (by omega)
  have ey : decide (15 < y) = true := decide_eq_true hy.2
  go_enter Try.func61, Try.ntmps61
  go_wp2_with fail
  go_ret
  exact ⟨rfl, rfl⟩

set_option maxHeartbeats 400000 in
theorem rhear_ok (b : Nat) (s x y : Int) (w : World) (h1 : w.cell? ⟨b, 1, none⟩ = some (.int .i64 s)) (hx : 0 ≤ x ∧ x < 16) (hy : 0 ≤ y ∧ y < 16) :
    Calls Try.prog 29 #[.pointer (some ⟨b, 0, none⟩), .int .i64 x, .int .i64 y] w fun e w' => e = .returned (.bool (hears s x y)) ∧ ∃ n, w' = w.drewN n := by
  rw [show hears s x y = (side s x == side s y) by simp [hears, isEnd_yes hx.1 hx.2, isEnd_yes hy.1 hy.2]]
  have dx : decide (x < 0) = false := decide_eq_false (by omega)
  have ex : decide (15 < x) = false := decide_eq_false (by omega)
  have dy : decide (y < 0) = false := decide_eq_false (by omega)
  have ey : decide (15 < y) = false := decide_eq_false (by omega)
  go_enter Try.func29, Try.ntmps29
  go_wp2_with (first
    | (go_at_call_of 62 x; refine (rside_any b s x _ h1 hx.1 hx.2).mono ?_; rintro e w' ⟨rfl, rfl⟩)
    | (go_at_call_of 62 y; refine (rside_any b s y _ h1 hy.1 hy.2).mono ?_; rintro e w' ⟨rfl, rfl⟩))
  go_ret
  exact ⟨rfl, 0, rfl⟩
theorem rhear_any (b : Nat) (FP : List Nat) (l : List Pkt) (s x y : Int) (w : World) (hn : NetObj 51 w b FP l s) :
    Calls Try.prog 29 #[.pointer (some ⟨b, 0, none⟩), .int .i64 x, .int .i64 y] w fun e w' => e = .returned (.bool (hears s x y)) ∧ ∃ n, w' = w.drewN n := by
  obtain ⟨v, hb, -, -⟩ := hn
  have c1 : w.cell? ⟨b, 1, none⟩ = some (.int .i64 s) := cell_at hb 1
  by_cases h1 : x < 0
  · exact rhear_neg b s x y w h1
  by_cases h2 : 15 < x
  · exact rhear_big b s x y w ⟨by omega, h2⟩
  by_cases h3 : y < 0
  · exact rhear_ok_neg b s x y w ⟨by omega, by omega⟩ h3
  by_cases h4 : 15 < y
  · exact rhear_ok_big b s x y w ⟨by omega, by omega⟩ ⟨by omega, h4⟩
  exact rhear_ok b s x y w c1 ⟨by omega, by omega⟩ ⟨by omega, by omega⟩
theorem rhear_is (b : Nat) (FP : List Nat) (l : List Pkt) (s x y : Int) (w : World) (hn : NetObj 51 w b FP l s) (r : Bool) (hr : hears s x y = r) :
    Calls Try.prog 29 #[.pointer (some ⟨b, 0, none⟩), .int .i64 x, .int .i64 y] w fun e w' => e = .returned (.bool r) ∧ ∃ n, w' = w.drewN n := hr ▸ rhear_any b FP l s x y w hn

theorem rsplit_any (b : Nat) (FP : List Nat) (l : List Pkt) (s m : Int) (w : World) (hn : NetObj 51 w b FP l s) :
    Calls Try.prog 60 #[.pointer (some ⟨b, 0, none⟩), .int .i64 m] w fun e w' => e = .returned (.tuple #[]) ∧ w.setCell ⟨b, 1, none⟩ (.int .i64 (bits .and .i64 m 65535)) = w' := by
  obtain ⟨v, hb, -, -⟩ := hn
  have c1 : w.cell? ⟨b, 1, none⟩ = some (.int .i64 s) := cell_at hb 1
  have f1 : w.frozen? ⟨b, 1, none⟩ = false := free_at hb 1
  clear hb
  go_enter Try.func60, Try.ntmps60
  go_wp2
  go_end0
  exact ⟨rfl, rfl⟩

set_option maxHeartbeats 800000 in
set_option maxRecDepth 100000 in
theorem rsend_same (b : Nat) (l : List Pkt) (s x y : Int) (body : ByteArray) (w : World) (hx : 0 ≤ x ∧ x < 16) (hy : 0 ≤ y ∧ y < 16) (hxy : (x == y) = true) :
    Calls Try.prog 61 #[.pointer (some ⟨b, 0, none⟩), .int .i64 x, .int .i64 y, .string body] w fun e w' => e = .returned (.int .i64 (sendCode l s x y)) ∧ w = w' := by
  have dx : decide (x < 0) = false := decide_eq_false (by omega)
  have ex : decide (15 < x) = false := decide_eq_false (by omega)
  have dy : decide (y < 0) = false := decide_eq_false (by omega)
  have ey : decide (15 < y) = false := decide_eq_false (by omega)
  rw [show sendCode l s x y = 1 by simp [sendCode, hxy]]
  go_enter Try.func61, Try.ntmps61
  go_wp2_with fail
  go_ret
  exact ⟨rfl, rfl⟩

set_option maxHeartbeats 800000 in
set_option maxRecDepth 100000 in
theorem rsend_lost (b : Nat) (FP : List Nat) (l : List Pkt) (s x y : Int) (body : ByteArray) (w : World) (hn : NetObj 51 w b FP l s) (hx : 0 ≤ x ∧ x < 16) (hy : 0 ≤ y ∧ y < 16) (hxy : (x == y) = false) (hh : hears s x y = false) :
    Calls Try.prog 61 #[.pointer (some ⟨b, 0, none⟩), .int .i64 x, .int .i64 y, .string body] w fun e w' => e = .returned (.int .i64 (sendCode l s x y)) ∧ ∃ n, w' = w.drewN n := by
  have dx : decide (x < 0) = false := decide_eq_false (by omega)
  have ex : decide (15 < x) = false := decide_eq_false (by omega)
  have dy : decide (y < 0) = false := decide_eq_false (by omega)
  have ey : decide (15 < y) = false := decide_eq_false (by omega)
  rw [show sendCode l s x y = 10 by simp [sendCode, hxy, hh, isEnd_yes hx.1 hx.2, isEnd_yes hy.1 hy.2]]
  have HN := Lib.hid hn
  have HH := Lib.hid hh; clear hh

  clear hn hx hy
  go_enter Try.func61, Try.ntmps61
  go_wp2_with (go_at_call 29; refine (rhear_is b FP l s x y _ HN.out false HH.out).mono ?_; rintro e w' ⟨rfl, nq, rfl⟩)
  go_ret
  exact ⟨rfl, _, rfl⟩

set_option maxHeartbeats 800000 in
set_option maxRecDepth 100000 in
theorem rsend_full (b : Nat) (FP : List Nat) (l : List Pkt) (s x y : Int) (body : ByteArray) (w : World) (hn : NetObj 51 w b FP l s) (hx : 0 ≤ x ∧ x < 16) (hy : 0 ≤ y ∧ y < 16) (hxy : (x == y) = false) (hh : hears s x y = true) (hl : 500 ≤ l.length) (hl2 : l.length ≤ 1000) :
    Calls Try.prog 61 #[.pointer (some ⟨b, 0, none⟩), .int .i64 x, .int .i64 y, .string body] w fun e w' => e = .returned (.int .i64 (sendCode l s x y)) ∧ ∃ n, w' = w.drewN n := by
  have dx : decide (x < 0) = false := decide_eq_false (by omega)
  have ex : decide (15 < x) = false := decide_eq_false (by omega)
  have dy : decide (y < 0) = false := decide_eq_false (by omega)
  have ey : decide (15 < y) = false := decide_eq_false (by omega)
  rw [show sendCode l s x y = 6 by simp [sendCode, hxy, hh, hl, isEnd_yes hx.1 hx.2, isEnd_yes hy.1 hy.2]]
  have HN := Lib.hid hn
  have HH := Lib.hid hh; clear hh

  obtain ⟨v, hb, ho, e⟩ := id hn
  have HE := Lib.hid e; clear e
  have HB := Lib.hid hb
  have HO := Lib.hid ho
  obtain ⟨a, c, rfl, hc, hm⟩ := own_shape ho
  have c0 : w.cell? ⟨b, 0, none⟩ = some (.slice a l.length c) := cell_at hb 0
  clear hb ho hn hx hy
  go_enter Try.func61, Try.ntmps61
  go_wp2_with (go_at_call 29; refine (rhear_is b FP l s x y _ HN.out true HH.out).mono ?_; rintro e w' ⟨rfl, nq, rfl⟩)
  go_ret
  exact ⟨rfl, _, rfl⟩

set_option maxHeartbeats 800000 in
set_option maxRecDepth 100000 in
theorem rsend_fine (b : Nat) (FP : List Nat) (l : List Pkt) (s x y : Int) (body : ByteArray) (w : World) (hn : NetObj 51 w b FP l s) (hx : 0 ≤ x ∧ x < 16) (hy : 0 ≤ y ∧ y < 16) (hxy : (x == y) = false) (hh : hears s x y = true) (hl : l.length < 500) :
    Calls Try.prog 61 #[.pointer (some ⟨b, 0, none⟩), .int .i64 x, .int .i64 y, .string body] w fun e w' => e = .returned (.int .i64 (sendCode l s x y)) ∧ ∃ FP', NetObj 51 w' b FP' (l ++ [⟨x, y, body⟩]) s ∧ Evolves FP FP' w w' := by
  have dx : decide (x < 0) = false := decide_eq_false (by omega)
  have ex : decide (15 < x) = false := decide_eq_false (by omega)
  have dy : decide (y < 0) = false := decide_eq_false (by omega)
  have ey : decide (15 < y) = false := decide_eq_false (by omega)
  rw [show sendCode l s x y = 0 by simp [sendCode, hxy, hh, show ¬ 500 ≤ l.length by omega, isEnd_yes hx.1 hx.2, isEnd_yes hy.1 hy.2]]
  have HN := Lib.hid hn
  have HH := Lib.hid hh; clear hh

  obtain ⟨v, hb, ho, e⟩ := id hn
  have HE := Lib.hid e; clear e
  have HB := Lib.hid hb
  have HO := Lib.hid ho
  obtain ⟨a, c, rfl, hc, hm⟩ := own_shape ho
  have c0 : w.cell? ⟨b, 0, none⟩ = some (.slice a l.length c) := cell_at hb 0
  clear hb ho hn hx hy
  obtain ⟨i0, hi, hz0, hz1, hz2⟩ := info_parts Try.info34
  go_enter Try.func61, Try.ntmps61
  go_wp2_with (first | (go_at_call 29; refine (rhear_is b FP l s x y _ HN.out true HH.out).mono ?_; rintro e w' ⟨rfl, nq, rfl⟩) | (at_builtin; refine wpList_append_own_at _ rfl (.tmp 43) (.tmp 48) 28 rfl 0 34 i0 (.agg #[.int .i64 0, .int .i64 0, .string ⟨#[]⟩]) 3 32 Try.underlying28 hi hz0 hz1 hz2 rfl (by decide) _ l.length (pktCells l) rfl (HO.out.alloc _) ⟨w.heap.size, 0, none⟩ 1 1 [.int .i64 x, .int .i64 y, .string body] rfl rfl ?c1 ?c2 ?c3 ?c4 ?c5 ?_))
  case c1 => exact new_cells_drewN _ _ _ _ _ rfl
  case c2 => exact pkt_oneCell ⟨x, y, body⟩
  case c3 => unfold maxLen; omega
  case c4 => omega
  case c5 => simp
  · intro v' w1 hown hg _ hat
    obtain ⟨k0, k1, FP', hobj, hev⟩ := obj_appended (T := 51) ⟨x, y, body⟩ (by decide) HB.out HO.out (((Turns.refl [] w).drewN nq).trans (Turns.alloc [] _ _)) hown hg (hat.imp id fun h => ⟨_, h, by omega⟩)
    obtain ⟨a', c', rfl, -, -⟩ := own_shape hown
    have HF : Hid (NetObj 51 (w1.setCell ⟨b, 0, none⟩ (.slice a' (l.length + 1) c')) b FP' (l ++ [⟨x, y, body⟩]) s ∧ Evolves (b :: (Value.slice a l.length c).ownBlock.toList) FP' w (w1.setCell ⟨b, 0, none⟩ (.slice a' (l.length + 1) c'))) := ⟨hobj, hev⟩
    clear hobj hev hown hg hat
    go_wp2
    go_ret
    exact ⟨rfl, FP', HF.out.1, HE.out ▸ HF.out.2⟩

end Go.Proofs.Ytmikjninonpejaa

/- Statements about net: the documented examples (small). -/
namespace Go.Proofs.Ytmikjninonpejaa
open Go.RowKit Go.Proofs.YtmikjninonpejaaMem

/-- Two packets are the same. -/
def samePkt (x y : Pkt) : Bool := x.src == y.src && (x.dst == y.dst && x.body.toList == y.body.toList)

theorem eq34 (w : World) (a0 a1 : Int) (a2 : ByteArray) (b0 b1 : Int) (b2 : ByteArray) :
    (binOp .eql 34 (.agg #[.int .i64 a0, .int .i64 a1, .string a2]) (.agg #[.int .i64 b0, .int .i64 b1, .string b2])).run Try.prog w = .ok (.bool (samePkt ⟨a0, a1, a2⟩ ⟨b0, b1, b2⟩)) w := by
  have u3 := Try.underlying3
  have u9 := Try.underlying9
  have hS : Try.prog.underlying 34 = some (.struct (Try.prog.fieldsOf 34)) := by kernel_rfl
  have hp : Try.prog.stoodInHeld 34 = false := by kernel_rfl
  rw [run_eql_struct, show (10000 : Nat) = 9999 + 1 from rfl, run_equalIn_agg w 9999 34 _ _ hS hp]
  simp only [Program.fieldsOf, Try.underlying34]
  go_simp
  by_cases h1 : a0 = b0 <;> by_cases h2 : a1 = b1 <;> by_cases h3 : a2.toList = b2.toList <;> simp [samePkt, h1, h2, h3]

theorem neq34 (w : World) (a0 a1 : Int) (a2 : ByteArray) (b0 b1 : Int) (b2 : ByteArray) :
    (binOp .neq 34 (.agg #[.int .i64 a0, .int .i64 a1, .string a2]) (.agg #[.int .i64 b0, .int .i64 b1, .string b2])).run Try.prog w = .ok (.bool (!samePkt ⟨a0, a1, a2⟩ ⟨b0, b1, b2⟩)) w := by
  have u3 := Try.underlying3
  have u9 := Try.underlying9
  have hS : Try.prog.underlying 34 = some (.struct (Try.prog.fieldsOf 34)) := by kernel_rfl
  have hp : Try.prog.stoodInHeld 34 = false := by kernel_rfl
  rw [run_neq_struct, show (10000 : Nat) = 9999 + 1 from rfl, run_equalIn_agg w 9999 34 _ _ hS hp]
  simp only [Program.fieldsOf, Try.underlying34]
  go_simp
  by_cases h1 : a0 = b0 <;> by_cases h2 : a1 = b1 <;> by_cases h3 : a2.toList = b2.toList <;> simp [samePkt, h1, h2, h3]

theorem new_fresh (w0 : World) (ts : List Thing) (w : World) (h : Sep w0 w ts) : Calls Try.prog 13 #[] w (FreshNet w0 81 [] 0 ts) :=
  (new_sep ts w h).mono fun _ _ ⟨he, hw⟩ => ⟨_, he, hw⟩

def sA : ByteArray := ⟨#[97]⟩
def sB : ByteArray := ⟨#[98]⟩

set_option maxHeartbeats 1600000 in
set_option maxRecDepth 100000 in
theorem small_any (w : World) : Calls Try.prog 12 #[] w fun e w' => e = .returned (.bool true) ∧ Turns [] w w' := by
  have heq := eq34
  go_enter Try.func12, Try.ntmps12
  go_wp2_with fail
  refine (new_fresh w [] _ (Sep.start w)).mono ?_
  rintro e w1 ⟨n, rfl, h1⟩
  go_wp2_with fail
  refine (new_fresh w _ _ h1).mono ?_
  rintro e w2 ⟨m, rfl, h2⟩
  clear h1
  go_wp2_with fail
  refine (send_sep [netThing 81 m [] 0] [] n [] 0 0 1 sA _ h2 (by decide)).mono ?_
  rintro e w3 ⟨rfl, h3⟩
  rw [show sendCode [] 0 0 1 = 0 from by kernel_rfl]
  rw [show sendList [] 0 0 1 sA = [⟨0, 1, sA⟩] from by kernel_rfl] at h3
  clear h2
  go_wp2_with fail
  refine (send_sep [netThing 81 m [] 0] [] n [⟨0, 1, sA⟩] 0 0 2 sB _ h3 (by decide)).mono ?_
  rintro e w4 ⟨rfl, h4⟩
  rw [show sendCode [⟨0, 1, sA⟩] 0 0 2 = 0 from by kernel_rfl]
  rw [show sendList [⟨0, 1, sA⟩] 0 0 2 sB = [⟨0, 1, sA⟩, ⟨0, 2, sB⟩] from by kernel_rfl] at h4
  clear h3
  go_wp2_with fail
  refine (deliver_sep [netThing 81 m [] 0] [] n [⟨0, 1, sA⟩, ⟨0, 2, sB⟩] 0 1 _ h4 (by decide)).mono ?_
  rintro e w5 ⟨rfl, h5⟩
  rw [show deliverPkt [⟨0, 1, sA⟩, ⟨0, 2, sB⟩] 0 1 = ⟨0, 2, sB⟩ from by kernel_rfl, show deliverCode [⟨0, 1, sA⟩, ⟨0, 2, sB⟩] 0 1 = 0 from by kernel_rfl]
  rw [show without [⟨0, 1, sA⟩, ⟨0, 2, sB⟩] 1 = [⟨0, 1, sA⟩] from by kernel_rfl] at h5
  clear h4
  go_wp2_with fail
  refine (deliver_sep [blockThing w5.heap.size (.cells #[.int .i64 0, .int .i64 2, .string sB] 34), netThing 81 m [] 0] [] n [⟨0, 1, sA⟩] 0 0 _ (h5.alloc _) (by decide)).mono ?_
  rintro e w6 ⟨rfl, h6⟩
  rw [show deliverPkt [⟨0, 1, sA⟩] 0 0 = ⟨0, 1, sA⟩ from by kernel_rfl, show deliverCode [⟨0, 1, sA⟩] 0 0 = 0 from by kernel_rfl]
  rw [show without [⟨0, 1, sA⟩] 0 = [] from by kernel_rfl] at h6
  generalize hx : w5.heap.size = x at *
  have HX := Lib.hid hx; clear hx h5
  go_wp2_with fail
  refine (send_sep [blockThing w6.heap.size (.cells #[.int .i64 0, .int .i64 1, .string sA] 34), blockThing x (.cells #[.int .i64 0, .int .i64 2, .string sB] 34)] [netThing 81 n [] 0] m [] 0 0 1 sA _ (h6.alloc _) (by decide)).mono ?_
  rintro e w7 ⟨rfl, h7⟩
  rw [show sendList [] 0 0 1 sA = [⟨0, 1, sA⟩] from by kernel_rfl] at h7
  generalize hy : w6.heap.size = y at *
  have HY := Lib.hid hy; clear hy h6
  go_wp2_with fail
  refine (split_sep [blockThing y (.cells #[.int .i64 0, .int .i64 1, .string sA] 34), blockThing x (.cells #[.int .i64 0, .int .i64 2, .string sB] 34)] [netThing 81 n [] 0] m [⟨0, 1, sA⟩] 0 1 _ h7).mono ?_
  rintro e w8 ⟨rfl, h8⟩
  rw [show bits .and .i64 1 65535 = 1 from by kernel_rfl] at h8
  clear h7
  go_wp2_with fail
  refine (deliver_sep [blockThing y (.cells #[.int .i64 0, .int .i64 1, .string sA] 34), blockThing x (.cells #[.int .i64 0, .int .i64 2, .string sB] 34)] [netThing 81 n [] 0] m [⟨0, 1, sA⟩] 1 0 _ h8 (by decide)).mono ?_
  rintro e w9 ⟨rfl, h9⟩
  rw [show deliverPkt [⟨0, 1, sA⟩] 1 0 = noPkt from by kernel_rfl, show deliverCode [⟨0, 1, sA⟩] 1 0 = 10 from by kernel_rfl]
  rw [show without [⟨0, 1, sA⟩] 0 = [] from by kernel_rfl] at h9
  clear h8
  simp only [noPkt]
  go_wp2_with fail
  have h9' := h9.quiet (Turns.alloc [] w9 (.cells #[.int .i64 0, .int .i64 0, .string ⟨#[]⟩] 34))
  clear h9
  refine (count_sep [blockThing y (.cells #[.int .i64 0, .int .i64 1, .string sA] 34), blockThing x (.cells #[.int .i64 0, .int .i64 2, .string sB] 34)] [netThing 81 n [] 0] m [] 1 _ h9').mono ?_
  rintro e wA ⟨rfl, rfl⟩
  go_wp2_with fail
  refine (split_sep [blockThing y (.cells #[.int .i64 0, .int .i64 1, .string sA] 34), blockThing x (.cells #[.int .i64 0, .int .i64 2, .string sB] 34)] [netThing 81 n [] 0] m [] 1 3 _ h9').mono ?_
  rintro e wB ⟨rfl, hB⟩
  rw [show bits .and .i64 3 65535 = 3 from by kernel_rfl] at hB
  clear h9'
  go_wp2_with fail
  refine (send_sep [blockThing y (.cells #[.int .i64 0, .int .i64 1, .string sA] 34), blockThing x (.cells #[.int .i64 0, .int .i64 2, .string sB] 34)] [netThing 81 n [] 0] m [] 3 0 1 sA _ hB (by decide)).mono ?_
  rintro e wC ⟨rfl, hC⟩
  rw [show sendCode [] 3 0 1 = 0 from by kernel_rfl]
  rw [show sendList [] 3 0 1 sA = [⟨0, 1, sA⟩] from by kernel_rfl] at hC
  clear hB
  go_wp2_with fail
  refine (send_sep [blockThing y (.cells #[.int .i64 0, .int .i64 1, .string sA] 34), blockThing x (.cells #[.int .i64 0, .int .i64 2, .string sB] 34)] [netThing 81 n [] 0] m [⟨0, 1, sA⟩] 3 1 2 sB _ hC (by decide)).mono ?_
  rintro e wD ⟨rfl, hD⟩
  rw [show sendCode [⟨0, 1, sA⟩] 3 1 2 = 10 from by kernel_rfl]
  rw [show sendList [⟨0, 1, sA⟩] 3 1 2 sB = [⟨0, 1, sA⟩] from by kernel_rfl] at hD
  clear hC
  have hby := hD.block (b := y) [] _
  have hbx := hD.block (b := x) [blockThing y (.cells #[.int .i64 0, .int .i64 1, .string sA] 34)] _
  have x0 : wD.cell? ⟨x, 0, none⟩ = some (.int .i64 0) := cell_at hbx 0
  have x1 : wD.cell? ⟨x, 1, none⟩ = some (.int .i64 2) := cell_at hbx 1
  have x2 : wD.cell? ⟨x, 2, none⟩ = some (.string ⟨#[98]⟩) := cell_at hbx 2
  have y1 : wD.cell? ⟨y, 1, none⟩ = some (.int .i64 1) := cell_at hby 1
  have y2 : wD.cell? ⟨y, 2, none⟩ = some (.string ⟨#[97]⟩) := cell_at hby 2
  have e1 : samePkt ⟨0, 2, ⟨#[98]⟩⟩ ⟨0, 2, ⟨#[98]⟩⟩ = true := by kernel_rfl
  clear hbx hby
  go_wp2_with fail
  refine (hear_sep [blockThing y (.cells #[.int .i64 0, .int .i64 1, .string sA] 34), blockThing x (.cells #[.int .i64 0, .int .i64 2, .string sB] 34)] [netThing 81 n [] 0] m [⟨0, 1, sA⟩] 3 0 1 true _ hD (by kernel_rfl)).mono ?_
  rintro e wE ⟨rfl, q1, rfl⟩
  go_wp2_with fail
  refine (hear_sep [blockThing y (.cells #[.int .i64 0, .int .i64 1, .string sA] 34), blockThing x (.cells #[.int .i64 0, .int .i64 2, .string sB] 34)] [netThing 81 n [] 0] m [⟨0, 1, sA⟩] 3 1 2 false _ (hD.quiet ((Turns.refl _ _).drewN q1)) (by kernel_rfl)).mono ?_
  rintro e wF ⟨rfl, q2, rfl⟩
  go_wp2_with fail
  go_ret
  exact ⟨rfl, (hD.turns.drewN _)⟩

end Go.Proofs.Ytmikjninonpejaa

/- Statements about net: loops over the operations and over lists of packets (few, Same, count). -/
namespace Go.Proofs.Ytmikjninonpejaa
open Go.RowKit Go.Proofs.YtmikjninonpejaaMem

/-- An operation of a statement. -/
structure NOp where
  doo : Int
  n : Int
  to : Int
  s : ByteArray

/-- The operations lie in memory as a slice's elements. -/
def OpsAt (w : World) (a : Option Addr) (ops : List NOp) : Prop :=
  ∀ i (h : i < ops.length), ∃ b off, a = some ⟨b, off, none⟩ ∧ w.cell? ⟨b, off + i * 4, none⟩ = some (.int .i64 ops[i].doo) ∧ w.cell? ⟨b, off + i * 4 + 1, none⟩ = some (.int .i64 ops[i].n) ∧
    w.cell? ⟨b, off + i * 4 + 2, none⟩ = some (.int .i64 ops[i].to) ∧ w.cell? ⟨b, off + i * 4 + 3, none⟩ = some (.string ops[i].s)

theorem OpsAt.below {w w' : World} {a : Option Addr} {ops : List NOp} (h : OpsAt w a ops) (hb : Below w.heap.size w w') : OpsAt w' a ops := by
  intro i hi
  obtain ⟨b, off, rfl, h0, h1, h2, h3⟩ := h i hi
  have hlt := World.block_lt_of_cell? w _ h0
  exact ⟨b, off, rfl, (hb.cell (p := ⟨b, off + i * 4, none⟩) hlt).trans h0, (hb.cell (p := ⟨b, off + i * 4 + 1, none⟩) hlt).trans h1, (hb.cell (p := ⟨b, off + i * 4 + 2, none⟩) hlt).trans h2, (hb.cell (p := ⟨b, off + i * 4 + 3, none⟩) hlt).trans h3⟩

def fewB (ops : List NOp) (most : Int) : Bool := (ops.take 1000).all (fun o => decide (o.s.size ≤ 100)) && decide ((ops.length : Int) ≤ most)

theorem all_take_succ (ops : List NOp) (k : Nat) (h : k < ops.length) : (ops.take (k + 1)).all (fun o => decide (o.s.size ≤ 100)) = ((ops.take k).all (fun o => decide (o.s.size ≤ 100)) && decide (ops[k].s.size ≤ 100)) := by
  rw [List.take_succ_eq_append_getElem h, List.all_append]; simp

set_option maxHeartbeats 400000 in
theorem few_any (a : Option Addr) (cap : Nat) (ops : List NOp) (most : Int) (w : World) (hops : OpsAt w a ops) :
    Calls Try.prog 14 #[.slice a ops.length cap, .int .i64 most] w fun e w' => e = .returned (.bool (fewB ops most)) ∧ w = w' := by
  have HO := Lib.hid hops; clear hops
  go_enter Try.func14, Try.ntmps14
  go_wp2_with fail
  go_loop [5] (fun i => ∃ k : Nat, k ≤ ops.length ∧ k ≤ 1000 ∧ i = .int .i64 k ∧ Hid ((ops.take k).all (fun o => decide (o.s.size ≤ 100)) = true)) (fun i => 1000 - (intOf i).toNat)
  case atStart => exact ⟨0, Nat.zero_le _, by omega, rfl, rfl⟩
  case round =>
    obtain ⟨k, hk, hk2, rfl, hall⟩ := hrel
    by_cases hlt : k < ops.length ∧ k < 1000
    · obtain ⟨b, off, rfl, -, -, -, h3⟩ := HO.out k hlt.1
      obtain ⟨hlt, hlt2⟩ := hlt
      obtain ⟨sz, hsz⟩ : ∃ s, s = ops[k].s := ⟨_, rfl⟩
      rw [← hsz] at h3
      have HS := Lib.hid hsz; clear hsz
      have hd1 : decide ((k : Int) < (ops.length : Int)) = true := decide_eq_true (by omega)
      have hd2 : decide ((k : Int) < 1000) = true := decide_eq_true (by omega)
      by_cases hs : sz.size ≤ 100
      · have hs2 : decide ((100 : Int) < (sz.size : Int)) = false := decide_eq_false (by omega)
        go_wp2
        go_round
        case rel => exact ⟨k + 1, by omega, by omega, by go_num, by show _ = _; rw [all_take_succ _ _ hlt, hall.out, ← HS.out]; simp [hs]⟩
        case measure => simp [intOf]; omega
      · have hs2 : decide ((100 : Int) < (sz.size : Int)) = true := decide_eq_true (by omega)
        go_wp2
        go_ret
        refine ⟨?_, rfl⟩
        have : fewB ops most = false := by
          have h1 : (ops.take (k + 1)).all (fun o => decide (o.s.size ≤ 100)) = false := by rw [all_take_succ _ _ hlt, ← HS.out]; simp [hs]
          have h2 : (ops.take 1000).all (fun o => decide (o.s.size ≤ 100)) = false := by
            rw [Bool.eq_false_iff] at h1 ⊢
            intro h
            apply h1
            rw [List.all_eq_true] at h ⊢
            intro x hx
            exact h x (by rw [show k + 1 = min (k + 1) 1000 by omega, ← List.take_take] at hx; exact List.mem_of_mem_take hx)
          simp [fewB, h2]
        rw [this]; rfl
    · have hfin : fewB ops most = decide ((ops.length : Int) ≤ most) := by
        have h2 : (ops.take 1000).all (fun o => decide (o.s.size ≤ 100)) = true := by
          by_cases h : k < ops.length
          · rw [show (1000 : Nat) = k by omega]; exact hall.out
          · have h1 := hall.out
            rw [List.take_of_length_le (by omega)] at h1 ⊢
            exact h1
        simp [fewB, h2]
      have HFIN := Lib.hid hfin; clear hfin
      by_cases hl : k < ops.length
      · have hd1 : decide ((k : Int) < (ops.length : Int)) = true := decide_eq_true (by omega)
        have hd2 : decide ((k : Int) < 1000) = false := decide_eq_false (by omega)
        clear hlt
        go_wp2
        go_ret
        exact ⟨by rw [HFIN.out]; rfl, rfl⟩
      · have hd1 : decide ((k : Int) < (ops.length : Int)) = false := decide_eq_false (by omega)
        clear hlt
        go_wp2
        go_ret
        exact ⟨by rw [HFIN.out]; rfl, rfl⟩

/-- Packets lie in memory as a slice's elements. -/
def PktsAt (w : World) (v : Value) (l : List Pkt) : Prop :=
  ∃ a c, v = .slice a l.length c ∧ ∀ i (h : i < l.length), ∃ b off, a = some ⟨b, off, none⟩ ∧ w.cell? ⟨b, off + i * 3, none⟩ = some (.int .i64 l[i].src) ∧ w.cell? ⟨b, off + i * 3 + 1, none⟩ = some (.int .i64 l[i].dst) ∧
    w.cell? ⟨b, off + i * 3 + 2, none⟩ = some (.string l[i].body)

theorem pktsAt_own {w : World} {base : Nat} {v : Value} {l : List Pkt} (h : w.ownsRow base 34 3 v l.length (pktCells l)) : PktsAt w v l := by
  rcases h.2 with ⟨rfl, h0⟩ | ⟨g, cap, cur, rfl, _, hg, hcap, hmax, hsz, htake⟩
  · exact ⟨none, 0, by rw [h0], fun i hi => by omega⟩
  · refine ⟨_, cap, rfl, fun i hi => ⟨g, 0, rfl, ?_⟩⟩
    have := pkt_cell hg htake i hi
    simpa using this

theorem samePkt_iff (x y : Pkt) : samePkt x y = true ↔ x = y := by
  obtain ⟨x0, x1, x2⟩ := x
  obtain ⟨y0, y1, y2⟩ := y
  simp only [samePkt, Bool.and_eq_true, beq_iff_eq, Pkt.mk.injEq]
  have : x2.toList = y2.toList ↔ x2 = y2 := ⟨fun h => by
    rw [ByteArray.toList_eq, ByteArray.toList_eq] at h
    obtain ⟨⟨a⟩⟩ := x2
    obtain ⟨⟨b⟩⟩ := y2
    simp at h; subst h; rfl, fun h => h ▸ rfl⟩
  rw [this]
instance : DecidableEq Pkt := fun x y => if h : samePkt x y = true then .isTrue ((samePkt_iff x y).1 h) else .isFalse (fun e => h ((samePkt_iff x y).2 e))
theorem samePkt_eq (x y : Pkt) : samePkt x y = decide (x = y) := by
  by_cases h : x = y
  · rw [decide_eq_true h]; exact (samePkt_iff x y).2 h
  · rw [decide_eq_false h]; exact Bool.eq_false_iff.2 (fun e => h ((samePkt_iff x y).1 e))

set_option maxHeartbeats 400000 in
set_option maxRecDepth 100000 in
theorem same_any (v1 v2 : Value) (l1 l2 : List Pkt) (w : World) (h1 : PktsAt w v1 l1) (h2 : PktsAt w v2 l2) (hm1 : l1.length ≤ 2000) (hm2 : l2.length ≤ 2000) :
    Calls Try.prog 17 #[v1, v2] w fun e w' => e = .returned (.bool (decide (l1 = l2))) ∧ ∃ n, w' = w.drewN n := by
  obtain ⟨a1, c1, rfl, h1⟩ := h1
  obtain ⟨a2, c2, rfl, h2⟩ := h2
  have H1 := Lib.hid h1; clear h1
  have H2 := Lib.hid h2; clear h2
  by_cases hl : l1.length = l2.length
  · have hd : ((l1.length : Int) != (l2.length : Int)) = false := by simp [hl]
    have hd' : (l1.length != l2.length) = false := by simp [hl]
    have HL := Lib.hid hl
    have hl2 : l2.length ≤ l1.length := by omega
    have hl1 : l1.length ≤ l2.length := by omega
    have hne := neq34
    clear hl
    go_enter Try.func17, Try.ntmps17
    go_wp2_with fail
    go_loopw [5] (fun i wr => ∃ (k n : Nat), k ≤ l1.length ∧ i = .int .i64 k ∧ wr = w.drewN n ∧ Hid (l1.take k = l2.take k)) (fun i _ => l1.length - (intOf i).toNat)
    case atStart => exact ⟨0, 0, Nat.zero_le _, rfl, rfl, rfl⟩
    case round =>
      obtain ⟨k, n, hk, rfl, rfl, hall⟩ := hrel
      by_cases hlt : k < l1.length
      · obtain ⟨b1, o1, rfl, p0, p1, p2⟩ := H1.out k hlt
        obtain ⟨b2, o2, rfl, q0, q1, q2⟩ := H2.out k (by omega)
        obtain ⟨x, hx⟩ : ∃ x, x = l1[k] := ⟨_, rfl⟩
        obtain ⟨y, hy⟩ : ∃ y, y = l2[k] := ⟨_, rfl⟩
        rw [← hx] at p0 p1 p2
        rw [← hy] at q0 q1 q2
        have HX := Lib.hid (And.intro hx hy); clear hx hy
        have hlt2 : (k : Int) < (l1.length : Int) := by omega
        have hlt3 : (k : Int) < (l2.length : Int) := by omega
        cases hs : samePkt x y
        · go_wp2_with fail
          go_quiet (fail)
          go_wp2_with fail
          go_ret
          refine ⟨?_, n + nq, World.drewN_drewN _ _ _⟩
          have hne2 : decide (l1 = l2) = false := by
            rw [decide_eq_false_iff_not]
            intro e
            have hxy : x = y := by rw [HX.out.1, HX.out.2]; subst e; rfl
            rw [(samePkt_iff x y).2 hxy] at hs
            cases hs
          rw [hne2]; rfl
        · go_wp2_with fail
          go_quiet (fail)
          go_wp2_with fail
          go_roundw
          case rel =>
            refine ⟨k + 1, n + nq, by omega, by go_num, (by first | rfl | exact World.drewN_drewN _ _ _), ?_⟩
            show _ = _
            have hxy := (samePkt_iff x y).1 hs
            rw [List.take_succ_eq_append_getElem hlt, List.take_succ_eq_append_getElem (by omega), hall.out, ← HX.out.1, ← HX.out.2, hxy]
          case measure => simp [intOf]; omega
      · have hlt2 : (l1.length : Int) ≤ (k : Int) := by omega
        have hfin : decide (l1 = l2) = true := by
          rw [decide_eq_true_iff]
          have h1 := hall.out
          rw [List.take_of_length_le (by omega), List.take_of_length_le (by omega)] at h1
          exact h1
        have HFIN := Lib.hid hfin; clear hfin
        go_wp2
        go_ret
        exact ⟨by rw [HFIN.out]; rfl, n, rfl⟩
  · have hfin : decide (l1 = l2) = false := decide_eq_false (fun e => hl (by rw [e]))
    have hd : ((l1.length : Int) != (l2.length : Int)) = true := by simp; omega
    have hd' : (l1.length != l2.length) = true := by simp; omega
    have HFIN := Lib.hid hfin; clear hfin
    clear hl
    go_enter Try.func17, Try.ntmps17
    go_wp2
    go_ret
    exact ⟨by rw [HFIN.out]; rfl, 0, rfl⟩

end Go.Proofs.Ytmikjninonpejaa
