/- Contracts of package net, each over several things that lie apart. -/
import Derived.Test.YtmikjninonpejaaNetG
import Derived.Test.YtmikjninonpejaaSep
namespace Go.Proofs.Ytmikjninonpejaa
open Go.RowKit Go.Proofs.YtmikjninonpejaaMem

variable {w0 : World}

theorem new_sep (ts : List Thing) (w : World) (h : Sep w0 w ts) : Calls Try.prog 13 #[] w fun e w' => e = .returned (.pointer (some ⟨w.heap.size, 0, none⟩)) ∧ Sep w0 w' (netThing 81 w.heap.size [] 0 :: ts) :=
  (new_any w).mono fun e w' ⟨he, hw⟩ => ⟨he, by
    subst hw
    exact h.add (t := netThing 81 w.heap.size [] 0) (FP := [w.heap.size]) (Turns.alloc _ _ _) ⟨_, heap_alloc_here _ _, World.ownsRow_nil _ _ _ _, rfl⟩ (by simp)⟩

theorem heal_sep (pre post : List Thing) (b : Nat) (l : List Pkt) (s : Int) (w : World) (h : Sep w0 w (pre ++ netThing 81 b l s :: post)) :
    Calls Try.prog 21 #[.pointer (some ⟨b, 0, none⟩)] w fun e w' => e = .returned (.tuple #[]) ∧ Sep w0 w' (pre ++ netThing 81 b l 0 :: post) := by
  obtain ⟨FP, hF, _, step⟩ := h.pick pre _ post
  refine (heal_any b FP l s w hF).mono ?_
  rintro e w' ⟨rfl, rfl⟩
  obtain ⟨v, hb, ho, rfl⟩ := hF
  refine ⟨rfl, step _ _ _ (Evolves.of_same (Turns.setCell _ _ _ (by simp))) ⟨v, ?_, ?_, rfl⟩⟩
  · rw [heap_setCell_at hb]; rfl
  · exact own_kept ho (Turns.setCell (S := [b]) _ _ _ (by simp)) (fun k hk hkb => own_ne ho hb (by decide) (by simp at hkb; exact hkb ▸ hk))

theorem split_sep (pre post : List Thing) (b : Nat) (l : List Pkt) (s m : Int) (w : World) (h : Sep w0 w (pre ++ netThing 81 b l s :: post)) :
    Calls Try.prog 19 #[.pointer (some ⟨b, 0, none⟩), .int .i64 m] w fun e w' => e = .returned (.tuple #[]) ∧ Sep w0 w' (pre ++ netThing 81 b l (bits .and .i64 m 65535) :: post) := by
  obtain ⟨FP, hF, _, step⟩ := h.pick pre _ post
  refine (split_any b FP l s m w hF).mono ?_
  rintro e w' ⟨rfl, rfl⟩
  obtain ⟨v, hb, ho, rfl⟩ := hF
  refine ⟨rfl, step _ _ _ (Evolves.of_same (Turns.setCell _ _ _ (by simp))) ⟨v, ?_, ?_, rfl⟩⟩
  · rw [heap_setCell_at hb]; rfl
  · exact own_kept ho (Turns.setCell (S := [b]) _ _ _ (by simp)) (fun k hk hkb => own_ne ho hb (by decide) (by simp at hkb; exact hkb ▸ hk))

theorem count_sep (pre post : List Thing) (b : Nat) (l : List Pkt) (s : Int) (w : World) (h : Sep w0 w (pre ++ netThing 81 b l s :: post)) :
    Calls Try.prog 22 #[.pointer (some ⟨b, 0, none⟩)] w fun e w' => e = .returned (.int .i64 l.length) ∧ w = w' := by
  obtain ⟨FP, hF, _, _⟩ := h.pick pre _ post
  exact count_any b FP l s w hF

theorem hear_sep (pre post : List Thing) (b : Nat) (l : List Pkt) (s x y : Int) (r : Bool) (w : World) (h : Sep w0 w (pre ++ netThing 81 b l s :: post)) (hr : hears s x y = r) :
    Calls Try.prog 20 #[.pointer (some ⟨b, 0, none⟩), .int .i64 x, .int .i64 y] w fun e w' => e = .returned (.bool r) ∧ ∃ n, w' = w.drewN n := by
  obtain ⟨FP, hF, _, _⟩ := h.pick pre _ post
  exact hear_is b FP l s x y w hF r hr

theorem send_sep (pre post : List Thing) (b : Nat) (l : List Pkt) (s x y : Int) (body : ByteArray) (w : World) (h : Sep w0 w (pre ++ netThing 81 b l s :: post)) (hl : l.length ≤ 1000) :
    Calls Try.prog 15 #[.pointer (some ⟨b, 0, none⟩), .int .i64 x, .int .i64 y, .string body] w fun e w' => e = .returned (.int .i64 (sendCode l s x y)) ∧
      Sep w0 w' (pre ++ netThing 81 b (sendList l s x y body) s :: post) := by
  obtain ⟨FP, hF, _, step⟩ := h.pick pre _ post
  cases h1 : (!isEnd x || !isEnd y || x == y)
  · cases h2 : hears s x y
    · refine (send_lost b FP l s x y body w hF h1 h2).mono ?_
      rintro e w' ⟨rfl, n, rfl⟩
      have e1 : sendCode l s x y = 10 := by simp [sendCode, h1, h2]
      refine ⟨by rw [e1], ?_⟩
      rw [show sendList l s x y body = l by simp [sendList, e1]]
      exact h.quiet ((Turns.refl _ _).drewN n)
    · by_cases h3 : 500 ≤ l.length
      · refine (send_full b FP l s x y body w hF h1 h2 h3 hl).mono ?_
        rintro e w' ⟨rfl, n, rfl⟩
        have e1 : sendCode l s x y = 6 := by simp [sendCode, h1, h2, h3]
        refine ⟨by rw [e1], ?_⟩
        rw [show sendList l s x y body = l by simp [sendList, e1]]
        exact h.quiet ((Turns.refl _ _).drewN n)
      · refine (send_ok b FP l s x y body w hF h1 h2 (by omega)).mono ?_
        rintro e w' ⟨rfl, FP', hn, hev⟩
        have e1 : sendCode l s x y = 0 := by simp [sendCode, h1, h2, h3]
        refine ⟨by rw [e1], ?_⟩
        rw [show sendList l s x y body = l ++ [⟨x, y, body⟩] by simp [sendList, e1]]
        exact step _ _ _ hev hn
  · refine (send_arg b x y body w h1).mono ?_
    rintro e w' ⟨rfl, rfl⟩
    have e1 : sendCode l s x y = 1 := by simp [sendCode, h1]
    refine ⟨by rw [e1], ?_⟩
    rw [show sendList l s x y body = l by simp [sendList, e1]]
    exact h

def noPkt : Pkt := ⟨0, 0, ⟨#[]⟩⟩
def inList (l : List Pkt) (i : Int) : Bool := decide (0 ≤ i) && decide (i < l.length)
def pktAt (l : List Pkt) (i : Int) : Pkt := l.getD i.toNat noPkt
def deliverCode (l : List Pkt) (s i : Int) : Int := if inList l i then (if hears s (pktAt l i).src (pktAt l i).dst then 0 else 10) else 4
def deliverPkt (l : List Pkt) (s i : Int) : Pkt := if deliverCode l s i = 0 then pktAt l i else noPkt
def without (l : List Pkt) (i : Int) : List Pkt := if inList l i then l.eraseIdx i.toNat else l

theorem inList_yes {l : List Pkt} {i : Int} (h : inList l i = true) : ∃ k : Nat, i = k ∧ k < l.length := by
  simp [inList] at h
  exact ⟨i.toNat, by omega, by omega⟩
theorem inList_no {l : List Pkt} {i : Int} (h : inList l i = false) : i < 0 ∨ (l.length : Int) ≤ i := by
  simp [inList] at h
  omega

theorem deliver_sep (pre post : List Thing) (b : Nat) (l : List Pkt) (s i : Int) (w : World) (h : Sep w0 w (pre ++ netThing 81 b l s :: post)) (hl : l.length ≤ 1000) :
    Calls Try.prog 16 #[.pointer (some ⟨b, 0, none⟩), .int .i64 i] w fun e w' => e = .returned (.tuple #[.agg #[.int .i64 (deliverPkt l s i).src, .int .i64 (deliverPkt l s i).dst, .string (deliverPkt l s i).body], .int .i64 (deliverCode l s i)]) ∧
      Sep w0 w' (pre ++ netThing 81 b (without l i) s :: post) := by
  obtain ⟨FP, hF, _, step⟩ := h.pick pre _ post
  cases hi : inList l i
  · refine (deliver_none b FP l s i w hF (inList_no hi) hl).mono ?_
    rintro e w' ⟨rfl, ht⟩
    have e1 : deliverCode l s i = 4 := by simp [deliverCode, hi]
    have e2 : deliverPkt l s i = noPkt := by simp [deliverPkt, e1]
    refine ⟨by rw [e1, e2]; rfl, ?_⟩
    rw [show without l i = l by simp [without, hi]]
    exact h.quiet ht
  · obtain ⟨k, rfl, hk⟩ := inList_yes hi
    have e0 : pktAt l k = l[k] := by simp [pktAt, hk]
    refine (deliver_some b FP l s k w hF hk hl _ rfl).mono ?_
    rintro e w' ⟨rfl, FP', hn, hev⟩
    refine ⟨?_, ?_⟩
    · cases hr : hears s l[k].src l[k].dst
      · have e1 : deliverCode l s k = 10 := by simp [deliverCode, hi, e0, hr]
        have e2 : deliverPkt l s k = noPkt := by simp [deliverPkt, e1]
        rw [e1, e2]; rfl
      · have e1 : deliverCode l s k = 0 := by simp [deliverCode, hi, e0, hr]
        have e2 : deliverPkt l s k = l[k] := by simp [deliverPkt, e1, e0]
        rw [e1, e2]; rfl
    · rw [show without l k = l.eraseIdx k by simp [without, hi]]
      exact step _ _ _ hev hn

def dropCode (l : List Pkt) (i : Int) : Int := if inList l i then 0 else 4
theorem drop_sep (pre post : List Thing) (b : Nat) (l : List Pkt) (s i : Int) (w : World) (h : Sep w0 w (pre ++ netThing 81 b l s :: post)) (hl : l.length ≤ 1000) :
    Calls Try.prog 56 #[.pointer (some ⟨b, 0, none⟩), .int .i64 i] w fun e w' => e = .returned (.int .i64 (dropCode l i)) ∧ Sep w0 w' (pre ++ netThing 81 b (without l i) s :: post) := by
  obtain ⟨FP, hF, _, step⟩ := h.pick pre _ post
  cases hi : inList l i
  · refine (drop_none b FP l s i w hF (inList_no hi) hl).mono ?_
    rintro e w' ⟨rfl, ht⟩
    refine ⟨by simp [dropCode, hi], ?_⟩
    rw [show without l i = l by simp [without, hi]]
    exact h.quiet ht
  · obtain ⟨k, rfl, hk⟩ := inList_yes hi
    refine (drop_some b FP l s k w hF hk hl).mono ?_
    rintro e w' ⟨rfl, FP', hn, hev⟩
    refine ⟨by simp [dropCode, hi], ?_⟩
    rw [show without l k = l.eraseIdx k by simp [without, hi]]
    exact step _ _ _ hev hn

def doubleCode (l : List Pkt) (i : Int) : Int := if inList l i then (if 500 ≤ l.length then 6 else 0) else 4
def doubled (l : List Pkt) (i : Int) : List Pkt := if doubleCode l i = 0 then l ++ [pktAt l i] else l
theorem double_sep (pre post : List Thing) (b : Nat) (l : List Pkt) (s i : Int) (w : World) (h : Sep w0 w (pre ++ netThing 81 b l s :: post)) (hl : l.length ≤ 1000) :
    Calls Try.prog 23 #[.pointer (some ⟨b, 0, none⟩), .int .i64 i] w fun e w' => e = .returned (.int .i64 (doubleCode l i)) ∧ Sep w0 w' (pre ++ netThing 81 b (doubled l i) s :: post) := by
  obtain ⟨FP, hF, _, step⟩ := h.pick pre _ post
  cases hi : inList l i
  · refine (double_none b FP l s i w hF (inList_no hi) hl).mono ?_
    rintro e w' ⟨rfl, rfl⟩
    have e1 : doubleCode l i = 4 := by simp [doubleCode, hi]
    refine ⟨by rw [e1], ?_⟩
    rw [show doubled l i = l by simp [doubled, e1]]
    exact h
  · obtain ⟨k, rfl, hk⟩ := inList_yes hi
    by_cases hf : 500 ≤ l.length
    · refine (double_full b FP l s k w hF hk hl hf).mono ?_
      rintro e w' ⟨rfl, rfl⟩
      have e1 : doubleCode l k = 6 := by simp [doubleCode, hi, hf]
      refine ⟨by rw [e1], ?_⟩
      rw [show doubled l k = l by simp [doubled, e1]]
      exact h
    · refine (double_ok b FP l s k w hF hk (by omega)).mono ?_
      rintro e w' ⟨rfl, FP', hn, hev⟩
      have e1 : doubleCode l k = 0 := by simp [doubleCode, hi, hf]
      refine ⟨by rw [e1], ?_⟩
      rw [show doubled l k = l ++ [l[k]] by simp [doubled, e1, pktAt, hk]]
      exact step _ _ _ hev hn

def FreshList (w0 : World) (l : List Pkt) (ts : List Thing) (e : Ending) (w' : World) : Prop := ∃ v, e = .returned v ∧ Sep w0 w' (pktThing v l :: ts)
theorem list_sep (pre post : List Thing) (b : Nat) (l : List Pkt) (s : Int) (w : World) (h : Sep w0 w (pre ++ netThing 81 b l s :: post)) (hl : l.length ≤ 1000) :
    Calls Try.prog 18 #[.pointer (some ⟨b, 0, none⟩)] w (FreshList w0 l (pre ++ netThing 81 b l s :: post)) := by
  obtain ⟨FP, hF, _, _⟩ := h.pick pre _ post
  refine (list_any b FP l s w hF hl).mono ?_
  rintro e w' ⟨v, rfl, ho, ht⟩
  exact ⟨v, rfl, h.add (t := pktThing v l) (FP := v.ownBlock.toList) ht ⟨own_base ho (Nat.zero_le _), rfl⟩ (fun x hx => (ho.lt x (by simpa using hx)).1)⟩

def FreshNet (w0 : World) (T : TypeId) (l : List Pkt) (s : Int) (ts : List Thing) (e : Ending) (w' : World) : Prop := ∃ b, e = .returned (.pointer (some ⟨b, 0, none⟩)) ∧ Sep w0 w' (netThing T b l s :: ts)
theorem copy_sep (pre post : List Thing) (b : Nat) (l : List Pkt) (s : Int) (w : World) (h : Sep w0 w (pre ++ netThing 81 b l s :: post)) (hl : l.length ≤ 1000) :
    Calls Try.prog 26 #[.pointer (some ⟨b, 0, none⟩)] w (FreshNet w0 81 l s (pre ++ netThing 81 b l s :: post)) := by
  obtain ⟨FP, hF, _, _⟩ := h.pick pre _ post
  refine (copy_any b FP l s w hF hl).mono ?_
  rintro e w' ⟨b', FP', rfl, hn, hx, ht⟩
  exact ⟨b', rfl, h.add (t := netThing 81 b' l s) ht hn hx⟩

end Go.Proofs.Ytmikjninonpejaa
