/- Contracts of the reference for net, each over several things that lie apart. -/
import Derived.Test.YtmikjninonpejaaRefD
import Derived.Test.YtmikjninonpejaaRefE
namespace Go.Proofs.Ytmikjninonpejaa
open Go.RowKit Go.Proofs.YtmikjninonpejaaMem

variable {w0 : World}

theorem rsplit_sep (pre post : List Thing) (b : Nat) (l : List Pkt) (s m : Int) (w : World) (h : Sep w0 w (pre ++ netThing 51 b l s :: post)) :
    Calls Try.prog 60 #[.pointer (some ⟨b, 0, none⟩), .int .i64 m] w fun e w' => e = .returned (.tuple #[]) ∧ Sep w0 w' (pre ++ netThing 51 b l (bits .and .i64 m 65535) :: post) := by
  obtain ⟨FP, hF, _, step⟩ := h.pick pre _ post
  refine (rsplit_any b FP l s m w hF).mono ?_
  rintro e w' ⟨rfl, rfl⟩
  obtain ⟨v, hb, ho, rfl⟩ := hF
  refine ⟨rfl, step _ _ _ (Evolves.of_same (Turns.setCell _ _ _ (by simp))) ⟨v, ?_, ?_, rfl⟩⟩
  · rw [heap_setCell_at hb]; rfl
  · exact own_kept ho (Turns.setCell (S := [b]) _ _ _ (by simp)) (fun k hk hkb => own_ne ho hb (by decide) (by simp at hkb; exact hkb ▸ hk))

theorem rhear_sep (pre post : List Thing) (b : Nat) (l : List Pkt) (s x y : Int) (r : Bool) (w : World) (h : Sep w0 w (pre ++ netThing 51 b l s :: post)) (hr : hears s x y = r) :
    Calls Try.prog 29 #[.pointer (some ⟨b, 0, none⟩), .int .i64 x, .int .i64 y] w fun e w' => e = .returned (.bool r) ∧ ∃ n, w' = w.drewN n := by
  obtain ⟨FP, hF, _, _⟩ := h.pick pre _ post
  exact rhear_is b FP l s x y w hF r hr

theorem rdeliver_sep (pre post : List Thing) (b : Nat) (l : List Pkt) (s i : Int) (w : World) (h : Sep w0 w (pre ++ netThing 51 b l s :: post)) (hl : l.length ≤ 1000) :
    Calls Try.prog 57 #[.pointer (some ⟨b, 0, none⟩), .int .i64 i] w fun e w' => e = .returned (.tuple #[.agg #[.int .i64 (deliverPkt l s i).src, .int .i64 (deliverPkt l s i).dst, .string (deliverPkt l s i).body], .int .i64 (deliverCode l s i)]) ∧
      Sep w0 w' (pre ++ netThing 51 b (without l i) s :: post) := by
  obtain ⟨FP, hF, _, step⟩ := h.pick pre _ post
  cases hi : inList l i
  · refine (rdeliver_none b FP l s i w hF (inList_no hi)).mono ?_
    rintro e w' ⟨rfl, ht⟩
    have e1 : deliverCode l s i = 4 := by simp [deliverCode, hi]
    have e2 : deliverPkt l s i = noPkt := by simp [deliverPkt, e1]
    refine ⟨by rw [e1, e2]; rfl, ?_⟩
    rw [show without l i = l by simp [without, hi]]
    exact h.quiet ht
  · obtain ⟨k, rfl, hk⟩ := inList_yes hi
    have e0 : pktAt l k = l[k] := by simp [pktAt, hk]
    refine (rdeliver_some b FP l s k w hF hk hl _ rfl).mono ?_
    rintro e w' ⟨rfl, FP', hn, hev⟩
    refine ⟨?_, ?_⟩
    · cases hr : hears s l[k].src l[k].dst
      · have e1 : deliverCode l s k = 10 := by simp [deliverCode, hi, e0, hr]
        have e2 : deliverPkt l s k = noPkt := by simp [deliverPkt, e1]
        rw [e1, e2]; rfl
      · have e1 : deliverCode l s k = 0 := by simp [deliverCode, hi, e0, hr]
        have e2 : deliverPkt l s k = l[k] := by simp [deliverPkt, e1, e0]
        rw [e1, e2]; rfl
    · rw [show without l k = l.eraseIdx k by simp [without, hi]]
      exact step _ _ _ hev hn

theorem rdrop_sep (pre post : List Thing) (b : Nat) (l : List Pkt) (s i : Int) (w : World) (h : Sep w0 w (pre ++ netThing 51 b l s :: post)) (hl : l.length ≤ 1000) :
    Calls Try.prog 58 #[.pointer (some ⟨b, 0, none⟩), .int .i64 i] w fun e w' => e = .returned (.int .i64 (dropCode l i)) ∧ Sep w0 w' (pre ++ netThing 51 b (without l i) s :: post) := by
  obtain ⟨FP, hF, _, step⟩ := h.pick pre _ post
  cases hi : inList l i
  · refine (rdrop_none b FP l s i w hF (inList_no hi)).mono ?_
    rintro e w' ⟨rfl, rfl⟩
    refine ⟨by simp [dropCode, hi], ?_⟩
    rw [show without l i = l by simp [without, hi]]
    exact h
  · obtain ⟨k, rfl, hk⟩ := inList_yes hi
    refine (rdrop_some b FP l s k w hF hk hl).mono ?_
    rintro e w' ⟨rfl, FP', hn, hev⟩
    refine ⟨by simp [dropCode, hi], ?_⟩
    rw [show without l k = l.eraseIdx k by simp [without, hi]]
    exact step _ _ _ hev hn

theorem rdouble_sep (pre post : List Thing) (b : Nat) (l : List Pkt) (s i : Int) (w : World) (h : Sep w0 w (pre ++ netThing 51 b l s :: post)) (hl : l.length ≤ 1000) :
    Calls Try.prog 59 #[.pointer (some ⟨b, 0, none⟩), .int .i64 i] w fun e w' => e = .returned (.int .i64 (doubleCode l i)) ∧ Sep w0 w' (pre ++ netThing 51 b (doubled l i) s :: post) := by
  obtain ⟨FP, hF, _, step⟩ := h.pick pre _ post
  cases hi : inList l i
  · refine (rdouble_none b FP l s i w hF (inList_no hi)).mono ?_
    rintro e w' ⟨rfl, rfl⟩
    have e1 : doubleCode l i = 4 := by simp [doubleCode, hi]
    refine ⟨by rw [e1], ?_⟩
    rw [show doubled l i = l by simp [doubled, e1]]
    exact h
  · obtain ⟨k, rfl, hk⟩ := inList_yes hi
    by_cases hf : 500 ≤ l.length
    · refine (rdouble_full b FP l s k w hF hk hl hf).mono ?_
      rintro e w' ⟨rfl, rfl⟩
      have e1 : doubleCode l k = 6 := by simp [doubleCode, hi, hf]
      refine ⟨by rw [e1], ?_⟩
      rw [show doubled l k = l by simp [doubled, e1]]
      exact h
    · refine (rdouble_ok b FP l s k w hF hk (by omega)).mono ?_
      rintro e w' ⟨rfl, FP', hn, hev⟩
      have e1 : doubleCode l k = 0 := by simp [doubleCode, hi, hf]
      refine ⟨by rw [e1], ?_⟩
      rw [show doubled l k = l ++ [l[k]] by simp [doubled, e1, pktAt, hk]]
      exact step _ _ _ hev hn

theorem rcopy_sep (pre post : List Thing) (b : Nat) (l : List Pkt) (s : Int) (w : World) (h : Sep w0 w (pre ++ netThing 51 b l s :: post)) (hl : l.length ≤ 1000) :
    Calls Try.prog 27 #[.pointer (some ⟨b, 0, none⟩)] w (FreshNet w0 51 l s (pre ++ netThing 51 b l s :: post)) := by
  obtain ⟨FP, hF, _, _⟩ := h.pick pre _ post
  refine (rcopy_any b FP l s w hF hl).mono ?_
  rintro e w' ⟨b', FP', rfl, hn, hx, ht⟩
  exact ⟨b', rfl, h.add (t := netThing 51 b' l s) ht hn hx⟩

theorem rsend_sep (pre post : List Thing) (b : Nat) (l : List Pkt) (s x y : Int) (body : ByteArray) (w : World) (h : Sep w0 w (pre ++ netThing 51 b l s :: post)) (hl : l.length ≤ 1000) :
    Calls Try.prog 61 #[.pointer (some ⟨b, 0, none⟩), .int .i64 x, .int .i64 y, .string body] w fun e w' => e = .returned (.int .i64 (sendCode l s x y)) ∧
      Sep w0 w' (pre ++ netThing 51 b (sendList l s x y body) s :: post) := by
  obtain ⟨FP, hF, _, step⟩ := h.pick pre _ post
  have quiet : ∀ {e : Ending} {w' : World}, sendCode l s x y ≠ 0 → (e = .returned (.int .i64 (sendCode l s x y)) ∧ Turns [] w w') → e = .returned (.int .i64 (sendCode l s x y)) ∧ Sep w0 w' (pre ++ netThing 51 b (sendList l s x y body) s :: post) := by
    rintro e w' h0 ⟨rfl, ht⟩
    rw [show sendList l s x y body = l by simp [sendList, h0]]
    exact ⟨rfl, h.quiet ht⟩
  have still : ∀ {e : Ending} {w' : World}, sendCode l s x y ≠ 0 → (e = .returned (.int .i64 (sendCode l s x y)) ∧ w = w') → e = .returned (.int .i64 (sendCode l s x y)) ∧ Sep w0 w' (pre ++ netThing 51 b (sendList l s x y body) s :: post) :=
    fun h0 ⟨h1, h2⟩ => quiet h0 ⟨h1, h2 ▸ Turns.refl _ _⟩
  have drawn : ∀ {e : Ending} {w' : World}, sendCode l s x y ≠ 0 → (e = .returned (.int .i64 (sendCode l s x y)) ∧ ∃ n, w' = w.drewN n) → e = .returned (.int .i64 (sendCode l s x y)) ∧ Sep w0 w' (pre ++ netThing 51 b (sendList l s x y body) s :: post) :=
    fun h0 ⟨h1, n, h2⟩ => quiet h0 ⟨h1, h2 ▸ (Turns.refl _ _).drewN n⟩
  by_cases h1 : x < 0
  · exact (rsend_neg b l s x y body w h1).mono fun _ _ => still (by simp [sendCode, isEnd_neg h1])
  by_cases h2 : 15 < x
  · exact (rsend_big b l s x y body w ⟨by omega, h2⟩).mono fun _ _ => still (by simp [sendCode, isEnd_big h2])
  have hx : isEnd x = true := isEnd_yes (by omega) (by omega)
  by_cases h3 : y < 0
  · exact (rsend_ok_neg b l s x y body w ⟨by omega, by omega⟩ h3).mono fun _ _ => still (by simp [sendCode, isEnd_neg h3])
  by_cases h4 : 15 < y
  · exact (rsend_ok_big b l s x y body w ⟨by omega, by omega⟩ ⟨by omega, h4⟩).mono fun _ _ => still (by simp [sendCode, isEnd_big h4])
  have hy : isEnd y = true := isEnd_yes (by omega) (by omega)
  cases h5 : (x == y)
  · cases h6 : hears s x y
    · exact (rsend_lost b FP l s x y body w hF ⟨by omega, by omega⟩ ⟨by omega, by omega⟩ h5 h6).mono fun _ _ => drawn (by simp [sendCode, hx, hy, h5, h6])
    · by_cases h7 : 500 ≤ l.length
      · exact (rsend_full b FP l s x y body w hF ⟨by omega, by omega⟩ ⟨by omega, by omega⟩ h5 h6 h7 hl).mono fun _ _ => drawn (by simp [sendCode, hx, hy, h5, h6, h7])
      · refine (rsend_fine b FP l s x y body w hF ⟨by omega, by omega⟩ ⟨by omega, by omega⟩ h5 h6 (by omega)).mono ?_
        rintro e w' ⟨rfl, FP', hn, hev⟩
        have e1 : sendCode l s x y = 0 := by simp [sendCode, hx, hy, h5, h6, h7]
        refine ⟨by rw [e1], ?_⟩
        rw [show sendList l s x y body = l ++ [⟨x, y, body⟩] by simp [sendList, e1]]
        exact step _ _ _ hev hn
  · exact (rsend_same b l s x y body w ⟨by omega, by omega⟩ ⟨by omega, by omega⟩ h5).mono fun _ _ => still (by simp [sendCode, h5])

end Go.Proofs.Ytmikjninonpejaa
