/- Statements about net: NetSides, the walk. -/
import Derived.Test.YtmikjninonpejaaNetV
import Derived.WalkLawsBesides
namespace Go.Proofs.Ytmikjninonpejaa
open Go.RowKit Go.Proofs.YtmikjninonpejaaMem

theorem side_mask (m a : Int) (h0 : 0 ≤ a) (h1 : a < 16) : side (bits .and .i64 m 65535) a = side m a := by
  simp only [side, and1, and65535]
  obtain ⟨k, rfl⟩ := Int.eq_ofNat_of_zero_le h0
  have hk : k < 16 := by omega
  rw [Int.toNat_natCast, Nat.min_eq_left (by omega)]
  match k, hk with
  | 0, _ => simp
  | 1, _ => simp; omega
  | 2, _ => simp; omega
  | 3, _ => simp; omega
  | 4, _ => simp; omega
  | 5, _ => simp; omega
  | 6, _ => simp; omega
  | 7, _ => simp; omega
  | 8, _ => simp; omega
  | 9, _ => simp; omega
  | 10, _ => simp; omega
  | 11, _ => simp; omega
  | 12, _ => simp; omega
  | 13, _ => simp; omega
  | 14, _ => simp; omega
  | 15, _ => simp; omega

theorem isEnd_of (a : Int) (h0 : 0 ≤ a) (h1 : a < 16) : isEnd a = true := by simp [isEnd, h0, h1]
theorem hears_mask (m x y : Int) (hx0 : 0 ≤ x) (hx : x < 16) (hy0 : 0 ≤ y) (hy : y < 16) : hears (bits .and .i64 m 65535) x y = (side m x == side m y) := by
  simp only [hears, isEnd_of x hx0 hx, isEnd_of y hy0 hy, side_mask m x hx0 hx, side_mask m y hy0 hy, Bool.true_and]

theorem side_nat (m : Int) (p : Nat) (hp : p < 16) : side m p = bits .and .i64 (m / 2 ^ p) 1 := by
  simp only [side, Int.toNat_natCast, Nat.min_eq_left (show p ≤ 64 by omega)]

def sX : ByteArray := ⟨#[120]⟩
def sY : ByteArray := ⟨#[121]⟩

set_option maxHeartbeats 1600000 in
set_option maxRecDepth 100000 in
theorem sides_walk (mask : Int) (late : Bool) (more : Int) (w : World) :
    Calls Try.prog 4 #[.int .i64 mask, .bool late, .int .i64 more] w fun e w' => e = .returned (.bool true) ∧ Below w.heap.size w w' := by
  by_cases hm0 : more < 0
  · have hd : decide (more < 0) = true := decide_eq_true hm0
    go_enter Try.func4, Try.ntmps4
    go_wp2_with fail
    refine (small_any _).mono ?_
    rintro e w1 ⟨rfl, h1⟩
    have H1 := Lib.hid ((Sep.start w).quiet h1); clear h1
    go_wp2_with fail
    refine (new_fresh w [] _ H1.out).mono ?_
    rintro e w2 ⟨n, rfl, h2⟩
    have H2 := Lib.hid h2; clear h2
    go_wp2_with fail
    go_ret
    exact ⟨rfl, H2.out.below⟩
  · have hd : decide (more < 0) = false := decide_eq_false hm0
    by_cases hm1 : 600 < more
    · have hd2 : decide (600 < more) = true := decide_eq_true hm1
      go_enter Try.func4, Try.ntmps4
      go_wp2_with fail
      refine (small_any _).mono ?_
      rintro e w1 ⟨rfl, h1⟩
      have H1 := Lib.hid ((Sep.start w).quiet h1); clear h1
      go_wp2_with fail
      refine (new_fresh w [] _ H1.out).mono ?_
      rintro e w2 ⟨n, rfl, h2⟩
      have H2 := Lib.hid h2; clear h2
      go_wp2_with fail
      go_ret
      exact ⟨rfl, H2.out.below⟩
    · have hd2 : decide (600 < more) = false := decide_eq_false hm1
      cases late
      · go_enter Try.func4, Try.ntmps4
        go_wp2_with fail
        refine (small_any _).mono ?_
        rintro e w1 ⟨rfl, h1⟩
        have H1 := Lib.hid ((Sep.start w).quiet h1); clear h1
        go_wp2_with fail
        refine (new_fresh w [] _ H1.out).mono ?_
        rintro e w2 ⟨n, rfl, h2⟩
        have H2 := Lib.hid h2; clear h2
        go_wp2_with fail
        refine (split_sep [] [] n [] 0 mask _ H2.out).mono ?_
        rintro e w3 ⟨rfl, h3⟩
        have H3 := Lib.hid h3; clear h3
        go_wp2_with fail
        go_loopw [9] (fun i wr => ∃ p : Nat, p ≤ 16 ∧ i = .int .i64 p ∧ Hid (Sep w wr [netThing 81 n [] (bits .and .i64 mask 65535)])) (fun i _ => 16 - (intOf i).toNat)
        case atStart => exact ⟨0, by omega, rfl, H3⟩
        case round =>
          obtain ⟨p, hp, rfl, hsep⟩ := hrel
          by_cases hlt : p < 16
          · have hlt2 : (p : Int) < 16 := by omega
            go_wp2_with fail
            obtain ⟨wo, rfl⟩ : ∃ wo : World, wo = wr := ⟨_, rfl⟩
            go_loopw [10] (fun i wr => ∃ q : Nat, q ≤ 16 ∧ i = .int .i64 q ∧ Hid (Sep w wr [netThing 81 n [] (bits .and .i64 mask 65535)])) (fun i _ => 16 - (intOf i).toNat)
            case atStart => exact ⟨0, by omega, rfl, hsep⟩
            case round =>
              obtain ⟨q, hq, rfl, hsep2⟩ := hrel
              by_cases hlt3 : q < 16
              · have hlt4 : (q : Int) < 16 := by omega
                by_cases hxy : p = q
                · subst hxy
                  have hpp : ((p : Int) == (p : Int)) = true := by simp
                  go_wp2_with fail
                  refine (send_sep [] [] n [] (bits .and .i64 mask 65535) p p sX _ hsep2.out (by simp)).mono ?_
                  rintro e w4 ⟨rfl, h4⟩
                  have e1 : sendCode [] (bits .and .i64 mask 65535) p p = 1 := by simp [sendCode]
                  rw [e1]
                  rw [show sendList [] (bits .and .i64 mask 65535) p p sX = [] by rw [sendList, e1]; rfl] at h4
                  have H4 := Lib.hid h4; clear h4 e1
                  go_wp2_with fail
                  refine (hear_sep [] [] n [] (bits .and .i64 mask 65535) p p true _ H4.out (by simp [hears, isEnd_of p (by omega) (by omega)])).mono ?_
                  rintro e w5 ⟨rfl, n5, rfl⟩
                  go_wp2_with fail
                  go_roundw
                  case rel => exact ⟨p + 1, by omega, by go_num, H4.out.quiet ((Turns.refl _ _).drewN n5)⟩
                  case measure => simp [intOf]; omega
                · have hpq : ((p : Int) == (q : Int)) = false := by simp; omega
                  have hpq2 : (p == q) = false := by simp; omega
                  have hpq3 : ¬ (p : Int) = (q : Int) := by omega
                  have hep := isEnd_of p (by omega) (by omega)
                  have heq := isEnd_of q (by omega) (by omega)
                  cases hnear : (bits .and .i64 (mask / 2 ^ p) 1 == bits .and .i64 (mask / 2 ^ q) 1)
                  · have hm : hears (bits .and .i64 mask 65535) p q = false := by rw [hears_mask mask p q (by omega) (by omega) (by omega) (by omega), side_nat mask p (by omega), side_nat mask q (by omega)]; exact hnear
                    have e1 : sendCode [] (bits .and .i64 mask 65535) p q = 10 := by simp [sendCode, hep, heq, hpq3, hm]
                    have e1' : sendList [] (bits .and .i64 mask 65535) p q sX = [] := by rw [sendList, e1]; rfl
                    have e2 : deliverCode [] (bits .and .i64 mask 65535) 0 = 4 := by rfl
                    have e2' : deliverPkt [] (bits .and .i64 mask 65535) 0 = noPkt := by rw [deliverPkt, e2]; rfl
                    have e3 : without [] 0 = [] := by rfl
                    have HE := Lib.hid (And.intro e1 (And.intro e1' (And.intro e2 (And.intro e2' (And.intro e3 hm))))); clear e1 e1' e2 e2' e3 hm hep heq hxy hpq3
                    go_wp2_with fail
                    refine (send_sep [] [] n [] (bits .and .i64 mask 65535) p q sX _ hsep2.out (by simp)).mono ?_
                    rintro e w4 ⟨rfl, h4⟩
                    rw [HE.out.1]
                    rw [HE.out.2.1] at h4
                    have H4 := Lib.hid h4; clear h4
                    go_wp2_with fail
                    refine (deliver_sep [] [] n [] (bits .and .i64 mask 65535) 0 _ H4.out (by simp)).mono ?_
                    rintro e w5 ⟨rfl, h5⟩
                    rw [HE.out.2.2.1, HE.out.2.2.2.1]
                    rw [HE.out.2.2.2.2.1] at h5
                    simp only [noPkt]
                    have H5 := Lib.hid h5; clear h5
                    go_wp2_with fail
                    refine (hear_sep [] [] n [] (bits .and .i64 mask 65535) p q false _ (H5.out.quiet (Turns.alloc [] _ _)) HE.out.2.2.2.2.2).mono ?_
                    rintro e w6 ⟨rfl, n6, rfl⟩
                    go_wp2_with fail
                    go_roundw
                    case rel => exact ⟨q + 1, by omega, by go_num, (H5.out.quiet (Turns.alloc [] _ _)).quiet ((Turns.refl _ _).drewN n6)⟩
                    case measure => simp [intOf]; omega
                  · have hm : hears (bits .and .i64 mask 65535) p q = true := by rw [hears_mask mask p q (by omega) (by omega) (by omega) (by omega), side_nat mask p (by omega), side_nat mask q (by omega)]; exact hnear
                    have e1 : sendCode [] (bits .and .i64 mask 65535) p q = 0 := by simp [sendCode, hep, heq, hpq3, hm]
                    have e1' : sendList [] (bits .and .i64 mask 65535) p q sX = [⟨p, q, sX⟩] := by rw [sendList, e1]; rfl
                    have e2 : deliverCode [⟨p, q, sX⟩] (bits .and .i64 mask 65535) 0 = 0 := by rw [deliverCode, show inList [(⟨p, q, sX⟩ : Pkt)] 0 = true from rfl, if_pos rfl]; show (if hears _ p q = true then _ else _) = _; rw [hm]; rfl
                    have e2' : deliverPkt [⟨p, q, sX⟩] (bits .and .i64 mask 65535) 0 = ⟨p, q, sX⟩ := by rw [deliverPkt, e2]; rfl
                    have e3 : without [⟨p, q, sX⟩] 0 = [] := by rfl
                    have HE := Lib.hid (And.intro e1 (And.intro e1' (And.intro e2 (And.intro e2' (And.intro e3 hm))))); clear e1 e1' e2 e2' e3 hm hep heq hxy hpq3
                    go_wp2_with fail
                    refine (send_sep [] [] n [] (bits .and .i64 mask 65535) p q sX _ hsep2.out (by simp)).mono ?_
                    rintro e w4 ⟨rfl, h4⟩
                    rw [HE.out.1]
                    rw [HE.out.2.1] at h4
                    have H4 := Lib.hid h4; clear h4
                    go_wp2_with fail
                    refine (deliver_sep [] [] n [⟨p, q, sX⟩] (bits .and .i64 mask 65535) 0 _ H4.out (by simp)).mono ?_
                    rintro e w5 ⟨rfl, h5⟩
                    rw [HE.out.2.2.1, HE.out.2.2.2.1]
                    rw [HE.out.2.2.2.2.1] at h5
                    have H5 := Lib.hid h5; clear h5
                    go_wp2_with fail
                    refine (hear_sep [] [] n [] (bits .and .i64 mask 65535) p q true _ (H5.out.quiet (Turns.alloc [] _ _)) HE.out.2.2.2.2.2).mono ?_
                    rintro e w6 ⟨rfl, n6, rfl⟩
                    go_wp2_with fail
                    go_roundw
                    case rel => exact ⟨q + 1, by omega, by go_num, (H5.out.quiet (Turns.alloc [] _ _)).quiet ((Turns.refl _ _).drewN n6)⟩
                    case measure => simp [intOf]; omega
              · have hlt4 : (16 : Int) ≤ (q : Int) := by omega
                go_wp2_with fail
                go_roundw
                case rel => exact ⟨p + 1, by omega, by go_num, hsep2⟩
                case measure => simp [intOf]; omega
          · have hlt2 : (16 : Int) ≤ (p : Int) := by omega
            go_wp2_with fail
            refine (heal_sep [] [] n [] (bits .and .i64 mask 65535) _ hsep.out).mono ?_
            rintro e w3 ⟨rfl, h3⟩
            have H3 := Lib.hid h3; clear h3
            go_wp2_with fail
            go_loopw [15] (fun i wr => ∃ (k : Nat) (l : List Pkt), (k : Int) ≤ more ∧ i = .int .i64 k ∧ Hid (l.length = min k 500) ∧ Hid (Sep w wr [netThing 81 n l 0])) (fun i _ => more.toNat - (intOf i).toNat)
            case atStart => exact ⟨0, [], by omega, rfl, rfl, H3⟩
            case round =>
              obtain ⟨k, l, hk, rfl, hl, hsep2⟩ := hrel
              have hl5 : l.length ≤ 500 := by rw [hl.out]; omega
              by_cases hkm : (k : Int) < more
              · have f1 : isEnd (bits .and .i64 k 15) = true := by rw [and15]; exact isEnd_of _ (by omega) (by omega)
                have f2 : isEnd (bits .and .i64 (k + 1) 15) = true := by rw [and15]; exact isEnd_of _ (by omega) (by omega)
                have f3 : ¬ bits .and .i64 (k : Int) 15 = bits .and .i64 ((k : Int) + 1) 15 := by rw [and15, and15]; omega
                by_cases hk5 : k < 500
                · have e1 : sendCode l 0 (bits .and .i64 k 15) (bits .and .i64 (k + 1) 15) = 0 := by simp [sendCode, f1, f2, f3, hears_zero f1 f2]; rw [hl.out]; omega
                  have HE := Lib.hid e1; clear e1 f1 f2 f3
                  have hk6 : (k : Int) < 500 := by omega
                  go_wp2_with fail
                  refine (send_sep [] [] n l 0 _ _ sY _ hsep2.out (by omega)).mono ?_
                  rintro e w4 ⟨rfl, h4⟩
                  rw [HE.out]
                  rw [sendList, if_pos HE.out] at h4
                  have H4 := Lib.hid h4; clear h4
                  go_wp2_with fail
                  go_roundw
                  case rel => exact ⟨k + 1, _, by omega, by go_num, by show _ = _; rw [List.length_append, hl.out]; simp; omega, H4⟩
                  case measure => simp [intOf]; omega
                · have e1 : sendCode l 0 (bits .and .i64 k 15) (bits .and .i64 (k + 1) 15) = 6 := by simp [sendCode, f1, f2, f3, hears_zero f1 f2]; rw [hl.out]; omega
                  have HE := Lib.hid e1; clear e1 f1 f2 f3
                  have hk6 : (500 : Int) ≤ (k : Int) := by omega
                  go_wp2_with fail
                  refine (send_sep [] [] n l 0 _ _ sY _ hsep2.out (by omega)).mono ?_
                  rintro e w4 ⟨rfl, h4⟩
                  rw [HE.out]
                  rw [sendList, if_neg (by rw [HE.out]; decide)] at h4
                  have H4 := Lib.hid h4; clear h4
                  go_wp2_with fail
                  go_roundw
                  case rel => exact ⟨k + 1, _, by omega, by go_num, by show _ = _; rw [hl.out]; omega, H4⟩
                  case measure => simp [intOf]; omega
              · have hkm2 : more ≤ (k : Int) := by omega
                have hlen : Hid ((l.length : Int) = min more 500) := by show _ = _; have := hl.out; omega
                clear hl
                go_wp2_with fail
                refine (count_sep [] [] n l 0 _ hsep2.out).mono ?_
                rintro e w4 ⟨rfl, rfl⟩
                by_cases h5 : more < 500
                · have hl9 : l.length = more.toNat := by have := hlen.out; omega
                  rw [show (l.length : Int) = more by have := hlen.out; omega]
                  have hd5 : decide (more < 500) = true := decide_eq_true h5
                  go_wp2_with fail
                  refine (send_arg n (-1) 0 ⟨#[]⟩ _ (by decide)).mono ?_
                  rintro e w5 ⟨rfl, rfl⟩
                  go_wp2_with fail
                  refine (send_arg n 0 16 ⟨#[]⟩ _ (by decide)).mono ?_
                  rintro e w6 ⟨rfl, rfl⟩
                  go_wp2_with fail
                  go_ret
                  exact ⟨rfl, hsep2.out.below⟩
                · by_cases h6 : more = 500
                  · subst h6
                    have hl9 : l.length = 500 := by have := hlen.out; omega
                    rw [show (l.length : Int) = 500 by have := hlen.out; omega]
                    have hin : inList l 3 = true := by simp [inList, hl9]
                    have e1 : doubleCode l 3 = 6 := by simp [doubleCode, hin, hl9]
                    have HE := Lib.hid e1; clear e1 hin hl9
                    go_wp2_with fail
                    refine (double_sep [] [] n l 0 3 _ hsep2.out (by omega)).mono ?_
                    rintro e w4 ⟨rfl, h4⟩
                    rw [HE.out]
                    have H4 := Lib.hid h4; clear h4
                    go_wp2_with fail
                    refine (send_arg n (-1) 0 ⟨#[]⟩ _ (by decide)).mono ?_
                    rintro e w5 ⟨rfl, rfl⟩
                    go_wp2_with fail
                    refine (send_arg n 0 16 ⟨#[]⟩ _ (by decide)).mono ?_
                    rintro e w6 ⟨rfl, rfl⟩
                    go_wp2_with fail
                    go_ret
                    exact ⟨rfl, H4.out.below⟩
                  · have h7 : 500 < more := by omega
                    clear h6
                    have hl9 : l.length = 500 := by have := hlen.out; omega
                    rw [show (l.length : Int) = 500 by have := hlen.out; omega]
                    have hd5 : decide (more < 500) = false := decide_eq_false h5
                    have hin : inList l 3 = true := by simp [inList, hl9]
                    have e1 : doubleCode l 3 = 6 := by simp [doubleCode, hin, hl9]
                    have HE := Lib.hid e1; clear e1 hin hl9
                    go_wp2_with fail
                    refine (double_sep [] [] n l 0 3 _ hsep2.out (by omega)).mono ?_
                    rintro e w4 ⟨rfl, h4⟩
                    rw [HE.out]
                    have H4 := Lib.hid h4; clear h4
                    go_wp2_with fail
                    refine (send_arg n (-1) 0 ⟨#[]⟩ _ (by decide)).mono ?_
                    rintro e w5 ⟨rfl, rfl⟩
                    go_wp2_with fail
                    refine (send_arg n 0 16 ⟨#[]⟩ _ (by decide)).mono ?_
                    rintro e w6 ⟨rfl, rfl⟩
                    go_wp2_with fail
                    go_ret
                    exact ⟨rfl, H4.out.below⟩
      · go_enter Try.func4, Try.ntmps4
        go_wp2_with fail
        refine (small_any _).mono ?_
        rintro e w1 ⟨rfl, h1⟩
        have H1 := Lib.hid ((Sep.start w).quiet h1); clear h1
        go_wp2_with fail
        refine (new_fresh w [] _ H1.out).mono ?_
        rintro e w2 ⟨n, rfl, h2⟩
        have H2 := Lib.hid h2; clear h2
        go_wp2_with fail
        go_loopw [9] (fun i wr => ∃ p : Nat, p ≤ 16 ∧ i = .int .i64 p ∧ Hid (Sep w wr [netThing 81 n [] 0])) (fun i _ => 16 - (intOf i).toNat)
        case atStart => exact ⟨0, by omega, rfl, H2⟩
        case round =>
          obtain ⟨p, hp, rfl, hsep⟩ := hrel
          by_cases hlt : p < 16
          · have hlt2 : (p : Int) < 16 := by omega
            go_wp2_with fail
            obtain ⟨wo, rfl⟩ : ∃ wo : World, wo = wr := ⟨_, rfl⟩
            go_loopw [10] (fun i wr => ∃ q : Nat, q ≤ 16 ∧ i = .int .i64 q ∧ Hid (Sep w wr [netThing 81 n [] 0])) (fun i _ => 16 - (intOf i).toNat)
            case atStart => exact ⟨0, by omega, rfl, hsep⟩
            case round =>
              obtain ⟨q, hq, rfl, hsep2⟩ := hrel
              by_cases hlt3 : q < 16
              · have hlt4 : (q : Int) < 16 := by omega
                by_cases hxy : p = q
                · subst hxy
                  have hpp : ((p : Int) == (p : Int)) = true := by simp
                  go_wp2_with fail
                  refine (send_sep [] [] n [] 0 p p sX _ hsep2.out (by simp)).mono ?_
                  rintro e w4 ⟨rfl, h4⟩
                  have e1 : sendCode [] 0 p p = 1 := by simp [sendCode]
                  rw [e1]
                  rw [show sendList [] 0 p p sX = [] by rw [sendList, e1]; rfl] at h4
                  have H4 := Lib.hid h4; clear h4 e1
                  go_wp2_with fail
                  refine (hear_sep [] [] n [] 0 p p true _ H4.out (by simp [hears, isEnd_of p (by omega) (by omega)])).mono ?_
                  rintro e w5 ⟨rfl, n5, rfl⟩
                  go_wp2_with fail
                  go_roundw
                  case rel => exact ⟨p + 1, by omega, by go_num, H4.out.quiet ((Turns.refl _ _).drewN n5)⟩
                  case measure => simp [intOf]; omega
                · have hpq : ((p : Int) == (q : Int)) = false := by simp; omega
                  have hpq2 : (p == q) = false := by simp; omega
                  have hpq3 : ¬ (p : Int) = (q : Int) := by omega
                  have hep := isEnd_of p (by omega) (by omega)
                  have heq := isEnd_of q (by omega) (by omega)
                  cases hnear : (bits .and .i64 (mask / 2 ^ p) 1 == bits .and .i64 (mask / 2 ^ q) 1)
                  · have hm : hears (bits .and .i64 mask 65535) p q = false := by rw [hears_mask mask p q (by omega) (by omega) (by omega) (by omega), side_nat mask p (by omega), side_nat mask q (by omega)]; exact hnear
                    have e1 : sendCode [] 0 p q = 0 := by simp [sendCode, hep, heq, hpq3, hears_zero hep heq]
                    have e1' : sendList [] 0 p q sX = [⟨p, q, sX⟩] := by rw [sendList, e1]; rfl
                    have e2 : deliverCode [⟨p, q, sX⟩] (bits .and .i64 mask 65535) 0 = 10 := by rw [deliverCode, show inList [(⟨p, q, sX⟩ : Pkt)] 0 = true from rfl, if_pos rfl]; show (if hears _ p q = true then _ else _) = _; rw [hm]; rfl
                    have e2' : deliverPkt [⟨p, q, sX⟩] (bits .and .i64 mask 65535) 0 = noPkt := by rw [deliverPkt, e2]; rfl
                    have e3 : without [⟨p, q, sX⟩] 0 = [] := by rfl
                    have HE := Lib.hid (And.intro e1 (And.intro e1' (And.intro e2 (And.intro e2' (And.intro e3 hm))))); clear e1 e1' e2 e2' e3 hm hep heq hxy hpq3
                    go_wp2_with fail
                    refine (send_sep [] [] n [] 0 p q sX _ hsep2.out (by simp)).mono ?_
                    rintro e w4 ⟨rfl, h4⟩
                    rw [HE.out.1]
                    rw [HE.out.2.1] at h4
                    have H4 := Lib.hid h4; clear h4
                    go_wp2_with fail
                    refine (split_sep [] [] n [⟨p, q, sX⟩] 0 mask _ H4.out).mono ?_
                    rintro e w4' ⟨rfl, h4'⟩
                    have H4' := Lib.hid h4'; clear h4'
                    go_wp2_with fail
                    refine (deliver_sep [] [] n [⟨p, q, sX⟩] (bits .and .i64 mask 65535) 0 _ H4'.out (by simp)).mono ?_
                    rintro e w5 ⟨rfl, h5⟩
                    rw [HE.out.2.2.1, HE.out.2.2.2.1]
                    rw [HE.out.2.2.2.2.1] at h5
                    simp only [noPkt]
                    have H5 := Lib.hid h5; clear h5
                    go_wp2_with fail
                    refine (hear_sep [] [] n [] (bits .and .i64 mask 65535) p q false _ (H5.out.quiet (Turns.alloc [] _ _)) HE.out.2.2.2.2.2).mono ?_
                    rintro e w6 ⟨rfl, n6, rfl⟩
                    go_wp2_with fail
                    refine (heal_sep [] [] n [] (bits .and .i64 mask 65535) _ ((H5.out.quiet (Turns.alloc [] _ _)).quiet ((Turns.refl _ _).drewN n6))).mono ?_
                    rintro e w7 ⟨rfl, h7⟩
                    have H7 := Lib.hid h7; clear h7
                    go_wp2_with fail
                    go_roundw
                    case rel => exact ⟨q + 1, by omega, by go_num, H7⟩
                    case measure => simp [intOf]; omega
                  · have hm : hears (bits .and .i64 mask 65535) p q = true := by rw [hears_mask mask p q (by omega) (by omega) (by omega) (by omega), side_nat mask p (by omega), side_nat mask q (by omega)]; exact hnear
                    have e1 : sendCode [] 0 p q = 0 := by simp [sendCode, hep, heq, hpq3, hears_zero hep heq]
                    have e1' : sendList [] 0 p q sX = [⟨p, q, sX⟩] := by rw [sendList, e1]; rfl
                    have e2 : deliverCode [⟨p, q, sX⟩] (bits .and .i64 mask 65535) 0 = 0 := by rw [deliverCode, show inList [(⟨p, q, sX⟩ : Pkt)] 0 = true from rfl, if_pos rfl]; show (if hears _ p q = true then _ else _) = _; rw [hm]; rfl
                    have e2' : deliverPkt [⟨p, q, sX⟩] (bits .and .i64 mask 65535) 0 = ⟨p, q, sX⟩ := by rw [deliverPkt, e2]; rfl
                    have e3 : without [⟨p, q, sX⟩] 0 = [] := by rfl
                    have HE := Lib.hid (And.intro e1 (And.intro e1' (And.intro e2 (And.intro e2' (And.intro e3 hm))))); clear e1 e1' e2 e2' e3 hm hep heq hxy hpq3
                    go_wp2_with fail
                    refine (send_sep [] [] n [] 0 p q sX _ hsep2.out (by simp)).mono ?_
                    rintro e w4 ⟨rfl, h4⟩
                    rw [HE.out.1]
                    rw [HE.out.2.1] at h4
                    have H4 := Lib.hid h4; clear h4
                    go_wp2_with fail
                    refine (split_sep [] [] n [⟨p, q, sX⟩] 0 mask _ H4.out).mono ?_
                    rintro e w4' ⟨rfl, h4'⟩
                    have H4' := Lib.hid h4'; clear h4'
                    go_wp2_with fail
                    refine (deliver_sep [] [] n [⟨p, q, sX⟩] (bits .and .i64 mask 65535) 0 _ H4'.out (by simp)).mono ?_
                    rintro e w5 ⟨rfl, h5⟩
                    rw [HE.out.2.2.1, HE.out.2.2.2.1]
                    rw [HE.out.2.2.2.2.1] at h5
                    have H5 := Lib.hid h5; clear h5
                    go_wp2_with fail
                    refine (hear_sep [] [] n [] (bits .and .i64 mask 65535) p q true _ (H5.out.quiet (Turns.alloc [] _ _)) HE.out.2.2.2.2.2).mono ?_
                    rintro e w6 ⟨rfl, n6, rfl⟩
                    go_wp2_with fail
                    refine (heal_sep [] [] n [] (bits .and .i64 mask 65535) _ ((H5.out.quiet (Turns.alloc [] _ _)).quiet ((Turns.refl _ _).drewN n6))).mono ?_
                    rintro e w7 ⟨rfl, h7⟩
                    have H7 := Lib.hid h7; clear h7
                    go_wp2_with fail
                    go_roundw
                    case rel => exact ⟨q + 1, by omega, by go_num, H7⟩
                    case measure => simp [intOf]; omega
              · have hlt4 : (16 : Int) ≤ (q : Int) := by omega
                go_wp2_with fail
                go_roundw
                case rel => exact ⟨p + 1, by omega, by go_num, hsep2⟩
                case measure => simp [intOf]; omega
          · have hlt2 : (16 : Int) ≤ (p : Int) := by omega
            go_wp2_with fail
            refine (heal_sep [] [] n [] 0 _ hsep.out).mono ?_
            rintro e w3 ⟨rfl, h3⟩
            have H3 := Lib.hid h3; clear h3
            go_wp2_with fail
            go_loopw [15] (fun i wr => ∃ (k : Nat) (l : List Pkt), (k : Int) ≤ more ∧ i = .int .i64 k ∧ Hid (l.length = min k 500) ∧ Hid (Sep w wr [netThing 81 n l 0])) (fun i _ => more.toNat - (intOf i).toNat)
            case atStart => exact ⟨0, [], by omega, rfl, rfl, H3⟩
            case round =>
              obtain ⟨k, l, hk, rfl, hl, hsep2⟩ := hrel
              have hl5 : l.length ≤ 500 := by rw [hl.out]; omega
              by_cases hkm : (k : Int) < more
              · have f1 : isEnd (bits .and .i64 k 15) = true := by rw [and15]; exact isEnd_of _ (by omega) (by omega)
                have f2 : isEnd (bits .and .i64 (k + 1) 15) = true := by rw [and15]; exact isEnd_of _ (by omega) (by omega)
                have f3 : ¬ bits .and .i64 (k : Int) 15 = bits .and .i64 ((k : Int) + 1) 15 := by rw [and15, and15]; omega
                by_cases hk5 : k < 500
                · have e1 : sendCode l 0 (bits .and .i64 k 15) (bits .and .i64 (k + 1) 15) = 0 := by simp [sendCode, f1, f2, f3, hears_zero f1 f2]; rw [hl.out]; omega
                  have HE := Lib.hid e1; clear e1 f1 f2 f3
                  have hk6 : (k : Int) < 500 := by omega
                  go_wp2_with fail
                  refine (send_sep [] [] n l 0 _ _ sY _ hsep2.out (by omega)).mono ?_
                  rintro e w4 ⟨rfl, h4⟩
                  rw [HE.out]
                  rw [sendList, if_pos HE.out] at h4
                  have H4 := Lib.hid h4; clear h4
                  go_wp2_with fail
                  go_roundw
                  case rel => exact ⟨k + 1, _, by omega, by go_num, by show _ = _; rw [List.length_append, hl.out]; simp; omega, H4⟩
                  case measure => simp [intOf]; omega
                · have e1 : sendCode l 0 (bits .and .i64 k 15) (bits .and .i64 (k + 1) 15) = 6 := by simp [sendCode, f1, f2, f3, hears_zero f1 f2]; rw [hl.out]; omega
                  have HE := Lib.hid e1; clear e1 f1 f2 f3
                  have hk6 : (500 : Int) ≤ (k : Int) := by omega
                  go_wp2_with fail
                  refine (send_sep [] [] n l 0 _ _ sY _ hsep2.out (by omega)).mono ?_
                  rintro e w4 ⟨rfl, h4⟩
                  rw [HE.out]
                  rw [sendList, if_neg (by rw [HE.out]; decide)] at h4
                  have H4 := Lib.hid h4; clear h4
                  go_wp2_with fail
                  go_roundw
                  case rel => exact ⟨k + 1, _, by omega, by go_num, by show _ = _; rw [hl.out]; omega, H4⟩
                  case measure => simp [intOf]; omega
              · have hkm2 : more ≤ (k : Int) := by omega
                have hlen : Hid ((l.length : Int) = min more 500) := by show _ = _; have := hl.out; omega
                clear hl
                go_wp2_with fail
                refine (count_sep [] [] n l 0 _ hsep2.out).mono ?_
                rintro e w4 ⟨rfl, rfl⟩
                by_cases h5 : more < 500
                · have hl9 : l.length = more.toNat := by have := hlen.out; omega
                  rw [show (l.length : Int) = more by have := hlen.out; omega]
                  have hd5 : decide (more < 500) = true := decide_eq_true h5
                  go_wp2_with fail
                  refine (send_arg n (-1) 0 ⟨#[]⟩ _ (by decide)).mono ?_
                  rintro e w5 ⟨rfl, rfl⟩
                  go_wp2_with fail
                  refine (send_arg n 0 16 ⟨#[]⟩ _ (by decide)).mono ?_
                  rintro e w6 ⟨rfl, rfl⟩
                  go_wp2_with fail
                  go_ret
                  exact ⟨rfl, hsep2.out.below⟩
                · by_cases h6 : more = 500
                  · subst h6
                    have hl9 : l.length = 500 := by have := hlen.out; omega
                    rw [show (l.length : Int) = 500 by have := hlen.out; omega]
                    have hin : inList l 3 = true := by simp [inList, hl9]
                    have e1 : doubleCode l 3 = 6 := by simp [doubleCode, hin, hl9]
                    have HE := Lib.hid e1; clear e1 hin hl9
                    go_wp2_with fail
                    refine (double_sep [] [] n l 0 3 _ hsep2.out (by omega)).mono ?_
                    rintro e w4 ⟨rfl, h4⟩
                    rw [HE.out]
                    have H4 := Lib.hid h4; clear h4
                    go_wp2_with fail
                    refine (send_arg n (-1) 0 ⟨#[]⟩ _ (by decide)).mono ?_
                    rintro e w5 ⟨rfl, rfl⟩
                    go_wp2_with fail
                    refine (send_arg n 0 16 ⟨#[]⟩ _ (by decide)).mono ?_
                    rintro e w6 ⟨rfl, rfl⟩
                    go_wp2_with fail
                    go_ret
                    exact ⟨rfl, H4.out.below⟩
                  · have h7 : 500 < more := by omega
                    clear h6
                    have hl9 : l.length = 500 := by have := hlen.out; omega
                    rw [show (l.length : Int) = 500 by have := hlen.out; omega]
                    have hd5 : decide (more < 500) = false := decide_eq_false h5
                    have hin : inList l 3 = true := by simp [inList, hl9]
                    have e1 : doubleCode l 3 = 6 := by simp [doubleCode, hin, hl9]
                    have HE := Lib.hid e1; clear e1 hin hl9
                    go_wp2_with fail
                    refine (double_sep [] [] n l 0 3 _ hsep2.out (by omega)).mono ?_
                    rintro e w4 ⟨rfl, h4⟩
                    rw [HE.out]
                    have H4 := Lib.hid h4; clear h4
                    go_wp2_with fail
                    refine (send_arg n (-1) 0 ⟨#[]⟩ _ (by decide)).mono ?_
                    rintro e w5 ⟨rfl, rfl⟩
                    go_wp2_with fail
                    refine (send_arg n 0 16 ⟨#[]⟩ _ (by decide)).mono ?_
                    rintro e w6 ⟨rfl, rfl⟩
                    go_wp2_with fail
                    go_ret
                    exact ⟨rfl, H4.out.below⟩

end Go.Proofs.Ytmikjninonpejaa
