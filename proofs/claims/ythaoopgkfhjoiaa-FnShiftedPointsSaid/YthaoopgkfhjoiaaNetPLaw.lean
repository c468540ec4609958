/- The points of a net: the law. -/
import Derived.Test.YthaoopgkfhjoiaaNetPts
import Derived.Test.YthaoopgkfhjoiaaNetLaw
namespace Go.Proofs.Ythaoopgkfhjoiaa.NetP
open Go.RowKit Go.Proofs.Ythaoopgkfhjoiaa Go.Proofs.Ythaoopgkfhjoiaa.Base Go.Proofs.Ythaoopgkfhjoiaa.Mem Go.Proofs.Ythaoopgkfhjoiaa.Pts Go.Proofs.Ythaoopgkfhjoiaa.NetV Go.Proofs.Ythaoopgkfhjoiaa.RevNet Go.Proofs.Ythaoopgkfhjoiaa.Bits
set_option linter.unusedVariables false
def nptsL (bits : Int) (xss : List (List Int)) : List (List Int) := if netB bits xss = true then netL xss (2 ^ bits.toNat) else []
/-- lists of the call's own, and whether there are some -/
def RowsRet (R : List (List Int)) (ok : Bool) (w : World) (e : Ending) (w' : World) : Prop := ∃ A c us, e = .returned (.tuple #[.slice A R.length c, .bool ok]) ∧ OwnII w' w.heap.size (.slice A R.length c) R us ∧ Below w.heap.size w w'
theorem nptsL_bd (bits : Int) (xss : List (List Int)) : (nptsL bits xss).length ≤ 64 ∧ tot (nptsL bits xss) ≤ 256 := by
  unfold nptsL
  split
  · rename_i h
    obtain ⟨h1, h2, h3, h4, _⟩ := netB_true h
    have hp : 2 ^ bits.toNat ≤ 2 ^ 6 := Nat.pow_le_pow_right (by decide) (by omega)
    rw [netL_len, netL_tot]
    have : 2 ^ bits.toNat * xss.length ≤ 64 * 4 := Nat.mul_le_mul (by omega) h4
    omega
  · simp [tot]
theorem RowsRet.of_yes {b : Nat} {xss : List (List Int)} {w w' : World} {e : Ending} (hv : netB b xss = true) (h : NPts xss b w e w') : RowsRet (nptsL b xss) (netB b xss) w e w' := by
  obtain ⟨A, c, us, h1, h2, h3⟩ := h
  have e1 : nptsL b xss = netL xss (2 ^ b) := by rw [nptsL, if_pos hv]; simp
  have e2 : (nptsL b xss).length = 2 ^ b := by rw [e1, netL_len]
  exact ⟨A, c, us, by rw [e2, hv]; exact h1, by rw [e2, e1]; exact h2, h3⟩
theorem implNetPts_any (A : Option Addr) (c B : Nat) (bits : Int) (xss : List (List Int)) (w : World) (hx : RdII w B A xss) (hB : B ≤ w.heap.size) (hl : xss.length ≤ 1048576) (hm : tot xss ≤ 1048576) :
    Calls Try.prog 50 #[.agg #[.int .i64 bits, .slice A xss.length c]] w (RowsRet (nptsL bits xss) (netB bits xss) w) := by
  cases hv : netB bits xss with
  | false =>
    have hb0 : Below w.heap.size w (w.alloc (.cells #[.int .i64 bits, .slice A xss.length c] 66)) := (Below.refl _ _).alloc (Nat.le_refl _) _
    have HV := Lib.hid (implValidNet_any A c B bits xss _ (hx.below hb0 hB) (by simp; omega) hl hm)
    have HF := Lib.hid (show nptsL bits xss = [] by simp [nptsL, hv])
    have HB0 := Lib.hid hb0
    rw [hv] at HV
    clear hx hv hb0
    go_enter Try.func50, Try.ntmps50
    go_wp2_with fail
    refine HV.out.mono ?_
    rintro e w1 ⟨rfl, hb1⟩
    have HB1 := Lib.hid (HB0.out.trans (hb1.mono HB0.out.size))
    clear hb1
    go_wp2
    go_ret2
    rw [HF.out]
    exact ⟨none, 0, [], rfl, OwnII.nil _ _, HB1.out⟩
  | true =>
    obtain ⟨h1, h2, h3, h4, _⟩ := netB_true hv
    obtain ⟨b, rfl⟩ := Int.eq_ofNat_of_zero_le h1
    have := (implNetPts_yes A c B b xss w hx hB h4 (by omega) hv).mono fun e w' h => RowsRet.of_yes hv h
    rw [hv] at this
    exact this
theorem specNetPts_any (A : Option Addr) (c B : Nat) (bits : Int) (xss : List (List Int)) (w : World) (hx : RdII w B A xss) (hB : B ≤ w.heap.size) (hl : xss.length ≤ 1048576) (hm : tot xss ≤ 1048576) :
    Calls Try.prog 60 #[.agg #[.int .i64 bits, .slice A xss.length c]] w (RowsRet (nptsL bits xss) (netB bits xss) w) := by
  have hb0 : Below w.heap.size w (w.alloc (.cells #[.int .i64 bits, .slice A xss.length c] 66)) := (Below.refl _ _).alloc (Nat.le_refl _) _
  have HV := Lib.hid (l10Is_any w.heap.size A c B bits xss (w.alloc (.cells #[.int .i64 bits, .slice A xss.length c] 66)) (hx.below hb0 hB) (by go_simp) (by go_simp) hl hm)
  have HB0 := Lib.hid hb0
  cases hv : netB bits xss with
  | false =>
    have HF := Lib.hid (show nptsL bits xss = [] by simp [nptsL, hv])
    rw [hv] at HV
    clear hx hv hb0
    go_enter Try.func60, Try.ntmps60
    go_wp2_with fail
    refine HV.out.mono ?_
    rintro e w1 ⟨rfl, hD⟩
    have HB1 := Lib.hid (HB0.out.trans hD.below)
    clear hD
    go_wp2
    go_ret2
    rw [HF.out]
    exact ⟨none, 0, [], rfl, OwnII.nil _ _, HB1.out⟩
  | true =>
    obtain ⟨h1, h2, h3, h4, h5⟩ := netB_true hv
    obtain ⟨b, rfl⟩ := Int.eq_ofNat_of_zero_le h1
    have HY := Lib.hid (fun e w' (h : NPts xss b w e w') => RowsRet.of_yes hv h)
    obtain ⟨W0, hW0⟩ : ∃ W0, W0 = w.alloc (.cells #[.int .i64 b, .slice A xss.length c] 66) := ⟨_, rfl⟩
    have HX := Lib.hid (hx.below hb0 hB)
    have c0 : W0.cell? ⟨w.heap.size, 0, none⟩ = some (.int .i64 b) := by rw [hW0]; go_simp
    have c1 : W0.cell? ⟨w.heap.size, 1, none⟩ = some (.slice A xss.length c) := by rw [hW0]; go_simp
    have hw0 : W0.heap.size = w.heap.size + 1 := by rw [hW0]; simp
    rw [← hW0] at HV HB0 HX
    rw [hv] at HV HY
    have HW0 := Lib.hid hW0
    have hzz : w.heap.size < W0.heap.size := by omega
    have HP := Lib.hid (fun (w1 : World) (hD : Drawn W0 w1) => l10Points_any w.heap.size A c B b xss w1 (HX.out.below hD.below (Nat.le_refl _)) (by obtain ⟨m, rfl⟩ := hD; simp; omega) h4 (by omega) (by simpa using h5) (by obtain ⟨m, rfl⟩ := hD; simpa using hzz)
      ((hD.below (B := W0.heap.size)).cell (p := ⟨w.heap.size, 0, none⟩) hzz |>.trans c0) ((hD.below (B := W0.heap.size)).cell (p := ⟨w.heap.size, 1, none⟩) hzz |>.trans c1))
    clear hx hv hb0 hW0 hw0 h5
    go_enter Try.func60, Try.ntmps60
    go_wp2_with fail
    rw [← HW0.out]
    refine HV.out.mono ?_
    rintro e w1 ⟨rfl, hD⟩
    have HP1 := Lib.hid (HP.out w1 hD)
    have HB1 := Lib.hid (HB0.out.trans hD.below)
    clear hD
    go_wp2_with fail
    refine HP1.out.mono ?_
    rintro e w2 ⟨A2, c2, us2, rfl, o2, b2⟩
    have O2 := Lib.hid o2
    have B2 := Lib.hid b2
    clear o2 b2
    go_wp2
    go_ret2
    exact HY.out _ _ ⟨A2, c2, us2, rfl, O2.out.base HB1.out.size, Base.Below.nextA HB1.out B2.out⟩
set_option maxHeartbeats 4000000 in
set_option maxRecDepth 100000 in
theorem exactNetPoints_any (A : Option Addr) (c : Nat) (bits : Int) (xss : List (List Int)) (w : World) (hl : xss.length ≤ 9223372036854775807) (hl' : ∀ xs ∈ xss, xs.length ≤ 9223372036854775807) (hx : RdII w w.heap.size A xss) :
    Calls Try.prog 13 #[.agg #[.int .i64 bits, .slice A xss.length c]] w fun e w' => e = .returned (.bool true) ∧ Below w.heap.size w w' := by
  obtain ⟨W0, hW0⟩ : ∃ W0, W0 = w.alloc (.cells #[.int .i64 bits, .slice A xss.length c] 88) := ⟨_, rfl⟩
  have hb0 : Below w.heap.size w W0 := by rw [hW0]; exact (Below.refl _ _).alloc (Nat.le_refl _) _
  have hw0 : W0.heap.size = w.heap.size + 1 := by rw [hW0]; simp
  have c0 : W0.cell? ⟨w.heap.size, 0, none⟩ = some (.int .i64 bits) := by rw [hW0]; go_simp
  have c1 : W0.cell? ⟨w.heap.size, 1, none⟩ = some (.slice A xss.length c) := by rw [hW0]; go_simp
  have hzz : w.heap.size < W0.heap.size := by omega
  have HX := Lib.hid (hx.below hb0 (Nat.le_refl _))
  have hsz := Lib.hid (szNet_any A c w.heap.size bits 1048576 xss W0 HX.out (by omega) hl hl' (by omega) (by omega))
  have HB0 := Lib.hid hb0
  have HW0 := Lib.hid hW0
  have D0 := Lib.hid (fun (W : World) (hW : Below W0.heap.size W0 W) => (hW.cell (p := ⟨w.heap.size, 0, none⟩) hzz).trans c0)
  have D1 := Lib.hid (fun (W : World) (hW : Below W0.heap.size W0 W) => (hW.cell (p := ⟨w.heap.size, 1, none⟩) hzz).trans c1)
  have HL := Lib.hid hl'
  obtain ⟨hR1, hR2⟩ := nptsL_bd bits xss
  clear hx hl' hb0 hW0 hw0 c0 c1
  go_enter Try.func13, Try.ntmps13
  go_wp2_with fail
  rw [← HW0.out]
  refine hsz.out.mono ?_
  rintro e w1 ⟨r, rfl, hr, b1⟩
  have B1 := Lib.hid b1
  clear b1
  have d0 := D0.out w1 B1.out
  have d1 := D1.out w1 B1.out
  rcases hr with rfl | ⟨hr0, hr1⟩
  · clear d0 d1
    go_wp2
    go_ret
    exact ⟨rfl, HB0.out.trans (B1.out.mono (Nat.le_of_lt hzz))⟩
  · have hl1 : xss.length ≤ 1048576 := by omega
    have ht1 : tot xss ≤ 1048576 := by omega
    clear hr1
    have CT : Hid (∀ (W : World), Below W0.heap.size W0 W → Calls Try.prog 61 #[.agg #[.int .i64 bits, .slice A xss.length c]] W (ToNetRet bits xss W)) :=
      Lib.hid fun W hW => toNet_any A c w.heap.size bits xss W (HX.out.below hW (by omega)) (Nat.le_trans (Nat.le_of_lt hzz) hW.size) hl1 ht1
    have HS := Lib.hid (fun A c B W hx hB => specNetPts_any A c B bits xss W hx hB hl1 ht1)
    have HI := Lib.hid (fun A c B W hx hB => implNetPts_any A c B bits xss W hx hB hl1 ht1)
    generalize nptsL bits xss = R at *
    generalize netB bits xss = ok at *
    have hok : (ok != ok) = false := by simp
    -- the reference
    go_wp2_with fail
    refine (CT.out w1 B1.out).mono ?_
    rintro e w2 ⟨g2, us2, rfl, o2, b2⟩
    have B2 := Lib.hid (Base.Below.nextA B1.out b2)
    have S2 := Lib.hid (HS.out (some ⟨g2, 0, none⟩) xss.length _ w2 o2.rd (Nat.le_refl _))
    clear o2 b2
    go_wp2_with fail
    refine S2.out.mono ?_
    rintro e w3 ⟨A3, c3, us3, rfl, o3, b3⟩
    have B3 := Lib.hid (Base.Below.nextA B2.out b3)
    have O3 := Lib.hid o3
    have R3 := Lib.hid o3.rd
    clear b3 o3 d0 d1
    have d0 := D0.out w3 B3.out
    have d1 := D1.out w3 B3.out
    -- the program
    go_wp2_with fail
    refine (CT.out w3 B3.out).mono ?_
    rintro e w4 ⟨g4, us4, rfl, o4, b4⟩
    have B4 := Lib.hid (Base.Below.nextA B3.out b4)
    have O4 := Lib.hid o4
    have O34 := Lib.hid (O3.out.below b4)
    have hs34 := b4.size
    have X34 := Lib.hid b4
    have hs03 := B3.out.size
    clear o4 b4 d0 d1
    obtain ⟨W4, hW4⟩ : ∃ W4, W4 = w4.alloc (.cells #[.int .i64 bits, .slice (some ⟨g4, 0, none⟩) xss.length xss.length] 66) := ⟨_, rfl⟩
    have K4 := Lib.hid (show RevNet.Box W4 w4.heap.size bits (.slice (some ⟨g4, 0, none⟩) xss.length xss.length) by rw [hW4]; exact RevNet.Box.new _ _ _)
    have X4 := Lib.hid (show Below w4.heap.size w4 W4 by rw [hW4]; exact (Below.refl _ _).alloc (Nat.le_refl _) _)
    have hz4 : W4.heap.size = w4.heap.size + 1 := by rw [hW4]; simp
    have HW4 := Lib.hid hW4
    have S5 := Lib.hid (HI.out (some ⟨g4, 0, none⟩) xss.length w4.heap.size W4 (O4.out.rd.below X4.out (Nat.le_refl _)) (by omega))
    have hz4' : w4.heap.size < W4.heap.size := by omega
    clear hW4 hz4
    go_wp2_with fail
    rw [← HW4.out]
    refine S5.out.mono ?_
    rintro e w6 ⟨A6, c6, us6, rfl, o6, b6⟩
    have O6 := Lib.hid o6
    have X6 := Lib.hid (Base.Below.nextA X4.out b6)
    have K6 := Lib.hid (K4.out.below b6)
    have B6 := Lib.hid (Base.Below.nextA B4.out X6.out)
    have Y6 := Lib.hid (Base.Below.nextA X34.out X6.out)
    have O46 := Lib.hid (O4.out.below X6.out)
    have O36 := Lib.hid (O34.out.below X6.out)
    have hs6 := b6.size
    clear o6 b6
    -- the results are alike
    go_wp2_with fail
    refine (eqII_yes A6 A3 c6 c3 _ _ R w6 O6.out.rd O36.out.rd (by omega) (by omega)).mono ?_
    rintro e w7 ⟨rfl, n7, e7⟩
    have x7 : Below w6.heap.size w6 w7 := by rw [e7]; exact below_drewN (Below.refl _ _) _
    have hs7 : w7.heap.size = w6.heap.size := by rw [e7]; simp
    have B7 := Lib.hid (Base.Below.nextA B6.out x7)
    have Y7 := Lib.hid (Base.Below.nextA Y6.out x7)
    have O67 := Lib.hid (O6.out.below x7)
    have O47 := Lib.hid (O46.out.below x7)
    have O37 := Lib.hid (O36.out.below x7)
    have K7 := Lib.hid (K6.out.below x7)
    clear x7 e7
    -- the argument is as it was
    have d0 := D0.out w7 B7.out
    have d1 := D1.out w7 B7.out
    have q0 := K7.out.c0
    have q1 := K7.out.c1
    have hz4 : w4.heap.size < w7.heap.size := K7.out.lt
    have hz0 : w.heap.size < w7.heap.size := by have := B7.out.size; omega
    have CE : Hid (∀ (W8 : World) (g8 : Nat) (us8 : List Value), Below w7.heap.size w7 W8 → OwnII W8 w7.heap.size (.slice (some ⟨g8, 0, none⟩) xss.length xss.length) xss us8 →
        Calls Try.prog 46 #[.agg #[.int .i64 bits, .slice (some ⟨g4, 0, none⟩) xss.length xss.length], .agg #[.int .i64 bits, .slice (some ⟨g8, 0, none⟩) xss.length xss.length]] W8 fun e w' => e = .returned (.bool true) ∧ Below W8.heap.size W8 w') :=
      Lib.hid fun W8 g8 us8 hb8 o8 => eqNet_yes _ _ _ _ W8.heap.size W8.heap.size bits xss W8 (O47.out.below hb8).rd o8.rd (Nat.le_refl _) (Nat.le_refl _) (by omega) (by omega)
    have CT7 : Hid (∀ (W : World), Below w7.heap.size w7 W → Calls Try.prog 61 #[.agg #[.int .i64 bits, .slice A xss.length c]] W fun e w' => ∃ g us, e = .returned (.agg #[.int .i64 bits, .slice (some ⟨g, 0, none⟩) xss.length xss.length]) ∧ OwnII w' w7.heap.size (.slice (some ⟨g, 0, none⟩) xss.length xss.length) xss us ∧ Below w7.heap.size w7 w') :=
      Lib.hid fun W hW => (CT.out W (B7.out.trans (hW.mono B7.out.size))).mono fun e w' ⟨g, us, h1, h2, h3⟩ => ⟨g, us, h1, h2.base hW.size, Base.Below.nextA hW h3⟩
    go_wp2_with fail
    go_region_with (first | (go_at_call 61; refine (CT7.out _ (by first | exact Below.refl _ _ | exact (Below.refl _ _).drew | exact below_drewN (Below.refl _ _) _)).mono ?_; rintro e w8 ⟨g8, us8, rfl, o8, b8⟩; have q0' := (b8.cell (p := ⟨w4.heap.size, 0, none⟩) hz4).trans q0; have q1' := (b8.cell (p := ⟨w4.heap.size, 1, none⟩) hz4).trans q1; have d0' := (b8.cell (p := ⟨w.heap.size, 0, none⟩) hz0).trans d0; have d1' := (b8.cell (p := ⟨w.heap.size, 1, none⟩) hz0).trans d1) | (go_at_call 46; refine (CE.out _ g8 us8 b8 o8).mono ?_; rintro e w9 ⟨rfl, b9⟩))
    all_goals
      have x9 := Base.Below.nextA b8 b9
      have K9 := Lib.hid (K7.out.below x9)
      have O49 := Lib.hid (O47.out.below x9)
      have O69 := Lib.hid (O67.out.below x9)
      have Y9 := Lib.hid (Base.Below.nextA Y7.out x9)
      have B9 := Lib.hid (Base.Below.nextA B7.out x9)
      have hs9 := x9.size
      clear b8 b9 o8 x9 q0 q1 q0' q1' d0 d1 d0' d1' CE CT7
      have q0 := K9.out.c0
      have q1 := K9.out.c1
      -- the argument is marked
      go_wp2_with fail
      refine (markNet_more (some ⟨g4, 0, none⟩) xss.length w3.heap.size 1 bits xss us4 _ O49.out (by omega) (by omega) (by omega)).mono ?_
      rintro e w10 ⟨rfl, _, b10, m10⟩
      have ha := m10.abv w4.heap.size (fun i g hi hg => O4.out.fits i g hi hg)
      have O610 := Lib.hid (O69.out.above (fun g h1 h2 => ha g (by omega) h2))
      have Y10 := Lib.hid (Y9.out.trans b10)
      have B10 := Lib.hid (B9.out.trans (b10.mono (by omega)))
      have hs10 := b10.size
      clear ha b10 m10 q0 q1 O49 O69 K9
      have hk10 : 1 + tot xss ≤ 1099511627776 := by omega
      -- the results are as they were
      go_wp2_with fail
      refine (eqII_yes A6 A3 c6 c3 _ _ R w10 O610.out.rd (R3.out.below Y10.out (Nat.le_refl _)) (by omega) (by omega)).mono ?_
      rintro e w11 ⟨rfl, n11, e11⟩
      have x11 : Below w10.heap.size w10 w11 := by rw [e11]; exact below_drewN (Below.refl _ _) _
      have O611 := Lib.hid (O610.out.below x11)
      have Y11 := Lib.hid (Base.Below.nextA Y10.out x11)
      have B11 := Lib.hid (Base.Below.nextA B10.out x11)
      have hs11 := x11.size
      clear x11 e11 O610
      -- the result is marked, and held
      go_wp2_with fail
      refine (markII_any A6 c6 W4.heap.size 1 R us6 w11 O611.out (by omega) (by omega) (by omega)).mono ?_
      rintro e w12 ⟨rfl, o12, b12⟩
      have O12 := Lib.hid o12
      have Y12 := Lib.hid (Y11.out.trans (b12.mono (by omega)))
      have B12 := Lib.hid (B11.out.trans (b12.mono (by omega)))
      have hs12 := b12.size
      clear o12 b12 O611
      have hk12 : 1 + tot R ≤ 1099511627776 := by omega
      go_wp2_with fail
      refine (heldII_yes A6 c6 _ 1 R w12 (by have := O12.out; rw [← mk_len 1 R] at this; exact this.rd) (by omega) (by omega)).mono ?_
      rintro e w' ⟨rfl, rfl⟩
      have d0 := D0.out w12 B12.out
      have d1 := D1.out w12 B12.out
      -- another call
      go_wp2_with fail
      refine (CT.out w12 B12.out).mono ?_
      rintro e w13 ⟨g13, us13, rfl, o13, b13⟩
      have S13 := Lib.hid (HI.out (some ⟨g13, 0, none⟩) xss.length _ w13 o13.rd (Nat.le_refl _))
      have B13 := Lib.hid b13
      clear o13 b13 d0 d1
      go_wp2_with fail
      refine S13.out.mono ?_
      rintro e w14 ⟨A14, c14, us14, rfl, o14, b14⟩
      have O14 := Lib.hid o14
      have B14 := Lib.hid (Base.Below.nextA B13.out b14)
      clear o14 b14
      go_wp2_with fail
      refine (eqII_yes A14 A3 c14 c3 _ _ R w14 O14.out.rd (R3.out.below (Base.Below.nextA Y12.out B14.out) (Nat.le_refl _)) (by omega) (by omega)).mono ?_
      rintro e w15 ⟨rfl, n15, e15⟩
      have B15 := Lib.hid (show Below w12.heap.size w12 w15 by rw [e15]; exact below_drewN B14.out _)
      clear e15
      go_wp2_with fail
      refine (heldII_yes A6 c6 _ 1 R w15 (by have := O12.out.below B15.out; rw [← mk_len 1 R] at this; exact this.rd) (by omega) (by omega)).mono ?_
      rintro e w' ⟨rfl, rfl⟩
      go_wp2
      go_ret
      exact ⟨rfl, HB0.out.trans ((Base.Below.nextA B12.out B15.out).mono (Nat.le_of_lt hzz))⟩
theorem exactNetPoints_v {w : World} {v : Value} (h : Open.IsNet w v) : Calls Try.prog 13 #[v] w fun e w' => e = .returned (.bool true) ∧ Below w.heap.size w w' := by
  obtain ⟨bits, A, c, xss, rfl, hl, hl', hx⟩ := h.ex
  exact exactNetPoints_any A c bits xss w hl hl' hx
end Go.Proofs.Ythaoopgkfhjoiaa.NetP
