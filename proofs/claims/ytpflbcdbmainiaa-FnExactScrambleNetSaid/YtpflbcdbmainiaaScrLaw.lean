/- The law on a net whose side is mixed. -/
import Derived.Test.YtpflbcdbmainiaaScrS
import Derived.Test.YtpflbcdbmainiaaScrJ
import Derived.Test.YtpflbcdbmainiaaNetLaw
namespace Go.Proofs.Ytpflbcdbmainiaa.Scr
open Go.RowKit Go.Proofs.Ytpflbcdbmainiaa Go.Proofs.Ytpflbcdbmainiaa.Base Go.Proofs.Ytpflbcdbmainiaa.Mem Go.Proofs.Ytpflbcdbmainiaa.AllIn Go.Proofs.Ytpflbcdbmainiaa.Pts Go.Proofs.Ytpflbcdbmainiaa.NetV Go.Proofs.Ytpflbcdbmainiaa.RevNet Go.Proofs.Ytpflbcdbmainiaa.Cpy Go.Proofs.Ytpflbcdbmainiaa.Shift
set_option linter.unusedVariables false
theorem tot_le : ∀ (L : List (List Int)) (m : Nat), (∀ xs ∈ L, xs.length ≤ m) → tot L ≤ m * L.length
  | [], m, _ => by simp [tot]
  | x :: L, m, h => by
    have h1 := tot_le L m fun xs hx => h xs (by simp [hx])
    have h2 := h x (by simp)
    rw [tot_cons, List.length_cons, Nat.mul_add]
    omega
theorem scL_small {bits side : Int} {xss : List (List Int)} {lower : List Int} (h : scB bits xss side lower = true) : (scL xss side.toNat lower).length ≤ 4 ∧ tot (scL xss side.toNat lower) ≤ 24 := by
  simp only [scB, Bool.and_eq_true, decide_eq_true_eq] at h
  obtain ⟨n1, n2, n3, n4, n5⟩ := netB_true h.1
  have hl : lower.length ≤ 6 := by omega
  have h4 : (scL xss side.toNat lower).length ≤ 4 := by rw [scL_len]; exact n4
  refine ⟨h4, ?_⟩
  have h6 : ∀ xs ∈ scL xss side.toNat lower, xs.length ≤ 6 := by
    intro xs hx
    unfold scL at hx
    obtain ⟨d, hd, rfl⟩ := List.mem_map.1 hx
    have hd' := List.mem_range.1 hd
    obtain ⟨r1, _⟩ := row_at n5 hd'
    split
    · rw [mixR_len]; exact hl
    · rw [r1]; omega
  have := tot_le _ 6 h6
  omega
theorem sc_both (bits side : Int) (xss : List (List Int)) (lower : List Int) : ∃ bits' ok R, R.length ≤ 4 ∧ tot R ≤ 24 ∧ ∀ w e w', ScRet bits xss side lower w e w' → GNetRet bits' ok R w e w' := by
  cases h : scB bits xss side lower with
  | false => exact ⟨0, false, [], by simp, by simp [tot], fun w e w' hr => GNetRet.of_no (hr.2 h)⟩
  | true => exact ⟨bits, true, _, (scL_small h).1, (scL_small h).2, fun w e w' hr => hr.1 h⟩
set_option maxHeartbeats 4000000 in
set_option maxRecDepth 100000 in
theorem exactSc_any (A A' : Option Addr) (c c' : Nat) (bits side : Int) (xss : List (List Int)) (lower : List Int) (w : World) (hl : xss.length ≤ 9223372036854775807) (hl' : ∀ xs ∈ xss, xs.length ≤ 9223372036854775807) (hx : RdII w w.heap.size A xss) (hl2 : lower.length ≤ 9223372036854775807) (hy : RdI w w.heap.size A' lower) :
    Calls Try.prog 6 #[.agg #[.int .i64 bits, .slice A xss.length c], .int .i64 side, .slice A' lower.length c'] w fun e w' => e = .returned (.bool true) ∧ Below w.heap.size w w' := by
  obtain ⟨W0, hW0⟩ : ∃ W0, W0 = w.alloc (.cells #[.int .i64 bits, .slice A xss.length c] 54) := ⟨_, rfl⟩
  have hb0 : Below w.heap.size w W0 := by rw [hW0]; exact (Below.refl _ _).alloc (Nat.le_refl _) _
  have hzz : w.heap.size < W0.heap.size := by rw [hW0]; simp
  have D0 := Lib.hid (fun (W : World) (hW : Below W0.heap.size W0 W) => (show W.cell? ⟨w.heap.size, 0, none⟩ = some (.int .i64 bits) from (hW.cell (p := ⟨w.heap.size, 0, none⟩) hzz).trans (by rw [hW0]; go_simp)))
  have D1 := Lib.hid (fun (W : World) (hW : Below W0.heap.size W0 W) => (show W.cell? ⟨w.heap.size, 1, none⟩ = some (.slice A xss.length c) from (hW.cell (p := ⟨w.heap.size, 1, none⟩) hzz).trans (by rw [hW0]; go_simp)))
  have HB0 := Lib.hid hb0
  have HW0 := Lib.hid hW0
  by_cases hlow : lower.length ≤ 1048576
  case neg =>
    have hgt : (1048576 : Int) < (lower.length : Int) := by omega
    clear hx hy hl'
    go_enter Try.func6, Try.ntmps6
    go_wp2
    go_ret
    rw [← HW0.out]
    exact ⟨rfl, HB0.out⟩
  have hsz := Lib.hid (szNet_any A c w.heap.size bits 1048576 xss W0 (hx.below hb0 (Nat.le_refl _)) (by omega) hl hl' (by omega) (by omega))
  have HX := Lib.hid (hx.below hb0 (Nat.le_refl _))
  have HY := Lib.hid (hy.below hb0 (Nat.le_refl _))
  obtain ⟨bits', ok, R, hR1, hR2, hboth⟩ := sc_both bits side xss lower
  have HBoth := Lib.hid hboth
  clear hx hy hl' hb0 hW0 hboth
  go_enter Try.func6, Try.ntmps6
  go_wp2_with fail
  rw [← HW0.out]
  refine hsz.out.mono ?_
  rintro e w1 ⟨r, rfl, hr, b1⟩
  have B1 := Lib.hid b1
  clear b1
  have d0 := D0.out w1 B1.out
  have d1 := D1.out w1 B1.out
  rcases hr with rfl | ⟨hr0, hr1⟩
  · clear d0 d1
    go_wp2
    go_ret
    exact ⟨rfl, HB0.out.trans (B1.out.mono (by omega))⟩
  have hl1 : xss.length ≤ 1048576 := by omega
  have ht1 : tot xss ≤ 1048576 := by omega
  clear hr1
  have CT := Lib.hid (fun (W : World) (hW : Below W0.heap.size W0 W) => toNet_any A c w.heap.size bits xss W (HX.out.below hW (by omega)) (by have := hW.size; omega) hl1 ht1)
  have CI := Lib.hid (fun (W : World) (hW : Below W0.heap.size W0 W) => toI_any A' c' w.heap.size lower W (HY.out.below hW (by omega)) (by have := hW.size; omega) hlow)
  have HS := Lib.hid (fun (A A' : Option Addr) (c c' B : Nat) (W : World) hx hy hB => (specSc_any A A' c c' B bits side xss lower W hx hy hB hl1 ht1 hlow).mono fun e w' h => HBoth.out _ _ _ h)
  have HI := Lib.hid (fun (A A' : Option Addr) (c c' B : Nat) (W : World) hx hy hB => (implSc_any A A' c c' B bits side xss lower W hx hy hB hl1 ht1 hlow).mono fun e w' h => HBoth.out _ _ _ h)
  have hok : (ok != ok) = false := by simp
  -- the reference
  go_wp2_with fail
  refine (CT.out w1 B1.out).mono ?_
  rintro e w2 ⟨g2, us2, rfl, o2, b2⟩
  have B2 := Lib.hid (Base.Below.nextA B1.out b2)
  have O2 := Lib.hid o2
  clear o2 b2 d0 d1
  go_wp2_with fail
  refine (CI.out w2 B2.out).mono ?_
  rintro e w3 ⟨g3, rfl, o3, b3⟩
  have B3 := Lib.hid (Base.Below.nextA B2.out b3)
  have S3 := Lib.hid (HS.out (some ⟨g2, 0, none⟩) (some ⟨g3, 0, none⟩) xss.length lower.length w3.heap.size w3 (O2.out.below b3).rd o3.rd (Nat.le_refl _))
  clear o3 b3
  go_wp2_with fail
  refine S3.out.mono ?_
  rintro e w4 ⟨A4, c4, us4, rfl, o4, b4⟩
  have B4 := Lib.hid (Base.Below.nextA B3.out b4)
  have O4 := Lib.hid o4
  have hz4 : w.heap.size < w4.heap.size := by have := B4.out.size; omega
  clear o4 b4
  have d0 := D0.out w4 B4.out
  have d1 := D1.out w4 B4.out
  go_wp2_with fail
  clear d0 d1
  obtain ⟨W4, hW4⟩ : ∃ x, x = w4.alloc (.cells #[.int .i64 bits', .slice A4 R.length c4] 57) := ⟨_, rfl⟩
  have XW4 := Lib.hid (show Below w4.heap.size w4 W4 by rw [hW4]; exact (Below.refl _ _).alloc (Nat.le_refl _) _)
  have K4 := Lib.hid (show Box W4 w4.heap.size bits' (.slice A4 R.length c4) by rw [hW4]; exact Box.new _ _ _)
  have zW4 : w4.heap.size < W4.heap.size := by rw [hW4]; simp
  rw [← hW4]
  clear hW4
  have C4 := Lib.hid (Base.Below.nextA B4.out XW4.out)
  have R4 := Lib.hid (O4.out.below XW4.out).rd
  -- the program's arguments
  refine (CT.out W4 C4.out).mono ?_
  rintro e w5 ⟨g5, us5, rfl, o5, b5⟩
  have B5 := Lib.hid (Base.Below.nextA C4.out b5)
  have Y5 := Lib.hid b5
  have O5 := Lib.hid o5
  have hs5 := b5.size
  clear o5 b5
  go_wp2_with fail
  obtain ⟨W5, hW5⟩ : ∃ x, x = w5.alloc (.cells #[.int .i64 bits, .slice (some ⟨g5, 0, none⟩) xss.length xss.length] 57) := ⟨_, rfl⟩
  have XW5 := Lib.hid (show Below w5.heap.size w5 W5 by rw [hW5]; exact (Below.refl _ _).alloc (Nat.le_refl _) _)
  have K5 := Lib.hid (show Box W5 w5.heap.size bits (.slice (some ⟨g5, 0, none⟩) xss.length xss.length) by rw [hW5]; exact Box.new _ _ _)
  have zW5 : w5.heap.size < W5.heap.size := by rw [hW5]; simp
  rw [← hW5]
  clear hW5
  have C5 := Lib.hid (Base.Below.nextA B5.out XW5.out)
  have V5 := Lib.hid (Base.Below.nextA Y5.out XW5.out)
  have P5 := Lib.hid (O5.out.below XW5.out)
  refine (CI.out W5 C5.out).mono ?_
  rintro e w6 ⟨g6, rfl, o6, b6⟩
  have B6 := Lib.hid (Base.Below.nextA C5.out b6)
  have V6 := Lib.hid (Base.Below.nextA V5.out b6)
  have O6 := Lib.hid o6
  have P6 := Lib.hid (P5.out.below b6)
  have K56 := Lib.hid (K5.out.below b6)
  have hs6 := b6.size
  clear o6 b6
  have S6 := Lib.hid (HI.out (some ⟨g5, 0, none⟩) (some ⟨g6, 0, none⟩) xss.length lower.length w6.heap.size w6 P6.out.rd O6.out.rd (Nat.le_refl _))
  have q0 := K56.out.c0
  have q1 := K56.out.c1
  go_wp2_with fail
  refine S6.out.mono ?_
  rintro e w7 ⟨A7, c7, us7, rfl, o7, b7⟩
  have B7 := Lib.hid (Base.Below.nextA B6.out b7)
  have V7 := Lib.hid (Base.Below.nextA V6.out b7)
  have O7 := Lib.hid o7
  have P7 := Lib.hid (P6.out.below b7)
  have O67 := Lib.hid (ownsRow_below O6.out b7)
  have K57 := Lib.hid (K56.out.below b7)
  have K47 := Lib.hid (K4.out.below V7.out)
  have hs7 := b7.size
  have hk4 := K47.out.lt
  have hk5 := K57.out.lt
  clear o7 b7 q0 q1
  have q0 := K47.out.c0
  have q1 := K47.out.c1
  go_wp2_with fail
  clear q0 q1
  obtain ⟨W7, hW7⟩ : ∃ x, x = w7.alloc (.cells #[.int .i64 bits', .slice A7 R.length c7] 57) := ⟨_, rfl⟩
  have XW7 := Lib.hid (show Below w7.heap.size w7 W7 by rw [hW7]; exact (Below.refl _ _).alloc (Nat.le_refl _) _)
  have K7 := Lib.hid (show Box W7 w7.heap.size bits' (.slice A7 R.length c7) by rw [hW7]; exact Box.new _ _ _)
  have zW7 : w7.heap.size < W7.heap.size := by rw [hW7]; simp
  rw [← hW7]
  clear hW7
  have C7 := Lib.hid (Base.Below.nextA B7.out XW7.out)
  have V8 := Lib.hid (Base.Below.nextA V7.out XW7.out)
  have Q7 := Lib.hid (O7.out.below XW7.out)
  have P8 := Lib.hid (P7.out.below XW7.out)
  have O68 := Lib.hid (ownsRow_below O67.out XW7.out)
  have K58 := Lib.hid (K57.out.below XW7.out)
  have K48 := Lib.hid (K47.out.below XW7.out)
  -- the results are alike
  refine (eqNet_yes A7 A4 c7 c4 W7.heap.size W4.heap.size bits' R W7 Q7.out.rd (RdII.below (R4.out) V8.out (Nat.le_refl _)) (Nat.le_refl _) (by have := V8.out.size; omega) (by omega) (by omega)).mono ?_
  rintro e w8 ⟨rfl, b8⟩
  have B8 := Lib.hid (Base.Below.nextA C7.out b8)
  have V9 := Lib.hid (Base.Below.nextA V8.out b8)
  have Q8 := Lib.hid (Q7.out.below b8)
  have P9 := Lib.hid (P8.out.below b8)
  have O69 := Lib.hid (ownsRow_below O68.out b8)
  have K59 := Lib.hid (K58.out.below b8)
  have K49 := Lib.hid (K48.out.below b8)
  have K79 := Lib.hid (K7.out.below b8)
  have hs8 := b8.size
  clear b8
  -- the first argument is as it was
  have d0 := D0.out w8 B8.out
  have d1 := D1.out w8 B8.out
  have q0 := K59.out.c0
  have q1 := K59.out.c1
  have hz8 : w5.heap.size < w8.heap.size := K59.out.lt
  have hz0 : w.heap.size < w8.heap.size := by have := B8.out.size; omega
  have CE : Hid (∀ (W9 : World) (g9 : Nat) (us9 : List Value), Below w8.heap.size w8 W9 → OwnII W9 w8.heap.size (.slice (some ⟨g9, 0, none⟩) xss.length xss.length) xss us9 →
      Calls Try.prog 33 #[.agg #[.int .i64 bits, .slice (some ⟨g5, 0, none⟩) xss.length xss.length], .agg #[.int .i64 bits, .slice (some ⟨g9, 0, none⟩) xss.length xss.length]] W9 fun e w' => e = .returned (.bool true) ∧ Below W9.heap.size W9 w') :=
    Lib.hid fun W9 g9 us9 hb9 o9 => eqNet_yes _ _ _ _ W9.heap.size W9.heap.size bits xss W9 (P9.out.below hb9).rd o9.rd (Nat.le_refl _) (Nat.le_refl _) (by omega) (by omega)
  have CT8 : Hid (∀ (W : World), Below w8.heap.size w8 W → Calls Try.prog 30 #[.agg #[.int .i64 bits, .slice A xss.length c]] W fun e w' => ∃ g us, e = .returned (.agg #[.int .i64 bits, .slice (some ⟨g, 0, none⟩) xss.length xss.length]) ∧ OwnII w' w8.heap.size (.slice (some ⟨g, 0, none⟩) xss.length xss.length) xss us ∧ Below w8.heap.size w8 w') :=
    Lib.hid fun W hW => (CT.out W (B8.out.trans (hW.mono B8.out.size))).mono fun e w' ⟨g, us, h1, h2, h3⟩ => ⟨g, us, h1, h2.base hW.size, Base.Below.nextA hW h3⟩
  go_wp2_with fail
  go_region_with (first | (go_at_call 30; refine (CT8.out _ (by first | exact Below.refl _ _ | exact (Below.refl _ _).drew | exact below_drewN (Below.refl _ _) _)).mono ?_; rintro e w9 ⟨g9, us9, rfl, o9, b9⟩; have q0' := (b9.cell (p := ⟨w5.heap.size, 0, none⟩) hz8).trans q0; have q1' := (b9.cell (p := ⟨w5.heap.size, 1, none⟩) hz8).trans q1; have d0' := (b9.cell (p := ⟨w.heap.size, 0, none⟩) hz0).trans d0; have d1' := (b9.cell (p := ⟨w.heap.size, 1, none⟩) hz0).trans d1) | (go_at_call 33; refine (CE.out _ g9 us9 b9 o9).mono ?_; rintro e w10 ⟨rfl, b10⟩))
  all_goals
    have x10 := Base.Below.nextA b9 b10
    have B10 := Lib.hid (Base.Below.nextA B8.out x10)
    have V10 := Lib.hid (Base.Below.nextA V9.out x10)
    have Q10 := Lib.hid (Q8.out.below x10)
    have P10 := Lib.hid (P9.out.below x10)
    have O610 := Lib.hid (ownsRow_below O69.out x10)
    have K510 := Lib.hid (K59.out.below x10)
    have K410 := Lib.hid (K49.out.below x10)
    have K710 := Lib.hid (K79.out.below x10)
    have hs10 := x10.size
    clear b9 b10 o9 x10 q0 q1 q0' q1' d0 d1 d0' d1' CE CT8
    -- the second argument is as it was
    go_wp2_with fail
    refine (CI.out w10 B10.out).mono ?_
    rintro e w11 ⟨g11, rfl, o11, b11⟩
    have B11 := Lib.hid (Base.Below.nextA B10.out b11)
    have V11 := Lib.hid (Base.Below.nextA V10.out b11)
    have Q11 := Lib.hid (Q10.out.below b11)
    have P11 := Lib.hid (P10.out.below b11)
    have O611 := Lib.hid (ownsRow_below O610.out b11)
    have K511 := Lib.hid (K510.out.below b11)
    have K411 := Lib.hid (K410.out.below b11)
    have K711 := Lib.hid (K710.out.below b11)
    have O11 := Lib.hid o11
    have hs11 := b11.size
    clear o11 b11
    go_wp2_with fail
    refine (eqI_yes _ _ _ _ _ _ lower w11 (OwnI.rd O611.out) O11.out.rd (by omega)).mono ?_
    rintro e w12 ⟨rfl, n12, e12⟩
    have x12 : Below w11.heap.size w11 w12 := by rw [e12]; exact below_drewN (Below.refl _ _) _
    have B12 := Lib.hid (Base.Below.nextA B11.out x12)
    have V12 := Lib.hid (Base.Below.nextA V11.out x12)
    have Q12 := Lib.hid (Q11.out.below x12)
    have P12 := Lib.hid (P11.out.below x12)
    have O612 := Lib.hid (ownsRow_below O611.out x12)
    have K512 := Lib.hid (K511.out.below x12)
    have K412 := Lib.hid (K411.out.below x12)
    have K712 := Lib.hid (K711.out.below x12)
    have hs12 := x12.size
    clear e12 x12
    -- the arguments are marked
    have q0 := K512.out.c0
    have q1 := K512.out.c1
    go_wp2_with fail
    clear q0 q1
    refine (markNet_more (some ⟨g5, 0, none⟩) xss.length W4.heap.size 1 bits xss us5 w12 P12.out (by have := V12.out.size; omega) (by omega) (by omega)).mono ?_
    rintro e w13 ⟨rfl, _, b13, m13⟩
    have a13 := m13.abv w5.heap.size (fun i g hi hg => O5.out.fits i g hi hg)
    have B13 := Lib.hid (B12.out.trans (b13.mono (by have := C4.out.size; omega)))
    have V13 := Lib.hid (V12.out.trans b13)
    have Q13 := Lib.hid (Q12.out.above (fun g h1 h2 => a13 g (by omega) h2))
    have O613 := Lib.hid (ownsRow_above O612.out (fun g h1 h2 => a13 g (by omega) h2))
    have K513 := Lib.hid (K512.out.kept m13.not)
    have K413 := Lib.hid (K412.out.kept m13.not)
    have K713 := Lib.hid (K712.out.kept m13.not)
    have hs13 := b13.size
    clear a13 b13 m13
    go_wp2_with fail
    refine (markI_any (some ⟨g6, 0, none⟩) lower.length W5.heap.size (1 + tot xss) lower.length lower w13 rfl O613.out (by omega)).mono ?_
    rintro e w14 ⟨rfl, q14, g14⟩
    have b14 : Below W5.heap.size w13 w14 := grown_below g14 (fun q hq => by obtain ⟨_, _, h1, _⟩ := ownsRow_block q14 hq; exact h1) (by omega)
    have a14 : Above w6.heap.size w13 w14 := Above.grown g14 (fun q hq => by obtain ⟨_, _, _, h2⟩ := ownsRow_block O6.out hq; exact h2)
    have n14 : NotInts w13 w14 := NotInts.grown O613.out g14
    have B14 := Lib.hid (B13.out.trans (b14.mono (by have := C5.out.size; omega)))
    have V14 := Lib.hid (V13.out.trans (b14.mono V5.out.size))
    have Q14 := Lib.hid (Q13.out.above (fun g h1 h2 => a14 g (by omega) h2))
    have K514 := Lib.hid (K513.out.kept n14)
    have K414 := Lib.hid (K413.out.kept n14)
    have K714 := Lib.hid (K713.out.kept n14)
    have hs14 := b14.size
    have hkk : 1 + tot xss + lower.length ≤ 1099511627776 := by omega
    clear a14 b14 n14 g14 q14
    have q0 := K714.out.c0
    have q1 := K714.out.c1
    have q2 := K414.out.c0
    have q3 := K414.out.c1
    go_wp2_with fail
    clear q0 q1 q2 q3
    refine (eqNet_yes A7 A4 c7 c4 w14.heap.size W4.heap.size bits' R w14 Q14.out.rd (RdII.below (R4.out) V14.out (Nat.le_refl _)) (Nat.le_refl _) (by have := V14.out.size; omega) (by omega) (by omega)).mono ?_
    rintro e w15 ⟨rfl, b15⟩
    have B15 := Lib.hid (Base.Below.nextA B14.out b15)
    have V15 := Lib.hid (Base.Below.nextA V14.out b15)
    have Q15 := Lib.hid (Q14.out.below b15)
    have K415 := Lib.hid (K414.out.below b15)
    have K715 := Lib.hid (K714.out.below b15)
    have hs15 := b15.size
    clear b15
    -- the result is marked, and held
    have q0 := K715.out.c0
    have q1 := K715.out.c1
    go_wp2_with fail
    clear q0 q1
    refine (markNet_any A7 c7 w6.heap.size 1 bits' R us7 w15 Q15.out (by omega) (by omega) (by omega)).mono ?_
    rintro e w16 ⟨rfl, o16, b16, n16⟩
    have O16 := Lib.hid o16
    have B16 := Lib.hid (B15.out.trans (b16.mono (by have := B6.out.size; omega)))
    have V16 := Lib.hid (V15.out.trans (b16.mono V6.out.size))
    have K416 := Lib.hid (K415.out.kept n16)
    have K716 := Lib.hid (K715.out.kept n16)
    have hs16 := b16.size
    have hk16 : 1 + tot R ≤ 1099511627776 := by omega
    have HH := Lib.hid (fun (W : World) (hW : Below w16.heap.size w16 W) => heldNet_yes A7 c7 w16.heap.size 1 bits' R W (by have := O16.out; rw [← mk_len 1 R] at this; exact RdII.below this.rd hW (Nat.le_refl _)) hW.size (by omega) (by omega))
    clear o16 b16 n16
    have q0 := K716.out.c0
    have q1 := K716.out.c1
    go_wp2_with fail
    clear q0 q1
    refine (HH.out w16 (Below.refl _ _)).mono ?_
    rintro e w17 ⟨rfl, b17⟩
    have Z17 := Lib.hid b17
    have B17 := Lib.hid (Base.Below.nextA B16.out b17)
    have V17 := Lib.hid (Base.Below.nextA V16.out b17)
    have K417 := Lib.hid (K416.out.below b17)
    have K717 := Lib.hid (K716.out.below b17)
    clear b17
    -- another call
    have d0 := D0.out w17 B17.out
    have d1 := D1.out w17 B17.out
    go_wp2_with fail
    clear d0 d1
    refine (CT.out w17 B17.out).mono ?_
    rintro e w18 ⟨g18, us18, rfl, o18, b18⟩
    have O18 := Lib.hid o18
    have B18 := Lib.hid (Base.Below.nextA B17.out b18)
    have Z18 := Lib.hid (Base.Below.nextA Z17.out b18)
    have V18 := Lib.hid (Base.Below.nextA V17.out b18)
    have K418 := Lib.hid (K417.out.below b18)
    have K718 := Lib.hid (K717.out.below b18)
    clear o18 b18
    go_wp2_with fail
    refine (CI.out w18 B18.out).mono ?_
    rintro e w19 ⟨g19, rfl, o19, b19⟩
    have B19 := Lib.hid (Base.Below.nextA B18.out b19)
    have Z19 := Lib.hid (Base.Below.nextA Z18.out b19)
    have V19 := Lib.hid (Base.Below.nextA V18.out b19)
    have K419 := Lib.hid (K418.out.below b19)
    have K719 := Lib.hid (K718.out.below b19)
    have S19 := Lib.hid (HI.out (some ⟨g18, 0, none⟩) (some ⟨g19, 0, none⟩) xss.length lower.length w19.heap.size w19 (O18.out.below b19).rd o19.rd (Nat.le_refl _))
    clear o19 b19
    go_wp2_with fail
    refine S19.out.mono ?_
    rintro e w20 ⟨A20, c20, us20, rfl, o20, b20⟩
    have B20 := Lib.hid (Base.Below.nextA B19.out b20)
    have Z20 := Lib.hid (Base.Below.nextA Z19.out b20)
    have V20 := Lib.hid (Base.Below.nextA V19.out b20)
    have K420 := Lib.hid (K419.out.below b20)
    have K720 := Lib.hid (K719.out.below b20)
    have O20 := Lib.hid o20
    have hk420 := K420.out.lt
    have hk720 := K720.out.lt
    clear o20 b20
    have q0 := K420.out.c0
    have q1 := K420.out.c1
    go_wp2_with fail
    clear q0 q1
    obtain ⟨W20, hW20⟩ : ∃ x, x = w20.alloc (.cells #[.int .i64 bits', .slice A20 R.length c20] 57) := ⟨_, rfl⟩
    have XW20 := Lib.hid (show Below w20.heap.size w20 W20 by rw [hW20]; exact (Below.refl _ _).alloc (Nat.le_refl _) _)
    have K20 := Lib.hid (show Box W20 w20.heap.size bits' (.slice A20 R.length c20) by rw [hW20]; exact Box.new _ _ _)
    have zW20 : w20.heap.size < W20.heap.size := by rw [hW20]; simp
    rw [← hW20]
    clear hW20
    have V21 := Lib.hid (Base.Below.nextA V20.out XW20.out)
    have Z21 := Lib.hid (Base.Below.nextA Z20.out XW20.out)
    refine (eqNet_yes A20 A4 c20 c4 W20.heap.size W4.heap.size bits' R W20 (O20.out.below XW20.out).rd (RdII.below (R4.out) V21.out (Nat.le_refl _)) (Nat.le_refl _) (by have := V21.out.size; omega) (by omega) (by omega)).mono ?_
    rintro e w21 ⟨rfl, b21⟩
    have Z22 := Lib.hid (Base.Below.nextA Z21.out b21)
    have K721 := Lib.hid ((K720.out.below XW20.out).below b21)
    clear b21
    have q0 := K721.out.c0
    have q1 := K721.out.c1
    go_wp2_with fail
    clear q0 q1
    refine (HH.out w21 Z22.out).mono ?_
    rintro e w22 ⟨rfl, b22⟩
    have BE := Lib.hid (HB0.out.trans ((Base.Below.nextA (Base.Below.nextA B16.out Z22.out) b22).mono (by omega)))
    clear b22
    go_wp2
    go_ret
    exact ⟨rfl, BE.out⟩
theorem exactSc_v {w : World} {v v2 : Value} (h : Open.IsNet w v) (side : Int) (h2 : Open.IsInts w v2) : Calls Try.prog 6 #[v, .int .i64 side, v2] w fun e w' => e = .returned (.bool true) ∧ Below w.heap.size w w' := by
  obtain ⟨bits, A, c, xss, rfl, hl, hl', hx⟩ := h.ex
  obtain ⟨A', c', lower, rfl, hl2, _, hy⟩ := h2.ex
  exact exactSc_any A A' c c' bits side xss lower w hl hl' hx hl2 hy
end Go.Proofs.Ytpflbcdbmainiaa.Scr
