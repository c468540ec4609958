/- The periods of a register, its order and whether it is primitive: the law walked. -/
import Derived.Test.YtogadldnkhdjbaaPerW
import Derived.Test.YtogadldnkhdjbaaRBits
import Derived.Test.YtogadldnkhdjbaaR8
import Derived.Test.YtogadldnkhdjbaaOpen
namespace Go.Proofs.Ytogadldnkhdjbaa.PerL
open Go.RowKit Go.Proofs.Ytogadldnkhdjbaa Go.Proofs.Ytogadldnkhdjbaa.Base Go.Proofs.Ytogadldnkhdjbaa.Mem Go.Proofs.Ytogadldnkhdjbaa.Reg Go.Proofs.Ytogadldnkhdjbaa.RBits Go.Proofs.Ytogadldnkhdjbaa.Jump Go.Proofs.Ytogadldnkhdjbaa.PerP Go.Proofs.Ytogadldnkhdjbaa.Bits Go.Proofs.Ytogadldnkhdjbaa.Poly Go.Proofs.Ytogadldnkhdjbaa.CycM
set_option linter.unusedVariables false
theorem isOrd_yes (p : Nat) (h1 : 2 ≤ p) (h2 : p ≤ 131071) (h3 : p % 2 = 1) (w : World) : Calls Try.prog 21 #[.int .i64 (p : Int)] w fun e w' => e = .returned (.bool true) ∧ w = w' := by
  have HR := Lib.hid (fun w => inRange_any (p : Int) 2 131071 w)
  rw [inR_yes (by omega)] at HR
  have ha : bits .and .i64 (p : Int) 1 = 1 := by rw [and1 _ (by omega), h3]; rfl
  go_enter Try.func21, Try.ntmps21
  go_wp2_with (first | (refine (HR.out _).mono ?_; rintro e w' ⟨rfl, rfl⟩))
  go_ret
  exact ⟨rfl, rfl⟩
theorem isOrd_no (p : Nat) (h2 : p ≤ 131071) (h : p < 2 ∨ p % 2 = 0) (w : World) : Calls Try.prog 21 #[.int .i64 (p : Int)] w fun e w' => e = .returned (.bool false) ∧ w = w' := by
  have HR := Lib.hid (fun w => inRange_any (p : Int) 2 131071 w)
  by_cases h1 : 2 ≤ p
  · rw [inR_yes (by omega)] at HR
    have ha : bits .and .i64 (p : Int) 1 = 0 := by rw [and1 _ (by omega), show p % 2 = 0 by omega]; rfl
    go_enter Try.func21, Try.ntmps21
    go_wp2_with (first | (refine (HR.out _).mono ?_; rintro e w' ⟨rfl, rfl⟩))
    go_ret
    exact ⟨rfl, rfl⟩
  · have hf : inR (p : Int) 2 131071 = false := by
      cases h : inR (p : Int) 2 131071 with
      | false => rfl
      | true => have := inR_true h; omega
    rw [hf] at HR
    go_enter Try.func21, Try.ntmps21
    go_wp2_with (first | (refine (HR.out _).mono ?_; rintro e w' ⟨rfl, rfl⟩))
    go_ret
    exact ⟨rfl, rfl⟩
theorem ordX_yes (V A N : Nat) (hV : 1 ≤ V) (hV2 : V ≤ 16) (hA : A < 2 ^ V) (h1 : 2 ≤ 2 ^ V ||| A) (h2 : 2 ^ V ||| A ≤ 131071) (h3 : (2 ^ V ||| A) % 2 = 1) (hN : IsCyc (polyG (2 ^ V ||| A) V) 1 0 N) (w : World) :
    Calls Try.prog 11 #[.int .i64 ((2 ^ V ||| A : Nat) : Int)] w fun e w' => e = .returned (.tuple #[.int .i64 (N : Int), .bool true]) ∧ w = w' := by
  have HR := Lib.hid (fun w => isOrd_yes (2 ^ V ||| A) h1 h2 h3 w)
  have HO := Lib.hid (fun w => order_any V A N hV hV2 hA hN w)
  clear hN
  go_enter Try.func11, Try.ntmps11
  go_wp2_with (first | (go_at_call 21; refine (HR.out _).mono ?_; rintro e w' ⟨rfl, rfl⟩) | (go_at_call 22; refine (HO.out _).mono ?_; rintro e w' ⟨rfl, rfl⟩))
  go_ret2
  exact ⟨rfl, rfl⟩
theorem ordX_no (p : Nat) (h2 : p ≤ 131071) (h : p < 2 ∨ p % 2 = 0) (w : World) : Calls Try.prog 11 #[.int .i64 (p : Int)] w fun e w' => e = .returned (.tuple #[.int .i64 0, .bool false]) ∧ w = w' := by
  have HR := Lib.hid (fun w => isOrd_no p h2 h w)
  clear h
  go_enter Try.func11, Try.ntmps11
  go_wp2_with (first | (refine (HR.out _).mono ?_; rintro e w' ⟨rfl, rfl⟩))
  go_ret2
  exact ⟨rfl, rfl⟩
theorem prim_no (p : Nat) (h2 : p ≤ 131071) (h : p < 2 ∨ p % 2 = 0) (w : World) : Calls Try.prog 12 #[.int .i64 (p : Int)] w fun e w' => e = .returned (.bool false) ∧ w = w' := by
  have HR := Lib.hid (fun w => isOrd_no p h2 h w)
  clear h
  go_enter Try.func12, Try.ntmps12
  go_wp2_with (first | (refine (HR.out _).mono ?_; rintro e w' ⟨rfl, rfl⟩))
  go_ret
  exact ⟨rfl, rfl⟩
theorem poly_facts {V A : Nat} (hV : 1 ≤ V) (hV2 : V ≤ 16) (hA : A < 2 ^ V) : 2 ≤ 2 ^ V ||| A ∧ 2 ^ V ||| A ≤ 131071 ∧ (2 ^ V ||| A) % 2 = A % 2 := by
  have h1 : 2 ^ 1 ≤ 2 ^ V := Nat.pow_le_pow_right (by decide) hV
  have h2 : 2 ^ V ≤ 2 ^ V ||| A := Nat.left_le_or
  have h3 : 2 ^ V ||| A < 2 ^ (V + 1) := Nat.or_lt_two_pow (Nat.pow_lt_pow_right (by decide) (by omega)) (Nat.lt_trans hA (Nat.pow_lt_pow_right (by decide) (by omega)))
  have h4 : 2 ^ (V + 1) ≤ 2 ^ 17 := Nat.pow_le_pow_right (by decide) (by omega)
  refine ⟨by omega, by omega, ?_⟩
  have e1 := Nat.testBit_zero (2 ^ V ||| A)
  rw [Nat.testBit_or, Nat.testBit_two_pow, Nat.testBit_zero] at e1
  rw [decide_eq_false (show ¬ V = 0 by omega), Bool.false_or] at e1
  have := decide_eq_decide.1 e1
  omega
theorem prim_yes (V A N : Nat) (hV : 1 ≤ V) (hV2 : V ≤ 16) (hA : A < 2 ^ V) (hodd : A % 2 = 1) (hN : IsCyc (polyG (2 ^ V ||| A) V) 1 0 N) (w : World) :
    Calls Try.prog 12 #[.int .i64 ((2 ^ V ||| A : Nat) : Int)] w fun e w' => e = .returned (.bool (decide (N = 2 ^ V - 1))) ∧ w = w' := by
  obtain ⟨f1, f2, f3⟩ := poly_facts hV hV2 hA
  have HR := Lib.hid (fun w => isOrd_yes (2 ^ V ||| A) f1 f2 (by omega) w)
  have HO := Lib.hid (fun w => order_any V A N hV hV2 hA hN w)
  have HD := Lib.hid (fun w => degree_any (2 ^ V ||| A) (by omega) w)
  rw [bl_poly hA] at HD
  have hpw : 2 ^ V ≤ 2 ^ 16 := Nat.pow_le_pow_right (by decide) hV2
  have hsh : ((((V + 1 : Nat) : Int) - 1)).toNat = V := by omega
  have hw : wrap64 ((2 : Int) ^ V) = ((2 ^ V : Nat) : Int) := by
    rw [show (2 : Int) ^ V = ((2 ^ V : Nat) : Int) by simp]
    generalize 2 ^ V = m at *
    simp only [wrap64]; omega
  have HE : Hid (((N : Int) == wrap64 (2 ^ V - 1)) = decide (N = 2 ^ V - 1)) := Lib.hid (by
    have := Nat.two_pow_pos V
    have e : wrap64 ((2 : Int) ^ V - 1) = ((2 ^ V : Nat) : Int) - 1 := by
      rw [show (2 : Int) ^ V = ((2 ^ V : Nat) : Int) by simp]
      generalize 2 ^ V = m at *
      simp only [wrap64]; omega
    rw [e]
    by_cases h : N = 2 ^ V - 1
    · rw [decide_eq_true h, beq_iff_eq]; omega
    · rw [decide_eq_false h]; apply beq_eq_false_iff_ne.2; omega)
  generalize hp : 2 ^ V ||| A = p at *
  clear hN hodd hA f3 hp
  go_enter Try.func12, Try.ntmps12
  go_wp2_with (first | (go_at_call 21; refine (HR.out _).mono ?_; rintro e w' ⟨rfl, rfl⟩) | (go_at_call 22; refine (HO.out _).mono ?_; rintro e w' ⟨rfl, rfl⟩) | (go_at_call 23; refine (HD.out _).mono ?_; rintro e w' ⟨rfl, rfl⟩))
  go_ret
  exact ⟨ret_bool HE.out, rfl⟩
theorem polyOf_any (V A : Nat) (hV : V ≤ 16) (hA : A < 2 ^ V) (w : World) :
    Calls Try.prog 8 #[.agg #[.int .i64 (V : Int), .int .i64 (A : Int)]] w fun e w' => e = .returned (.tuple #[.int .i64 ((2 ^ V ||| A : Nat) : Int), .bool true]) ∧ Below w.heap.size w w' := by
  have hB := bothR_yes hV hA hA
  have hR : regB V A = true := by simp only [bothR, Bool.and_eq_true] at hB; exact hB.1
  have HV := Lib.hid (fun w => validReg_any (V : Int) (A : Int) w)
  rw [hR] at HV
  have HP := Lib.hid (poly_int hV hA)
  have HP' := Lib.hid (poly_int' hV hA)
  clear hB hR
  go_enter Try.func8, Try.ntmps8
  go_wp2_with fail
  refine (HV.out _).mono ?_
  rintro e w1 ⟨rfl, hb1⟩
  have d0 : w1.cell? ⟨w.heap.size, 0, none⟩ = some (.int .i64 (V : Int)) := box_cells hb1 0
  have d1 : w1.cell? ⟨w.heap.size, 1, none⟩ = some (.int .i64 (A : Int)) := box_cells hb1 1
  have HB := Lib.hid (Base.Below.boxed hb1)
  clear hb1
  go_wp2
  go_quiet (fail)
  go_wp2
  go_ret2
  refine ⟨?_, below_drewN HB.out _⟩
  first
    | (show Ending.returned (.tuple #[.int .i64 (bits .or .i64 (wrap64 (2 ^ V)) A), .bool true]) = _; rw [HP.out])
    | (show Ending.returned (.tuple #[.int .i64 (bits .or .i64 (2 ^ V) A), .bool true]) = _; rw [HP'.out])
theorem jump_yes (V A X N : Nat) (w : World) (hV : V ≤ 16) (hA : A < 2 ^ V) (hX : X < 2 ^ V) (hN : N ≤ 1000000000000000000) :
    Calls Try.prog 9 #[.agg #[.int .i64 V, .int .i64 A], .int .i64 X, .int .i64 N] w fun e w' => e = .returned (.tuple #[.int .i64 ((iter (nextR V A) X N : Nat) : Int), .bool true]) ∧ Below w.heap.size w w' := by
  have hb : jumpB V A X N = true := by rw [jumpB, bothR_yes hV hA hX, inR_yes (by omega)]; rfl
  refine (implJump_any V A X N w).mono fun e w' h => ⟨?_, h.2⟩
  rw [h.1, jumpV, if_pos hb, hb]; rfl
theorem cycle_yes (V A X j n : Nat) (hV : V ≤ 16) (hA : A < 2 ^ V) (hX : X < 2 ^ V) (hc : IsCyc (nextR V A) X j n) (w : World) :
    Calls Try.prog 7 #[.agg #[.int .i64 V, .int .i64 A], .int .i64 X] w fun e w' => e = .returned (.tuple #[.int .i64 (j : Int), .int .i64 ((n - j : Nat) : Int), .bool true]) ∧ Below w.heap.size w w' := by
  have hB := bothR_yes hV hA hX
  refine (implRegCycle_any V A X w).mono fun e w' h => ⟨?_, h.2⟩
  rw [h.1, preR_eq hB (j := j) (n := n) (by simpa using hc), perR_eq hB (j := j) (n := n) (by simpa using hc), hB]
  have := hc.1
  rw [show (n : Int) - (j : Int) = ((n - j : Nat) : Int) by omega]
theorem shlV {V : Nat} (hV : V ≤ 16) : IntKind.i64.wrap (2 ^ min (IntKind.u64.wrap (V : Int)).toNat 64) = ((2 ^ V : Nat) : Int) := by
  have h1 : (IntKind.u64.wrap (V : Int)).toNat = V := by rw [IntKind.wrap_u64]; omega
  have h2 : 2 ^ V ≤ 2 ^ 16 := Nat.pow_le_pow_right (by decide) hV
  have h0 := Nat.two_pow_pos V
  rw [h1, show min V 64 = V by omega, show (2 : Int) ^ V = ((2 ^ V : Nat) : Int) by simp, IntKind.wrap_i64]
  generalize 2 ^ V = m at *
  omega
set_option maxHeartbeats 2000000 in
set_option maxRecDepth 100000 in
theorem periods_any (A0 A1 : Option Addr) (c0 c1 : Nat) (zs ys : List Int) (w : World) (hl0 : zs.length ≤ 9223372036854775807) (hl1 : ys.length ≤ 9223372036854775807) (hz0' : ∀ z ∈ zs, 0 ≤ z ∧ z ≤ 255) (hz1' : ∀ z ∈ ys, 0 ≤ z ∧ z ≤ 255) (hx0 : RdB w w.heap.size A0 zs) (hx1 : RdB w w.heap.size A1 ys) :
    Calls Try.prog 3 #[.slice A0 zs.length c0, .slice A1 ys.length c1] w fun e w' => e = .returned (.bool true) ∧ Below w.heap.size w w' := by
  by_cases hlong : 48 < zs.length ∨ 48 < ys.length
  · clear hx0 hx1 hz0' hz1'
    go_enter Try.func3, Try.ntmps3
    go_wp2_with (go_at_call 4; refine (R8.r8Long_yes _ _ _ _ _ _ _ hlong hl0 hl1).mono ?_; rintro e w' ⟨rfl, rfl⟩)
    go_ret
    exact ⟨rfl, Below.refl _ _⟩
  have hs0 : zs.length ≤ 48 := by omega
  have hs1 : ys.length ≤ 48 := by omega
  have HReg := Lib.hid (r8Register_any A0 c0 zs w hx0 hs0 hz0')
  have HX1 := Lib.hid hx1
  have HZ1 := Lib.hid hz1'
  clear hx0 hx1 hz0' hz1' hlong
  go_enter Try.func3, Try.ntmps3
  go_wp2_with fail
  refine (R8.r8Long_no _ _ _ _ _ _ _ hs0 hs1).mono ?_
  rintro e w' ⟨rfl, rfl⟩
  go_wp2_with fail
  refine HReg.out.mono ?_
  rintro e w1 ⟨V, A, rfl, hV7, hA, b1⟩
  have hp7 : 2 ^ V ≤ 2 ^ 7 := Nat.pow_le_pow_right (by decide) hV7
  obtain ⟨W1, hW1⟩ : ∃ W1, W1 = w1.alloc (.cells #[.int .i64 V, .int .i64 A] 25) := ⟨_, rfl⟩
  have x1 : Below w1.heap.size w1 W1 := by rw [hW1]; exact (Below.refl _ _).alloc (Nat.le_refl _) _
  have hzW : W1.heap.size = w1.heap.size + 1 := by rw [hW1]; simp
  have k1 : RBox W1 w1.heap.size V A := by rw [hW1]; exact RBox.new _ _ _
  have HK := Lib.hid k1
  have hq0 := k1.c0
  have hq1 := k1.c1
  have B1 := Lib.hid (b1.trans (x1.mono b1.size))
  have RY := Lib.hid ((HX1.out.below B1.out (Nat.le_refl _)).more B1.out.size)
  have HNum := Lib.hid (r8Number_any A1 c1 ys (wrap64 (2 ^ V)) W1 RY.out hs1 HZ1.out)
  have hpw : wrap64 ((2 : Int) ^ V) = ((2 ^ V : Nat) : Int) := by
    rw [show (2 : Int) ^ V = ((2 ^ V : Nat) : Int) by simp]
    have h0 := Nat.two_pow_pos V
    generalize 2 ^ V = N at *
    simp only [wrap64]; omega
  have HPW := Lib.hid hpw
  have HW1 := Lib.hid hW1
  have hzz : w1.heap.size < W1.heap.size := by omega
  clear hW1 b1 x1 k1 hpw
  go_wp2_with fail
  rw [← HW1.out]
  refine HNum.out.mono ?_
  rintro e w2 ⟨X, rfl, hX', b2⟩
  have hX : X < 2 ^ V := by
    rcases hX' with h | h
    · subst h; exact Nat.two_pow_pos V
    · rw [HPW.out] at h; exact Int.ofNat_lt.1 h
  have hT : ∀ t, t < 2 ^ V → nextR V A t < 2 ^ V := fun t ht => nextR_lt ht
  obtain ⟨j, n, hc⟩ := cycEx hT hX
  have hn := hc.le hT hX
  have hjn := hc.1
  have r2 := HK.out.below b2
  have d0 := r2.c0
  have d1 := r2.c1
  have B2 := Lib.hid b2
  have hz2 := b2.size
  have HC := Lib.hid (fun w => cycle_yes V A X j n (by omega) hA hX hc w)
  have HP := Lib.hid (fun w => polyOf_any V A (by omega) hA w)
  have HJ := Lib.hid (fun N (hN : N ≤ 1000000000000000000) w => jump_yes V A X N w (by omega) hA hX hN)
  obtain ⟨per, hper⟩ : ∃ per, per = n - j := ⟨_, rfl⟩
  rw [← hper] at HC
  obtain rfl : n = j + per := by omega
  have HCyc := Lib.hid hc
  have HVA := Lib.hid hA
  have HVX := Lib.hid hX
  have hnb : j + per ≤ 128 := by omega
  have hper1 : 1 ≤ per := by omega
  have hle : (j : Int) + (per : Int) ≤ wrap64 (2 ^ V) := by rw [HPW.out]; omega
  clear hX' b2 r2 hq0 hq1 hc hT hn hjn hper hA hX HNum
  go_wp2_with fail
  refine (HC.out _).mono ?_
  rintro e w3 ⟨rfl, b3⟩
  have B3 := Lib.hid (B2.out.trans (b3.mono hz2))
  have hz3 := B3.out.size
  have r3 := HK.out.below B3.out
  have e0 := r3.c0
  have e1 := r3.c1
  clear b3 r3 d0 d1
  go_wp2_with fail
  refine (HP.out _).mono ?_
  rintro e w4 ⟨rfl, b4⟩
  have B4 := Lib.hid (B3.out.trans (b4.mono hz3))
  have hz4 := B4.out.size
  have r4 := HK.out.below B4.out
  have d0 := r4.c0
  have d1 := r4.c1
  clear b4 r4 e0 e1
  obtain ⟨ya, hya⟩ : ∃ y, y = iter (nextR V A) X j := ⟨_, rfl⟩
  have HJa := Lib.hid (fun w => HJ.out j (by omega) w)
  have HJb := Lib.hid (fun w => HJ.out (j + per) (by omega) w)
  rw [← HCyc.out.2.1, ← hya] at HJb
  rw [← hya] at HJa
  have hjp : ((j + per : Nat) : Int) = (j : Int) + (per : Int) := by omega
  rw [hjp] at HJb
  have HYa := Lib.hid hya
  clear hya hjp
  go_wp2_with fail
  refine (HJa.out _).mono ?_
  rintro e w5 ⟨rfl, b5⟩
  have B5 := Lib.hid (B4.out.trans (b5.mono hz4))
  have hz5 := B5.out.size
  have r5 := HK.out.below B5.out
  have e0 := r5.c0
  have e1 := r5.c1
  clear b5 r5 d0 d1 HJa
  go_wp2_with fail
  refine (HJb.out _).mono ?_
  rintro e w6 ⟨rfl, b6⟩
  have B6 := Lib.hid (B5.out.trans (b6.mono hz5))
  have hz6 := B6.out.size
  have r6 := HK.out.below B6.out
  have d0 := r6.c0
  have d1 := r6.c1
  have RY6 := Lib.hid ((RY.out.below B6.out (Nat.le_refl _)).more hz6)
  clear b6 r6 e0 e1 HJb
  go_wp2_with fail
  refine (R8.r8At_any A1 c1 _ ys 2 (per : Int) _ HZ1.out hl1 RY6.out (by decide)).mono ?_
  rintro e w' ⟨k, hk0, hk1, rfl, rfl⟩
  obtain ⟨k, rfl⟩ := Int.eq_ofNat_of_zero_le hk0
  have hkp : k < per := by omega
  obtain ⟨yc, hyc⟩ : ∃ y, y = iter (nextR V A) X (j + (1 + k)) := ⟨_, rfl⟩
  have HJc := Lib.hid (fun w => HJ.out (j + (1 + k)) (by omega) w)
  rw [← hyc] at HJc
  have hjk : ((j + (1 + k) : Nat) : Int) = (j : Int) + (1 + (k : Int)) := by omega
  rw [hjk] at HJc
  have HYc : Hid (1 + k < per → yc ≠ ya) := Lib.hid fun h e => HCyc.out.2.2 j (j + (1 + k)) (by omega) (by omega) (by rw [← hyc, ← HYa.out, e])
  clear hyc hjk hk0 hk1
  go_wp2_with fail
  refine (HJc.out _).mono ?_
  rintro e w7 ⟨rfl, b7⟩
  have B7 := Lib.hid (B6.out.trans (b7.mono hz6))
  have hz7 := B7.out.size
  have r7 := HK.out.below B7.out
  have e0 := r7.c0
  have e1 := r7.c1
  clear b7 r7 d0 d1 HJc
  have hcond : 1 + (k : Int) < (per : Int) → ((yc : Int) == (ya : Int)) = false := fun h => beq_eq_false_iff_ne.2 (fun e => HYc.out (by omega) (by omega))
  have HCond := Lib.hid hcond
  clear hcond
  by_cases ho : 1 ≤ V ∧ A % 2 = 1
  · obtain ⟨hV1, hodd⟩ := ho
    obtain ⟨N, hN, hN2⟩ := ordEx hV1 (by omega) HVA.out hodd
    obtain ⟨hj0, hdv, hpr⟩ := per_law hV1 (by omega) HVA.out hodd HVX.out HCyc.out hN
    subst hj0
    rw [Nat.zero_add] at hdv hpr
    obtain ⟨f1, f2, f3⟩ := poly_facts hV1 (by omega) HVA.out
    have HOx := Lib.hid (fun w => ordX_yes V A N hV1 (by omega) HVA.out f1 f2 (by omega) hN w)
    have HPr := Lib.hid (fun w => prim_yes V A N hV1 (by omega) HVA.out hodd hN w)
    have hVi : (0 : Int) < (V : Int) := by omega
    have hA1 : (A : Int) % 2 = 1 := by omega
    have hA2 : (A : Int).tmod 2 = 1 := by rw [Int.tmod_eq_emod_of_nonneg (by omega)]; omega
    have hd1 : (N : Int) % (per : Int) = 0 := by rw [← Int.natCast_emod, hdv]; rfl
    have hd2 : (N : Int).tmod (per : Int) = 0 := by rw [Int.tmod_eq_emod_of_nonneg (by omega), hd1]
    have hpe : ((per : Int) == 0) = false := beq_eq_false_iff_ne.2 (by omega)
    have hpz : (per : Int) ≠ 0 := by omega
    have hpz2 : ¬ per = 0 := by omega
    have hrem : ∀ w : World, (Op.intDiv .rem .i64 (N : Int) (per : Int)).run Try.prog w = .ok (.int .i64 0) w := fun w => by unfold Op.intDiv; rw [if_neg hpz, hd2]; rfl
    have hNb : N ≤ 128 := by omega
    have HE : Hid (((N : Int) == IntKind.i64.wrap (IntKind.i64.wrap (2 ^ min (IntKind.u64.wrap (V : Int)).toNat 64) - 1)) = decide (N = 2 ^ V - 1)) := Lib.hid (by
      have h0 := Nat.two_pow_pos V
      have e : IntKind.i64.wrap (IntKind.i64.wrap (2 ^ min (IntKind.u64.wrap (V : Int)).toNat 64) - 1) = ((2 ^ V : Nat) : Int) - 1 := by
        rw [shlV (by omega), IntKind.wrap_i64]
        generalize 2 ^ V = m at *
        omega
      rw [e]
      by_cases h : N = 2 ^ V - 1
      · rw [decide_eq_true h, beq_iff_eq]; omega
      · rw [decide_eq_false h]; apply beq_eq_false_iff_ne.2; omega)
    have HLast : Hid (decide (N = 2 ^ V - 1) = true → ((X : Int) == 0) = false → ((per : Int) == (N : Int)) = true) := Lib.hid fun h1 h2 => by
      rw [beq_iff_eq]
      have h3 := beq_eq_false_iff_ne.1 h2
      have := hpr (of_decide_eq_true h1) (by omega)
      omega
    clear hN hdv hpr hodd f1 f2 f3
    by_cases hkk : 1 + (k : Int) < (per : Int)
    all_goals
      have hcc := HCond.out
      try (have hcc2 := hcc hkk)
      clear hcc
      go_wp2_with fail
      refine (HOx.out _).mono ?_
      rintro e w' ⟨rfl, rfl⟩
      cases hprim : decide (N = 2 ^ V - 1) with
      | true =>
        have HLast2 := Lib.hid (HLast.out hprim)
        rw [hprim] at HE HPr
        have he := HE.out
        clear hprim
        go_wp2_with fail
        (refine wp_region_below (by kernel_rfl) (by kernel_rfl) ?_; (repeat (refine wpQuiet_step (fun K hK => ?_); go_simp; first | (refine hK _ ?_; clear hK K) | (apply Exists.intro; refine ⟨fun wq hq => ?_, hK _ ?_⟩; (first | rfl | (have g0 := (hq.cell (p := ⟨w1.heap.size, 0, none⟩) (show w1.heap.size < w7.heap.size by omega)).trans e0; have g1 := (hq.cell (p := ⟨w1.heap.size, 1, none⟩) (show w1.heap.size < w7.heap.size by omega)).trans e1; first | (go_simp; done) | (go_simp; rfl) | (first | (go_at_call 12; refine (HPr.out _).mono ?_; rintro e w' ⟨rfl, rfl⟩; exact ⟨rfl, hq⟩)))); clear hK K))); refine wpQuiet_nil ?_; intro wq hq)
        have BE := Lib.hid (B1.out.trans ((B7.out.trans (hq.mono hz7)).mono B1.out.size))
        cases hX0 : (X : Int) == 0 with
        | true =>
          go_wp2_with fail
          refine (HPr.out _).mono ?_
          rintro e w' ⟨rfl, rfl⟩
          go_wp2
          go_ret
          exact ⟨rfl, BE.out⟩
        | false =>
          have hl := HLast2.out hX0
          go_wp2_with fail
          refine (HPr.out _).mono ?_
          rintro e w' ⟨rfl, rfl⟩
          go_wp2
          go_ret
          exact ⟨rfl, BE.out⟩
      | false =>
        rw [hprim] at HE HPr
        have he := HE.out
        clear hprim HLast
        go_wp2_with fail
        (refine wp_region_below (by kernel_rfl) (by kernel_rfl) ?_; (repeat (refine wpQuiet_step (fun K hK => ?_); go_simp; first | (refine hK _ ?_; clear hK K) | (apply Exists.intro; refine ⟨fun wq hq => ?_, hK _ ?_⟩; (first | rfl | (have g0 := (hq.cell (p := ⟨w1.heap.size, 0, none⟩) (show w1.heap.size < w7.heap.size by omega)).trans e0; have g1 := (hq.cell (p := ⟨w1.heap.size, 1, none⟩) (show w1.heap.size < w7.heap.size by omega)).trans e1; first | (go_simp; done) | (go_simp; rfl) | (first | (go_at_call 12; refine (HPr.out _).mono ?_; rintro e w' ⟨rfl, rfl⟩; exact ⟨rfl, hq⟩)))); clear hK K))); refine wpQuiet_nil ?_; intro wq hq)
        have BE := Lib.hid (B1.out.trans ((B7.out.trans (hq.mono hz7)).mono B1.out.size))
        go_wp2_with fail
        refine (HPr.out _).mono ?_
        rintro e w' ⟨rfl, rfl⟩
        go_wp2
        go_ret
        exact ⟨rfl, BE.out⟩
  · have hpl : 2 ^ V ||| A ≤ 131071 := by
      rcases Nat.eq_zero_or_pos V with h | h
      · subst h
        have : A = 0 := by have := HVA.out; simpa using this
        subst this; decide
      · exact (poly_facts h (by omega) HVA.out).2.1
    have hbad : 2 ^ V ||| A < 2 ∨ (2 ^ V ||| A) % 2 = 0 := by
      rcases Nat.eq_zero_or_pos V with h | h
      · subst h
        have : A = 0 := by have := HVA.out; simpa using this
        subst this; left; decide
      · right
        have := (poly_facts h (by omega) HVA.out).2.2
        omega
    have HOx := Lib.hid (fun w => ordX_no (2 ^ V ||| A) hpl hbad w)
    have HPr := Lib.hid (fun w => prim_no (2 ^ V ||| A) hpl hbad w)
    clear hbad hpl
    have ho := ho
    have HA : Hid (0 < V → (A : Int) % 2 = 0 ∧ (A : Int).tmod 2 = 0) := Lib.hid fun h => by
      have h1 : (A : Int) % 2 = 0 := by omega
      exact ⟨h1, by rw [Int.tmod_eq_emod_of_nonneg (by omega)]; exact h1⟩
    have HA2 : Hid ((0 < V ∧ (A : Int) % 2 = 0 ∧ (A : Int).tmod 2 = 0) ∨ ¬ 0 < V) := Lib.hid (by
      by_cases h : 0 < V
      · exact .inl ⟨h, HA.out h⟩
      · exact .inr h)
    clear ho HA
    by_cases hj : 0 < j
    · obtain ⟨i, rfl⟩ : ∃ i, j = i + 1 := ⟨j - 1, by omega⟩
      have hi1 : ((i + 1 : Nat) : Int) - 1 = (i : Int) := by omega
      obtain ⟨yd, hyd⟩ : ∃ y, y = iter (nextR V A) X i := ⟨_, rfl⟩
      obtain ⟨ye, hye⟩ : ∃ y, y = iter (nextR V A) X (i + per) := ⟨_, rfl⟩
      have HJd := Lib.hid (fun w => HJ.out i (by omega) w)
      have HJe := Lib.hid (fun w => HJ.out (i + per) (by omega) w)
      rw [← hyd] at HJd
      rw [← hye, show ((i + per : Nat) : Int) = (i : Int) + (per : Int) by omega] at HJe
      have hne : ((yd : Int) == (ye : Int)) = false := beq_eq_false_iff_ne.2 (fun e => HCyc.out.2.2 i (i + per) (by omega) (by omega) (by rw [← hyd, ← hye]; exact Int.ofNat_inj.1 e))
      have HI := Lib.hid hi1
      clear hyd hye hi1
      by_cases hkk : 1 + (k : Int) < (per : Int)
      all_goals
        have hcc := HCond.out
        try (have hcc2 := hcc hkk)
        clear hcc
        go_wp2_with fail
        refine (HJd.out _).mono ?_
        rintro e w8 ⟨rfl, b8⟩
        have B8 := Lib.hid (B7.out.trans (b8.mono hz7))
        have hz8 := B8.out.size
        have r8 := HK.out.below B8.out
        have d0 := r8.c0
        have d1 := r8.c1
        clear b8 r8 e0 e1
        go_wp2_with fail
        refine (HJe.out _).mono ?_
        rintro e w9 ⟨rfl, b9⟩
        have B9 := Lib.hid (B8.out.trans (b9.mono hz8))
        have hz9 := B9.out.size
        have r9 := HK.out.below B9.out
        have e0 := r9.c0
        have e1 := r9.c1
        clear b9 r9 d0 d1
        rcases HA2.out with ⟨hV0, hA1, hA2⟩ | hV0
        all_goals
          go_wp2_with fail
          refine (HOx.out _).mono ?_
          rintro e w' ⟨rfl, rfl⟩
          go_wp2_with fail
          refine (HPr.out _).mono ?_
          rintro e w' ⟨rfl, rfl⟩
          have BE := Lib.hid (B1.out.trans (B9.out.mono B1.out.size))
          go_wp2
          go_ret
          exact ⟨rfl, BE.out⟩
    · have hj0 : j = 0 := by omega
      rcases HA2.out with ⟨hV0, hA1, hA2⟩ | hV0
      all_goals
        by_cases hkk : 1 + (k : Int) < (per : Int)
        all_goals
          have hcc := HCond.out
          try (have hcc2 := hcc hkk)
          clear hcc
          go_wp2_with fail
          refine (HOx.out _).mono ?_
          rintro e w' ⟨rfl, rfl⟩
          go_wp2_with fail
          refine (HPr.out _).mono ?_
          rintro e w' ⟨rfl, rfl⟩
          have BE := Lib.hid (B1.out.trans (B7.out.mono B1.out.size))
          go_wp2
          go_ret
          exact ⟨rfl, BE.out⟩
/-- an argument of bytes of each -/
theorem periods_v {w : World} {v u : Value} (h : Open.IsBytes w v) (h' : Open.IsBytes w u) : Calls Try.prog 3 #[v, u] w fun e w' => e = .returned (.bool true) ∧ Below w.heap.size w w' := by
  obtain ⟨A, c, zs, rfl, hl, hz, hx⟩ := h.ex
  obtain ⟨A', c', ys, rfl, hl', hz', hx'⟩ := h'.ex
  exact periods_any A A' c c' zs ys w hl hl' hz hz' hx hx'
end Go.Proofs.Ytogadldnkhdjbaa.PerL
