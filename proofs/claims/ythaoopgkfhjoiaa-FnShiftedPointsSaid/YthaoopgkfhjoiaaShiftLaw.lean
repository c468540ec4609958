/- Points that are shifted: the law. -/
import Derived.Test.YthaoopgkfhjoiaaShift
import Derived.Test.YthaoopgkfhjoiaaNetLaw
namespace Go.Proofs.Ythaoopgkfhjoiaa.Shift
open Go.RowKit Go.Proofs.Ythaoopgkfhjoiaa Go.Proofs.Ythaoopgkfhjoiaa.Base Go.Proofs.Ythaoopgkfhjoiaa.Mem Go.Proofs.Ythaoopgkfhjoiaa.AllIn Go.Proofs.Ythaoopgkfhjoiaa.Pts Go.Proofs.Ythaoopgkfhjoiaa.RevNet Go.Proofs.Ythaoopgkfhjoiaa.Bits Go.Proofs.Ythaoopgkfhjoiaa.Cpy
set_option linter.unusedVariables false
def shR (xss : List (List Int)) (bits : Int) (ys : List Int) : List (List Int) := if shB xss bits ys = true then shL xss ys else []
theorem shR_no {xss : List (List Int)} {bits : Int} {ys : List Int} (h : shB xss bits ys = false) : shR xss bits ys = [] := by rw [shR, if_neg (by simp [h])]
theorem RowsRet.none {w w' : World} {e : Ending} {xss : List (List Int)} {bits : Int} {ys : List Int} (h : shB xss bits ys = false) (he : e = .returned (.tuple #[.slice none 0 0, .bool false])) (hb : Below w.heap.size w w') : RowsRet (shR xss bits ys) (shB xss bits ys) w e w' := by
  rw [shR_no h, h]
  exact ⟨_, _, [], he, OwnII.nil _ _, hb⟩
set_option maxHeartbeats 2000000 in
theorem implShift_any (A A' : Option Addr) (c c' B : Nat) (bits : Int) (xss : List (List Int)) (ys : List Int) (w : World) (hx : RdII w B A xss) (hy : RdI w B A' ys) (hB : B ≤ w.heap.size) (hl : xss.length ≤ 1048576) (hm : tot xss ≤ 1048576) (hly : ys.length ≤ 1048576) :
    Calls Try.prog 22 #[.slice A xss.length c, .int .i64 bits, .slice A' ys.length c'] w (RowsRet (shR xss bits ys) (shB xss bits ys) w) := by
  have HV := Lib.hid (implIsPoints_any A c B bits xss w hx hB hl hm)
  cases hp : ptsB xss bits with
  | false =>
    rw [hp] at HV
    have HF := Lib.hid (show shB xss bits ys = false by simp [shB, hp])
    clear hx hy hp
    go_enter Try.func22, Try.ntmps22
    go_wp2_with fail
    refine HV.out.mono ?_
    rintro e w1 ⟨rfl, hb1⟩
    have B1 := Lib.hid hb1
    clear hb1
    go_wp2
    go_ret2
    exact RowsRet.none HF.out rfl B1.out
  | true =>
    rw [hp] at HV
    obtain ⟨q1, q2, q3, q4, q5, q6, _⟩ := ptsB_true hp
    by_cases hL : ys.length = (xss.getD 0 []).length
    · cases hyA : allInB ys 0 ((2 : Int) ^ bits.toNat - 1) with
      | false =>
        have HF := Lib.hid (show shB xss bits ys = false by unfold shB; rw [hyA]; simp)
        obtain ⟨b, rfl⟩ := Int.eq_ofNat_of_zero_le q1
        rw [Int.toNat_natCast] at hyA
        obtain ⟨p1, p2⟩ := pw_bd6 (b := b) (by omega)
        obtain ⟨bb, off, hA, hbB, hc⟩ := hx (by omega)
        obtain ⟨A0, c0, g0, _⟩ := hc 0 (by omega)
        rw [Nat.add_zero, ← hL] at g0
        subst hA
        have HAny := Lib.hid (fun W hW => allIn_any A' c' B ys 0 ((2 : Int) ^ b - 1) W (hy.below (hW : Below w.heap.size w W) hB) (Nat.le_trans hB hW.size) (by omega))
        rw [hyA] at HAny
        have hbw : bb < w.heap.size := by omega
        have hneq : ((ys.length : Int) != (ys.length : Int)) = false := by simp
        have hpos : 0 < xss.length := by omega
        clear hx hy hp hL hyA hc q5 q6
        go_enter Try.func22, Try.ntmps22
        go_wp2_with fail
        refine HV.out.mono ?_
        rintro e w1 ⟨rfl, hb1⟩
        have B1 := Lib.hid hb1
        have g1 := (hb1.cell (p := ⟨bb, off, none⟩) hbw).trans g0
        clear hb1 g0
        go_wp2_with fail
        refine (HAny.out w1 B1.out).mono ?_
        rintro e w2 ⟨rfl, hb2⟩
        have B2 := Lib.hid (Base.Below.nextA B1.out hb2)
        clear hb2 g1
        go_wp2
        go_ret2
        exact RowsRet.none HF.out rfl B2.out
      | true =>
        have HY := (implShift_yes A A' c c' B bits.toNat xss ys w hx hy hB (by omega) (by omega) (by omega) hm (by rw [Int.toNat_of_nonneg q1]; exact hp) hL (by omega) hyA)
        rw [Int.toNat_of_nonneg q1] at HY
        have e : shB xss bits ys = true := by unfold shB; rw [hp, hyA, beq_iff_eq.2 hL]; rfl
        rw [shR, if_pos e, e]
        exact HY
    · have HF := Lib.hid (show shB xss bits ys = false by unfold shB; rw [beq_eq_false_iff_ne.2 hL]; simp)
      obtain ⟨bb, off, hA, hbB, hc⟩ := hx (by omega)
      obtain ⟨A0, c0, g0, _⟩ := hc 0 (by omega)
      rw [Nat.add_zero] at g0
      subst hA
      have hbw : bb < w.heap.size := by omega
      have hneq : ((ys.length : Int) != ((xss.getD 0 []).length : Int)) = true := bne_iff_ne.2 (by omega)
      have hpos : 0 < xss.length := by omega
      clear hx hy hp hc q5
      generalize (xss.getD 0 []).length = L at *
      go_enter Try.func22, Try.ntmps22
      go_wp2_with fail
      refine HV.out.mono ?_
      rintro e w1 ⟨rfl, hb1⟩
      have B1 := Lib.hid hb1
      have g1 := (hb1.cell (p := ⟨bb, off, none⟩) hbw).trans g0
      clear hb1 g0
      go_wp2
      go_ret2
      exact RowsRet.none HF.out rfl B1.out
set_option maxHeartbeats 2000000 in
theorem specShift_any (A A' : Option Addr) (c c' B : Nat) (bits : Int) (xss : List (List Int)) (ys : List Int) (w : World) (hx : RdII w B A xss) (hy : RdI w B A' ys) (hB : B ≤ w.heap.size) (hl : xss.length ≤ 1048576) (hm : tot xss ≤ 1048576) (hly : ys.length ≤ 1048576) :
    Calls Try.prog 19 #[.slice A xss.length c, .int .i64 bits, .slice A' ys.length c'] w (RowsRet (shR xss bits ys) (shB xss bits ys) w) := by
  have HV := Lib.hid (l10List_any A c B bits xss w hx hl hm)
  cases hp : ptsB xss bits with
  | false =>
    rw [hp] at HV
    have HF := Lib.hid (show shB xss bits ys = false by simp [shB, hp])
    clear hx hy hp
    go_enter Try.func19, Try.ntmps19
    go_wp2_with fail
    refine HV.out.mono ?_
    rintro e w1 ⟨rfl, hD⟩
    have B1 := Lib.hid (hD.below (B := w.heap.size))
    clear hD
    go_wp2
    go_ret2
    exact RowsRet.none HF.out rfl B1.out
  | true =>
    rw [hp] at HV
    obtain ⟨q1, q2, q3, q4, q5, q6, _⟩ := ptsB_true hp
    by_cases hL : ys.length = (xss.getD 0 []).length
    · cases hyA : allInB ys 0 ((2 : Int) ^ bits.toNat - 1) with
      | false =>
        have HF := Lib.hid (show shB xss bits ys = false by unfold shB; rw [hyA]; simp)
        obtain ⟨b, rfl⟩ := Int.eq_ofNat_of_zero_le q1
        rw [Int.toNat_natCast] at hyA
        have HNA : Hid (¬ ∀ i, i < ys.length → inR (ys.getD i 0) 0 ((2 : Int) ^ b - 1) = true) := Lib.hid fun h => by
          have := allInB_of h
          rw [hyA] at this
          cases this
        obtain ⟨bb, off, hA, hbB, hc⟩ := hx (by omega)
        obtain ⟨A0, c0, g0, _⟩ := hc 0 (by omega)
        rw [Nat.add_zero, ← hL] at g0
        subst hA
        have hbw : bb < w.heap.size := by omega
        have hneq : ((ys.length : Int) != (ys.length : Int)) = false := by simp
        have hpos : 0 < xss.length := by omega
        have HYR := Lib.hid hy
        clear hx hy hp hL hyA hc q5 q6
        go_enter Try.func19, Try.ntmps19
        go_wp2_with fail
        refine HV.out.mono ?_
        rintro e w1 ⟨rfl, hD⟩
        have B1 := Lib.hid (hD.below (B := w.heap.size))
        have g1 := ((hD.below (B := w.heap.size)).cell (p := ⟨bb, off, none⟩) hbw).trans g0
        have HY2 := Lib.hid (HYR.out.below B1.out hB)
        clear hD g0
        go_wp2_with fail
        clear g1
        go_loop [8] (fun i => ∃ d : Nat, d ≤ ys.length ∧ i = .int .i64 (d : Int) ∧ Hid (∀ j, j < d → inR (ys.getD j 0) 0 ((2 : Int) ^ b - 1) = true)) (fun i => ys.length - (intOf i).toNat)
        case atStart => exact ⟨0, Nat.zero_le _, rfl, Lib.hid fun j hj => absurd hj (Nat.not_lt_zero j)⟩
        case round =>
          obtain ⟨d, hd, rfl, hall⟩ := hrel
          by_cases hdt : d < ys.length
          · obtain ⟨b4, off4, e4, _, hc4⟩ := HY2.out (by omega)
            have g4 := hc4 d hdt
            subst e4
            clear hc4
            cases hst : Reg.stB b (ys.getD d 0) with
            | false =>
              generalize ys.getD d 0 = y at *
              go_wp2_with (go_at_call 75; refine (Reg.l02State_qb hst (by omega) _).mono ?_; rintro e w' ⟨rfl, rfl⟩)
              go_ret2
              exact RowsRet.none HF.out rfl B1.out
            | true =>
              have hn : Hid (∀ j, j < d + 1 → inR (ys.getD j 0) 0 ((2 : Int) ^ b - 1) = true) := Lib.hid fun j hj => by
                rcases Nat.lt_or_ge j d with h | h
                · exact hall.out j h
                · rw [show j = d by omega]; exact hst
              generalize ys.getD d 0 = y at *
              go_wp2_with (go_at_call 75; refine (Reg.l02State_qb hst (by omega) _).mono ?_; rintro e w' ⟨rfl, rfl⟩)
              go_round
              case rel => exact ⟨d + 1, hdt, by go_num, hn⟩
              case measure => simp [intOf]; omega
          · obtain rfl : d = ys.length := by omega
            exact (HNA.out hall.out).elim
      | true =>
        have HY := (specShift_yes A A' c c' B bits.toNat xss ys w hx hy hB (by omega) (by omega) (by omega) hm (by rw [Int.toNat_of_nonneg q1]; exact hp) hL (by omega) hyA)
        rw [Int.toNat_of_nonneg q1] at HY
        have e : shB xss bits ys = true := by unfold shB; rw [hp, hyA, beq_iff_eq.2 hL]; rfl
        rw [shR, if_pos e, e]
        exact HY
    · have HF := Lib.hid (show shB xss bits ys = false by unfold shB; rw [beq_eq_false_iff_ne.2 hL]; simp)
      obtain ⟨bb, off, hA, hbB, hc⟩ := hx (by omega)
      obtain ⟨A0, c0, g0, _⟩ := hc 0 (by omega)
      rw [Nat.add_zero] at g0
      subst hA
      have hbw : bb < w.heap.size := by omega
      have hneq : ((ys.length : Int) != ((xss.getD 0 []).length : Int)) = true := bne_iff_ne.2 (by omega)
      have hpos : 0 < xss.length := by omega
      clear hx hy hp hc q5
      generalize (xss.getD 0 []).length = L at *
      go_enter Try.func19, Try.ntmps19
      go_wp2_with fail
      refine HV.out.mono ?_
      rintro e w1 ⟨rfl, hD⟩
      have B1 := Lib.hid (hD.below (B := w.heap.size))
      have g1 := ((hD.below (B := w.heap.size)).cell (p := ⟨bb, off, none⟩) hbw).trans g0
      clear hD g0
      go_wp2
      go_ret2
      exact RowsRet.none HF.out rfl B1.out
/-! ### The law (laws_gen.py) -/
theorem shL_tot (xss : List (List Int)) (ys : List Int) : tot (shL xss ys) = xss.length * ys.length := by
  induction xss with
  | nil => simp [shL, tot]
  | cons xs r ih =>
    have e : shL (xs :: r) ys = shRow xs ys :: shL r ys := rfl
    rw [e, tot_cons, ih, shRow_len, List.length_cons, Nat.add_mul, Nat.one_mul, Nat.add_comm]
theorem shR_bd (xss : List (List Int)) (bits : Int) (ys : List Int) : (shR xss bits ys).length ≤ 64 ∧ tot (shR xss bits ys) ≤ 256 := by
  unfold shR
  split
  · rename_i h
    simp only [shB, Bool.and_eq_true, beq_iff_eq] at h
    obtain ⟨_, _, _, h4, _, h6, _⟩ := ptsB_true h.1
    rw [shL_len, shL_tot]
    have : xss.length * ys.length ≤ 64 * 4 := Nat.mul_le_mul h4 (by omega)
    omega
  · simp [tot]
set_option maxHeartbeats 4000000 in
set_option maxRecDepth 100000 in
theorem exactShift_any (A0 : Option Addr) (c0 : Nat) (A2 : Option Addr) (c2 : Nat) (xss : List (List Int)) (bits : Int) (ys : List Int) (w : World) (hl0 : xss.length ≤ 9223372036854775807) (hm0 : ∀ xs ∈ xss, xs.length ≤ 9223372036854775807) (hx0 : RdII w w.heap.size A0 xss) (hl2 : ys.length ≤ 9223372036854775807) (hx2 : RdI w w.heap.size A2 ys) :
    Calls Try.prog 4 #[.slice A0 xss.length c0, .int .i64 bits, .slice A2 ys.length c2] w fun e w' => e = .returned (.bool true) ∧ Below w.heap.size w w' := by
  obtain ⟨hR1, hR2⟩ := shR_bd xss bits ys
  by_cases hb2 : ys.length ≤ 1048576
  case neg =>
    clear hx0; clear hm0
    clear hx2
    have hgt : (1048576 : Int) < (ys.length : Int) := by omega
    go_enter Try.func4, Try.ntmps4
    go_wp2
    go_ret
    exact ⟨rfl, Below.refl _ _⟩
  have HX0 := Lib.hid hx0
  have HSZ0 := Lib.hid (fun k W hk hk2 (hW : Below w.heap.size w W) => szII_any A0 c0 _ k xss W (hx0.below hW (Nat.le_refl _)) hl0 hm0 hk hk2)
  have HX2 := Lib.hid hx2
  clear hx0 hm0 hx2
  go_enter Try.func4, Try.ntmps4
  go_wp2_with fail
  refine (HSZ0.out 1048576 w (by omega) (by omega) (Below.refl _ _)).mono ?_
  rintro e w' ⟨r0, rfl, hr0, rfl⟩
  rcases hr0 with rfl | ⟨hr0a, hr0b⟩
  · go_wp2
    go_ret
    exact ⟨rfl, Below.refl _ _⟩
  have hb0 : xss.length ≤ 1048576 := by omega
  have ht0 : tot xss ≤ 1048576 := by omega
  clear hr0b
  have CT0 := Lib.hid (fun (W : World) (hW : Below w.heap.size w W) => toII_any A0 c0 w.heap.size xss W (HX0.out.below hW (Nat.le_refl _)) hW.size hb0 ht0)
  have CT2 := Lib.hid (fun (W : World) (hW : Below w.heap.size w W) => toI_any A2 c2 w.heap.size ys W (HX2.out.below hW (Nat.le_refl _)) hW.size hb2)
  have HS := Lib.hid (fun A A' c c' B W hx hy hB => specShift_any A A' c c' B bits xss ys W hx hy hB hb0 ht0 hb2)
  have HI := Lib.hid (fun A A' c c' B W hx hy hB => implShift_any A A' c c' B bits xss ys W hx hy hB hb0 ht0 hb2)
  generalize shR xss bits ys = R at *
  generalize shB xss bits ys = ok at *
  have hok : (ok != ok) = false := by simp
  go_wp2_with fail
  refine (CT0.out _ (Below.refl _ _)).mono ?_
  rintro e w1 ⟨g_t0, us_t0, rfl, o_t0, b_w1⟩
  have B_w1 := Lib.hid (b_w1)
  have hs_w1 := (b_w1).size
  have t0 := Lib.hid o_t0
  clear b_w1 o_t0
  go_wp2_with fail
  refine (CT2.out _ B_w1.out).mono ?_
  rintro e w2 ⟨g_t2, rfl, o_t2, b_w2⟩
  have B_w2 := Lib.hid (Base.Below.nextA B_w1.out b_w2)
  have t0_w2 := Lib.hid (t0.out.below b_w2)
  have hs_w2 := (b_w2).size
  have t2 := Lib.hid o_t2
  clear b_w2 o_t2
  go_wp2_with fail
  refine (HS.out _ _ _ _ w2.heap.size w2 t0_w2.out.rd t2.out.rd (Nat.le_refl _)).mono ?_
  rintro e w3 ⟨A_s, c_s, us_s, rfl, o_s, b_w3⟩
  have B_w3 := Lib.hid (Base.Below.nextA B_w2.out b_w3)
  have hs_w3 := (b_w3).size
  have s := Lib.hid o_s
  clear b_w3 o_s
  have R3 := Lib.hid (s.out.rd)
  go_wp2_with fail
  refine (CT0.out _ B_w3.out).mono ?_
  rintro e w4 ⟨g_x0, us_x0, rfl, o_x0, b_w4⟩
  have B_w4 := Lib.hid (Base.Below.nextA B_w3.out b_w4)
  have Y_w4 := Lib.hid (b_w4)
  have hs_w4 := (b_w4).size
  have x0 := Lib.hid o_x0
  clear b_w4 o_x0
  go_wp2_with fail
  refine (CT2.out _ B_w4.out).mono ?_
  rintro e w5 ⟨g_x2, rfl, o_x2, b_w5⟩
  have B_w5 := Lib.hid (Base.Below.nextA B_w4.out b_w5)
  have x0_w5 := Lib.hid (x0.out.below b_w5)
  have Y_w5 := Lib.hid (Base.Below.nextA Y_w4.out b_w5)
  have hs_w5 := (b_w5).size
  have x2 := Lib.hid o_x2
  clear b_w5 o_x2
  go_wp2_with fail
  refine (HI.out _ _ _ _ w5.heap.size w5 x0_w5.out.rd x2.out.rd (Nat.le_refl _)).mono ?_
  rintro e w6 ⟨A_g, c_g, us_g, rfl, o_g, b_w6⟩
  have B_w6 := Lib.hid (Base.Below.nextA B_w5.out b_w6)
  have x0_w6 := Lib.hid (x0_w5.out.below b_w6)
  have x2_w6 := Lib.hid (x2.out.below b_w6)
  have Y_w6 := Lib.hid (Base.Below.nextA Y_w5.out b_w6)
  have hs_w6 := (b_w6).size
  have g := Lib.hid o_g
  clear b_w6 o_g
  go_wp2_with fail
  refine (eqII_yes A_g A_s c_g c_s _ _ R w6 g.out.rd (R3.out.below Y_w6.out (Nat.le_refl _)) (by omega) (by omega)).mono ?_
  rintro e w7 ⟨rfl, n_w7, e_w7⟩
  have x_w7 : Below w6.heap.size w6 w7 := by rw [e_w7]; exact below_drewN (Below.refl _ _) _
  clear e_w7
  have B_w7 := Lib.hid (Base.Below.nextA B_w6.out x_w7)
  have x0_w7 := Lib.hid (x0_w6.out.below x_w7)
  have x2_w7 := Lib.hid (x2_w6.out.below x_w7)
  have g_w7 := Lib.hid (g.out.below x_w7)
  have Y_w7 := Lib.hid (Base.Below.nextA Y_w6.out x_w7)
  have hs_w7 := (x_w7).size
  clear x_w7
  go_wp2_with fail
  refine (CT0.out _ B_w7.out).mono ?_
  rintro e w8 ⟨g_u0, us_u0, rfl, o_u0, b_w8⟩
  have B_w8 := Lib.hid (Base.Below.nextA B_w7.out b_w8)
  have x0_w8 := Lib.hid (x0_w7.out.below b_w8)
  have x2_w8 := Lib.hid (x2_w7.out.below b_w8)
  have g_w8 := Lib.hid (g_w7.out.below b_w8)
  have Y_w8 := Lib.hid (Base.Below.nextA Y_w7.out b_w8)
  have hs_w8 := (b_w8).size
  have u0 := Lib.hid o_u0
  clear b_w8 o_u0
  go_wp2_with fail
  refine (eqII_yes _ _ _ _ _ _ xss w8 x0_w8.out.rd u0.out.rd (by omega) (by omega)).mono ?_
  rintro e w9 ⟨rfl, n_w9, e_w9⟩
  have x_w9 : Below w8.heap.size w8 w9 := by rw [e_w9]; exact below_drewN (Below.refl _ _) _
  clear e_w9
  have B_w9 := Lib.hid (Base.Below.nextA B_w8.out x_w9)
  have x0_w9 := Lib.hid (x0_w8.out.below x_w9)
  have x2_w9 := Lib.hid (x2_w8.out.below x_w9)
  have g_w9 := Lib.hid (g_w8.out.below x_w9)
  have Y_w9 := Lib.hid (Base.Below.nextA Y_w8.out x_w9)
  have hs_w9 := (x_w9).size
  clear x_w9
  go_wp2_with fail
  refine (CT2.out _ B_w9.out).mono ?_
  rintro e w10 ⟨g_u2, rfl, o_u2, b_w10⟩
  have B_w10 := Lib.hid (Base.Below.nextA B_w9.out b_w10)
  have x0_w10 := Lib.hid (x0_w9.out.below b_w10)
  have x2_w10 := Lib.hid (x2_w9.out.below b_w10)
  have g_w10 := Lib.hid (g_w9.out.below b_w10)
  have Y_w10 := Lib.hid (Base.Below.nextA Y_w9.out b_w10)
  have hs_w10 := (b_w10).size
  have u2 := Lib.hid o_u2
  clear b_w10 o_u2
  go_wp2_with fail
  refine (eqI_yes _ _ _ _ _ _ ys w10 x2_w10.out.rd u2.out.rd (by omega)).mono ?_
  rintro e w11 ⟨rfl, n_w11, e_w11⟩
  have x_w11 : Below w10.heap.size w10 w11 := by rw [e_w11]; exact below_drewN (Below.refl _ _) _
  clear e_w11
  have B_w11 := Lib.hid (Base.Below.nextA B_w10.out x_w11)
  have x0_w11 := Lib.hid (x0_w10.out.below x_w11)
  have x2_w11 := Lib.hid (x2_w10.out.below x_w11)
  have g_w11 := Lib.hid (g_w10.out.below x_w11)
  have Y_w11 := Lib.hid (Base.Below.nextA Y_w10.out x_w11)
  have hs_w11 := (x_w11).size
  clear x_w11
  go_wp2_with fail
  refine (markII_more _ _ w3.heap.size (1) xss us_x0 w11 x0_w11.out (by omega) (by omega) (by omega)).mono ?_
  rintro e w12 ⟨rfl, _, b_w12, m_w12⟩
  have a_w12 := m_w12.abv w4.heap.size (fun i g hi hg => x0.out.fits i g hi hg)
  clear m_w12
  have B_w12 := Lib.hid (B_w11.out.trans (b_w12.mono (by omega)))
  have Y_w12 := Lib.hid (Y_w11.out.trans (b_w12.mono (by omega)))
  have x2_w12 := Lib.hid (OwnI_above x2_w11.out (fun g h1 h2 => a_w12 g (by omega) h2))
  have g_w12 := Lib.hid (OwnII_above g_w11.out (fun g h1 h2 => a_w12 g (by omega) h2))
  have hs_w12 := b_w12.size
  clear a_w12 b_w12
  go_wp2_with fail
  refine (markI_any _ _ w4.heap.size (1 + tot xss) ys.length ys w12 rfl x2_w12.out (by omega)).mono ?_
  rintro e w13 ⟨rfl, q_w13, g_w13⟩
  have b_w13 : Below w4.heap.size w12 w13 := grown_below g_w13 (fun q hq => (ownsRow_block q_w13 hq).choose_spec.2.1) (by omega)
  have a_w13 : Above w5.heap.size w12 w13 := Above.grown g_w13 (fun q hq => (ownsRow_block x2.out hq).choose_spec.2.2)
  clear q_w13 g_w13
  have B_w13 := Lib.hid (B_w12.out.trans (b_w13.mono (by omega)))
  have Y_w13 := Lib.hid (Y_w12.out.trans (b_w13.mono (by omega)))
  have g_w13 := Lib.hid (OwnII_above g_w12.out (fun g h1 h2 => a_w13 g (by omega) h2))
  have hs_w13 := b_w13.size
  clear a_w13 b_w13
  have hkk : 1 + tot xss + ys.length ≤ 1099511627776 := by omega
  go_wp2_with fail
  refine (eqII_yes A_g A_s c_g c_s _ _ R w13 g_w13.out.rd (R3.out.below Y_w13.out (Nat.le_refl _)) (by omega) (by omega)).mono ?_
  rintro e w14 ⟨rfl, n_w14, e_w14⟩
  have x_w14 : Below w13.heap.size w13 w14 := by rw [e_w14]; exact below_drewN (Below.refl _ _) _
  clear e_w14
  have B_w14 := Lib.hid (Base.Below.nextA B_w13.out x_w14)
  have g_w14 := Lib.hid (g_w13.out.below x_w14)
  have Y_w14 := Lib.hid (Base.Below.nextA Y_w13.out x_w14)
  have hs_w14 := (x_w14).size
  clear x_w14
  go_wp2_with fail
  refine (markII_any A_g c_g w5.heap.size 1 R us_g w14 g_w14.out (by omega) (by omega) (by omega)).mono ?_
  rintro e w15 ⟨rfl, o_m, b_w15⟩
  have OM := Lib.hid o_m
  have B_w15 := Lib.hid (B_w14.out.trans (b_w15.mono (by omega)))
  have Y_w15 := Lib.hid (Y_w14.out.trans (b_w15.mono (by omega)))
  have hs_w15 := b_w15.size
  clear o_m b_w15
  have hkR : 1 + tot R ≤ 1099511627776 := by omega
  go_wp2_with fail
  refine (heldII_yes A_g c_g _ 1 R w15 (by have := OM.out; rw [← mk_len 1 R] at this; exact this.rd) (by omega) (by omega)).mono ?_
  rintro e w' ⟨rfl, rfl⟩
  go_wp2_with fail
  refine (CT0.out _ B_w15.out).mono ?_
  rintro e w16 ⟨g_t0, us_t0, rfl, o_t0, b_w16⟩
  have B_w16 := Lib.hid (Base.Below.nextA B_w15.out b_w16)
  have Y_w16 := Lib.hid (Base.Below.nextA Y_w15.out b_w16)
  have Z_w16 := Lib.hid (b_w16)
  have hs_w16 := (b_w16).size
  have t0 := Lib.hid o_t0
  clear b_w16 o_t0
  go_wp2_with fail
  refine (CT2.out _ B_w16.out).mono ?_
  rintro e w17 ⟨g_t2, rfl, o_t2, b_w17⟩
  have B_w17 := Lib.hid (Base.Below.nextA B_w16.out b_w17)
  have t0_w17 := Lib.hid (t0.out.below b_w17)
  have Y_w17 := Lib.hid (Base.Below.nextA Y_w16.out b_w17)
  have Z_w17 := Lib.hid (Base.Below.nextA Z_w16.out b_w17)
  have hs_w17 := (b_w17).size
  have t2 := Lib.hid o_t2
  clear b_w17 o_t2
  go_wp2_with fail
  refine (HI.out _ _ _ _ w17.heap.size w17 t0_w17.out.rd t2.out.rd (Nat.le_refl _)).mono ?_
  rintro e w18 ⟨A_h, c_h, us_h, rfl, o_h, b_w18⟩
  have B_w18 := Lib.hid (Base.Below.nextA B_w17.out b_w18)
  have Y_w18 := Lib.hid (Base.Below.nextA Y_w17.out b_w18)
  have Z_w18 := Lib.hid (Base.Below.nextA Z_w17.out b_w18)
  have hs_w18 := (b_w18).size
  have h := Lib.hid o_h
  clear b_w18 o_h
  go_wp2_with fail
  refine (eqII_yes A_h A_s c_h c_s _ _ R w18 h.out.rd (R3.out.below Y_w18.out (Nat.le_refl _)) (by omega) (by omega)).mono ?_
  rintro e w19 ⟨rfl, n_w19, e_w19⟩
  have x_w19 : Below w18.heap.size w18 w19 := by rw [e_w19]; exact below_drewN (Below.refl _ _) _
  clear e_w19
  have B_w19 := Lib.hid (Base.Below.nextA B_w18.out x_w19)
  have h_w19 := Lib.hid (h.out.below x_w19)
  have Y_w19 := Lib.hid (Base.Below.nextA Y_w18.out x_w19)
  have Z_w19 := Lib.hid (Base.Below.nextA Z_w18.out x_w19)
  have hs_w19 := (x_w19).size
  clear x_w19
  go_wp2_with fail
  refine (heldII_yes A_g c_g _ 1 R w19 (by have := (OM.out.below Z_w19.out); rw [← mk_len 1 R] at this; exact this.rd) (by omega) (by omega)).mono ?_
  rintro e w' ⟨rfl, rfl⟩
  go_wp2
  go_ret
  exact ⟨rfl, B_w19.out⟩
theorem exactShift_v {w : World} {v u : Value} (h : Open.IsRows w v) (bits : Int) (h' : Open.IsInts w u) : Calls Try.prog 4 #[v, .int .i64 bits, u] w fun e w' => e = .returned (.bool true) ∧ Below w.heap.size w w' := by
  obtain ⟨A, c, xss, rfl, hl, hl', _, hx⟩ := h.ex
  obtain ⟨A', c', ys, rfl, hy, _, hy'⟩ := h'.ex
  exact exactShift_any A c A' c' xss bits ys w hl hl' hx hy hy'
end Go.Proofs.Ythaoopgkfhjoiaa.Shift
