/- Points that are even for cuts, and the counts of boxes: the laws. -/
import Derived.Test.YthaoopgkfhjoiaaBox
import Derived.Test.YthaoopgkfhjoiaaOpen
namespace Go.Proofs.Ythaoopgkfhjoiaa.Box
open Go.RowKit Go.Proofs.Ythaoopgkfhjoiaa Go.Proofs.Ythaoopgkfhjoiaa.Base Go.Proofs.Ythaoopgkfhjoiaa.Mem Go.Proofs.Ythaoopgkfhjoiaa.AllIn Go.Proofs.Ythaoopgkfhjoiaa.Pts Go.Proofs.Ythaoopgkfhjoiaa.RevNet Go.Proofs.Ythaoopgkfhjoiaa.Bits Go.Proofs.Ythaoopgkfhjoiaa.Cuts Go.Proofs.Ythaoopgkfhjoiaa.Cpy
set_option linter.unusedVariables false
def minTo (xs : List Int) : Nat → Int
  | 0 => xs.getD 0 0
  | k + 1 => if xs.getD k 0 < minTo xs k then xs.getD k 0 else minTo xs k
def maxTo (xs : List Int) : Nat → Int
  | 0 => xs.getD 0 0
  | k + 1 => if maxTo xs k < xs.getD k 0 then xs.getD k 0 else maxTo xs k
theorem minTo_le (xs : List Int) : ∀ k, minTo xs k ≤ xs.getD 0 0 ∧ ∀ i, i < k → minTo xs k ≤ xs.getD i 0
  | 0 => ⟨Int.le_refl _, fun i h => absurd h (Nat.not_lt_zero i)⟩
  | k + 1 => by
    obtain ⟨h1, h2⟩ := minTo_le xs k
    rw [minTo]
    split
    · refine ⟨by omega, fun i hi => ?_⟩
      rcases Nat.lt_or_ge i k with h | h
      · have := h2 i h; omega
      · rw [show i = k by omega]; exact Int.le_refl _
    · refine ⟨h1, fun i hi => ?_⟩
      rcases Nat.lt_or_ge i k with h | h
      · exact h2 i h
      · rw [show i = k by omega]; omega
theorem maxTo_ge (xs : List Int) : ∀ k, xs.getD 0 0 ≤ maxTo xs k ∧ ∀ i, i < k → xs.getD i 0 ≤ maxTo xs k
  | 0 => ⟨Int.le_refl _, fun i h => absurd h (Nat.not_lt_zero i)⟩
  | k + 1 => by
    obtain ⟨h1, h2⟩ := maxTo_ge xs k
    rw [maxTo]
    split
    · refine ⟨by omega, fun i hi => ?_⟩
      rcases Nat.lt_or_ge i k with h | h
      · have := h2 i h; omega
      · rw [show i = k by omega]; exact Int.le_refl _
    · refine ⟨h1, fun i hi => ?_⟩
      rcases Nat.lt_or_ge i k with h | h
      · exact h2 i h
      · rw [show i = k by omega]; omega
theorem ends_same {xs : List Int} {v : Int} : ∀ k, (∀ i, i < k → xs.getD i 0 = v) → xs.getD 0 0 = v → minTo xs k = v ∧ maxTo xs k = v
  | 0, _, h => ⟨h, h⟩
  | k + 1, h, h0 => by
    obtain ⟨h1, h2⟩ := ends_same k (fun i hi => h i (by omega)) h0
    have h3 := h k (by omega)
    rw [minTo, maxTo, h1, h2, h3]
    simp
def evenL (xs : List Int) : Bool := xs.all fun x => x == xs.getD 0 0
theorem evenL_eq (xs : List Int) : (minTo xs xs.length == maxTo xs xs.length) = evenL xs := by
  obtain ⟨m1, m2⟩ := minTo_le xs xs.length
  obtain ⟨n1, n2⟩ := maxTo_ge xs xs.length
  cases h : evenL xs with
  | true =>
    have ha : ∀ i, i < xs.length → xs.getD i 0 = xs.getD 0 0 := fun i hi => by
      have := all_at 0 hi (show xs.all (fun x => x == xs.getD 0 0) = true from h)
      simpa using this
    obtain ⟨h1, h2⟩ := ends_same xs.length ha rfl
    rw [h1, h2]; simp
  | false =>
    refine beq_eq_false_iff_ne.2 fun e => ?_
    have : evenL xs = true := all_of 0 fun i hi => by
      have h1 := m2 i hi
      have h2 := n2 i hi
      rw [beq_iff_eq]; omega
    rw [h] at this; cases this
set_option maxHeartbeats 400000 in
theorem sliceMin_any (A : Option Addr) (c B : Nat) (xs : List Int) (w : World) (hx : RdI w B A xs) (h0 : 0 < xs.length) (hl : xs.length ≤ 1048576) :
    Calls Try.prog 92 #[.slice A xs.length c] w fun e w' => e = .returned (.int .i64 (minTo xs xs.length)) ∧ w = w' := by
  obtain ⟨b, off, rfl, _, hc⟩ := hx h0
  have g0 := hc 0 h0
  rw [Nat.add_zero] at g0
  have HC := Lib.hid hc
  have HM : Hid (minTo xs 1 = xs.getD 0 0) := Lib.hid (by simp [minTo])
  clear hc hx
  generalize xs.getD 0 0 = x0 at *
  have hnl : ¬ (xs.length : Int) < 1 := by omega
  go_enter Try.func92, Try.ntmps92
  go_wp2_with fail
  go_loop [3, 4] (fun m i => ∃ k : Nat, k + 1 ≤ xs.length ∧ i = .int .i64 ((k : Int) + 1) ∧ m = .int .i64 (minTo xs (k + 1))) (fun _ i => xs.length + 1 - (intOf i).toNat)
  case atStart => exact ⟨0, h0, rfl, by rw [HM.out]⟩
  case round =>
    obtain ⟨k, hk, rfl, rfl⟩ := hrel
    by_cases hlt : k + 1 < xs.length
    · have g := HC.out (k + 1) hlt
      have HS : Hid (minTo xs (k + 1 + 1) = if xs.getD (k + 1) 0 < minTo xs (k + 1) then xs.getD (k + 1) 0 else minTo xs (k + 1)) := Lib.hid rfl
      generalize xs.getD (k + 1) 0 = y at *
      generalize minTo xs (k + 1) = m at *
      have hi0 : (k : Int) + 1 < xs.length := by omega
      by_cases hym : y < m
      · rw [if_pos hym] at HS
        go_wp2
        go_round
        case rel => exact ⟨k + 1, hlt, by go_num, by rw [HS.out]⟩
        case measure => simp [intOf]; omega
      · rw [if_neg hym] at HS
        go_wp2
        go_round
        case rel => exact ⟨k + 1, hlt, by go_num, by rw [HS.out]⟩
        case measure => simp [intOf]; omega
    · have hke : k + 1 = xs.length := by omega
      have hi0 : ¬ (k : Int) + 1 < xs.length := by omega
      have HK := Lib.hid hke
      clear hke
      go_wp2
      go_ret
      exact ⟨ret_int (by rw [HK.out]), rfl⟩
set_option maxHeartbeats 400000 in
theorem sliceMax_any (A : Option Addr) (c B : Nat) (xs : List Int) (w : World) (hx : RdI w B A xs) (h0 : 0 < xs.length) (hl : xs.length ≤ 1048576) :
    Calls Try.prog 93 #[.slice A xs.length c] w fun e w' => e = .returned (.int .i64 (maxTo xs xs.length)) ∧ w = w' := by
  obtain ⟨b, off, rfl, _, hc⟩ := hx h0
  have g0 := hc 0 h0
  rw [Nat.add_zero] at g0
  have HC := Lib.hid hc
  have HM : Hid (maxTo xs 1 = xs.getD 0 0) := Lib.hid (by simp [maxTo])
  clear hc hx
  generalize xs.getD 0 0 = x0 at *
  have hnl : ¬ (xs.length : Int) < 1 := by omega
  go_enter Try.func93, Try.ntmps93
  go_wp2_with fail
  go_loop [3, 4] (fun m i => ∃ k : Nat, k + 1 ≤ xs.length ∧ i = .int .i64 ((k : Int) + 1) ∧ m = .int .i64 (maxTo xs (k + 1))) (fun _ i => xs.length + 1 - (intOf i).toNat)
  case atStart => exact ⟨0, h0, rfl, by rw [HM.out]⟩
  case round =>
    obtain ⟨k, hk, rfl, rfl⟩ := hrel
    by_cases hlt : k + 1 < xs.length
    · have g := HC.out (k + 1) hlt
      have HS : Hid (maxTo xs (k + 1 + 1) = if maxTo xs (k + 1) < xs.getD (k + 1) 0 then xs.getD (k + 1) 0 else maxTo xs (k + 1)) := Lib.hid rfl
      generalize xs.getD (k + 1) 0 = y at *
      generalize maxTo xs (k + 1) = m at *
      have hi0 : (k : Int) + 1 < xs.length := by omega
      by_cases hym : m < y
      · rw [if_pos hym] at HS
        go_wp2
        go_round
        case rel => exact ⟨k + 1, hlt, by go_num, by rw [HS.out]⟩
        case measure => simp [intOf]; omega
      · rw [if_neg hym] at HS
        go_wp2
        go_round
        case rel => exact ⟨k + 1, hlt, by go_num, by rw [HS.out]⟩
        case measure => simp [intOf]; omega
    · have hke : k + 1 = xs.length := by omega
      have hi0 : ¬ (k : Int) + 1 < xs.length := by omega
      have HK := Lib.hid hke
      clear hke
      go_wp2
      go_ret
      exact ⟨ret_int (by rw [HK.out]), rfl⟩
/-- even counts -/
def evenB (xss : List (List Int)) (bits : Int) (ys : List Int) : Bool := cutsB xss bits ys && evenL (boxR xss bits ys)
theorem boxR_pos {xss : List (List Int)} {bits : Int} {ys : List Int} (h : cutsB xss bits ys = true) : 0 < (boxR xss bits ys).length := by
  rw [boxR, if_pos h, cntL_len]
  exact Nat.two_pow_pos _
set_option maxHeartbeats 1000000 in
theorem implEven_any (A A' : Option Addr) (c c' B : Nat) (bits : Int) (xss : List (List Int)) (ys : List Int) (w : World) (hx : RdII w B A xss) (hy : RdI w B A' ys) (hB : B ≤ w.heap.size) (hl : xss.length ≤ 1048576) (hm : tot xss ≤ 1048576) (hly : ys.length ≤ 1048576) :
    Calls Try.prog 41 #[.slice A xss.length c, .int .i64 bits, .slice A' ys.length c'] w fun e w' => e = .returned (.bool (evenB xss bits ys)) ∧ Below w.heap.size w w' := by
  have HV := Lib.hid (implBox_any A A' c c' B bits xss ys w hx hy hB hl hm hly)
  have hbd := boxR_bd xss bits ys
  have hpos := fun h => boxR_pos (xss := xss) (bits := bits) (ys := ys) h
  have HE : Hid (evenB xss bits ys = (cutsB xss bits ys && evenL (boxR xss bits ys))) := Lib.hid rfl
  clear hx hy
  generalize evenB xss bits ys = ev at *
  generalize boxR xss bits ys = R at *
  cases hp : cutsB xss bits ys with
  | false =>
    rw [hp] at HE HV
    clear hpos hp
    go_enter Try.func41, Try.ntmps41
    go_wp2_with fail
    refine HV.out.mono ?_
    rintro e w1 ⟨A1, c1, rfl, o1, b1⟩
    have B1 := Lib.hid b1
    clear o1 b1
    go_wp2
    go_ret
    exact ⟨ret_bool (by rw [HE.out]; rfl), B1.out⟩
  | true =>
    rw [hp] at HE HV
    have hpos := hpos hp
    clear hp
    have HQ := Lib.hid (evenL_eq R)
    go_enter Try.func41, Try.ntmps41
    go_wp2_with fail
    refine HV.out.mono ?_
    rintro e w1 ⟨A1, c1, rfl, o1, b1⟩
    have B1 := Lib.hid b1
    have O1 := Lib.hid o1.rd
    clear o1 b1
    go_wp2_with fail
    refine (sliceMin_any A1 c1 _ R w1 O1.out hpos (by omega)).mono ?_
    rintro e w' ⟨rfl, rfl⟩
    go_wp2_with fail
    refine (sliceMax_any A1 c1 _ R w1 O1.out hpos (by omega)).mono ?_
    rintro e w' ⟨rfl, rfl⟩
    go_wp2
    go_ret
    exact ⟨ret_bool (by rw [HE.out, ← HQ.out]; rfl), B1.out⟩
set_option maxHeartbeats 1000000 in
theorem specEven_any (A A' : Option Addr) (c c' B : Nat) (bits : Int) (xss : List (List Int)) (ys : List Int) (w : World) (hx : RdII w B A xss) (hy : RdI w B A' ys) (hB : B ≤ w.heap.size) (hl : xss.length ≤ 1048576) (hm : tot xss ≤ 1048576) (hly : ys.length ≤ 1048576) :
    Calls Try.prog 40 #[.slice A xss.length c, .int .i64 bits, .slice A' ys.length c'] w fun e w' => e = .returned (.bool (evenB xss bits ys)) ∧ Below w.heap.size w w' := by
  have HV := Lib.hid (l10Cuts_any A A' c c' B bits xss ys w hx hy hB hl hm hly)
  cases hp : cutsB xss bits ys with
  | false =>
    rw [hp] at HV
    have HF := Lib.hid (show evenB xss bits ys = false by simp [evenB, hp])
    clear hx hy hp
    go_enter Try.func40, Try.ntmps40
    go_wp2_with fail
    refine HV.out.mono ?_
    rintro e w1 ⟨rfl, hD⟩
    have B1 := Lib.hid (hD.below (B := w.heap.size))
    clear hD
    go_wp2
    go_ret
    exact ⟨ret_bool HF.out.symm, B1.out⟩
  | true =>
    have h0 := (ptsB_true (cutsB_true hp).1).1
    have HP0 := boxR_pos hp
    have hbd := boxR_bd xss bits ys
    obtain ⟨b, rfl⟩ := Int.eq_ofNat_of_zero_le h0
    have HC := Lib.hid (fun W (hW : Below w.heap.size w W) => l10Counts_any A A' c c' B b xss ys W (hx.below hW hB) (hy.below hW hB) (Nat.le_trans hB hW.size) hl hm hly hp)
    have he : boxR xss b ys = cntL b xss ys xss.length := by rw [boxR, if_pos hp]; simp
    have HE := Lib.hid (show evenB xss b ys = evenL (boxR xss b ys) by simp [evenB, hp])
    rw [← he] at HC
    rw [hp] at HV
    clear hx hy hp he h0
    generalize evenB xss b ys = ev at *
    generalize boxR xss b ys = R at *
    go_enter Try.func40, Try.ntmps40
    go_wp2_with fail
    refine HV.out.mono ?_
    rintro e w1 ⟨rfl, hD⟩
    have B1 := Lib.hid (hD.below (B := w.heap.size))
    clear hD
    go_wp2_with fail
    refine (HC.out w1 B1.out).mono ?_
    rintro e w2 ⟨A2, c2, rfl, o2, b2⟩
    have O2 := Lib.hid o2.rd
    have B2 := Lib.hid (Base.Below.nextA B1.out b2)
    clear o2 b2
    go_wp2_with fail
    go_loopw [8] (fun i wr => ∃ k : Nat, k ≤ R.length ∧ i = .int .i64 (k : Int) ∧ Drawn w2 wr ∧ Hid (∀ j, j < k → R.getD j 0 = R.getD 0 0)) (fun i _ => R.length - (intOf i).toNat)
    case atStart => exact ⟨0, Nat.zero_le _, rfl, Drawn.refl _, Lib.hid fun j hj => absurd hj (Nat.not_lt_zero j)⟩
    case round =>
      obtain ⟨k, hk, rfl, hD, hall⟩ := hrel
      have HD := Lib.hid hD
      clear hD
      by_cases hlt : k < R.length
      · obtain ⟨b3, off3, e3, _, hc3⟩ := (O2.out.below (HD.out.below (B := w2.heap.size)) (Nat.le_refl _)) (by omega)
        have g3 := hc3 k hlt
        have g0 := hc3 0 HP0
        rw [Nat.add_zero] at g0
        subst e3
        clear hc3
        by_cases hv : R.getD k 0 = R.getD 0 0
        · have hn : Hid (∀ j, j < k + 1 → R.getD j 0 = R.getD 0 0) := Lib.hid fun j hj => by
            rcases Nat.lt_or_ge j k with h | h
            · exact hall.out j h
            · rw [show j = k by omega]; exact hv
          clear hall
          have hb : (R.getD k 0 != R.getD 0 0) = false := by rw [hv, bne_self_eq_false]
          generalize R.getD k 0 = x at *
          generalize R.getD 0 0 = y at *
          subst hv
          go_wp2_with fail
          go_quiet (fail)
          go_wp2
          go_roundw
          case rel => exact ⟨k + 1, hlt, by go_num, HD.out.next _, hn⟩
          case measure => simp [intOf]; omega
        · have hF : Hid (evenL R = false) := Lib.hid (all_no (f := fun x => x == R.getD 0 0) 0 hlt (beq_eq_false_iff_ne.2 hv))
          have hb : (R.getD k 0 != R.getD 0 0) = true := bne_iff_ne.2 hv
          clear hall
          generalize R.getD k 0 = x at *
          generalize R.getD 0 0 = y at *
          go_wp2_with fail
          go_quiet (fail)
          go_wp2
          go_ret
          exact ⟨ret_bool (by rw [HE.out, hF.out]), B2.out.trans ((HD.out.next _).below)⟩
      · obtain rfl : k = R.length := by omega
        have hT : Hid (evenL R = true) := Lib.hid (all_of 0 fun i hi => beq_iff_eq.2 (hall.out i hi))
        clear hall
        go_wp2
        go_ret
        exact ⟨ret_bool (by rw [HE.out, hT.out]), B2.out.trans HD.out.below⟩
/-! ### The law (laws_gen.py) -/
set_option maxHeartbeats 4000000 in
set_option maxRecDepth 100000 in
theorem exactBox_any (A0 : Option Addr) (c0 : Nat) (A2 : Option Addr) (c2 : Nat) (xss : List (List Int)) (bits : Int) (ys : List Int) (w : World) (hl0 : xss.length ≤ 9223372036854775807) (hm0 : ∀ xs ∈ xss, xs.length ≤ 9223372036854775807) (hx0 : RdII w w.heap.size A0 xss) (hl2 : ys.length ≤ 9223372036854775807) (hx2 : RdI w w.heap.size A2 ys) :
    Calls Try.prog 6 #[.slice A0 xss.length c0, .int .i64 bits, .slice A2 ys.length c2] w fun e w' => e = .returned (.bool true) ∧ Below w.heap.size w w' := by
  have hR1 := boxR_bd xss bits ys
  by_cases hb2 : ys.length ≤ 1048576
  case neg =>
    clear hx0; clear hm0
    clear hx2
    have hgt : (1048576 : Int) < (ys.length : Int) := by omega
    go_enter Try.func6, Try.ntmps6
    go_wp2
    go_ret
    exact ⟨rfl, Below.refl _ _⟩
  have HX0 := Lib.hid hx0
  have HSZ0 := Lib.hid (fun k W hk hk2 (hW : Below w.heap.size w W) => szII_any A0 c0 _ k xss W (hx0.below hW (Nat.le_refl _)) hl0 hm0 hk hk2)
  have HX2 := Lib.hid hx2
  clear hx0 hm0 hx2
  go_enter Try.func6, Try.ntmps6
  go_wp2_with fail
  refine (HSZ0.out 1048576 w (by omega) (by omega) (Below.refl _ _)).mono ?_
  rintro e w' ⟨r0, rfl, hr0, rfl⟩
  rcases hr0 with rfl | ⟨hr0a, hr0b⟩
  · go_wp2
    go_ret
    exact ⟨rfl, Below.refl _ _⟩
  have hb0 : xss.length ≤ 1048576 := by omega
  have ht0 : tot xss ≤ 1048576 := by omega
  clear hr0b
  have CT0 := Lib.hid (fun (W : World) (hW : Below w.heap.size w W) => toII_any A0 c0 w.heap.size xss W (HX0.out.below hW (Nat.le_refl _)) hW.size hb0 ht0)
  have CT2 := Lib.hid (fun (W : World) (hW : Below w.heap.size w W) => toI_any A2 c2 w.heap.size ys W (HX2.out.below hW (Nat.le_refl _)) hW.size hb2)
  have HS := Lib.hid (fun A A' c c' B W hx hy hB => specBox_any A A' c c' B bits xss ys W hx hy hB hb0 ht0 hb2)
  have HI := Lib.hid (fun A A' c c' B W hx hy hB => implBox_any A A' c c' B bits xss ys W hx hy hB hb0 ht0 hb2)
  generalize boxR xss bits ys = R at *
  generalize cutsB xss bits ys = ok at *
  have hok : (ok != ok) = false := by simp
  go_wp2_with fail
  refine (CT0.out _ (Below.refl _ _)).mono ?_
  rintro e w1 ⟨g_t0, us_t0, rfl, o_t0, b_w1⟩
  have B_w1 := Lib.hid (b_w1)
  have hs_w1 := (b_w1).size
  have t0 := Lib.hid o_t0
  clear b_w1 o_t0
  go_wp2_with fail
  refine (CT2.out _ B_w1.out).mono ?_
  rintro e w2 ⟨g_t2, rfl, o_t2, b_w2⟩
  have B_w2 := Lib.hid (Base.Below.nextA B_w1.out b_w2)
  have t0_w2 := Lib.hid (t0.out.below b_w2)
  have hs_w2 := (b_w2).size
  have t2 := Lib.hid o_t2
  clear b_w2 o_t2
  go_wp2_with fail
  refine (HS.out _ _ _ _ w2.heap.size w2 t0_w2.out.rd t2.out.rd (Nat.le_refl _)).mono ?_
  rintro e w3 ⟨A_s, c_s, rfl, o_s, b_w3⟩
  have B_w3 := Lib.hid (Base.Below.nextA B_w2.out b_w3)
  have hs_w3 := (b_w3).size
  have s := Lib.hid o_s
  clear b_w3 o_s
  have R3 := Lib.hid (s.out.rd)
  go_wp2_with fail
  refine (CT0.out _ B_w3.out).mono ?_
  rintro e w4 ⟨g_x0, us_x0, rfl, o_x0, b_w4⟩
  have B_w4 := Lib.hid (Base.Below.nextA B_w3.out b_w4)
  have Y_w4 := Lib.hid (b_w4)
  have hs_w4 := (b_w4).size
  have x0 := Lib.hid o_x0
  clear b_w4 o_x0
  go_wp2_with fail
  refine (CT2.out _ B_w4.out).mono ?_
  rintro e w5 ⟨g_x2, rfl, o_x2, b_w5⟩
  have B_w5 := Lib.hid (Base.Below.nextA B_w4.out b_w5)
  have x0_w5 := Lib.hid (x0.out.below b_w5)
  have Y_w5 := Lib.hid (Base.Below.nextA Y_w4.out b_w5)
  have hs_w5 := (b_w5).size
  have x2 := Lib.hid o_x2
  clear b_w5 o_x2
  go_wp2_with fail
  refine (HI.out _ _ _ _ w5.heap.size w5 x0_w5.out.rd x2.out.rd (Nat.le_refl _)).mono ?_
  rintro e w6 ⟨A_g, c_g, rfl, o_g, b_w6⟩
  have B_w6 := Lib.hid (Base.Below.nextA B_w5.out b_w6)
  have x0_w6 := Lib.hid (x0_w5.out.below b_w6)
  have x2_w6 := Lib.hid (x2.out.below b_w6)
  have Y_w6 := Lib.hid (Base.Below.nextA Y_w5.out b_w6)
  have hs_w6 := (b_w6).size
  have g := Lib.hid o_g
  clear b_w6 o_g
  go_wp2_with fail
  refine (eqI_yes A_g A_s c_g c_s _ _ R w6 g.out.rd (R3.out.below Y_w6.out (Nat.le_refl _)) (by omega)).mono ?_
  rintro e w7 ⟨rfl, n_w7, e_w7⟩
  have x_w7 : Below w6.heap.size w6 w7 := by rw [e_w7]; exact below_drewN (Below.refl _ _) _
  clear e_w7
  have B_w7 := Lib.hid (Base.Below.nextA B_w6.out x_w7)
  have x0_w7 := Lib.hid (x0_w6.out.below x_w7)
  have x2_w7 := Lib.hid (x2_w6.out.below x_w7)
  have g_w7 := Lib.hid (g.out.below x_w7)
  have Y_w7 := Lib.hid (Base.Below.nextA Y_w6.out x_w7)
  have hs_w7 := (x_w7).size
  clear x_w7
  go_wp2_with fail
  refine (CT0.out _ B_w7.out).mono ?_
  rintro e w8 ⟨g_u0, us_u0, rfl, o_u0, b_w8⟩
  have B_w8 := Lib.hid (Base.Below.nextA B_w7.out b_w8)
  have x0_w8 := Lib.hid (x0_w7.out.below b_w8)
  have x2_w8 := Lib.hid (x2_w7.out.below b_w8)
  have g_w8 := Lib.hid (g_w7.out.below b_w8)
  have Y_w8 := Lib.hid (Base.Below.nextA Y_w7.out b_w8)
  have hs_w8 := (b_w8).size
  have u0 := Lib.hid o_u0
  clear b_w8 o_u0
  go_wp2_with fail
  refine (eqII_yes _ _ _ _ _ _ xss w8 x0_w8.out.rd u0.out.rd (by omega) (by omega)).mono ?_
  rintro e w9 ⟨rfl, n_w9, e_w9⟩
  have x_w9 : Below w8.heap.size w8 w9 := by rw [e_w9]; exact below_drewN (Below.refl _ _) _
  clear e_w9
  have B_w9 := Lib.hid (Base.Below.nextA B_w8.out x_w9)
  have x0_w9 := Lib.hid (x0_w8.out.below x_w9)
  have x2_w9 := Lib.hid (x2_w8.out.below x_w9)
  have g_w9 := Lib.hid (g_w8.out.below x_w9)
  have Y_w9 := Lib.hid (Base.Below.nextA Y_w8.out x_w9)
  have hs_w9 := (x_w9).size
  clear x_w9
  go_wp2_with fail
  refine (CT2.out _ B_w9.out).mono ?_
  rintro e w10 ⟨g_u2, rfl, o_u2, b_w10⟩
  have B_w10 := Lib.hid (Base.Below.nextA B_w9.out b_w10)
  have x0_w10 := Lib.hid (x0_w9.out.below b_w10)
  have x2_w10 := Lib.hid (x2_w9.out.below b_w10)
  have g_w10 := Lib.hid (g_w9.out.below b_w10)
  have Y_w10 := Lib.hid (Base.Below.nextA Y_w9.out b_w10)
  have hs_w10 := (b_w10).size
  have u2 := Lib.hid o_u2
  clear b_w10 o_u2
  go_wp2_with fail
  refine (eqI_yes _ _ _ _ _ _ ys w10 x2_w10.out.rd u2.out.rd (by omega)).mono ?_
  rintro e w11 ⟨rfl, n_w11, e_w11⟩
  have x_w11 : Below w10.heap.size w10 w11 := by rw [e_w11]; exact below_drewN (Below.refl _ _) _
  clear e_w11
  have B_w11 := Lib.hid (Base.Below.nextA B_w10.out x_w11)
  have x0_w11 := Lib.hid (x0_w10.out.below x_w11)
  have x2_w11 := Lib.hid (x2_w10.out.below x_w11)
  have g_w11 := Lib.hid (g_w10.out.below x_w11)
  have Y_w11 := Lib.hid (Base.Below.nextA Y_w10.out x_w11)
  have hs_w11 := (x_w11).size
  clear x_w11
  go_wp2_with fail
  refine (markII_more _ _ w3.heap.size (1) xss us_x0 w11 x0_w11.out (by omega) (by omega) (by omega)).mono ?_
  rintro e w12 ⟨rfl, _, b_w12, m_w12⟩
  have a_w12 := m_w12.abv w4.heap.size (fun i g hi hg => x0.out.fits i g hi hg)
  clear m_w12
  have B_w12 := Lib.hid (B_w11.out.trans (b_w12.mono (by omega)))
  have Y_w12 := Lib.hid (Y_w11.out.trans (b_w12.mono (by omega)))
  have x2_w12 := Lib.hid (OwnI_above x2_w11.out (fun g h1 h2 => a_w12 g (by omega) h2))
  have g_w12 := Lib.hid (OwnI_above g_w11.out (fun g h1 h2 => a_w12 g (by omega) h2))
  have hs_w12 := b_w12.size
  clear a_w12 b_w12
  go_wp2_with fail
  refine (markI_any _ _ w4.heap.size (1 + tot xss) ys.length ys w12 rfl x2_w12.out (by omega)).mono ?_
  rintro e w13 ⟨rfl, q_w13, g_w13⟩
  have b_w13 : Below w4.heap.size w12 w13 := grown_below g_w13 (fun q hq => (ownsRow_block q_w13 hq).choose_spec.2.1) (by omega)
  have a_w13 : Above w5.heap.size w12 w13 := Above.grown g_w13 (fun q hq => (ownsRow_block x2.out hq).choose_spec.2.2)
  clear q_w13 g_w13
  have B_w13 := Lib.hid (B_w12.out.trans (b_w13.mono (by omega)))
  have Y_w13 := Lib.hid (Y_w12.out.trans (b_w13.mono (by omega)))
  have g_w13 := Lib.hid (OwnI_above g_w12.out (fun g h1 h2 => a_w13 g (by omega) h2))
  have hs_w13 := b_w13.size
  clear a_w13 b_w13
  have hkk : 1 + tot xss + ys.length ≤ 1099511627776 := by omega
  go_wp2_with fail
  refine (eqI_yes A_g A_s c_g c_s _ _ R w13 g_w13.out.rd (R3.out.below Y_w13.out (Nat.le_refl _)) (by omega)).mono ?_
  rintro e w14 ⟨rfl, n_w14, e_w14⟩
  have x_w14 : Below w13.heap.size w13 w14 := by rw [e_w14]; exact below_drewN (Below.refl _ _) _
  clear e_w14
  have B_w14 := Lib.hid (Base.Below.nextA B_w13.out x_w14)
  have g_w14 := Lib.hid (g_w13.out.below x_w14)
  have Y_w14 := Lib.hid (Base.Below.nextA Y_w13.out x_w14)
  have hs_w14 := (x_w14).size
  clear x_w14
  go_wp2_with fail
  refine (markI_any A_g c_g w5.heap.size 1 R.length R w14 rfl g_w14.out (by omega)).mono ?_
  rintro e w15 ⟨rfl, o_m, g_w15⟩
  have b_w15 : Below w5.heap.size w14 w15 := grown_below g_w15 (fun q hq => (ownsRow_block o_m hq).choose_spec.2.1) (by omega)
  clear g_w15
  have OM := Lib.hid o_m
  have B_w15 := Lib.hid (B_w14.out.trans (b_w15.mono (by omega)))
  have Y_w15 := Lib.hid (Y_w14.out.trans (b_w15.mono (by omega)))
  have hs_w15 := b_w15.size
  clear o_m b_w15
  have hkR : 1 + R.length ≤ 1099511627776 := by omega
  go_wp2_with fail
  refine (heldI_yes A_g c_g _ 1 R.length w15 (by have := OM.out; exact OwnI_rdm this) (by omega)).mono ?_
  rintro e w' ⟨rfl, rfl⟩
  go_wp2_with fail
  refine (CT0.out _ B_w15.out).mono ?_
  rintro e w16 ⟨g_t0, us_t0, rfl, o_t0, b_w16⟩
  have B_w16 := Lib.hid (Base.Below.nextA B_w15.out b_w16)
  have Y_w16 := Lib.hid (Base.Below.nextA Y_w15.out b_w16)
  have Z_w16 := Lib.hid (b_w16)
  have hs_w16 := (b_w16).size
  have t0 := Lib.hid o_t0
  clear b_w16 o_t0
  go_wp2_with fail
  refine (CT2.out _ B_w16.out).mono ?_
  rintro e w17 ⟨g_t2, rfl, o_t2, b_w17⟩
  have B_w17 := Lib.hid (Base.Below.nextA B_w16.out b_w17)
  have t0_w17 := Lib.hid (t0.out.below b_w17)
  have Y_w17 := Lib.hid (Base.Below.nextA Y_w16.out b_w17)
  have Z_w17 := Lib.hid (Base.Below.nextA Z_w16.out b_w17)
  have hs_w17 := (b_w17).size
  have t2 := Lib.hid o_t2
  clear b_w17 o_t2
  go_wp2_with fail
  refine (HI.out _ _ _ _ w17.heap.size w17 t0_w17.out.rd t2.out.rd (Nat.le_refl _)).mono ?_
  rintro e w18 ⟨A_h, c_h, rfl, o_h, b_w18⟩
  have B_w18 := Lib.hid (Base.Below.nextA B_w17.out b_w18)
  have Y_w18 := Lib.hid (Base.Below.nextA Y_w17.out b_w18)
  have Z_w18 := Lib.hid (Base.Below.nextA Z_w17.out b_w18)
  have hs_w18 := (b_w18).size
  have h := Lib.hid o_h
  clear b_w18 o_h
  go_wp2_with fail
  refine (eqI_yes A_h A_s c_h c_s _ _ R w18 h.out.rd (R3.out.below Y_w18.out (Nat.le_refl _)) (by omega)).mono ?_
  rintro e w19 ⟨rfl, n_w19, e_w19⟩
  have x_w19 : Below w18.heap.size w18 w19 := by rw [e_w19]; exact below_drewN (Below.refl _ _) _
  clear e_w19
  have B_w19 := Lib.hid (Base.Below.nextA B_w18.out x_w19)
  have h_w19 := Lib.hid (h.out.below x_w19)
  have Y_w19 := Lib.hid (Base.Below.nextA Y_w18.out x_w19)
  have Z_w19 := Lib.hid (Base.Below.nextA Z_w18.out x_w19)
  have hs_w19 := (x_w19).size
  clear x_w19
  go_wp2_with fail
  refine (heldI_yes A_g c_g _ 1 R.length w19 (by have := (ownsRow_below OM.out Z_w19.out); exact OwnI_rdm this) (by omega)).mono ?_
  rintro e w' ⟨rfl, rfl⟩
  go_wp2
  go_ret
  exact ⟨rfl, B_w19.out⟩
theorem exactBox_v {w : World} {v u : Value} (h : Open.IsRows w v) (bits : Int) (h' : Open.IsInts w u) : Calls Try.prog 6 #[v, .int .i64 bits, u] w fun e w' => e = .returned (.bool true) ∧ Below w.heap.size w w' := by
  obtain ⟨A, c, xss, rfl, hl, hl', _, hx⟩ := h.ex
  obtain ⟨A', c', ys, rfl, hy, _, hy'⟩ := h'.ex
  exact exactBox_any A c A' c' xss bits ys w hl hl' hx hy hy'
set_option maxHeartbeats 4000000 in
set_option maxRecDepth 100000 in
theorem exactEven_any (A0 : Option Addr) (c0 : Nat) (A2 : Option Addr) (c2 : Nat) (xss : List (List Int)) (bits : Int) (ys : List Int) (w : World) (hl0 : xss.length ≤ 9223372036854775807) (hm0 : ∀ xs ∈ xss, xs.length ≤ 9223372036854775807) (hx0 : RdII w w.heap.size A0 xss) (hl2 : ys.length ≤ 9223372036854775807) (hx2 : RdI w w.heap.size A2 ys) :
    Calls Try.prog 8 #[.slice A0 xss.length c0, .int .i64 bits, .slice A2 ys.length c2] w fun e w' => e = .returned (.bool true) ∧ Below w.heap.size w w' := by
  by_cases hb2 : ys.length ≤ 1048576
  case neg =>
    clear hx0; clear hm0
    clear hx2
    have hgt : (1048576 : Int) < (ys.length : Int) := by omega
    go_enter Try.func8, Try.ntmps8
    go_wp2
    go_ret
    exact ⟨rfl, Below.refl _ _⟩
  have HX0 := Lib.hid hx0
  have HSZ0 := Lib.hid (fun k W hk hk2 (hW : Below w.heap.size w W) => szII_any A0 c0 _ k xss W (hx0.below hW (Nat.le_refl _)) hl0 hm0 hk hk2)
  have HX2 := Lib.hid hx2
  clear hx0 hm0 hx2
  go_enter Try.func8, Try.ntmps8
  go_wp2_with fail
  refine (HSZ0.out 1048576 w (by omega) (by omega) (Below.refl _ _)).mono ?_
  rintro e w' ⟨r0, rfl, hr0, rfl⟩
  rcases hr0 with rfl | ⟨hr0a, hr0b⟩
  · go_wp2
    go_ret
    exact ⟨rfl, Below.refl _ _⟩
  have hb0 : xss.length ≤ 1048576 := by omega
  have ht0 : tot xss ≤ 1048576 := by omega
  clear hr0b
  have CT0 := Lib.hid (fun (W : World) (hW : Below w.heap.size w W) => toII_any A0 c0 w.heap.size xss W (HX0.out.below hW (Nat.le_refl _)) hW.size hb0 ht0)
  have CT2 := Lib.hid (fun (W : World) (hW : Below w.heap.size w W) => toI_any A2 c2 w.heap.size ys W (HX2.out.below hW (Nat.le_refl _)) hW.size hb2)
  have HS := Lib.hid (fun A A' c c' B W hx hy hB => specEven_any A A' c c' B bits xss ys W hx hy hB hb0 ht0 hb2)
  have HI := Lib.hid (fun A A' c c' B W hx hy hB => implEven_any A A' c c' B bits xss ys W hx hy hB hb0 ht0 hb2)
  generalize evenB xss bits ys = ok at *
  have hok : (ok != ok) = false := by simp
  go_wp2_with fail
  refine (CT0.out _ (Below.refl _ _)).mono ?_
  rintro e w1 ⟨g_t0, us_t0, rfl, o_t0, b_w1⟩
  have B_w1 := Lib.hid (b_w1)
  have hs_w1 := (b_w1).size
  have t0 := Lib.hid o_t0
  clear b_w1 o_t0
  go_wp2_with fail
  refine (CT2.out _ B_w1.out).mono ?_
  rintro e w2 ⟨g_t2, rfl, o_t2, b_w2⟩
  have B_w2 := Lib.hid (Base.Below.nextA B_w1.out b_w2)
  have t0_w2 := Lib.hid (t0.out.below b_w2)
  have hs_w2 := (b_w2).size
  have t2 := Lib.hid o_t2
  clear b_w2 o_t2
  go_wp2_with fail
  refine (HS.out _ _ _ _ w2.heap.size w2 t0_w2.out.rd t2.out.rd (Nat.le_refl _)).mono ?_
  rintro e w3 ⟨rfl, b_w3⟩
  have B_w3 := Lib.hid (Base.Below.nextA B_w2.out b_w3)
  have hs_w3 := (b_w3).size
  clear b_w3
  go_wp2_with fail
  refine (CT0.out _ B_w3.out).mono ?_
  rintro e w4 ⟨g_x0, us_x0, rfl, o_x0, b_w4⟩
  have B_w4 := Lib.hid (Base.Below.nextA B_w3.out b_w4)
  have hs_w4 := (b_w4).size
  have x0 := Lib.hid o_x0
  clear b_w4 o_x0
  go_wp2_with fail
  refine (CT2.out _ B_w4.out).mono ?_
  rintro e w5 ⟨g_x2, rfl, o_x2, b_w5⟩
  have B_w5 := Lib.hid (Base.Below.nextA B_w4.out b_w5)
  have x0_w5 := Lib.hid (x0.out.below b_w5)
  have hs_w5 := (b_w5).size
  have x2 := Lib.hid o_x2
  clear b_w5 o_x2
  go_wp2_with fail
  refine (HI.out _ _ _ _ w5.heap.size w5 x0_w5.out.rd x2.out.rd (Nat.le_refl _)).mono ?_
  rintro e w6 ⟨rfl, b_w6⟩
  have B_w6 := Lib.hid (Base.Below.nextA B_w5.out b_w6)
  have x0_w6 := Lib.hid (x0_w5.out.below b_w6)
  have x2_w6 := Lib.hid (x2.out.below b_w6)
  have hs_w6 := (b_w6).size
  clear b_w6
  go_wp2_with fail
  refine (CT0.out _ B_w6.out).mono ?_
  rintro e w7 ⟨g_u0, us_u0, rfl, o_u0, b_w7⟩
  have B_w7 := Lib.hid (Base.Below.nextA B_w6.out b_w7)
  have x0_w7 := Lib.hid (x0_w6.out.below b_w7)
  have x2_w7 := Lib.hid (x2_w6.out.below b_w7)
  have hs_w7 := (b_w7).size
  have u0 := Lib.hid o_u0
  clear b_w7 o_u0
  go_wp2_with fail
  refine (eqII_yes _ _ _ _ _ _ xss w7 x0_w7.out.rd u0.out.rd (by omega) (by omega)).mono ?_
  rintro e w8 ⟨rfl, n_w8, e_w8⟩
  have x_w8 : Below w7.heap.size w7 w8 := by rw [e_w8]; exact below_drewN (Below.refl _ _) _
  clear e_w8
  have B_w8 := Lib.hid (Base.Below.nextA B_w7.out x_w8)
  have x0_w8 := Lib.hid (x0_w7.out.below x_w8)
  have x2_w8 := Lib.hid (x2_w7.out.below x_w8)
  have hs_w8 := (x_w8).size
  clear x_w8
  go_wp2_with fail
  refine (CT2.out _ B_w8.out).mono ?_
  rintro e w9 ⟨g_u2, rfl, o_u2, b_w9⟩
  have B_w9 := Lib.hid (Base.Below.nextA B_w8.out b_w9)
  have x0_w9 := Lib.hid (x0_w8.out.below b_w9)
  have x2_w9 := Lib.hid (x2_w8.out.below b_w9)
  have hs_w9 := (b_w9).size
  have u2 := Lib.hid o_u2
  clear b_w9 o_u2
  go_wp2_with fail
  refine (eqI_yes _ _ _ _ _ _ ys w9 x2_w9.out.rd u2.out.rd (by omega)).mono ?_
  rintro e w10 ⟨rfl, n_w10, e_w10⟩
  have x_w10 : Below w9.heap.size w9 w10 := by rw [e_w10]; exact below_drewN (Below.refl _ _) _
  clear e_w10
  have B_w10 := Lib.hid (Base.Below.nextA B_w9.out x_w10)
  have x0_w10 := Lib.hid (x0_w9.out.below x_w10)
  have x2_w10 := Lib.hid (x2_w9.out.below x_w10)
  have hs_w10 := (x_w10).size
  clear x_w10
  go_wp2
  go_ret
  exact ⟨rfl, B_w10.out⟩
theorem exactEven_v {w : World} {v u : Value} (h : Open.IsRows w v) (bits : Int) (h' : Open.IsInts w u) : Calls Try.prog 8 #[v, .int .i64 bits, u] w fun e w' => e = .returned (.bool true) ∧ Below w.heap.size w w' := by
  obtain ⟨A, c, xss, rfl, hl, hl', _, hx⟩ := h.ex
  obtain ⟨A', c', ys, rfl, hy, _, hy'⟩ := h'.ex
  exact exactEven_any A c A' c' xss bits ys w hl hl' hx hy hy'
end Go.Proofs.Ythaoopgkfhjoiaa.Box
