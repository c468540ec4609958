/- The reference: whether a list are chances; the bits of a source. -/
import Derived.Test.YtionognmgcabbaaGreatMgBes19
import Derived.Test.YtionognmgcabbaaGreatMgBes07
import Derived.Test.YtionognmgcabbaaGreatMgBes11
import Derived.Test.YtionognmgcabbaaGreatMgBes00
import Derived.Deep.AppendSrc
import Derived.Lib.SliceRun
import Derived.Deep.Cut
import Derived.Test.YtionognmgcabbaaGreatMgBes09
namespace Go.Proofs.YtionognmgcabbaaGreat.Wide
open Go.RowKit Go.Proofs.YtionognmgcabbaaGreat Go.Proofs.YtionognmgcabbaaGreat.Base Go.Proofs.YtionognmgcabbaaGreat.Mem Go.Proofs.YtionognmgcabbaaGreat.RatM Go.Proofs.YtionognmgcabbaaGreat.BigM Go.Proofs.YtionognmgcabbaaGreat.Big Go.Proofs.YtionognmgcabbaaGreat.Fine Go.Proofs.YtionognmgcabbaaGreat.Blk Go.Proofs.YtionognmgcabbaaGreat.GaussM Go.Proofs.YtionognmgcabbaaGreat.MemF Go.Proofs.YtionognmgcabbaaGreat.ValF Go.Proofs.YtionognmgcabbaaGreat.ChM
set_option linter.unusedVariables false
set_option maxHeartbeats 1000000 in
theorem fAll_any {A : Option Addr} {c B n : Nat} {fs : List Int} (w : World) (hx : RdF w B A n fs) (hB : B ≤ w.heap.size) (hn : n ≤ 1099511627776) : Calls Tryz.prog 160 #[.slice A n c] w fun e w' => e = .returned (.bool (vfAll fs n)) ∧ Below w.heap.size w w' := by
  have HX := Lib.hid (hx.more hB)
  clear hx
  go_enter Tryz.func160, Tryz.ntmps160
  go_wp2
  go_loopw [3] (fun iv wr => ∃ i : Nat, iv = .int .i64 (i : Int) ∧ i ≤ n ∧ Hid (∀ j, j < i → vfB (fs.getD (2 * j) 0) (fs.getD (2 * j + 1) 0) = true) ∧ Hid (Below w.heap.size w wr)) (fun iv _ => n - (intOf iv).toNat)
  case atStart => exact ⟨0, rfl, Nat.zero_le _, Lib.hid fun j hj => absurd hj (Nat.not_lt_zero j), Lib.hid (Below.refl _ _)⟩
  case round =>
    obtain ⟨i, rfl, hi, hall, HB⟩ := hrel
    by_cases hlt : i < n
    · obtain ⟨b, off, rfl, hbl, g1, g2⟩ := (HX.out.below HB.out (Nat.le_refl _)).at hlt
      have HV := Lib.hid (fun W => validS_any (fs.getD (2 * i) 0) (fs.getD (2 * i + 1) 0) W)
      have HNO := Lib.hid (fun h => (show vfAll fs n = false from all_no hlt h))
      have HYES := Lib.hid (fun (h : vfB (fs.getD (2 * i) 0) (fs.getD (2 * i + 1) 0) = true) j (hj : j < i + 1) => (show vfB (fs.getD (2 * j) 0) (fs.getD (2 * j + 1) 0) = true by
        rcases Nat.lt_or_ge j i with h1 | h1
        · exact hall.out j h1
        · obtain rfl : j = i := by omega
          exact h))
      have hsz := HB.out.size
      generalize fs.getD (2 * i) 0 = x0 at *
      generalize fs.getD (2 * i + 1) 0 = x1 at *
      go_wp2_with fail
      refine (HV.out _).mono ?_
      rintro e w1 ⟨rfl, hb1⟩
      have HB1 := Lib.hid (Base.Below.nextA HB.out hb1)
      cases hv : vfB x0 x1 with
      | false =>
        have HE := Lib.hid (HNO.out hv)
        clear HNO HYES HV hb1 hv HB g1 g2 hall
        go_wp2
        go_ret
        exact ⟨by rw [HE.out]; rfl, HB1.out⟩
      | true =>
        have HA := Lib.hid (HYES.out hv)
        clear HNO HYES HV hb1 hv HB g1 g2 hall
        go_wp2
        go_roundw
        case rel => exact ⟨i + 1, by simp, hlt, HA, HB1⟩
        case measure => simp [intOf]; omega
    · obtain rfl : i = n := by omega
      have HE : Hid (vfAll fs i = true) := Lib.hid (all_range.2 hall.out)
      clear hall
      go_wp2
      go_ret
      exact ⟨by rw [HE.out]; rfl, HB.out⟩
theorem cmpW_zero (q r : Rat) : (cmpW q r == 0) = decide (q = r) := by
  unfold cmpW
  by_cases h : q = r
  · simp [h]
  · by_cases h2 : q < r
    · simp [h, h2]
    · simp [h, h2]
set_option maxHeartbeats 2000000 in
set_option maxRecDepth 100000 in
theorem isS_any {A : Option Addr} {c B n : Nat} {fs : List Int} (w : World) (hx : RdF w B A n fs) (hB : B ≤ w.heap.size) (hn : n ≤ 1099511627776) : Calls Tryz.prog 115 #[.slice A n c] w fun e w' => e = .returned (.bool (chB fs n)) ∧ Below w.heap.size w w' := by
  have HX := Lib.hid (hx.more hB)
  have HFA := Lib.hid (fAll_any (c := c) w hx hB hn)
  clear hx
  by_cases h1 : n < 1
  · have HE := Lib.hid (chB_short (fs := fs) h1)
    have h1' : (n : Int) < 1 := by omega
    go_enter Tryz.func115, Tryz.ntmps115
    go_wp2
    go_ret
    exact ⟨by rw [HE.out]; rfl, Below.refl _ _⟩
  by_cases h2 : 16 < n
  · have HE := Lib.hid (chB_long (fs := fs) h2)
    have h1' : ¬ (n : Int) < 1 := by omega
    have h2' : (16 : Int) < n := by omega
    go_enter Tryz.func115, Tryz.ntmps115
    go_wp2
    go_ret
    exact ⟨by rw [HE.out]; rfl, Below.refl _ _⟩
  have h1' : ¬ (n : Int) < 1 := by omega
  have h2' : ¬ (16 : Int) < n := by omega
  go_enter Tryz.func115, Tryz.ntmps115
  go_wp2_with fail
  refine HFA.out.mono ?_
  rintro e w1 ⟨rfl, hb1⟩
  have HB1 := Lib.hid hb1
  clear hb1
  cases hv : vfAll fs n with
  | false =>
    have HE := Lib.hid (chB_vf hv)
    go_wp2
    go_ret
    exact ⟨by rw [HE.out]; rfl, HB1.out⟩
  | true =>
    have HV := Lib.hid hv
    clear hv
    go_wp2
    go_loopw [3] (fun iv wr => ∃ i : Nat, iv = .int .i64 (i : Int) ∧ i ≤ n ∧ Hid (∀ j, j < i → decide (0 ≤ fs.getD (2 * j) 0) = true) ∧ wr = w1) (fun iv _ => n - (intOf iv).toNat)
    case atStart => exact ⟨0, rfl, Nat.zero_le _, Lib.hid fun j hj => absurd hj (Nat.not_lt_zero j), rfl⟩
    case round =>
      obtain ⟨i, rfl, hi, hall, rfl⟩ := hrel
      by_cases hlt : i < n
      · obtain ⟨b, off, rfl, hbl, g1, g2⟩ := (HX.out.below HB1.out (Nat.le_refl _)).at hlt
        have HNO := Lib.hid (fun h => (show posAll fs n = false from all_no hlt h))
        have HYES := Lib.hid (fun (h : decide (0 ≤ fs.getD (2 * i) 0) = true) j (hj : j < i + 1) => (show decide (0 ≤ fs.getD (2 * j) 0) = true by
          rcases Nat.lt_or_ge j i with h1 | h1
          · exact hall.out j h1
          · obtain rfl : j = i := by omega
            exact h))
        generalize fs.getD (2 * i) 0 = x0 at *
        generalize fs.getD (2 * i + 1) 0 = x1 at *
        by_cases hx0 : x0 < 0
        · have HE := Lib.hid (chB_neg (HNO.out (by simp; omega)))
          clear HNO HYES
          go_wp2
          go_ret
          exact ⟨by rw [HE.out]; rfl, HB1.out⟩
        · have HA := Lib.hid (HYES.out (by simp; omega))
          clear HNO HYES hall
          go_wp2
          go_roundw
          case rel => exact ⟨i + 1, by simp, hlt, HA, by first | trivial | rfl⟩
          case measure => simp [intOf]; omega
      · obtain rfl : i = n := by omega
        have HE := Lib.hid (chB_sum (fs := fs) (n := i) (by omega) (by omega) HV.out (all_range.2 hall.out))
        have HW1 := Lib.hid (wides_any (c := c) wr (HX.out.below HB1.out (Nat.le_refl _)) HB1.out.size (vfAll_true.1 HV.out) (by omega))
        have HO := Lib.hid (fun W => wideOf_any vf_one W)
        rw [qf_one] at HO
        clear hall
        go_wp2_with fail
        refine HW1.out.mono ?_
        rintro e w2 ⟨v2, cs2, rfl, hv2, hb2⟩
        have HB2 := Lib.hid (Base.Below.nextA HB1.out hb2)
        have HV2 := Lib.hid (hv2.base (Nat.zero_le _))
        clear hv2 hb2
        go_wp2_with fail
        refine (sum_any w2 HV2.out (by omega) (by omega) (by omega)).mono ?_
        rintro e w3 ⟨v3, rfl, hv3, hb3⟩
        have HB3 := Lib.hid (Base.Below.nextA HB2.out hb3)
        have HV3 := Lib.hid hv3
        clear hv3 hb3
        go_wp2_with fail
        refine (HO.out w3).mono ?_
        rintro e w4 ⟨v4, rfl, hv4, hb4⟩
        have HB4 := Lib.hid (Base.Below.nextA HB3.out hb4)
        have HV4 := Lib.hid hv4
        replace HV3 := Lib.hid (HV3.out.below hb4)
        clear hv4 hb4
        go_wp2_with fail
        refine (cmp_any w4 HV3.out HV4.out (by omega) (by omega) (by omega)).mono ?_
        rintro e w5 ⟨rfl, hb5⟩
        have HB5 := Lib.hid (Base.Below.nextA HB4.out hb5)
        have HE2 := Lib.hid (HE.out.trans (cmpW_zero _ _).symm)
        clear hb5 HE
        generalize cmpW (sumR i (fq fs)) 1 = cw at *
        go_wp2
        go_ret
        exact ⟨ret_bool HE2.out.symm, HB5.out⟩
set_option maxHeartbeats 2000000 in
set_option maxRecDepth 100000 in
theorem bitsS_any {A : Option Addr} {c B n : Nat} {fs : List Int} (w : World) (hx : RdF w B A n fs) (hB : B ≤ w.heap.size) (hn : n ≤ 1099511627776) : Calls Tryz.prog 55 #[.slice A n c] w fun e w' => e = .returned (.int .i64 ((bitsQ fs n : Nat) : Int)) ∧ Below w.heap.size w w' := by
  have HX := Lib.hid (hx.more hB)
  have HI := Lib.hid (fun W (h : Below w.heap.size w W) => isS_any (c := c) W (hx.below h hB) (Nat.le_trans hB h.size) hn)
  clear hx
  go_enter Tryz.func55, Tryz.ntmps55
  go_wp2
  go_loopw [3] (fun iv wr => ∃ i : Nat, iv = .int .i64 (i : Int) ∧ 1 ≤ i ∧ i ≤ 5 ∧ Hid (∀ j, 1 ≤ j → j < i → n = 2 ^ j → chB fs n = false) ∧ Hid (Below w.heap.size w wr)) (fun iv _ => 5 - (intOf iv).toNat)
  case atStart => exact ⟨1, rfl, by omega, by omega, Lib.hid fun j hj hj2 => by omega, Lib.hid (Below.refl _ _)⟩
  case round =>
    obtain ⟨i, rfl, hi1, hi, hall, HB⟩ := hrel
    have hcase : i = 1 ∨ i = 2 ∨ i = 3 ∨ i = 4 ∨ i = 5 := by omega
    rcases hcase with rfl | rfl | rfl | rfl | rfl
    · have hN : Hid (∀ b : Prop, (n = 2 → chB fs n = false) → ∀ j, 1 ≤ j → j < 1 + 1 → n = 2 ^ j → chB fs n = false) := Lib.hid fun _ hb j h1 h2 h3 => by
        rcases Nat.lt_or_ge j 1 with g | g
        · exact hall.out j h1 g h3
        · obtain rfl : j = 1 := by omega
          exact hb h3
      clear hall
      by_cases hp : n = 2
      · have hp' : ((n : Int) == 2) = true := by rw [hp]; rfl
        have HP := Lib.hid hp
        clear hp
        go_wp2_with fail
        refine (HI.out _ HB.out).mono ?_
        rintro e w1 ⟨rfl, hb1⟩
        have HB1 := Lib.hid (Base.Below.nextA HB.out hb1)
        clear hb1
        cases hc : chB fs n with
        | true =>
          have HE : Hid (bitsQ fs n = 1) := Lib.hid (by unfold bitsQ; rw [if_pos hc, HP.out]; rfl)
          clear hN
          go_wp2
          go_ret
          exact ⟨by rw [HE.out]; rfl, HB1.out⟩
        | false =>
          have HA := Lib.hid (hN.out True (fun _ => hc))
          clear hN hc
          go_wp2
          go_roundw
          case rel => exact ⟨1 + 1, by first | rfl | simp, by omega, by omega, HA, HB1⟩
          case measure => simp [intOf]
      · have hp' : ((n : Int) == 2) = false := by simp only [beq_eq_false_iff_ne]; omega
        have HA := Lib.hid (hN.out True (fun h => absurd h hp))
        clear hN hp
        go_wp2
        go_roundw
        case rel => exact ⟨1 + 1, by first | rfl | simp, by omega, by omega, HA, HB⟩
        case measure => simp [intOf]
    · have hN : Hid (∀ b : Prop, (n = 4 → chB fs n = false) → ∀ j, 1 ≤ j → j < 2 + 1 → n = 2 ^ j → chB fs n = false) := Lib.hid fun _ hb j h1 h2 h3 => by
        rcases Nat.lt_or_ge j 2 with g | g
        · exact hall.out j h1 g h3
        · obtain rfl : j = 2 := by omega
          exact hb h3
      clear hall
      by_cases hp : n = 4
      · have hp' : ((n : Int) == 4) = true := by rw [hp]; rfl
        have HP := Lib.hid hp
        clear hp
        go_wp2_with fail
        refine (HI.out _ HB.out).mono ?_
        rintro e w1 ⟨rfl, hb1⟩
        have HB1 := Lib.hid (Base.Below.nextA HB.out hb1)
        clear hb1
        cases hc : chB fs n with
        | true =>
          have HE : Hid (bitsQ fs n = 2) := Lib.hid (by unfold bitsQ; rw [if_pos hc, HP.out]; rfl)
          clear hN
          go_wp2
          go_ret
          exact ⟨by rw [HE.out]; rfl, HB1.out⟩
        | false =>
          have HA := Lib.hid (hN.out True (fun _ => hc))
          clear hN hc
          go_wp2
          go_roundw
          case rel => exact ⟨2 + 1, by first | rfl | simp, by omega, by omega, HA, HB1⟩
          case measure => simp [intOf]
      · have hp' : ((n : Int) == 4) = false := by simp only [beq_eq_false_iff_ne]; omega
        have HA := Lib.hid (hN.out True (fun h => absurd h hp))
        clear hN hp
        go_wp2
        go_roundw
        case rel => exact ⟨2 + 1, by first | rfl | simp, by omega, by omega, HA, HB⟩
        case measure => simp [intOf]
    · have hN : Hid (∀ b : Prop, (n = 8 → chB fs n = false) → ∀ j, 1 ≤ j → j < 3 + 1 → n = 2 ^ j → chB fs n = false) := Lib.hid fun _ hb j h1 h2 h3 => by
        rcases Nat.lt_or_ge j 3 with g | g
        · exact hall.out j h1 g h3
        · obtain rfl : j = 3 := by omega
          exact hb h3
      clear hall
      by_cases hp : n = 8
      · have hp' : ((n : Int) == 8) = true := by rw [hp]; rfl
        have HP := Lib.hid hp
        clear hp
        go_wp2_with fail
        refine (HI.out _ HB.out).mono ?_
        rintro e w1 ⟨rfl, hb1⟩
        have HB1 := Lib.hid (Base.Below.nextA HB.out hb1)
        clear hb1
        cases hc : chB fs n with
        | true =>
          have HE : Hid (bitsQ fs n = 3) := Lib.hid (by unfold bitsQ; rw [if_pos hc, HP.out]; rfl)
          clear hN
          go_wp2
          go_ret
          exact ⟨by rw [HE.out]; rfl, HB1.out⟩
        | false =>
          have HA := Lib.hid (hN.out True (fun _ => hc))
          clear hN hc
          go_wp2
          go_roundw
          case rel => exact ⟨3 + 1, by first | rfl | simp, by omega, by omega, HA, HB1⟩
          case measure => simp [intOf]
      · have hp' : ((n : Int) == 8) = false := by simp only [beq_eq_false_iff_ne]; omega
        have HA := Lib.hid (hN.out True (fun h => absurd h hp))
        clear hN hp
        go_wp2
        go_roundw
        case rel => exact ⟨3 + 1, by first | rfl | simp, by omega, by omega, HA, HB⟩
        case measure => simp [intOf]
    · have hN : Hid (∀ b : Prop, (n = 16 → chB fs n = false) → ∀ j, 1 ≤ j → j < 4 + 1 → n = 2 ^ j → chB fs n = false) := Lib.hid fun _ hb j h1 h2 h3 => by
        rcases Nat.lt_or_ge j 4 with g | g
        · exact hall.out j h1 g h3
        · obtain rfl : j = 4 := by omega
          exact hb h3
      clear hall
      by_cases hp : n = 16
      · have hp' : ((n : Int) == 16) = true := by rw [hp]; rfl
        have HP := Lib.hid hp
        clear hp
        go_wp2_with fail
        refine (HI.out _ HB.out).mono ?_
        rintro e w1 ⟨rfl, hb1⟩
        have HB1 := Lib.hid (Base.Below.nextA HB.out hb1)
        clear hb1
        cases hc : chB fs n with
        | true =>
          have HE : Hid (bitsQ fs n = 4) := Lib.hid (by unfold bitsQ; rw [if_pos hc, HP.out]; rfl)
          clear hN
          go_wp2
          go_ret
          exact ⟨by rw [HE.out]; rfl, HB1.out⟩
        | false =>
          have HA := Lib.hid (hN.out True (fun _ => hc))
          clear hN hc
          go_wp2
          go_roundw
          case rel => exact ⟨4 + 1, by first | rfl | simp, by omega, by omega, HA, HB1⟩
          case measure => simp [intOf]
      · have hp' : ((n : Int) == 16) = false := by simp only [beq_eq_false_iff_ne]; omega
        have HA := Lib.hid (hN.out True (fun h => absurd h hp))
        clear hN hp
        go_wp2
        go_roundw
        case rel => exact ⟨4 + 1, by first | rfl | simp, by omega, by omega, HA, HB⟩
        case measure => simp [intOf]
    · have HE : Hid (bitsQ fs n = 0) := Lib.hid (by
        have h1 := hall.out 1 (by omega) (by omega)
        have h2 := hall.out 2 (by omega) (by omega)
        have h3 := hall.out 3 (by omega) (by omega)
        have h4 := hall.out 4 (by omega) (by omega)
        unfold bitsQ
        by_cases hc : chB fs n = true
        · rw [hc] at h1 h2 h3 h4
          rw [if_pos hc, if_neg (fun e => by have := h1 e; cases this), if_neg (fun e => by have := h2 e; cases this), if_neg (fun e => by have := h3 e; cases this), if_neg (fun e => by have := h4 e; cases this)]
        · rw [if_neg hc])
      clear hall
      go_wp2
      go_ret
      exact ⟨by rw [HE.out]; rfl, HB.out⟩
end Go.Proofs.YtionognmgcabbaaGreat.Wide
/- The reference: whether a number of rows and a source are taken. -/
namespace Go.Proofs.YtionognmgcabbaaGreat.CntS
open Go.RowKit Go.Proofs.YtionognmgcabbaaGreat Go.Proofs.YtionognmgcabbaaGreat.Base Go.Proofs.YtionognmgcabbaaGreat.Mem Go.Proofs.YtionognmgcabbaaGreat.MemF Go.Proofs.YtionognmgcabbaaGreat.ChM Go.Proofs.YtionognmgcabbaaGreat.AllI Go.Proofs.YtionognmgcabbaaGreat.Wide
set_option linter.unusedVariables false
set_option maxHeartbeats 2000000 in
theorem count_any {A : Option Addr} {c B n : Nat} {fs : List Int} (t : Int) (w : World) (hx : RdF w B A n fs) (hB : B ≤ w.heap.size) (hn : n ≤ 1099511627776) :
    Calls Tryz.prog 63 #[.int .i64 t, .slice A n c] w fun e w' => e = .returned (.tuple #[.int .i64 ((bitsQ fs n : Nat) : Int), .bool (okA t fs n)]) ∧ Below w.heap.size w w' := by
  have HBS := Lib.hid (bitsS_any (c := c) w hx hB hn)
  have hb4 := bits_le fs n
  unfold okA
  generalize bitsQ fs n = N at *
  clear hx
  have hN5 : N = 0 ∨ N = 1 ∨ N = 2 ∨ N = 3 ∨ N = 4 := by omega
  clear hb4
  have HIR : Hid (∀ r, inR t 1 3 = r → ∀ W, Calls Tryz.prog 84 #[.int .i64 t, .int .i64 1, .int .i64 3] W fun e w' => e = .returned (.bool r) ∧ w' = W) := Lib.hid (fun r hr W => l00In_qb hr W)
  cases hr : inR t 1 3 with
  | false =>
    have HI := Lib.hid (fun W => HIR.out _ hr W)
    clear HIR hr
    rcases hN5 with rfl | rfl | rfl | rfl | rfl
    all_goals
      go_enter Tryz.func63, Tryz.ntmps63
      go_wp2_with fail
      refine HBS.out.mono ?_
      rintro e w1 ⟨rfl, hb1⟩
      have HB := Lib.hid hb1
      clear hb1 HBS
      go_wp2_with fail
      try
        refine (HI.out _).mono ?_
        rintro e w' ⟨rfl, rfl⟩
        go_wp2
      go_ret2
      exact ⟨by simp, HB.out⟩
  | true =>
    have HI := Lib.hid (fun W => HIR.out _ hr W)
    simp only [inR, Bool.and_eq_true, decide_eq_true_eq] at hr
    clear HIR
    rcases hN5 with rfl | rfl | rfl | rfl | rfl
    all_goals
      go_enter Tryz.func63, Tryz.ntmps63
      go_wp2_with fail
      refine HBS.out.mono ?_
      rintro e w1 ⟨rfl, hb1⟩
      have HB := Lib.hid hb1
      clear hb1 HBS
      go_wp2_with fail
      try
        refine (HI.out _).mono ?_
        rintro e w' ⟨rfl, rfl⟩
        go_wp2
      go_ret2
      exact ⟨by simp, HB.out⟩
end Go.Proofs.YtionognmgcabbaaGreat.CntS
/- The reference: the list of rows behind a list. -/
namespace Go.Proofs.YtionognmgcabbaaGreat.NextS
open Go.RowKit Go.Proofs.YtionognmgcabbaaGreat Go.Proofs.YtionognmgcabbaaGreat.Base Go.Proofs.YtionognmgcabbaaGreat.Mem Go.Proofs.YtionognmgcabbaaGreat.NextM
set_option linter.unusedVariables false
def ListMade (R : List Int) (w : World) (e : Ending) (w' : World) : Prop := ∃ A c, e = .returned (.slice A R.length c) ∧ OwnI w' w.heap.size (.slice A R.length c) R ∧ Below w.heap.size w w'
theorem made_list {w w' : World} {v : Value} {xs : List Int} {o : Obj} (hown : w'.ownsRow w.heap.size 2 1 v xs.length (ints xs)) (hg : (w.alloc o).grownBy w' (some w.heap.size)) : ListMade xs w (.returned v) w' := by
  have h2 : OwnI w' w.heap.size v xs := hown
  obtain ⟨A, c, rfl, _⟩ := h2.form
  exact ⟨A, c, rfl, h2, ((Below.refl _ _).alloc (Nat.le_refl _) o).trans (grown_below hg (fun g e => by injection e with e; omega) (by simp))⟩
theorem rd_news {w : World} {b off : Nat} {xs : List Int} (hc : ∀ j, j < xs.length → w.cell? ⟨b, off + j, none⟩ = some (.int .i64 (xs.getD j 0))) : ∀ j u, (ints xs)[j]? = some u → w.cell? ((⟨b, off, none⟩ : Addr).add j) = some u := fun j u hj => by
  have hl : j < xs.length := by
    have := (List.getElem?_eq_some_iff.1 hj).1
    rwa [ints_len] at this
  rw [Addr.add_lit, hc j hl, ← hj, ints_get xs j hl]
theorem rd_news_alloc {w : World} {B : Nat} {A : Option Addr} {xs : List Int} (h : RdI w B A xs) {ad : Addr} (e : A = some ad) (hB : B ≤ w.heap.size) (o : Obj) : ∀ j u, (ints xs)[j]? = some u → (w.alloc o).cell? (ad.add j) = some u := fun j u hj => by
  have hl : j < xs.length := by
    have := (List.getElem?_eq_some_iff.1 hj).1
    rwa [ints_len] at this
  obtain ⟨b, off, e2, _, hc⟩ := (h.below ((Below.refl w.heap.size w).alloc (Nat.le_refl _) o) hB) (by omega)
  rw [e] at e2
  injection e2 with e2
  subst e2
  exact rd_news hc j u hj
set_option maxHeartbeats 1000000 in
theorem own_any (A : Option Addr) (c B : Nat) (xs : List Int) (w : World) (hx : RdI w B A xs) (hB : B ≤ w.heap.size) (hl : xs.length ≤ 1048576) :
    Calls Tryz.prog 131 #[.slice A xs.length c] w (ListMade xs w) := by
  obtain ⟨i0, hi, hz0, hz1, hz2⟩ := info_parts infoI
  have HW := Lib.hid (World.ownsRow_made (base := w.heap.size) (e := 2) (size := 1) w #[] 0 (Nat.le_refl _) (Nat.zero_le _) rfl)
  cases A with
  | none =>
    have h0 : xs = [] := by
      rcases xs with _ | ⟨x, xs⟩
      · rfl
      · obtain ⟨b, off, e, _⟩ := hx (by simp)
        cases e
    subst h0
    clear hx
    go_enter Tryz.func131, Tryz.ntmps131
    go_wp2_with (at_builtin; refine wpList_append_nil _ rfl (.tmp 3) (.tmp 4) 41 rfl 2 i0 Tryz.underlying41 hi w.heap.size 0 rfl c rfl ?_)
    go_wp2
    go_ret
    exact ⟨_, 0, rfl, HW.out, (Below.refl _ _).alloc (Nat.le_refl _) _⟩
  | some ad =>
    have HN := Lib.hid (rd_news_alloc hx rfl hB (.cells #[] 2))
    clear hx
    go_enter Tryz.func131, Tryz.ntmps131
    go_wp2_with (at_builtin; refine wpList_append_own_at _ rfl (.tmp 3) (.tmp 4) 41 rfl w.heap.size 2 i0 (.int .i64 0) 1 8 Tryz.underlying41 hi hz0 hz1 hz2 rfl (by decide) _ _ _ rfl HW.out ad xs.length c (ints xs) rfl ?p1 ?p2 ?p3 ?p4 ?p5 ?p6 ?_)
    try case p1 => simp [ints_len]
    try case p2 => exact HN.out
    try case p3 => exact ints_one xs
    try case p4 => first | (simp only [maxLen]; omega) | omega
    try case p5 => omega
    try case p6 => first | (simp only [World.size_alloc]; omega) | omega
    intro v' w2 hown' hg' _ he
    have HN2 := Lib.hid (made_list hown' hg')
    clear hown' hg' he
    go_wp2
    go_ret
    exact HN2.out
theorem set_own {w : World} {B c0 g i : Nat} {l : List Int} (h : OwnI w B (.slice (some ⟨g, 0, none⟩) l.length c0) l) (x : Int) :
    OwnI (w.setCell ⟨g, i, none⟩ (.int .i64 x)) B (.slice (some ⟨g, 0, none⟩) l.length c0) (l.set i x) ∧ w.grownBy (w.setCell ⟨g, i, none⟩ (.int .i64 x)) (some g) := by
  unfold OwnI at *
  obtain ⟨h1, g1⟩ := h.stored i (.int .i64 x)
  rw [ints_set] at h1
  refine ⟨?_, g1⟩
  rw [List.length_set]
  exact h1
def NxRel (m : Int) (xs : List Int) (g c0 n : Nat) (w : World) (iv : Value) (wr : World) : Prop := ∃ (a : Nat) (ys : List Int), iv = .int .i64 ((a : Int) - 1) ∧ a ≤ n ∧ ys.length = n ∧ (∀ i, i < n → 0 ≤ ys.getD i 0 ∧ ys.getD i 0 ≤ 15) ∧ nx m a ys = nx m n xs ∧ Hid (OwnI wr w.heap.size (.slice (some ⟨g, 0, none⟩) n c0) ys) ∧ Hid (Below w.heap.size w wr)
theorem getD_set0 {l : List Int} {a i : Nat} {x : Int} (h : 0 ≤ l.getD i 0 ∧ l.getD i 0 ≤ 15) (hx : 0 ≤ x ∧ x ≤ 15) : 0 ≤ (l.set a x).getD i 0 ∧ (l.set a x).getD i 0 ≤ 15 := by
  simp only [List.getD_eq_getElem?_getD, List.getElem?_set] at h ⊢
  split
  · split
    · exact hx
    · simp
  · exact h
set_option maxHeartbeats 2000000 in
set_option maxRecDepth 100000 in
theorem nextS_n1 (A : Option Addr) (c B n : Nat) (xs : List Int) (w : World) (hx : RdI w B A xs) (hB : B ≤ w.heap.size) (hl : xs.length = n) (h1 : 1 ≤ n) (h3 : n ≤ 3) (hr : ∀ i, i < n → 0 ≤ xs.getD i 0 ∧ xs.getD i 0 ≤ 15) :
    Calls Tryz.prog 64 #[.slice A n c, .int .i64 1] w (ListMade (nextL 1 xs) w) := by
  have HO := Lib.hid (own_any A c B xs w hx hB (by omega))
  rw [hl] at HO
  have hnl : nextL 1 xs = nx 1 n xs := by
    unfold nextL
    rw [hl]
    rfl
  rw [hnl]
  clear hx hnl
  go_enter Tryz.func64, Tryz.ntmps64
  go_wp2_with fail
  refine HO.out.mono ?_
  rintro e w1 ⟨A1, c1, rfl, ho, hb1⟩
  rw [hl] at ho
  obtain ⟨A1', c1', e1, hg⟩ := ho.form
  obtain ⟨g, e2, hg1, hg2⟩ := hg (by omega)
  injection e1 with e3 e4 e5
  rw [← e3] at e2
  subst e2
  have H0 : Hid (NxRel 1 xs g c1 n w (.int .i64 ((n : Int) - 1)) w1) := Lib.hid ⟨n, xs, rfl, Nat.le_refl _, hl, hr, rfl, Lib.hid ho, Lib.hid hb1⟩
  have hw1 := hb1.size
  clear ho hb1 HO e3 e4 e5 hr
  go_wp2_with fail
  go_loopw [6] (fun iv wr => NxRel 1 xs g c1 n w iv wr) (fun iv _ => (intOf iv + 1).toNat)
  case atStart => exact H0.out
  case round =>
    obtain ⟨a, ys, rfl, ha, hys, hr, hnx, HO, HB⟩ := hrel
    clear H0
    have hz := HB.out.size
    cases a with
    | zero =>
      have HR : Hid (ListMade (nx 1 n xs) w (.returned (.slice (some ⟨wr.heap.size, 0, none⟩) 0 0)) (wr.alloc (.cells #[] 2))) := Lib.hid (by
        rw [← hnx]
        exact ⟨_, 0, rfl, World.ownsRow_made wr #[] 0 hz (Nat.zero_le _) (by simp), HB.out.alloc hz _⟩)
      clear hnx HO HB
      rw [show (((0 : Nat) : Int) - 1) = -1 from rfl]
      go_wp2
      go_ret
      exact HR.out
    | succ a =>
      have hO2 := HO.out
      rw [← hys] at hO2
      have hO : wr.ownsRow w.heap.size 2 1 (.slice (some ⟨g, 0, none⟩) ys.length c1) ys.length (ints ys) := hO2
      have e1 := World.ownsRow.cellAt hO a (by omega)
      rw [ints_get ys a (by omega)] at e1
      have f1 := hO.frozenAt a
      obtain ⟨q1, q2⟩ := hr a (by omega)
      obtain ⟨S0, g0⟩ := set_own hO2 (i := a) 0
      obtain ⟨S1, g1'⟩ := set_own hO2 (i := a) (ys.getD a 0 + 1)
      rw [hys] at S0 S1
      have HS0 := Lib.hid (And.intro S0 (HB.out.trans (grown_below g0 (fun q e => by injection e with e; omega) hz)))
      have HS1 := Lib.hid (And.intro S1 (HB.out.trans (grown_below g1' (fun q e => by injection e with e; omega) hz)))
      have HNX : Hid ((if ys.getD a 0 = 1 then nx 1 a (ys.set a 0) else ys.set a (ys.getD a 0 + 1)) = nx 1 n xs) := Lib.hid hnx
      have HY0 := Lib.hid (fun i (hi : i < n) => getD_set0 (a := a) (x := 0) (hr i hi) (by omega))
      clear hO hO2 S0 S1 g0 g1' hnx HO HB hr
      rw [show (((a + 1 : Nat) : Int) - 1) = (a : Int) by omega]
      generalize ys.getD a 0 = y at *
      have han : (a : Int) < (n : Int) := by omega
      by_cases hy : y = 1
      · subst hy
        have HN : Hid (NxRel 1 xs g c1 n w (.int .i64 ((a : Int) - 1)) (wr.setCell ⟨g, a, none⟩ (.int .i64 0))) := Lib.hid ⟨a, ys.set a 0, rfl, by omega, by rw [List.length_set]; exact hys, HY0.out, (by have := HNX.out; rwa [if_pos rfl] at this), Lib.hid HS0.out.1, Lib.hid HS0.out.2⟩
        clear HS0 HS1 HNX HY0
        go_wp2
        go_roundw
        case rel => exact HN.out
        case measure => first | (simp [intOf]; done) | (simp [intOf]; omega)
      · have HR : Hid (ListMade (nx 1 n xs) w (.returned (.slice (some ⟨g, 0, none⟩) n c1)) (wr.setCell ⟨g, a, none⟩ (.int .i64 (y + 1)))) := Lib.hid (by
          have := HNX.out
          rw [if_neg hy] at this
          rw [← this]
          have hL : (ys.set a (y + 1)).length = n := by rw [List.length_set]; exact hys
          exact ⟨some ⟨g, 0, none⟩, c1, by rw [hL], by rw [hL]; exact HS1.out.1, HS1.out.2⟩)
        clear HS0 HS1 HNX HY0
        go_wp2
        go_ret
        exact HR.out
set_option maxHeartbeats 2000000 in
set_option maxRecDepth 100000 in
theorem nextS_n2 (A : Option Addr) (c B n : Nat) (xs : List Int) (w : World) (hx : RdI w B A xs) (hB : B ≤ w.heap.size) (hl : xs.length = n) (h1 : 1 ≤ n) (h3 : n ≤ 3) (hr : ∀ i, i < n → 0 ≤ xs.getD i 0 ∧ xs.getD i 0 ≤ 15) :
    Calls Tryz.prog 64 #[.slice A n c, .int .i64 2] w (ListMade (nextL 2 xs) w) := by
  have HO := Lib.hid (own_any A c B xs w hx hB (by omega))
  rw [hl] at HO
  have hnl : nextL 2 xs = nx 3 n xs := by
    unfold nextL
    rw [hl]
    rfl
  rw [hnl]
  clear hx hnl
  go_enter Tryz.func64, Tryz.ntmps64
  go_wp2_with fail
  refine HO.out.mono ?_
  rintro e w1 ⟨A1, c1, rfl, ho, hb1⟩
  rw [hl] at ho
  obtain ⟨A1', c1', e1, hg⟩ := ho.form
  obtain ⟨g, e2, hg1, hg2⟩ := hg (by omega)
  injection e1 with e3 e4 e5
  rw [← e3] at e2
  subst e2
  have H0 : Hid (NxRel 3 xs g c1 n w (.int .i64 ((n : Int) - 1)) w1) := Lib.hid ⟨n, xs, rfl, Nat.le_refl _, hl, hr, rfl, Lib.hid ho, Lib.hid hb1⟩
  have hw1 := hb1.size
  clear ho hb1 HO e3 e4 e5 hr
  go_wp2_with fail
  go_loopw [6] (fun iv wr => NxRel 3 xs g c1 n w iv wr) (fun iv _ => (intOf iv + 1).toNat)
  case atStart => exact H0.out
  case round =>
    obtain ⟨a, ys, rfl, ha, hys, hr, hnx, HO, HB⟩ := hrel
    clear H0
    have hz := HB.out.size
    cases a with
    | zero =>
      have HR : Hid (ListMade (nx 3 n xs) w (.returned (.slice (some ⟨wr.heap.size, 0, none⟩) 0 0)) (wr.alloc (.cells #[] 2))) := Lib.hid (by
        rw [← hnx]
        exact ⟨_, 0, rfl, World.ownsRow_made wr #[] 0 hz (Nat.zero_le _) (by simp), HB.out.alloc hz _⟩)
      clear hnx HO HB
      rw [show (((0 : Nat) : Int) - 1) = -1 from rfl]
      go_wp2
      go_ret
      exact HR.out
    | succ a =>
      have hO2 := HO.out
      rw [← hys] at hO2
      have hO : wr.ownsRow w.heap.size 2 1 (.slice (some ⟨g, 0, none⟩) ys.length c1) ys.length (ints ys) := hO2
      have e1 := World.ownsRow.cellAt hO a (by omega)
      rw [ints_get ys a (by omega)] at e1
      have f1 := hO.frozenAt a
      obtain ⟨q1, q2⟩ := hr a (by omega)
      obtain ⟨S0, g0⟩ := set_own hO2 (i := a) 0
      obtain ⟨S1, g1'⟩ := set_own hO2 (i := a) (ys.getD a 0 + 1)
      rw [hys] at S0 S1
      have HS0 := Lib.hid (And.intro S0 (HB.out.trans (grown_below g0 (fun q e => by injection e with e; omega) hz)))
      have HS1 := Lib.hid (And.intro S1 (HB.out.trans (grown_below g1' (fun q e => by injection e with e; omega) hz)))
      have HNX : Hid ((if ys.getD a 0 = 3 then nx 3 a (ys.set a 0) else ys.set a (ys.getD a 0 + 1)) = nx 3 n xs) := Lib.hid hnx
      have HY0 := Lib.hid (fun i (hi : i < n) => getD_set0 (a := a) (x := 0) (hr i hi) (by omega))
      clear hO hO2 S0 S1 g0 g1' hnx HO HB hr
      rw [show (((a + 1 : Nat) : Int) - 1) = (a : Int) by omega]
      generalize ys.getD a 0 = y at *
      have han : (a : Int) < (n : Int) := by omega
      by_cases hy : y = 3
      · subst hy
        have HN : Hid (NxRel 3 xs g c1 n w (.int .i64 ((a : Int) - 1)) (wr.setCell ⟨g, a, none⟩ (.int .i64 0))) := Lib.hid ⟨a, ys.set a 0, rfl, by omega, by rw [List.length_set]; exact hys, HY0.out, (by have := HNX.out; rwa [if_pos rfl] at this), Lib.hid HS0.out.1, Lib.hid HS0.out.2⟩
        clear HS0 HS1 HNX HY0
        go_wp2
        go_roundw
        case rel => exact HN.out
        case measure => first | (simp [intOf]; done) | (simp [intOf]; omega)
      · have HR : Hid (ListMade (nx 3 n xs) w (.returned (.slice (some ⟨g, 0, none⟩) n c1)) (wr.setCell ⟨g, a, none⟩ (.int .i64 (y + 1)))) := Lib.hid (by
          have := HNX.out
          rw [if_neg hy] at this
          rw [← this]
          have hL : (ys.set a (y + 1)).length = n := by rw [List.length_set]; exact hys
          exact ⟨some ⟨g, 0, none⟩, c1, by rw [hL], by rw [hL]; exact HS1.out.1, HS1.out.2⟩)
        clear HS0 HS1 HNX HY0
        go_wp2
        go_ret
        exact HR.out
set_option maxHeartbeats 2000000 in
set_option maxRecDepth 100000 in
theorem nextS_n3 (A : Option Addr) (c B n : Nat) (xs : List Int) (w : World) (hx : RdI w B A xs) (hB : B ≤ w.heap.size) (hl : xs.length = n) (h1 : 1 ≤ n) (h3 : n ≤ 3) (hr : ∀ i, i < n → 0 ≤ xs.getD i 0 ∧ xs.getD i 0 ≤ 15) :
    Calls Tryz.prog 64 #[.slice A n c, .int .i64 3] w (ListMade (nextL 3 xs) w) := by
  have HO := Lib.hid (own_any A c B xs w hx hB (by omega))
  rw [hl] at HO
  have hnl : nextL 3 xs = nx 7 n xs := by
    unfold nextL
    rw [hl]
    rfl
  rw [hnl]
  clear hx hnl
  go_enter Tryz.func64, Tryz.ntmps64
  go_wp2_with fail
  refine HO.out.mono ?_
  rintro e w1 ⟨A1, c1, rfl, ho, hb1⟩
  rw [hl] at ho
  obtain ⟨A1', c1', e1, hg⟩ := ho.form
  obtain ⟨g, e2, hg1, hg2⟩ := hg (by omega)
  injection e1 with e3 e4 e5
  rw [← e3] at e2
  subst e2
  have H0 : Hid (NxRel 7 xs g c1 n w (.int .i64 ((n : Int) - 1)) w1) := Lib.hid ⟨n, xs, rfl, Nat.le_refl _, hl, hr, rfl, Lib.hid ho, Lib.hid hb1⟩
  have hw1 := hb1.size
  clear ho hb1 HO e3 e4 e5 hr
  go_wp2_with fail
  go_loopw [6] (fun iv wr => NxRel 7 xs g c1 n w iv wr) (fun iv _ => (intOf iv + 1).toNat)
  case atStart => exact H0.out
  case round =>
    obtain ⟨a, ys, rfl, ha, hys, hr, hnx, HO, HB⟩ := hrel
    clear H0
    have hz := HB.out.size
    cases a with
    | zero =>
      have HR : Hid (ListMade (nx 7 n xs) w (.returned (.slice (some ⟨wr.heap.size, 0, none⟩) 0 0)) (wr.alloc (.cells #[] 2))) := Lib.hid (by
        rw [← hnx]
        exact ⟨_, 0, rfl, World.ownsRow_made wr #[] 0 hz (Nat.zero_le _) (by simp), HB.out.alloc hz _⟩)
      clear hnx HO HB
      rw [show (((0 : Nat) : Int) - 1) = -1 from rfl]
      go_wp2
      go_ret
      exact HR.out
    | succ a =>
      have hO2 := HO.out
      rw [← hys] at hO2
      have hO : wr.ownsRow w.heap.size 2 1 (.slice (some ⟨g, 0, none⟩) ys.length c1) ys.length (ints ys) := hO2
      have e1 := World.ownsRow.cellAt hO a (by omega)
      rw [ints_get ys a (by omega)] at e1
      have f1 := hO.frozenAt a
      obtain ⟨q1, q2⟩ := hr a (by omega)
      obtain ⟨S0, g0⟩ := set_own hO2 (i := a) 0
      obtain ⟨S1, g1'⟩ := set_own hO2 (i := a) (ys.getD a 0 + 1)
      rw [hys] at S0 S1
      have HS0 := Lib.hid (And.intro S0 (HB.out.trans (grown_below g0 (fun q e => by injection e with e; omega) hz)))
      have HS1 := Lib.hid (And.intro S1 (HB.out.trans (grown_below g1' (fun q e => by injection e with e; omega) hz)))
      have HNX : Hid ((if ys.getD a 0 = 7 then nx 7 a (ys.set a 0) else ys.set a (ys.getD a 0 + 1)) = nx 7 n xs) := Lib.hid hnx
      have HY0 := Lib.hid (fun i (hi : i < n) => getD_set0 (a := a) (x := 0) (hr i hi) (by omega))
      clear hO hO2 S0 S1 g0 g1' hnx HO HB hr
      rw [show (((a + 1 : Nat) : Int) - 1) = (a : Int) by omega]
      generalize ys.getD a 0 = y at *
      have han : (a : Int) < (n : Int) := by omega
      by_cases hy : y = 7
      · subst hy
        have HN : Hid (NxRel 7 xs g c1 n w (.int .i64 ((a : Int) - 1)) (wr.setCell ⟨g, a, none⟩ (.int .i64 0))) := Lib.hid ⟨a, ys.set a 0, rfl, by omega, by rw [List.length_set]; exact hys, HY0.out, (by have := HNX.out; rwa [if_pos rfl] at this), Lib.hid HS0.out.1, Lib.hid HS0.out.2⟩
        clear HS0 HS1 HNX HY0
        go_wp2
        go_roundw
        case rel => exact HN.out
        case measure => first | (simp [intOf]; done) | (simp [intOf]; omega)
      · have HR : Hid (ListMade (nx 7 n xs) w (.returned (.slice (some ⟨g, 0, none⟩) n c1)) (wr.setCell ⟨g, a, none⟩ (.int .i64 (y + 1)))) := Lib.hid (by
          have := HNX.out
          rw [if_neg hy] at this
          rw [← this]
          have hL : (ys.set a (y + 1)).length = n := by rw [List.length_set]; exact hys
          exact ⟨some ⟨g, 0, none⟩, c1, by rw [hL], by rw [hL]; exact HS1.out.1, HS1.out.2⟩)
        clear HS0 HS1 HNX HY0
        go_wp2
        go_ret
        exact HR.out
set_option maxHeartbeats 2000000 in
set_option maxRecDepth 100000 in
theorem nextS_n4 (A : Option Addr) (c B n : Nat) (xs : List Int) (w : World) (hx : RdI w B A xs) (hB : B ≤ w.heap.size) (hl : xs.length = n) (h1 : 1 ≤ n) (h3 : n ≤ 3) (hr : ∀ i, i < n → 0 ≤ xs.getD i 0 ∧ xs.getD i 0 ≤ 15) :
    Calls Tryz.prog 64 #[.slice A n c, .int .i64 4] w (ListMade (nextL 4 xs) w) := by
  have HO := Lib.hid (own_any A c B xs w hx hB (by omega))
  rw [hl] at HO
  have hnl : nextL 4 xs = nx 15 n xs := by
    unfold nextL
    rw [hl]
    rfl
  rw [hnl]
  clear hx hnl
  go_enter Tryz.func64, Tryz.ntmps64
  go_wp2_with fail
  refine HO.out.mono ?_
  rintro e w1 ⟨A1, c1, rfl, ho, hb1⟩
  rw [hl] at ho
  obtain ⟨A1', c1', e1, hg⟩ := ho.form
  obtain ⟨g, e2, hg1, hg2⟩ := hg (by omega)
  injection e1 with e3 e4 e5
  rw [← e3] at e2
  subst e2
  have H0 : Hid (NxRel 15 xs g c1 n w (.int .i64 ((n : Int) - 1)) w1) := Lib.hid ⟨n, xs, rfl, Nat.le_refl _, hl, hr, rfl, Lib.hid ho, Lib.hid hb1⟩
  have hw1 := hb1.size
  clear ho hb1 HO e3 e4 e5 hr
  go_wp2_with fail
  go_loopw [6] (fun iv wr => NxRel 15 xs g c1 n w iv wr) (fun iv _ => (intOf iv + 1).toNat)
  case atStart => exact H0.out
  case round =>
    obtain ⟨a, ys, rfl, ha, hys, hr, hnx, HO, HB⟩ := hrel
    clear H0
    have hz := HB.out.size
    cases a with
    | zero =>
      have HR : Hid (ListMade (nx 15 n xs) w (.returned (.slice (some ⟨wr.heap.size, 0, none⟩) 0 0)) (wr.alloc (.cells #[] 2))) := Lib.hid (by
        rw [← hnx]
        exact ⟨_, 0, rfl, World.ownsRow_made wr #[] 0 hz (Nat.zero_le _) (by simp), HB.out.alloc hz _⟩)
      clear hnx HO HB
      rw [show (((0 : Nat) : Int) - 1) = -1 from rfl]
      go_wp2
      go_ret
      exact HR.out
    | succ a =>
      have hO2 := HO.out
      rw [← hys] at hO2
      have hO : wr.ownsRow w.heap.size 2 1 (.slice (some ⟨g, 0, none⟩) ys.length c1) ys.length (ints ys) := hO2
      have e1 := World.ownsRow.cellAt hO a (by omega)
      rw [ints_get ys a (by omega)] at e1
      have f1 := hO.frozenAt a
      obtain ⟨q1, q2⟩ := hr a (by omega)
      obtain ⟨S0, g0⟩ := set_own hO2 (i := a) 0
      obtain ⟨S1, g1'⟩ := set_own hO2 (i := a) (ys.getD a 0 + 1)
      rw [hys] at S0 S1
      have HS0 := Lib.hid (And.intro S0 (HB.out.trans (grown_below g0 (fun q e => by injection e with e; omega) hz)))
      have HS1 := Lib.hid (And.intro S1 (HB.out.trans (grown_below g1' (fun q e => by injection e with e; omega) hz)))
      have HNX : Hid ((if ys.getD a 0 = 15 then nx 15 a (ys.set a 0) else ys.set a (ys.getD a 0 + 1)) = nx 15 n xs) := Lib.hid hnx
      have HY0 := Lib.hid (fun i (hi : i < n) => getD_set0 (a := a) (x := 0) (hr i hi) (by omega))
      clear hO hO2 S0 S1 g0 g1' hnx HO HB hr
      rw [show (((a + 1 : Nat) : Int) - 1) = (a : Int) by omega]
      generalize ys.getD a 0 = y at *
      have han : (a : Int) < (n : Int) := by omega
      by_cases hy : y = 15
      · subst hy
        have HN : Hid (NxRel 15 xs g c1 n w (.int .i64 ((a : Int) - 1)) (wr.setCell ⟨g, a, none⟩ (.int .i64 0))) := Lib.hid ⟨a, ys.set a 0, rfl, by omega, by rw [List.length_set]; exact hys, HY0.out, (by have := HNX.out; rwa [if_pos rfl] at this), Lib.hid HS0.out.1, Lib.hid HS0.out.2⟩
        clear HS0 HS1 HNX HY0
        go_wp2
        go_roundw
        case rel => exact HN.out
        case measure => first | (simp [intOf]; done) | (simp [intOf]; omega)
      · have HR : Hid (ListMade (nx 15 n xs) w (.returned (.slice (some ⟨g, 0, none⟩) n c1)) (wr.setCell ⟨g, a, none⟩ (.int .i64 (y + 1)))) := Lib.hid (by
          have := HNX.out
          rw [if_neg hy] at this
          rw [← this]
          have hL : (ys.set a (y + 1)).length = n := by rw [List.length_set]; exact hys
          exact ⟨some ⟨g, 0, none⟩, c1, by rw [hL], by rw [hL]; exact HS1.out.1, HS1.out.2⟩)
        clear HS0 HS1 HNX HY0
        go_wp2
        go_ret
        exact HR.out
end Go.Proofs.YtionognmgcabbaaGreat.NextS
/- The reference's fractions of any size: half of one. -/
namespace Go.Proofs.YtionognmgcabbaaGreat.Wide
open Go.RowKit Go.Proofs.YtionognmgcabbaaGreat Go.Proofs.YtionognmgcabbaaGreat.Base Go.Proofs.YtionognmgcabbaaGreat.Mem Go.Proofs.YtionognmgcabbaaGreat.RatM Go.Proofs.YtionognmgcabbaaGreat.BigM Go.Proofs.YtionognmgcabbaaGreat.Big Go.Proofs.YtionognmgcabbaaGreat.Fine Go.Proofs.YtionognmgcabbaaGreat.Blk
set_option linter.unusedVariables false
theorem vf_half : VF 1 2 := ⟨by decide, by decide, by decide, by decide, by decide⟩
set_option maxHeartbeats 4000000 in
set_option maxRecDepth 100000 in
theorem half_any {q : Rat} {m : Nat} {v : Value} (w : World) (hv : IsW w q m v) (hm : m ≤ 400000) (h2 : 2 ≤ m) : Calls Tryz.prog 161 #[v] w (WRet (q * qf 1 2) (m + 2) w) := by
  have HV0 := Lib.hid hv
  have HM1 := Lib.hid (fun W => wideOf_any vf_half W)
  obtain ⟨s, A1, k1, c1, A2, k2, c2, fa, fn, fd, n, d, rfl, hp⟩ := hv
  obtain ⟨W2, hW2⟩ : ∃ W2, W2 = (w.alloc (.cells #[.bool s, .slice A1 k1 c1, .slice A2 k2 c2, .bool fa, .int .i64 fn, .int .i64 fd] 81)).alloc (.cells #[.bool false, .slice none 0 0, .slice none 0 0, .bool false, .int .i64 0, .int .i64 0] 81) := ⟨_, rfl⟩
  have K0 : Hid (Blk W2 w.heap.size 81 #[.bool s, .slice A1 k1 c1, .slice A2 k2 c2, .bool fa, .int .i64 fn, .int .i64 fd]) := Lib.hid (by rw [hW2]; exact (Blk.new w _ _).alloc _)
  have KR : Hid (Blk W2 (w.heap.size + 1) 81 #[.bool false, .slice none 0 0, .slice none 0 0, .bool false, .int .i64 0, .int .i64 0]) := Lib.hid (by rw [hW2]; exact Blk.newAt _ _ (by simp))
  have HB : Hid (Below w.heap.size w W2) := Lib.hid (by rw [hW2]; exact ((Below.refl _ _).alloc (Nat.le_refl _) _).alloc (by simp) _)
  have HV := Lib.hid (fun W (h : Below W2.heap.size W2 W) => HV0.out.below (Base.Below.nextA HB.out h))
  have HW := Lib.hid hW2
  clear hW2 hp HV0
  go_enter Tryz.func161, Tryz.ntmps161
  go_upto_region 1 with (fail)
  rw [← HW.out]
  clear HW
  refine Rel.wp_region_rel 4 (by kernel_rfl) (by kernel_rfl) (fun F hF => ?_)
  simp only [List.take_succ_cons, List.take_zero, List.drop_succ_cons, List.drop_zero, Rel.putL] at hF ⊢
  have HF := Lib.hid hF
  clear hF
  have uv := @Rel.upon_value Tryz.prog
  have ue := @Rel.upon_enter Tryz.prog
  apply Rel.rel_pure
  apply Exists.intro
  refine ⟨fun vs wq hq hdp R hR => ?_, ?_⟩
  · (rw [HF.out, Rel.stepAt_eq]; clear hdp; have x0 := (K0.out.belowS hq).at 0 (v := .bool s) rfl; have x1 := (K0.out.belowS hq).at 1 (v := .slice A1 k1 c1) rfl; have x2 := (K0.out.belowS hq).at 2 (v := .slice A2 k2 c2) rfl; have x3 := (K0.out.belowS hq).at 3 (v := .bool fa) rfl; have x4 := (K0.out.belowS hq).at 4 (v := .int .i64 fn) rfl; have x5 := (K0.out.belowS hq).at 5 (v := .int .i64 fd) rfl; go_simp; exact hR)
  apply Rel.rel_pure
  apply Exists.intro
  refine ⟨fun vs wq hq hdp R hR => ?_, ?_⟩
  · (rw [HF.out, Rel.stepAt_eq]; clear hdp; skip; go_simp; exact hR)
  refine Rel.rel_law (S := fun v w' => IsW w' (qf 1 2) 2 v) (isW_mono _ _) (fun vs wq hq hdp => ?_) ?_
  · (rw [HF.out, Rel.stepAt_eq]; have qd1 : vs 1 = _ := Rel.dep hdp 1 (by kernel_rfl); clear hdp; skip; go_simp; refine (HM1.out _).mono ?_; rintro e w7 ⟨v, rfl, hv, hb⟩; exact ⟨_, rfl, hv, hb⟩)
  refine Rel.rel_law (S := fun v w' => IsW w' (q * qf 1 2) (m + 2) v) (isW_mono _ _) (fun vs wq hq hdp => ?_) ?_
  · (rw [HF.out, Rel.stepAt_eq]; have qd0 : vs 0 = _ := Rel.dep hdp 0 (by kernel_rfl); have qd2 : IsW wq _ _ (vs 2) := Rel.dep hdp 2 (by kernel_rfl); clear hdp; skip; go_simp; refine (wideMul_any wq (HV.out wq hq) qd2 hm (by decide) h2 (by decide)).mono ?_; rintro e w7 ⟨v, rfl, hv, hb⟩; exact ⟨_, rfl, hv, hb⟩)
  refine Rel.rel_end (fun vs wq hq hall => ?_)
  rw [HF.out]
  have qe0 : vs 0 = _ := Rel.fin hall 0 (by decide)
  have qe1 : vs 1 = _ := Rel.fin hall 1 (by decide)
  have qe2 : IsW wq _ _ (vs 2) := Rel.fin hall 2 (by decide)
  have qe3 : IsW wq _ _ (vs 3) := Rel.fin hall 3 (by decide)
  clear hall HF uv ue
  obtain ⟨s, A1, k1, c1', A2, k2, c2', fine, fn, fd, nn, dd, ev, hpz⟩ := qe3
  have KRq := KR.out.belowS hq
  have HBq := Base.Below.nextA HB.out hq
  have HP2 := Lib.hid hpz
  clear hq hpz K0 HV HM1 qe0 qe1 qe2
  have z0 := (KRq).frz 0
  have z1 := (KRq).frz 1
  have z2 := (KRq).frz 2
  have z3 := (KRq).frz 3
  have z4 := (KRq).frz 4
  have z5 := (KRq).frz 5
  have c0 := (KRq).at 0 (v := .bool false) rfl
  have c1 := (KRq).at 1 (v := .slice none 0 0) rfl
  have c2 := (KRq).at 2 (v := .slice none 0 0) rfl
  have c3 := (KRq).at 3 (v := .bool false) rfl
  have c4 := (KRq).at 4 (v := .int .i64 0) rfl
  have c5 := (KRq).at 5 (v := .int .i64 0) rfl
  have SS := put6_blk (KRq) (.bool s) (.slice A1 k1 c1') (.slice A2 k2 c2') (.bool fine) (.int .i64 fn) (.int .i64 fd)
  unfold put6 at SS
  have s0 := SS.at 0 rfl
  have s1 := SS.at 1 rfl
  have s2 := SS.at 2 rfl
  have s3 := SS.at 3 rfl
  have s4 := SS.at 4 rfl
  have s5 := SS.at 5 rfl
  have HFIN := Lib.hid (WRet.put (HP2.out) (KRq) (HBq) (by omega))
  clear SS
  go_wp2
  refine bodyPost_ret (v := .agg #[.bool s, .slice A1 k1 c1', .slice A2 k2 c2', .bool fine, .int .i64 fn, .int .i64 fd]) (by simp [results, Tryz.results161, go_sem, s0, s1, s2, s3, s4, s5]) rfl ?_
  exact HFIN.out
end Go.Proofs.YtionognmgcabbaaGreat.Wide
/- The reference: the distance of lists of fractions of any size. -/
namespace Go.Proofs.YtionognmgcabbaaGreat.Wide
open Go.RowKit Go.Proofs.YtionognmgcabbaaGreat Go.Proofs.YtionognmgcabbaaGreat.Base Go.Proofs.YtionognmgcabbaaGreat.Mem Go.Proofs.YtionognmgcabbaaGreat.RatM Go.Proofs.YtionognmgcabbaaGreat.BigM Go.Proofs.YtionognmgcabbaaGreat.Big Go.Proofs.YtionognmgcabbaaGreat.Fine Go.Proofs.YtionognmgcabbaaGreat.Blk Go.Proofs.YtionognmgcabbaaGreat.GaussM Go.Proofs.YtionognmgcabbaaGreat.MemF Go.Proofs.YtionognmgcabbaaGreat.ChM
open Go.Proofs.YtionognmgcabbaaGreat.Ratio (absR disR qf_half)
set_option linter.unusedVariables false
theorem Parts.abs {w : World} {q : Rat} {m : Nat} {s fine : Bool} {vn vd : Value} {fn fd : Int} {n d : Nat} (h : Parts w q m s vn vd fine fn fd n d) : absR q = if s then -1 * q else q := by
  obtain ⟨h1, h2⟩ := h.zero
  by_cases hn : n = 0
  · have := h1.1 hn
    subst this
    unfold absR
    cases s <;> simp
  · have h3 := h2 hn
    unfold absR
    cases s with
    | true => rw [if_pos (h3.2 rfl)]; simp only [if_true]; grind
    | false =>
      have : ¬ q < 0 := fun h => by have := h3.1 h; cases this
      rw [if_neg this]; rfl
theorem sub_eq (x y : Rat) : x + -1 * y = x - y := by grind
def DsRel (f g : Nat → Rat) (n D : Nat) (w : World) (lv iv : Value) (wr : World) : Prop :=
  ∃ (i : Nat) (cs : List Value), iv = .int .i64 (i : Int) ∧ i ≤ n ∧ Hid (OwnW wr (w.heap.size + 1) lv i (fun j => absR (f j - g j)) D cs) ∧ Hid (Blk wr w.heap.size 81 #[.bool false, .slice none 0 0, .slice none 0 0, .bool false, .int .i64 0, .int .i64 0]) ∧ Hid (Below w.heap.size w wr)
theorem DsRel.next {f g : Nat → Rat} {n D i : Nat} {w wr w1 w2 : World} {v v' : Value} {cs : List Value} {s fine : Bool} {A1 A2 : Option Addr} {k1 c1 k2 c2 nn dd : Nat} {fn fd : Int} {ca : Array Value} {t : TypeId} (hi : i < n) (h : OwnW wr (w.heap.size + 1) v i (fun j => absR (f j - g j)) D cs) (KR : Blk wr w.heap.size 81 #[.bool false, .slice none 0 0, .slice none 0 0, .bool false, .int .i64 0, .int .i64 0]) (hb : Below w.heap.size w wr) (h1 : Below wr.heap.size wr w1)
    (hp : Parts w1 (absR (f i - g i)) D s (.slice A1 k1 c1) (.slice A2 k2 c2) fine fn fd nn dd) (hown : w2.ownsRow (w.heap.size + 1) 81 6 v' (i + 1) (cs ++ six s (.slice A1 k1 c1) (.slice A2 k2 c2) fine fn fd)) (hg : (w1.alloc (.cells ca t)).grownBy w2 v.ownBlock) : DsRel f g n D w v' (.int .i64 ((i : Int) + 1)) w2 := by
  have hb1 : Below wr.heap.size wr (w1.alloc (.cells ca t)) := h1.alloc h1.size _
  refine ⟨i + 1, _, by simp, hi, Lib.hid (h.push h1 hp hown hg), Lib.hid ?_, Lib.hid ?_⟩
  · refine (KR.belowS hb1).kept hg fun e => ?_
    obtain ⟨_, _, h2, _⟩ := ownsRow_block h.row e
    omega
  · exact (hb.trans (hb1.mono hb.size)).trans (grown_below hg (fun g e => by have := (ownsRow_block h.row e).choose_spec.2.1; omega) (Nat.le_trans hb.size hb1.size))
set_option maxHeartbeats 2000000 in
set_option maxRecDepth 100000 in
theorem disS_any {A A' : Option Addr} {c c' n m m' : Nat} {f g : Nat → Rat} {cs cs' : List Value} (w : World) (hx : OwnW w 0 (.slice A n c) n f m cs) (hy : OwnW w 0 (.slice A' n c') n g m' cs') (h2 : 2 ≤ m) (h2' : 2 ≤ m') (hM : 4 + n * (m + m' + 6) ≤ 300000) (hn : n ≤ 1000) (hm : m + m' ≤ 200000) : Calls Tryz.prog 116 #[.slice A n c, .slice A' n c'] w (WRet (disR n f g) (4 + n * (m + m' + 6)) w) := by
  have HX := Lib.hid hx
  have HY := Lib.hid hy
  have HM1 := Lib.hid (fun W => wideOf_any vf_minus W)
  rw [qf_minus] at HM1
  obtain ⟨iw, wi, wz0, wz1, wz2⟩ := info_parts infoW
  have HMM := Lib.hid hM
  obtain ⟨D, hD⟩ : ∃ D, D = m + m' + 5 := ⟨_, rfl⟩
  have HD := Lib.hid hD
  have H0 : Hid (DsRel f g n D w (.slice (some ⟨w.heap.size + 1, 0, none⟩) 0 0) (.int .i64 0) ((w.alloc (.cells #[.bool false, .slice none 0 0, .slice none 0 0, .bool false, .int .i64 0, .int .i64 0] 81)).alloc (.cells #[] 81))) := Lib.hid (by
    have h := OwnW.lit0 (w.alloc (.cells #[.bool false, .slice none 0 0, .slice none 0 0, .bool false, .int .i64 0, .int .i64 0] 81)) (fun j => absR (f j - g j)) D
    rw [World.size_alloc] at h
    exact ⟨0, [], rfl, Nat.zero_le _, Lib.hid h, Lib.hid ((Blk.new w _ _).alloc _), Lib.hid (((Below.refl _ _).alloc (Nat.le_refl _) _).alloc (by simp) _)⟩)
  clear hx hy hM hD
  go_enter Tryz.func116, Tryz.ntmps116
  go_wp2
  go_loopw [5, 6] (fun lv iv wr => DsRel f g n D w lv iv wr) (fun _ iv _ => n - (intOf iv).toNat)
  case atStart => exact H0.out
  case round =>
    obtain ⟨i, cs, rfl, hi, HO, KRr, HB⟩ := hrel
    clear H0
    by_cases hlt : i < n
    · obtain ⟨ga, s1, B1, j1, e1, B2, j2, e2, fb, gn, gd, n', d', rfl, hgl, y0, y1, y2, y3, y4, y5, hp1⟩ := (HX.out.below HB.out).at hlt
      obtain ⟨gb, s2, D1, i1, b1, D2, i2, b2, fe, pn, pd, n2, d2, rfl, hgl2, u0, u1, u2, u3, u4, u5, hp2⟩ := (HY.out.below HB.out).at hlt
      have HY1 : Hid (∀ W, Below wr.heap.size wr W → W.cell? ⟨ga, i * 6, none⟩ = some (.bool s1) ∧ W.cell? ⟨ga, i * 6 + 1, none⟩ = some (.slice B1 j1 e1) ∧ W.cell? ⟨ga, i * 6 + 2, none⟩ = some (.slice B2 j2 e2) ∧ W.cell? ⟨ga, i * 6 + 3, none⟩ = some (.bool fb) ∧ W.cell? ⟨ga, i * 6 + 4, none⟩ = some (.int .i64 gn) ∧ W.cell? ⟨ga, i * 6 + 5, none⟩ = some (.int .i64 gd)) := Lib.hid fun W hb =>
        ⟨(hb.cell hgl).trans y0, (hb.cell hgl).trans y1, (hb.cell hgl).trans y2, (hb.cell hgl).trans y3, (hb.cell hgl).trans y4, (hb.cell hgl).trans y5⟩
      have HY2 : Hid (∀ W, Below wr.heap.size wr W → W.cell? ⟨gb, i * 6, none⟩ = some (.bool s2) ∧ W.cell? ⟨gb, i * 6 + 1, none⟩ = some (.slice D1 i1 b1) ∧ W.cell? ⟨gb, i * 6 + 2, none⟩ = some (.slice D2 i2 b2) ∧ W.cell? ⟨gb, i * 6 + 3, none⟩ = some (.bool fe) ∧ W.cell? ⟨gb, i * 6 + 4, none⟩ = some (.int .i64 pn) ∧ W.cell? ⟨gb, i * 6 + 5, none⟩ = some (.int .i64 pd)) := Lib.hid fun W hb =>
        ⟨(hb.cell hgl2).trans u0, (hb.cell hgl2).trans u1, (hb.cell hgl2).trans u2, (hb.cell hgl2).trans u3, (hb.cell hgl2).trans u4, (hb.cell hgl2).trans u5⟩
      have HE1 : Hid (IsW wr (f i) m (.agg #[.bool s1, .slice B1 j1 e1, .slice B2 j2 e2, .bool fb, .int .i64 gn, .int .i64 gd])) := Lib.hid ⟨_, _, _, _, _, _, _, _, _, _, _, _, rfl, hp1⟩
      have HE2 : Hid (IsW wr (g i) m' (.agg #[.bool s2, .slice D1 i1 b1, .slice D2 i2 b2, .bool fe, .int .i64 pn, .int .i64 pd])) := Lib.hid ⟨_, _, _, _, _, _, _, _, _, _, _, _, rfl, hp2⟩
      clear y0 y1 y2 y3 y4 y5 hp1 hgl u0 u1 u2 u3 u4 u5 hp2 hgl2
      obtain ⟨x, hxe⟩ : ∃ x, x = f i := ⟨_, rfl⟩
      obtain ⟨y, hye⟩ : ∃ y, y = g i := ⟨_, rfl⟩
      rw [← hxe] at HE1
      rw [← hye] at HE2
      have HXY : Hid (absR (f i - g i) = absR (x + -1 * y)) := Lib.hid (by rw [hxe, hye, sub_eq])
      clear hxe hye
      go_wp2
      refine Rel.wp_region_rel 13 (by kernel_rfl) (by kernel_rfl) (fun F hF => ?_)
      simp only [List.take_succ_cons, List.take_zero, List.drop_succ_cons, List.drop_zero, Rel.putL] at hF ⊢
      have HF := Lib.hid hF
      clear hF
      have uv := @Rel.upon_value Tryz.prog
      have ue := @Rel.upon_enter Tryz.prog
      apply Rel.rel_pure
      apply Exists.intro
      refine ⟨fun vs wq hq hdp R hR => ?_, ?_⟩
      · (rw [HF.out, Rel.stepAt_eq]; clear hdp; skip; go_simp; exact hR)
      apply Rel.rel_pure
      apply Exists.intro
      refine ⟨fun vs wq hq hdp R hR => ?_, ?_⟩
      · (rw [HF.out, Rel.stepAt_eq]; clear hdp; skip; go_simp; exact hR)
      apply Rel.rel_pure
      apply Exists.intro
      refine ⟨fun vs wq hq hdp R hR => ?_, ?_⟩
      · (rw [HF.out, Rel.stepAt_eq]; have qd0 : vs 0 = _ := Rel.dep hdp 0 (by kernel_rfl); have qd1 : vs 1 = _ := Rel.dep hdp 1 (by kernel_rfl); clear hdp; skip; go_simp; exact hR)
      apply Rel.rel_pure
      apply Exists.intro
      refine ⟨fun vs wq hq hdp R hR => ?_, ?_⟩
      · (rw [HF.out, Rel.stepAt_eq]; have qd2 : vs 2 = _ := Rel.dep hdp 2 (by kernel_rfl); clear hdp; obtain ⟨y0, y1, y2, y3, y4, y5⟩ := HY1.out wq hq; go_simp; exact hR)
      apply Rel.rel_pure
      apply Exists.intro
      refine ⟨fun vs wq hq hdp R hR => ?_, ?_⟩
      · (rw [HF.out, Rel.stepAt_eq]; clear hdp; skip; go_simp; exact hR)
      refine Rel.rel_law (S := fun v w' => IsW w' (-1) 2 v) (isW_mono _ _) (fun vs wq hq hdp => ?_) ?_
      · (rw [HF.out, Rel.stepAt_eq]; have qd4 : vs 4 = _ := Rel.dep hdp 4 (by kernel_rfl); clear hdp; skip; go_simp; refine (HM1.out _).mono ?_; rintro e w7 ⟨v, rfl, hv, hb⟩; exact ⟨_, rfl, hv, hb⟩)
      apply Rel.rel_pure
      apply Exists.intro
      refine ⟨fun vs wq hq hdp R hR => ?_, ?_⟩
      · (rw [HF.out, Rel.stepAt_eq]; clear hdp; skip; go_simp; exact hR)
      apply Rel.rel_pure
      apply Exists.intro
      refine ⟨fun vs wq hq hdp R hR => ?_, ?_⟩
      · (rw [HF.out, Rel.stepAt_eq]; clear hdp; skip; go_simp; exact hR)
      apply Rel.rel_pure
      apply Exists.intro
      refine ⟨fun vs wq hq hdp R hR => ?_, ?_⟩
      · (rw [HF.out, Rel.stepAt_eq]; have qd6 : vs 6 = _ := Rel.dep hdp 6 (by kernel_rfl); have qd7 : vs 7 = _ := Rel.dep hdp 7 (by kernel_rfl); clear hdp; skip; go_simp; exact hR)
      apply Rel.rel_pure
      apply Exists.intro
      refine ⟨fun vs wq hq hdp R hR => ?_, ?_⟩
      · (rw [HF.out, Rel.stepAt_eq]; have qd8 : vs 8 = _ := Rel.dep hdp 8 (by kernel_rfl); clear hdp; obtain ⟨u0, u1, u2, u3, u4, u5⟩ := HY2.out wq hq; go_simp; exact hR)
      refine Rel.rel_law (S := fun v w' => IsW w' (-1 * y) (2 + m') v) (isW_mono _ _) (fun vs wq hq hdp => ?_) ?_
      · (rw [HF.out, Rel.stepAt_eq]; have qd5 : IsW wq _ _ (vs 5) := Rel.dep hdp 5 (by kernel_rfl); have qd9 : vs 9 = _ := Rel.dep hdp 9 (by kernel_rfl); clear hdp; skip; go_simp; refine (wideMul_any wq qd5 (HE2.out.below hq) (by decide) (by omega) (by decide) h2').mono ?_; rintro e w7 ⟨v, rfl, hv, hb⟩; exact ⟨_, rfl, hv, hb⟩)
      refine Rel.rel_law (S := fun v w' => IsW w' (x + -1 * y) (m + (2 + m') + 1) v) (isW_mono _ _) (fun vs wq hq hdp => ?_) ?_
      · (rw [HF.out, Rel.stepAt_eq]; have qd3 : vs 3 = _ := Rel.dep hdp 3 (by kernel_rfl); have qd10 : IsW wq _ _ (vs 10) := Rel.dep hdp 10 (by kernel_rfl); clear hdp; skip; go_simp; refine (wideAdd_any wq (HE1.out.below hq) qd10 (by omega) (by omega) h2 (by omega)).mono ?_; rintro e w7 ⟨v, rfl, hv, hb⟩; exact ⟨_, rfl, hv, hb⟩)
      refine Rel.rel_alloc (cs := #[.bool false, .slice none 0 0, .slice none 0 0, .bool false, .int .i64 0, .int .i64 0]) (t := 81) (fun vs wq hq hdp R hR => ?_) ?_
      · (rw [HF.out, Rel.stepAt_eq]; clear hdp; go_simp; exact hR)
      refine Rel.rel_end (fun vs wq hq hall => ?_)
      rw [HF.out]
      have qe0 : vs 0 = _ := Rel.fin hall 0 (by decide)
      have qe1 : vs 1 = _ := Rel.fin hall 1 (by decide)
      have qe2 : vs 2 = _ := Rel.fin hall 2 (by decide)
      have qe3 : vs 3 = _ := Rel.fin hall 3 (by decide)
      have qe4 : vs 4 = _ := Rel.fin hall 4 (by decide)
      have qe5 : IsW wq _ _ (vs 5) := Rel.fin hall 5 (by decide)
      have qe6 : vs 6 = _ := Rel.fin hall 6 (by decide)
      have qe7 : vs 7 = _ := Rel.fin hall 7 (by decide)
      have qe8 : vs 8 = _ := Rel.fin hall 8 (by decide)
      have qe9 : vs 9 = _ := Rel.fin hall 9 (by decide)
      have qe10 : IsW wq _ _ (vs 10) := Rel.fin hall 10 (by decide)
      have qe11 : IsW wq _ _ (vs 11) := Rel.fin hall 11 (by decide)
      have qe12 : Rel.NewB _ _ _ (vs 12) wq := Rel.fin hall 12 (by decide)
      clear hall HF uv ue
      obtain ⟨g7, eg7, hg7, hg7b⟩ := qe12
      have K7q : Blk wq g7 81 #[.bool false, .slice none 0 0, .slice none 0 0, .bool false, .int .i64 0, .int .i64 0] := hg7b
      obtain ⟨t, C1, l1, f1, C2, l2, f2, fc, hn1, hd1, n3, d3, ev, hpd⟩ := qe11
      obtain ⟨W7, hW7⟩ : ∃ W7, W7 = put6 wq g7 (.bool t) (.slice C1 l1 f1) (.slice C2 l2 f2) (.bool fc) (.int .i64 hn1) (.int .i64 hd1) := ⟨_, rfl⟩
      have K7 : Hid (Blk W7 g7 81 #[.bool t, .slice C1 l1 f1, .slice C2 l2 f2, .bool fc, .int .i64 hn1, .int .i64 hd1]) := Lib.hid (by rw [hW7]; exact put6_blk K7q _ _ _ _ _ _)
      have HP7 : Hid (Parts W7 (x + -1 * y) (m + (2 + m') + 1) t (.slice C1 l1 f1) (.slice C2 l2 f2) fc hn1 hd1 n3 d3) := Lib.hid (by rw [hW7]; exact hpd.put6 K7q (by decide) _ _ _ _ _ _)
      have HB7 : Hid (Below wr.heap.size wr W7) := Lib.hid (by rw [hW7]; exact put6_below hq hg7 _ _ _ _ _ _)
      unfold put6 at hW7
      have HW7 := Lib.hid hW7
      have z0 := K7q.frz 0
      have z1 := K7q.frz 1
      have z2 := K7q.frz 2
      have z3 := K7q.frz 3
      have z4 := K7q.frz 4
      have z5 := K7q.frz 5
      have c0 := K7q.at 0 (v := .bool false) rfl
      have c1 := K7q.at 1 (v := .slice none 0 0) rfl
      have c2 := K7q.at 2 (v := .slice none 0 0) rfl
      have c3 := K7q.at 3 (v := .bool false) rfl
      have c4 := K7q.at 4 (v := .int .i64 0) rfl
      have c5 := K7q.at 5 (v := .int .i64 0) rfl
      clear qe0 qe1 qe2 qe3 qe4 qe5 qe6 qe7 qe8 qe9 qe10 hq hg7b K7q hpd hW7 HY1 HY2 HE1 HE2
      go_upto_region 6 with (fail)
      rw [← HW7.out]
      clear z0 z1 z2 z3 z4 z5 c0 c1 c2 c3 c4 c5 HW7
      have HAB := Lib.hid HP7.out.abs
      cases t with
      | false =>
        have x0 := K7.out.at 0 (v := .bool false) rfl
        have HPE : Hid (Parts W7 (absR (f i - g i)) D false (.slice C1 l1 f1) (.slice C2 l2 f2) fc hn1 hd1 n3 d3) := Lib.hid (by rw [HXY.out, HAB.out]; exact HP7.out.more (by have := HD.out; omega))
        clear HAB
        have HN := Lib.hid (fun w3 v' ca t hown hg => DsRel.next (w2 := w3) (v' := v') (ca := ca) (t := t) hlt HO.out KRr.out HB.out HB7.out HPE.out hown hg)
        have HOA := Lib.hid (World.ownsRow.alloc (ownsRow_below HO.out.row HB7.out) (.cells #[.bool false, .slice C1 l1 f1, .slice C2 l2 f2, .bool fc, .int .i64 hn1, .int .i64 hd1] 81))
        have d0 := K7.out.at 0 (v := .bool false) rfl
        have d1 := K7.out.at 1 (v := .slice C1 l1 f1) rfl
        have d2 := K7.out.at 2 (v := .slice C2 l2 f2) rfl
        have d3 := K7.out.at 3 (v := .bool fc) rfl
        have d4 := K7.out.at 4 (v := .int .i64 hn1) rfl
        have d5 := K7.out.at 5 (v := .int .i64 hd1) rfl
        have hszW := (HB7.out).size
        have hszB := HB.out.size
        clear HO HB KRr
        go_wp2_with (at_builtin; refine wpList_append_own_at _ rfl (.tmp 33) (.tmp 35) 93 rfl (w.heap.size + 1) 81 iw (.agg #[.bool false, .slice none 0 0, .slice none 0 0, .bool false, .int .i64 0, .int .i64 0]) 6 80 Tryz.underlying93 wi wz0 wz1 wz2 rfl (by decide) _ _ _ rfl HOA.out ⟨W7.heap.size, 0, none⟩ 1 1 [.bool false, .slice C1 l1 f1, .slice C2 l2 f2, .bool fc, .int .i64 hn1, .int .i64 hd1] rfl rfl ?p1a ?p2a ?p3a ?p4a ?p5a ?_)
        try case p1a => exact news_six _ _ (by simp)
        try case p2a => exact ones_six
        try case p3a => first | (simp only [maxLen]; omega) | omega
        try case p4a => omega
        try case p5a => first | (simp only [World.size_alloc]; omega) | omega
        intro v' w3 hown' hg' _ he
        have HN3 := Lib.hid (HN.out w3 v' _ _ hown' hg')
        clear hown' hg' he HN HOA d0 d1 d2 d3 d4 d5
        go_wp2
        go_roundw
        case rel => exact HN3.out
        case measure => simp [intOf]; omega
      | true =>
        have x0 := K7.out.at 0 (v := .bool true) rfl
        obtain ⟨d0, hd0⟩ : ∃ d0, d0 = x + -1 * y := ⟨_, rfl⟩
        have HD7 : Hid (IsW W7 d0 (m + (2 + m') + 1) (.agg #[.bool true, .slice C1 l1 f1, .slice C2 l2 f2, .bool fc, .int .i64 hn1, .int .i64 hd1])) := Lib.hid (by rw [hd0]; exact ⟨_, _, _, _, _, _, _, _, _, _, _, _, rfl, HP7.out⟩)
        have HXD : Hid (absR (f i - g i) = -1 * d0) := Lib.hid (by rw [HXY.out, HAB.out, ← hd0]; rfl)
        clear hd0 HXY HAB
        go_upto_region 7 with (fail)
        clear x0
        refine Rel.wp_region_rel 4 (by kernel_rfl) (by kernel_rfl) (fun F hF => ?_)
        simp only [List.take_succ_cons, List.take_zero, List.drop_succ_cons, List.drop_zero, Rel.putL] at hF ⊢
        have HF := Lib.hid hF
        clear hF
        have uv := @Rel.upon_value Tryz.prog
        have ue := @Rel.upon_enter Tryz.prog
        apply Rel.rel_pure
        apply Exists.intro
        refine ⟨fun vs wq hq hdp R hR => ?_, ?_⟩
        · (rw [HF.out, Rel.stepAt_eq]; clear hdp; skip; go_simp; exact hR)
        refine Rel.rel_law (S := fun v w' => IsW w' (-1) 2 v) (isW_mono _ _) (fun vs wq hq hdp => ?_) ?_
        · (rw [HF.out, Rel.stepAt_eq]; have qd0 : vs 0 = _ := Rel.dep hdp 0 (by kernel_rfl); clear hdp; skip; go_simp; refine (HM1.out _).mono ?_; rintro e w7 ⟨v, rfl, hv, hb⟩; exact ⟨_, rfl, hv, hb⟩)
        apply Rel.rel_pure
        apply Exists.intro
        refine ⟨fun vs wq hq hdp R hR => ?_, ?_⟩
        · (rw [HF.out, Rel.stepAt_eq]; clear hdp; have x0 := (K7.out.belowS hq).at 0 (v := .bool true) rfl; have x1 := (K7.out.belowS hq).at 1 (v := .slice C1 l1 f1) rfl; have x2 := (K7.out.belowS hq).at 2 (v := .slice C2 l2 f2) rfl; have x3 := (K7.out.belowS hq).at 3 (v := .bool fc) rfl; have x4 := (K7.out.belowS hq).at 4 (v := .int .i64 hn1) rfl; have x5 := (K7.out.belowS hq).at 5 (v := .int .i64 hd1) rfl; go_simp; exact hR)
        refine Rel.rel_law (S := fun v w' => IsW w' (-1 * d0) (2 + (m + (2 + m') + 1)) v) (isW_mono _ _) (fun vs wq hq hdp => ?_) ?_
        · (rw [HF.out, Rel.stepAt_eq]; have qd1 : IsW wq _ _ (vs 1) := Rel.dep hdp 1 (by kernel_rfl); have qd2 : vs 2 = _ := Rel.dep hdp 2 (by kernel_rfl); clear hdp; skip; go_simp; refine (wideMul_any wq qd1 (HD7.out.below hq) (by decide) (by omega) (by decide) (by omega)).mono ?_; rintro e w7 ⟨v, rfl, hv, hb⟩; exact ⟨_, rfl, hv, hb⟩)
        refine Rel.rel_end (fun vs wq hq hall => ?_)
        rw [HF.out]
        have qe0 : vs 0 = _ := Rel.fin hall 0 (by decide)
        have qe1 : IsW wq _ _ (vs 1) := Rel.fin hall 1 (by decide)
        have qe2 : vs 2 = _ := Rel.fin hall 2 (by decide)
        have qe3 : IsW wq _ _ (vs 3) := Rel.fin hall 3 (by decide)
        clear hall HF uv ue
        have K7q := K7.out.belowS hq
        obtain ⟨t', C1', l1', f1', C2', l2', f2', fc', hn1', hd1', n3', d3', ev, hpd⟩ := qe3
        obtain ⟨W8, hW8⟩ : ∃ W8, W8 = put6 wq g7 (.bool t') (.slice C1' l1' f1') (.slice C2' l2' f2') (.bool fc') (.int .i64 hn1') (.int .i64 hd1') := ⟨_, rfl⟩
        have K8 : Hid (Blk W8 g7 81 #[.bool t', .slice C1' l1' f1', .slice C2' l2' f2', .bool fc', .int .i64 hn1', .int .i64 hd1']) := Lib.hid (by rw [hW8]; exact put6_blk K7q _ _ _ _ _ _)
        have HPE : Hid (Parts W8 (absR (f i - g i)) D t' (.slice C1' l1' f1') (.slice C2' l2' f2') fc' hn1' hd1' n3' d3') := Lib.hid (by rw [hW8, HXD.out]; exact (hpd.put6 K7q (by decide) _ _ _ _ _ _).more (by have := HD.out; omega))
        have HB8 : Hid (Below wr.heap.size wr W8) := Lib.hid (by rw [hW8]; exact put6_below (Base.Below.nextA HB7.out hq) hg7 _ _ _ _ _ _)
        unfold put6 at hW8
        have HW8 := Lib.hid hW8
        have z0 := K7q.frz 0
        have z1 := K7q.frz 1
        have z2 := K7q.frz 2
        have z3 := K7q.frz 3
        have z4 := K7q.frz 4
        have z5 := K7q.frz 5
        have c0 := K7q.at 0 (v := .bool true) rfl
        have c1 := K7q.at 1 (v := .slice C1 l1 f1) rfl
        have c2 := K7q.at 2 (v := .slice C2 l2 f2) rfl
        have c3 := K7q.at 3 (v := .bool fc) rfl
        have c4 := K7q.at 4 (v := .int .i64 hn1) rfl
        have c5 := K7q.at 5 (v := .int .i64 hd1) rfl
        clear qe0 qe1 qe2 hq K7q hpd hW8 K7 HP7 HB7 HD7 HXD
        go_upto_region 8 with (fail)
        rw [← HW8.out]
        clear z0 z1 z2 z3 z4 z5 c0 c1 c2 c3 c4 c5 HW8
        have HN := Lib.hid (fun w3 v' ca t hown hg => DsRel.next (w2 := w3) (v' := v') (ca := ca) (t := t) hlt HO.out KRr.out HB.out HB8.out HPE.out hown hg)
        have HOA := Lib.hid (World.ownsRow.alloc (ownsRow_below HO.out.row HB8.out) (.cells #[.bool t', .slice C1' l1' f1', .slice C2' l2' f2', .bool fc', .int .i64 hn1', .int .i64 hd1'] 81))
        have d0 := K8.out.at 0 (v := .bool t') rfl
        have d1 := K8.out.at 1 (v := .slice C1' l1' f1') rfl
        have d2 := K8.out.at 2 (v := .slice C2' l2' f2') rfl
        have d3 := K8.out.at 3 (v := .bool fc') rfl
        have d4 := K8.out.at 4 (v := .int .i64 hn1') rfl
        have d5 := K8.out.at 5 (v := .int .i64 hd1') rfl
        have hszW := (HB8.out).size
        have hszB := HB.out.size
        clear HO HB KRr
        go_wp2_with (at_builtin; refine wpList_append_own_at _ rfl (.tmp 33) (.tmp 35) 93 rfl (w.heap.size + 1) 81 iw (.agg #[.bool false, .slice none 0 0, .slice none 0 0, .bool false, .int .i64 0, .int .i64 0]) 6 80 Tryz.underlying93 wi wz0 wz1 wz2 rfl (by decide) _ _ _ rfl HOA.out ⟨W8.heap.size, 0, none⟩ 1 1 [.bool t', .slice C1' l1' f1', .slice C2' l2' f2', .bool fc', .int .i64 hn1', .int .i64 hd1'] rfl rfl ?p1b ?p2b ?p3b ?p4b ?p5b ?_)
        try case p1b => exact news_six _ _ (by simp)
        try case p2b => exact ones_six
        try case p3b => first | (simp only [maxLen]; omega) | omega
        try case p4b => omega
        try case p5b => first | (simp only [World.size_alloc]; omega) | omega
        intro v' w3 hown' hg' _ he
        have HN3 := Lib.hid (HN.out w3 v' _ _ hown' hg')
        clear hown' hg' he HN HOA d0 d1 d2 d3 d4 d5
        go_wp2
        go_roundw
        case rel => exact HN3.out
        case measure => simp [intOf]; omega
    · obtain rfl : i = n := by omega
      obtain ⟨A5, c5, rfl, _⟩ := HO.out.form
      have hDm : 2 + i * (D + 1) = 2 + i * (m + m' + 6) := by rw [HD.out]
      have hMM := HMM.out
      have HSU := Lib.hid (sum_any wr (HO.out.base (Nat.zero_le _)) (show 2 ≤ D by have := HD.out; omega) (by rw [hDm]; omega) hn)
      rw [hDm] at HSU
      have HRES : Hid (disR i f g = sumR i (fun j => absR (f j - g j)) * qf 1 2) := Lib.hid (by rw [qf_half]; rfl)
      have hMs : 2 + i * (m + m' + 6) + 2 ≤ 300000 := by omega
      have hMe : 2 + i * (m + m' + 6) + 2 = 4 + i * (m + m' + 6) := by omega
      clear HO hDm
      generalize sumR i (fun j => absR (f j - g j)) = S at *
      generalize i * (m + m' + 6) = E at *
      go_wp2_with fail
      refine HSU.out.mono ?_
      rintro e w2 ⟨v, rfl, hv, hb2⟩
      have HB2 := Lib.hid (Base.Below.nextA HB.out hb2)
      have KR2 := Lib.hid (KRr.out.belowS hb2)
      have HH := Lib.hid (half_any w2 hv (by omega) (by omega))
      have HV2 := Lib.hid hv
      clear hb2 hv HSU KRr HB
      go_wp2_with fail
      refine HH.out.mono ?_
      rintro e w3 ⟨v3, rfl, hv3, hb3⟩
      have HB3 := Lib.hid (Base.Below.nextA HB2.out hb3)
      have KR3 := Lib.hid (KR2.out.belowS hb3)
      have HL := Lib.hid (lowest_any w3 hv3 (by omega))
      clear hb3 hv3 HH KR2 HB2
      go_wp2_with fail
      refine HL.out.mono ?_
      rintro e w4 ⟨v4, rfl, hv4, hb4⟩
      obtain ⟨s, A1, k1, c1', A2, k2, c2', fine, fn, fd, nn, dd, rfl, hpz⟩ := hv4.wide
      have KRq := KR3.out.belowS hb4
      have HBq := Base.Below.nextA HB3.out hb4
      have HP2 : Hid (Parts w4 (disR i f g) (4 + E) s (.slice A1 k1 c1') (.slice A2 k2 c2') fine fn fd nn dd) := Lib.hid (by rw [HRES.out]; exact hpz.more (by omega))
      clear hv4 hb4 hpz HL KR3 HB3 HRES hMe
      have z0 := (KRq).frz 0
      have z1 := (KRq).frz 1
      have z2 := (KRq).frz 2
      have z3 := (KRq).frz 3
      have z4 := (KRq).frz 4
      have z5 := (KRq).frz 5
      have c0 := (KRq).at 0 (v := .bool false) rfl
      have c1 := (KRq).at 1 (v := .slice none 0 0) rfl
      have c2 := (KRq).at 2 (v := .slice none 0 0) rfl
      have c3 := (KRq).at 3 (v := .bool false) rfl
      have c4 := (KRq).at 4 (v := .int .i64 0) rfl
      have c5 := (KRq).at 5 (v := .int .i64 0) rfl
      have SS := put6_blk (KRq) (.bool s) (.slice A1 k1 c1') (.slice A2 k2 c2') (.bool fine) (.int .i64 fn) (.int .i64 fd)
      unfold put6 at SS
      have s0 := SS.at 0 rfl
      have s1 := SS.at 1 rfl
      have s2 := SS.at 2 rfl
      have s3 := SS.at 3 rfl
      have s4 := SS.at 4 rfl
      have s5 := SS.at 5 rfl
      have HFIN := Lib.hid (WRet.put (HP2.out) (KRq) (HBq) (Nat.le_refl _))
      clear SS
      go_wp2
      refine bodyPost_ret (v := .agg #[.bool s, .slice A1 k1 c1', .slice A2 k2 c2', .bool fine, .int .i64 fn, .int .i64 fd]) (by simp [results, Tryz.results116, go_sem, s0, s1, s2, s3, s4, s5]) rfl ?_
      exact HFIN.out
end Go.Proofs.YtionognmgcabbaaGreat.Wide
