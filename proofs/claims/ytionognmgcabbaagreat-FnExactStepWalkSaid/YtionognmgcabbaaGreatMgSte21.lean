/- The reference: whether a list are chances; the bits of a source. -/
import Derived.Test.YtionognmgcabbaaGreatMgSte20
import Derived.Test.YtionognmgcabbaaGreatMgSte08
import Derived.Test.YtionognmgcabbaaGreatMgSte07
import Derived.Test.YtionognmgcabbaaGreatMgSte16
import Derived.Test.YtionognmgcabbaaGreatMgSte17
import Derived.Test.YtionognmgcabbaaGreatMgSte12
namespace Go.Proofs.YtionognmgcabbaaGreat.Wide
open Go.RowKit Go.Proofs.YtionognmgcabbaaGreat Go.Proofs.YtionognmgcabbaaGreat.Base Go.Proofs.YtionognmgcabbaaGreat.Mem Go.Proofs.YtionognmgcabbaaGreat.RatM Go.Proofs.YtionognmgcabbaaGreat.BigM Go.Proofs.YtionognmgcabbaaGreat.Big Go.Proofs.YtionognmgcabbaaGreat.Fine Go.Proofs.YtionognmgcabbaaGreat.Blk Go.Proofs.YtionognmgcabbaaGreat.GaussM Go.Proofs.YtionognmgcabbaaGreat.MemF Go.Proofs.YtionognmgcabbaaGreat.ValF Go.Proofs.YtionognmgcabbaaGreat.ChM
set_option linter.unusedVariables false
set_option maxHeartbeats 1000000 in
theorem fAll_any {A : Option Addr} {c B n : Nat} {fs : List Int} (w : World) (hx : RdF w B A n fs) (hB : B ≤ w.heap.size) (hn : n ≤ 1099511627776) : Calls Tryz.prog 160 #[.slice A n c] w fun e w' => e = .returned (.bool (vfAll fs n)) ∧ Below w.heap.size w w' := by
  have HX := Lib.hid (hx.more hB)
  clear hx
  go_enter Tryz.func160, Tryz.ntmps160
  go_wp2
  go_loopw [3] (fun iv wr => ∃ i : Nat, iv = .int .i64 (i : Int) ∧ i ≤ n ∧ Hid (∀ j, j < i → vfB (fs.getD (2 * j) 0) (fs.getD (2 * j + 1) 0) = true) ∧ Hid (Below w.heap.size w wr)) (fun iv _ => n - (intOf iv).toNat)
  case atStart => exact ⟨0, rfl, Nat.zero_le _, Lib.hid fun j hj => absurd hj (Nat.not_lt_zero j), Lib.hid (Below.refl _ _)⟩
  case round =>
    obtain ⟨i, rfl, hi, hall, HB⟩ := hrel
    by_cases hlt : i < n
    · obtain ⟨b, off, rfl, hbl, g1, g2⟩ := (HX.out.below HB.out (Nat.le_refl _)).at hlt
      have HV := Lib.hid (fun W => validS_any (fs.getD (2 * i) 0) (fs.getD (2 * i + 1) 0) W)
      have HNO := Lib.hid (fun h => (show vfAll fs n = false from all_no hlt h))
      have HYES := Lib.hid (fun (h : vfB (fs.getD (2 * i) 0) (fs.getD (2 * i + 1) 0) = true) j (hj : j < i + 1) => (show vfB (fs.getD (2 * j) 0) (fs.getD (2 * j + 1) 0) = true by
        rcases Nat.lt_or_ge j i with h1 | h1
        · exact hall.out j h1
        · obtain rfl : j = i := by omega
          exact h))
      have hsz := HB.out.size
      generalize fs.getD (2 * i) 0 = x0 at *
      generalize fs.getD (2 * i + 1) 0 = x1 at *
      go_wp2_with fail
      refine (HV.out _).mono ?_
      rintro e w1 ⟨rfl, hb1⟩
      have HB1 := Lib.hid (Base.Below.nextA HB.out hb1)
      cases hv : vfB x0 x1 with
      | false =>
        have HE := Lib.hid (HNO.out hv)
        clear HNO HYES HV hb1 hv HB g1 g2 hall
        go_wp2
        go_ret
        exact ⟨by rw [HE.out]; rfl, HB1.out⟩
      | true =>
        have HA := Lib.hid (HYES.out hv)
        clear HNO HYES HV hb1 hv HB g1 g2 hall
        go_wp2
        go_roundw
        case rel => exact ⟨i + 1, by simp, hlt, HA, HB1⟩
        case measure => simp [intOf]; omega
    · obtain rfl : i = n := by omega
      have HE : Hid (vfAll fs i = true) := Lib.hid (all_range.2 hall.out)
      clear hall
      go_wp2
      go_ret
      exact ⟨by rw [HE.out]; rfl, HB.out⟩
theorem cmpW_zero (q r : Rat) : (cmpW q r == 0) = decide (q = r) := by
  unfold cmpW
  by_cases h : q = r
  · simp [h]
  · by_cases h2 : q < r
    · simp [h, h2]
    · simp [h, h2]
set_option maxHeartbeats 2000000 in
set_option maxRecDepth 100000 in
theorem isS_any {A : Option Addr} {c B n : Nat} {fs : List Int} (w : World) (hx : RdF w B A n fs) (hB : B ≤ w.heap.size) (hn : n ≤ 1099511627776) : Calls Tryz.prog 115 #[.slice A n c] w fun e w' => e = .returned (.bool (chB fs n)) ∧ Below w.heap.size w w' := by
  have HX := Lib.hid (hx.more hB)
  have HFA := Lib.hid (fAll_any (c := c) w hx hB hn)
  clear hx
  by_cases h1 : n < 1
  · have HE := Lib.hid (chB_short (fs := fs) h1)
    have h1' : (n : Int) < 1 := by omega
    go_enter Tryz.func115, Tryz.ntmps115
    go_wp2
    go_ret
    exact ⟨by rw [HE.out]; rfl, Below.refl _ _⟩
  by_cases h2 : 16 < n
  · have HE := Lib.hid (chB_long (fs := fs) h2)
    have h1' : ¬ (n : Int) < 1 := by omega
    have h2' : (16 : Int) < n := by omega
    go_enter Tryz.func115, Tryz.ntmps115
    go_wp2
    go_ret
    exact ⟨by rw [HE.out]; rfl, Below.refl _ _⟩
  have h1' : ¬ (n : Int) < 1 := by omega
  have h2' : ¬ (16 : Int) < n := by omega
  go_enter Tryz.func115, Tryz.ntmps115
  go_wp2_with fail
  refine HFA.out.mono ?_
  rintro e w1 ⟨rfl, hb1⟩
  have HB1 := Lib.hid hb1
  clear hb1
  cases hv : vfAll fs n with
  | false =>
    have HE := Lib.hid (chB_vf hv)
    go_wp2
    go_ret
    exact ⟨by rw [HE.out]; rfl, HB1.out⟩
  | true =>
    have HV := Lib.hid hv
    clear hv
    go_wp2
    go_loopw [3] (fun iv wr => ∃ i : Nat, iv = .int .i64 (i : Int) ∧ i ≤ n ∧ Hid (∀ j, j < i → decide (0 ≤ fs.getD (2 * j) 0) = true) ∧ wr = w1) (fun iv _ => n - (intOf iv).toNat)
    case atStart => exact ⟨0, rfl, Nat.zero_le _, Lib.hid fun j hj => absurd hj (Nat.not_lt_zero j), rfl⟩
    case round =>
      obtain ⟨i, rfl, hi, hall, rfl⟩ := hrel
      by_cases hlt : i < n
      · obtain ⟨b, off, rfl, hbl, g1, g2⟩ := (HX.out.below HB1.out (Nat.le_refl _)).at hlt
        have HNO := Lib.hid (fun h => (show posAll fs n = false from all_no hlt h))
        have HYES := Lib.hid (fun (h : decide (0 ≤ fs.getD (2 * i) 0) = true) j (hj : j < i + 1) => (show decide (0 ≤ fs.getD (2 * j) 0) = true by
          rcases Nat.lt_or_ge j i with h1 | h1
          · exact hall.out j h1
          · obtain rfl : j = i := by omega
            exact h))
        generalize fs.getD (2 * i) 0 = x0 at *
        generalize fs.getD (2 * i + 1) 0 = x1 at *
        by_cases hx0 : x0 < 0
        · have HE := Lib.hid (chB_neg (HNO.out (by simp; omega)))
          clear HNO HYES
          go_wp2
          go_ret
          exact ⟨by rw [HE.out]; rfl, HB1.out⟩
        · have HA := Lib.hid (HYES.out (by simp; omega))
          clear HNO HYES hall
          go_wp2
          go_roundw
          case rel => exact ⟨i + 1, by simp, hlt, HA, by first | trivial | rfl⟩
          case measure => simp [intOf]; omega
      · obtain rfl : i = n := by omega
        have HE := Lib.hid (chB_sum (fs := fs) (n := i) (by omega) (by omega) HV.out (all_range.2 hall.out))
        have HW1 := Lib.hid (wides_any (c := c) wr (HX.out.below HB1.out (Nat.le_refl _)) HB1.out.size (vfAll_true.1 HV.out) (by omega))
        have HO := Lib.hid (fun W => wideOf_any vf_one W)
        rw [qf_one] at HO
        clear hall
        go_wp2_with fail
        refine HW1.out.mono ?_
        rintro e w2 ⟨v2, cs2, rfl, hv2, hb2⟩
        have HB2 := Lib.hid (Base.Below.nextA HB1.out hb2)
        have HV2 := Lib.hid (hv2.base (Nat.zero_le _))
        clear hv2 hb2
        go_wp2_with fail
        refine (sum_any w2 HV2.out (by omega) (by omega) (by omega)).mono ?_
        rintro e w3 ⟨v3, rfl, hv3, hb3⟩
        have HB3 := Lib.hid (Base.Below.nextA HB2.out hb3)
        have HV3 := Lib.hid hv3
        clear hv3 hb3
        go_wp2_with fail
        refine (HO.out w3).mono ?_
        rintro e w4 ⟨v4, rfl, hv4, hb4⟩
        have HB4 := Lib.hid (Base.Below.nextA HB3.out hb4)
        have HV4 := Lib.hid hv4
        replace HV3 := Lib.hid (HV3.out.below hb4)
        clear hv4 hb4
        go_wp2_with fail
        refine (cmp_any w4 HV3.out HV4.out (by omega) (by omega) (by omega)).mono ?_
        rintro e w5 ⟨rfl, hb5⟩
        have HB5 := Lib.hid (Base.Below.nextA HB4.out hb5)
        have HE2 := Lib.hid (HE.out.trans (cmpW_zero _ _).symm)
        clear hb5 HE
        generalize cmpW (sumR i (fq fs)) 1 = cw at *
        go_wp2
        go_ret
        exact ⟨ret_bool HE2.out.symm, HB5.out⟩
set_option maxHeartbeats 2000000 in
set_option maxRecDepth 100000 in
theorem bitsS_any {A : Option Addr} {c B n : Nat} {fs : List Int} (w : World) (hx : RdF w B A n fs) (hB : B ≤ w.heap.size) (hn : n ≤ 1099511627776) : Calls Tryz.prog 55 #[.slice A n c] w fun e w' => e = .returned (.int .i64 ((bitsQ fs n : Nat) : Int)) ∧ Below w.heap.size w w' := by
  have HX := Lib.hid (hx.more hB)
  have HI := Lib.hid (fun W (h : Below w.heap.size w W) => isS_any (c := c) W (hx.below h hB) (Nat.le_trans hB h.size) hn)
  clear hx
  go_enter Tryz.func55, Tryz.ntmps55
  go_wp2
  go_loopw [3] (fun iv wr => ∃ i : Nat, iv = .int .i64 (i : Int) ∧ 1 ≤ i ∧ i ≤ 5 ∧ Hid (∀ j, 1 ≤ j → j < i → n = 2 ^ j → chB fs n = false) ∧ Hid (Below w.heap.size w wr)) (fun iv _ => 5 - (intOf iv).toNat)
  case atStart => exact ⟨1, rfl, by omega, by omega, Lib.hid fun j hj hj2 => by omega, Lib.hid (Below.refl _ _)⟩
  case round =>
    obtain ⟨i, rfl, hi1, hi, hall, HB⟩ := hrel
    have hcase : i = 1 ∨ i = 2 ∨ i = 3 ∨ i = 4 ∨ i = 5 := by omega
    rcases hcase with rfl | rfl | rfl | rfl | rfl
    · have hN : Hid (∀ b : Prop, (n = 2 → chB fs n = false) → ∀ j, 1 ≤ j → j < 1 + 1 → n = 2 ^ j → chB fs n = false) := Lib.hid fun _ hb j h1 h2 h3 => by
        rcases Nat.lt_or_ge j 1 with g | g
        · exact hall.out j h1 g h3
        · obtain rfl : j = 1 := by omega
          exact hb h3
      clear hall
      by_cases hp : n = 2
      · have hp' : ((n : Int) == 2) = true := by rw [hp]; rfl
        have HP := Lib.hid hp
        clear hp
        go_wp2_with fail
        refine (HI.out _ HB.out).mono ?_
        rintro e w1 ⟨rfl, hb1⟩
        have HB1 := Lib.hid (Base.Below.nextA HB.out hb1)
        clear hb1
        cases hc : chB fs n with
        | true =>
          have HE : Hid (bitsQ fs n = 1) := Lib.hid (by unfold bitsQ; rw [if_pos hc, HP.out]; rfl)
          clear hN
          go_wp2
          go_ret
          exact ⟨by rw [HE.out]; rfl, HB1.out⟩
        | false =>
          have HA := Lib.hid (hN.out True (fun _ => hc))
          clear hN hc
          go_wp2
          go_roundw
          case rel => exact ⟨1 + 1, by first | rfl | simp, by omega, by omega, HA, HB1⟩
          case measure => simp [intOf]
      · have hp' : ((n : Int) == 2) = false := by simp only [beq_eq_false_iff_ne]; omega
        have HA := Lib.hid (hN.out True (fun h => absurd h hp))
        clear hN hp
        go_wp2
        go_roundw
        case rel => exact ⟨1 + 1, by first | rfl | simp, by omega, by omega, HA, HB⟩
        case measure => simp [intOf]
    · have hN : Hid (∀ b : Prop, (n = 4 → chB fs n = false) → ∀ j, 1 ≤ j → j < 2 + 1 → n = 2 ^ j → chB fs n = false) := Lib.hid fun _ hb j h1 h2 h3 => by
        rcases Nat.lt_or_ge j 2 with g | g
        · exact hall.out j h1 g h3
        · obtain rfl : j = 2 := by omega
          exact hb h3
      clear hall
      by_cases hp : n = 4
      · have hp' : ((n : Int) == 4) = true := by rw [hp]; rfl
        have HP := Lib.hid hp
        clear hp
        go_wp2_with fail
        refine (HI.out _ HB.out).mono ?_
        rintro e w1 ⟨rfl, hb1⟩
        have HB1 := Lib.hid (Base.Below.nextA HB.out hb1)
        clear hb1
        cases hc : chB fs n with
        | true =>
          have HE : Hid (bitsQ fs n = 2) := Lib.hid (by unfold bitsQ; rw [if_pos hc, HP.out]; rfl)
          clear hN
          go_wp2
          go_ret
          exact ⟨by rw [HE.out]; rfl, HB1.out⟩
        | false =>
          have HA := Lib.hid (hN.out True (fun _ => hc))
          clear hN hc
          go_wp2
          go_roundw
          case rel => exact ⟨2 + 1, by first | rfl | simp, by omega, by omega, HA, HB1⟩
          case measure => simp [intOf]
      · have hp' : ((n : Int) == 4) = false := by simp only [beq_eq_false_iff_ne]; omega
        have HA := Lib.hid (hN.out True (fun h => absurd h hp))
        clear hN hp
        go_wp2
        go_roundw
        case rel => exact ⟨2 + 1, by first | rfl | simp, by omega, by omega, HA, HB⟩
        case measure => simp [intOf]
    · have hN : Hid (∀ b : Prop, (n = 8 → chB fs n = false) → ∀ j, 1 ≤ j → j < 3 + 1 → n = 2 ^ j → chB fs n = false) := Lib.hid fun _ hb j h1 h2 h3 => by
        rcases Nat.lt_or_ge j 3 with g | g
        · exact hall.out j h1 g h3
        · obtain rfl : j = 3 := by omega
          exact hb h3
      clear hall
      by_cases hp : n = 8
      · have hp' : ((n : Int) == 8) = true := by rw [hp]; rfl
        have HP := Lib.hid hp
        clear hp
        go_wp2_with fail
        refine (HI.out _ HB.out).mono ?_
        rintro e w1 ⟨rfl, hb1⟩
        have HB1 := Lib.hid (Base.Below.nextA HB.out hb1)
        clear hb1
        cases hc : chB fs n with
        | true =>
          have HE : Hid (bitsQ fs n = 3) := Lib.hid (by unfold bitsQ; rw [if_pos hc, HP.out]; rfl)
          clear hN
          go_wp2
          go_ret
          exact ⟨by rw [HE.out]; rfl, HB1.out⟩
        | false =>
          have HA := Lib.hid (hN.out True (fun _ => hc))
          clear hN hc
          go_wp2
          go_roundw
          case rel => exact ⟨3 + 1, by first | rfl | simp, by omega, by omega, HA, HB1⟩
          case measure => simp [intOf]
      · have hp' : ((n : Int) == 8) = false := by simp only [beq_eq_false_iff_ne]; omega
        have HA := Lib.hid (hN.out True (fun h => absurd h hp))
        clear hN hp
        go_wp2
        go_roundw
        case rel => exact ⟨3 + 1, by first | rfl | simp, by omega, by omega, HA, HB⟩
        case measure => simp [intOf]
    · have hN : Hid (∀ b : Prop, (n = 16 → chB fs n = false) → ∀ j, 1 ≤ j → j < 4 + 1 → n = 2 ^ j → chB fs n = false) := Lib.hid fun _ hb j h1 h2 h3 => by
        rcases Nat.lt_or_ge j 4 with g | g
        · exact hall.out j h1 g h3
        · obtain rfl : j = 4 := by omega
          exact hb h3
      clear hall
      by_cases hp : n = 16
      · have hp' : ((n : Int) == 16) = true := by rw [hp]; rfl
        have HP := Lib.hid hp
        clear hp
        go_wp2_with fail
        refine (HI.out _ HB.out).mono ?_
        rintro e w1 ⟨rfl, hb1⟩
        have HB1 := Lib.hid (Base.Below.nextA HB.out hb1)
        clear hb1
        cases hc : chB fs n with
        | true =>
          have HE : Hid (bitsQ fs n = 4) := Lib.hid (by unfold bitsQ; rw [if_pos hc, HP.out]; rfl)
          clear hN
          go_wp2
          go_ret
          exact ⟨by rw [HE.out]; rfl, HB1.out⟩
        | false =>
          have HA := Lib.hid (hN.out True (fun _ => hc))
          clear hN hc
          go_wp2
          go_roundw
          case rel => exact ⟨4 + 1, by first | rfl | simp, by omega, by omega, HA, HB1⟩
          case measure => simp [intOf]
      · have hp' : ((n : Int) == 16) = false := by simp only [beq_eq_false_iff_ne]; omega
        have HA := Lib.hid (hN.out True (fun h => absurd h hp))
        clear hN hp
        go_wp2
        go_roundw
        case rel => exact ⟨4 + 1, by first | rfl | simp, by omega, by omega, HA, HB⟩
        case measure => simp [intOf]
    · have HE : Hid (bitsQ fs n = 0) := Lib.hid (by
        have h1 := hall.out 1 (by omega) (by omega)
        have h2 := hall.out 2 (by omega) (by omega)
        have h3 := hall.out 3 (by omega) (by omega)
        have h4 := hall.out 4 (by omega) (by omega)
        unfold bitsQ
        by_cases hc : chB fs n = true
        · rw [hc] at h1 h2 h3 h4
          rw [if_pos hc, if_neg (fun e => by have := h1 e; cases this), if_neg (fun e => by have := h2 e; cases this), if_neg (fun e => by have := h3 e; cases this), if_neg (fun e => by have := h4 e; cases this)]
        · rw [if_neg hc])
      clear hall
      go_wp2
      go_ret
      exact ⟨by rw [HE.out]; rfl, HB.out⟩
end Go.Proofs.YtionognmgcabbaaGreat.Wide
/- The reference: whether a walk is valid. -/
namespace Go.Proofs.YtionognmgcabbaaGreat.Wide
open Go.RowKit Go.Proofs.YtionognmgcabbaaGreat Go.Proofs.YtionognmgcabbaaGreat.Base Go.Proofs.YtionognmgcabbaaGreat.Mem Go.Proofs.YtionognmgcabbaaGreat.MemF Go.Proofs.YtionognmgcabbaaGreat.ChM Go.Proofs.YtionognmgcabbaaGreat.WalkM
set_option linter.unusedVariables false
set_option maxHeartbeats 2000000 in
set_option maxRecDepth 100000 in
theorem walkS_any {A : Option Addr} {c B n b0 : Nat} {L : Nat → Nat} {fs : Nat → List Int} (w : World) (h0 : w.cell? ⟨b0, 0, none⟩ = some (.slice A n c)) (hb0 : b0 < w.heap.size) (hx : RdFF w B A n L fs) (hB : B ≤ w.heap.size) (hL : ∀ i, i < n → L i ≤ 1099511627776) (hn : n ≤ 1099511627776) :
    Calls Tryz.prog 77 #[.pointer (some ⟨b0, 0, none⟩)] w fun e w' => e = .returned (.bool (wkB n L fs)) ∧ Below w.heap.size w w' := by
  have HX := Lib.hid (hx.more hB)
  clear hx
  by_cases h1 : n < 1
  · have HE := Lib.hid (wkB_out (L := L) (fs := fs) (n := n) (by omega))
    have h1' : (n : Int) < 1 := by omega
    go_enter Tryz.func77, Tryz.ntmps77
    go_wp2
    go_ret
    exact ⟨by rw [HE.out]; rfl, Below.refl _ _⟩
  by_cases h2 : 6 < n
  · have HE := Lib.hid (wkB_out (L := L) (fs := fs) (n := n) (by omega))
    have h1' : ¬ (n : Int) < 1 := by omega
    have h2' : (6 : Int) < n := by omega
    go_enter Tryz.func77, Tryz.ntmps77
    go_wp2
    go_ret
    exact ⟨by rw [HE.out]; rfl, Below.refl _ _⟩
  have h1' : ¬ (n : Int) < 1 := by omega
  have h2' : ¬ (6 : Int) < n := by omega
  have HIN := Lib.hid (wkB_in (L := L) (fs := fs) (n := n) (by omega))
  go_enter Tryz.func77, Tryz.ntmps77
  go_wp2
  go_loopw [4] (fun iv wr => ∃ i : Nat, iv = .int .i64 (i : Int) ∧ i ≤ n ∧ Hid (∀ j, j < i → rowOk n L fs j = true) ∧ Hid (Below w.heap.size w wr)) (fun iv _ => n - (intOf iv).toNat)
  case atStart => exact ⟨0, rfl, Nat.zero_le _, Lib.hid fun j hj => absurd hj (Nat.not_lt_zero j), Lib.hid (Below.refl _ _)⟩
  case round =>
    obtain ⟨i, rfl, hi, hall, HB⟩ := hrel
    have d0 := (HB.out.cell (p := ⟨b0, 0, none⟩) hb0).trans h0
    by_cases hlt : i < n
    · obtain ⟨b, off, A', c', rfl, hbl, g, hr⟩ := (HX.out.below HB.out (Nat.le_refl _)).at hlt
      have HNO := Lib.hid (fun h : rowOk n L fs i = false => (show wkB n L fs = false by rw [HIN.out]; exact all_no hlt h))
      have HYES := Lib.hid (fun (h : rowOk n L fs i = true) j (hj : j < i + 1) => (show rowOk n L fs j = true by
        rcases Nat.lt_or_ge j i with h1 | h1
        · exact hall.out j h1
        · obtain rfl : j = i := by omega
          exact h))
      have HI := Lib.hid (isS_any (c := c') wr hr HB.out.size (hL i hlt))
      have HOK : Hid (rowOk n L fs i = (decide (L i = n) && chB (fs i) (L i))) := Lib.hid rfl
      clear hr hall
      generalize L i = l at *
      by_cases hln : l = n
      · have HLN := Lib.hid hln
        have hne : ((l : Int) != (n : Int)) = false := by simp [hln]
        clear hln
        go_wp2_with fail
        refine HI.out.mono ?_
        rintro e w1 ⟨rfl, hb1⟩
        have HB1 := Lib.hid (Base.Below.nextA HB.out hb1)
        clear hb1 d0
        cases hc : chB (fs i) l with
        | false =>
          have HE := Lib.hid (HNO.out (by rw [HOK.out, hc, Bool.and_false]))
          clear HNO HYES hc HOK
          go_wp2
          go_ret
          exact ⟨by rw [HE.out]; rfl, HB1.out⟩
        | true =>
          have HA := Lib.hid (HYES.out (by rw [HOK.out, hc, Bool.and_true]; simpa using HLN.out))
          clear HNO HYES hc HOK
          go_wp2
          go_roundw
          case rel => exact ⟨i + 1, by simp, hlt, HA, HB1⟩
          case measure => simp [intOf]; omega
      · have hne : ((l : Int) != (n : Int)) = true := by simp; omega
        have HE := Lib.hid (HNO.out (by rw [HOK.out, decide_eq_false hln]; rfl))
        clear HNO HYES hln
        go_wp2
        go_ret
        exact ⟨by rw [HE.out]; rfl, HB.out⟩
    · obtain rfl : i = n := by omega
      have HE : Hid (wkB i L fs = true) := Lib.hid (by rw [HIN.out]; exact all_range.2 hall.out)
      clear hall
      go_wp2
      go_ret
      exact ⟨by rw [HE.out]; rfl, HB.out⟩
end Go.Proofs.YtionognmgcabbaaGreat.Wide
/- The reference: a list of fractions of any size is given, if all are small. -/
namespace Go.Proofs.YtionognmgcabbaaGreat.Wide
open Go.RowKit Go.Proofs.YtionognmgcabbaaGreat Go.Proofs.YtionognmgcabbaaGreat.Base Go.Proofs.YtionognmgcabbaaGreat.Mem Go.Proofs.YtionognmgcabbaaGreat.RatM Go.Proofs.YtionognmgcabbaaGreat.BigM Go.Proofs.YtionognmgcabbaaGreat.Big Go.Proofs.YtionognmgcabbaaGreat.Fine Go.Proofs.YtionognmgcabbaaGreat.Blk Go.Proofs.YtionognmgcabbaaGreat.MemF Go.Proofs.YtionognmgcabbaaGreat.GiveM
set_option linter.unusedVariables false
set_option maxHeartbeats 2000000 in
set_option maxRecDepth 100000 in
theorem giveS_any {v : Value} {n m : Nat} {f : Nat → Rat} {cs : List Value} (w : World) (hx : OwnW w 0 v n f m cs) (hm : m ≤ 400000) (hn : n ≤ 1000) : Calls Tryz.prog 79 #[v] w (FsRet (gN f n) (gR f n) (smallAll f n) w) := by
  obtain ⟨A, c, rfl, _⟩ := hx.form
  have HX := Lib.hid hx
  obtain ⟨i2, ki, kz0, kz1, kz2⟩ := info_parts infoFr
  have H0 := Lib.hid (GRel.start f n w)
  clear hx
  go_enter Tryz.func79, Tryz.ntmps79
  go_wp2
  go_loopw [5, 4] (fun iv sv wr => GRel f n w iv sv wr) (fun iv _ _ => n - (intOf iv).toNat)
  case atStart => exact H0.out
  case round =>
    obtain ⟨i, rfl, hi, HO, HA, HB⟩ := hrel
    clear H0
    by_cases hlt : i < n
    · obtain ⟨g, s', B1, j1, e1, B2, j2, e2, fb, gn, gd, n', d', rfl, hgl, y0, y1, y2, y3, y4, y5, hp'⟩ := (HX.out.below HB.out).at hlt
      have HE : IsW wr (f i) m (.agg #[.bool s', .slice B1 j1 e1, .slice B2 j2 e2, .bool fb, .int .i64 gn, .int .i64 gd]) := ⟨_, _, _, _, _, _, _, _, _, _, _, _, rfl, hp'⟩
      have HG := Lib.hid (give_any wr HE hm)
      have HF : Hid (∀ w1 w2 v' cs t, smallQ (f i) = true → Below wr.heap.size wr w1 → _ → _ → _) := Lib.hid (fun w1 w2 v' cs t hv h1 hown hg => GRel.next (w1 := w1) (w2 := w2) (v' := v') (cs := cs) (t := t) hlt HO.out HA.out hv HB.out h1 hown hg)
      have HNO := Lib.hid (fun h => GiveM.small_no hlt (show smallQ (f i) = false from h))
      clear HE hp' hgl
      generalize f i = q at *
      unfold FRet at HG
      generalize numQ q = P at *
      generalize denQ q = Q at *
      go_wp2_with fail
      refine HG.out.mono ?_
      rintro e w1 ⟨rfl, hb1⟩
      have HB1 := Lib.hid hb1
      clear hb1 y0 y1 y2 y3 y4 y5 HG
      go_upto_region 6 with (fail)
      obtain ⟨W2, hW2⟩ : ∃ W2, W2 = w1.alloc (.cells #[.int .i64 P, .int .i64 Q] 43) := ⟨_, rfl⟩
      rw [← hW2]
      have K2 : Hid (Blk W2 w1.heap.size 43 #[.int .i64 P, .int .i64 Q]) := Lib.hid (by rw [hW2]; exact Blk.new w1 _ _)
      have HB2 : Hid (Below wr.heap.size wr W2) := Lib.hid (by rw [hW2]; exact HB1.out.alloc HB1.out.size _)
      have hsz := HB.out.size
      have hsz2 := HB2.out.size
      cases hs : smallQ q with
      | false =>
        have HN := Lib.hid (HNO.out hs)
        have HBB := Lib.hid (Base.Below.nextA HB.out HB2.out)
        clear hW2 hs HNO HF
        go_wp2
        go_ret2
        rw [HN.out.1, HN.out.2.1, HN.out.2.2]
        exact FsRet.no HBB.out
      | true =>
        have HNN := Lib.hid (fun w3 v' cs t hown hg => HF.out W2 w3 v' cs t hs HB2.out hown hg)
        have HW2 := Lib.hid (World.ownsRow.alloc (ownsRow_below HO.out HB2.out) (.cells #[.int .i64 P, .int .i64 Q] 43))
        have x0 := K2.out.at 0 (v := .int .i64 P) rfl
        have x1 := K2.out.at 1 (v := .int .i64 Q) rfl
        clear hW2 hs HNO HF HO HA HB HB1 HB2
        go_wp2_with (at_builtin; refine wpList_append_own_at _ rfl (.tmp 25) (.tmp 27) 28 rfl w.heap.size 43 i2 (.agg #[.int .i64 0, .int .i64 0]) 2 16 Tryz.underlying28 ki kz0 kz1 kz2 rfl (by decide) _ _ _ rfl HW2.out ⟨W2.heap.size, 0, none⟩ 1 1 [.int .i64 P, .int .i64 Q] rfl rfl ?p1a ?p2a ?p3a ?p4a ?p5a ?_)
        try case p1a => exact MemF.news_two _ _ (by simp)
        try case p2a => exact MemF.ones_two
        try case p3a => first | (simp only [maxLen]; omega) | omega
        try case p4a => omega
        try case p5a => first | (simp only [World.size_alloc]; omega) | omega
        intro v' w3 hown' hg' _ he
        have HN3 := Lib.hid (HNN.out w3 v' _ _ hown' hg')
        clear hown' hg' he HNN HW2
        go_wp2
        go_roundw
        case rel => exact HN3.out
        case measure => simp [intOf]; omega
    · obtain rfl : i = n := by omega
      obtain ⟨A', cp, rfl, _⟩ := HO.out.form
      have HY := Lib.hid (GiveM.small_yes' HA.out)
      clear HA
      go_wp2
      go_ret2
      rw [HY.out.1, HY.out.2.1, HY.out.2.2]
      exact ⟨A', cp, rfl, HO.out, HB.out⟩
end Go.Proofs.YtionognmgcabbaaGreat.Wide
/- The reference: a walk that is run. -/
namespace Go.Proofs.YtionognmgcabbaaGreat.ComS
open Go.RowKit Go.Proofs.YtionognmgcabbaaGreat Go.Proofs.YtionognmgcabbaaGreat.Base Go.Proofs.YtionognmgcabbaaGreat.Mem Go.Proofs.YtionognmgcabbaaGreat.BigM Go.Proofs.YtionognmgcabbaaGreat.Big Go.Proofs.YtionognmgcabbaaGreat.Blk Go.Proofs.YtionognmgcabbaaGreat.MemF Go.Proofs.YtionognmgcabbaaGreat.ChM Go.Proofs.YtionognmgcabbaaGreat.ComM Go.Proofs.YtionognmgcabbaaGreat.RatM Go.Proofs.YtionognmgcabbaaGreat.WalkM Go.Proofs.YtionognmgcabbaaGreat.GiveM Go.Proofs.YtionognmgcabbaaGreat.Wide Go.Proofs.YtionognmgcabbaaGreat.Ratio
set_option linter.unusedVariables false
theorem chB_pos {fs : List Int} {n : Nat} (h : chB fs n = true) : ∀ k, k < n → 0 ≤ fs.getD (2 * k) 0 := fun k hk => by
  unfold chB at h
  simp only [Bool.and_eq_true] at h
  have := all_range.1 h.2.2.2.1 k hk
  simpa using this
def W24 : Nat := 2400
/-- the numbers at the start, and behind t steps -/
def v0 (ps : List Int) (n : Nat) : Nat → Nat := comN ps n
def rN (fs : Nat → List Int) (n : Nat) : Nat → Nat := comN (catF fs n) (n * n)
def dA (fs : Nat → List Int) (n : Nat) : Nat := comD (catF fs n) (n * n)
def denT (ps : List Int) (fs : Nat → List Int) (n t : Nat) : Nat := comD ps n * dA fs n ^ t
def vT (ps : List Int) (fs : Nat → List Int) (n t : Nat) : Nat → Nat := ComM.runN n (rN fs n) (v0 ps n) t
/-- all that is known of them -/
structure RunOk (ps : List Int) (fs : Nat → List Int) (n : Nat) : Prop where
  pos : ∀ t, 0 < denT ps fs n t
  val : ∀ t k, k < n → qv false (vT ps fs n t k) (denT ps fs n t) = runR n (wM fs) (fq ps) t k
  vlt : ∀ t k, t ≤ 30 → k < n → vT ps fs n t k < D30 ^ W24
  rlt : ∀ j, j < n * n → rN fs n j < D30 ^ 75
  dlt : ∀ t, t ≤ 30 → denT ps fs n t < D30 ^ W24
  alt : dA fs n < D30 ^ 75
theorem lt_pow {x k : Nat} (h : (bigL x).length ≤ k) : x < D30 ^ k := Nat.lt_of_lt_of_le (big_lt_pow x) (Nat.pow_le_pow_right D30_pos h)
theorem lt_more {x j k : Nat} (h : x < D30 ^ j) (hk : j ≤ k) : x < D30 ^ k := Nat.lt_of_lt_of_le h (Nat.pow_le_pow_right D30_pos hk)
theorem pow_lt {x k t : Nat} (hx : 0 < x) (h : x < D30 ^ k) (ht : 0 < t) : x ^ t < D30 ^ (k * t) := by
  rw [Nat.pow_mul]
  exact Nat.pow_lt_pow_left h (by omega)
theorem runOk {ps : List Int} {fs : Nat → List Int} {n : Nat} (hn1 : 1 ≤ n) (hn : n ≤ 6) (h1 : AllVF ps n) (p1 : ∀ k, k < n → 0 ≤ ps.getD (2 * k) 0) (h2 : ∀ i, i < n → AllVF (fs i) n) (p2 : ∀ i k, i < n → k < n → 0 ≤ (fs i).getD (2 * k) 0) (hl : ∀ i, i < n → (fs i).length = 2 * n) : RunOk ps fs n := by
  have hcv := catF_vf hl h2
  have hcp := catF_pos hl p2
  have hnn : n * n ≤ 36 := Nat.mul_le_mul hn hn
  have d0 := comD_pos h1
  have d1 := comD_pos hcv
  have hd0 : comD ps n < D30 ^ 13 := lt_pow (Nat.le_trans (comD_len h1) (by omega))
  have hd1 : dA fs n < D30 ^ 75 := lt_pow (Nat.le_trans (comD_len hcv) (by omega))
  have hv : ∀ i, i < n → v0 ps n i < D30 ^ 15 := fun i hi => lt_pow (Nat.le_trans (comN_len h1 hi) (by omega))
  have hR : ∀ j, j < n * n → rN fs n j < D30 ^ 75 := fun j hj => lt_pow (Nat.le_trans (comN_len hcv hj) (by omega))
  refine ⟨fun t => Nat.mul_pos d0 (Nat.pow_pos d1), fun t k hk => ?_, fun t k ht hk => ?_, hR, fun t ht => ?_, hd1⟩
  · rw [qv_over]
    refine over_run d0 d1 (fun i hi => ?_) (fun i k hi hk => ?_) t k hk
    · rw [← qv_over]; exact com_val h1 (p1 i hi) hi
    · have hj : i * n + k < n * n := by
        have := Nat.mul_le_mul_right n (show i + 1 ≤ n by omega)
        rw [Nat.add_mul] at this
        omega
      rw [← qv_over]
      have := com_val hcv (hcp _ hj) hj
      rw [catF_fq hl hi hk] at this
      exact this
  · exact lt_more (k := W24) (run_lt (show n ≤ 1000 by omega) hv hR t k hk) (by unfold W24; omega)
  · rcases Nat.eq_zero_or_pos t with rfl | h0
    · unfold denT; rw [Nat.pow_zero, Nat.mul_one]; exact lt_more (k := W24) hd0 (by decide)
    · exact lt_more (k := W24) (mul_lt hd0 (pow_lt d1 hd1 h0)) (by unfold W24; omega)
def RwRel (ps : List Int) (fs : Nat → List Int) (n S : Nat) (w : World) (sv vv dv : Value) (wr : World) : Prop :=
  ∃ (t m : Nat) (A : Option Addr) (c : Nat) (us : List Value) (A' : Option Addr) (c' : Nat), t + m = S ∧ sv = .int .i64 (m : Int) ∧ vv = .slice A n c ∧ dv = .slice A' (bigL (denT ps fs n t)).length c' ∧ Hid (OwnB wr 0 (.slice A n c) n (vT ps fs n t) us) ∧ Hid (IsB wr (denT ps fs n t) (.slice A' (bigL (denT ps fs n t)).length c')) ∧ Hid (Below w.heap.size w wr)
def OwRel (f : Nat → Rat) (n : Nat) (w : World) (ov iv : Value) (wr : World) : Prop :=
  ∃ (i : Nat) (cs : List Value), iv = .int .i64 (i : Int) ∧ i ≤ n ∧ Hid (OwnW wr w.heap.size ov i f 2400 cs) ∧ Hid (Below w.heap.size w wr)
theorem OwRel.next {f : Nat → Rat} {n i : Nat} {w wr w2 : World} {v v' : Value} {cs : List Value} {A1 A2 : Option Addr} {k1 c1 k2 c2 nn dd : Nat} {ca : Array Value} {t : TypeId} (hi : i < n) (h : OwnW wr w.heap.size v i f 2400 cs) (hb : Below w.heap.size w wr)
    (hp : Parts wr (f i) 2400 false (.slice A1 k1 c1) (.slice A2 k2 c2) false 0 0 nn dd) (hown : w2.ownsRow w.heap.size 81 6 v' (i + 1) (cs ++ six false (.slice A1 k1 c1) (.slice A2 k2 c2) false 0 0)) (hg : (wr.alloc (.cells ca t)).grownBy w2 v.ownBlock) : OwRel f n w v' (.int .i64 ((i : Int) + 1)) w2 := by
  have hb1 : Below wr.heap.size wr (wr.alloc (.cells ca t)) := (Below.refl _ _).alloc (Nat.le_refl _) _
  refine ⟨i + 1, _, by simp, hi, Lib.hid (h.push (Below.refl _ _) hp hown hg), Lib.hid ?_⟩
  exact (hb.trans (hb1.mono hb.size)).trans (grown_below hg (fun g e => (ownsRow_block h.row e).choose_spec.2.1) (Nat.le_trans hb.size hb1.size))
set_option maxHeartbeats 2000000 in
set_option maxRecDepth 100000 in
theorem runS_any {A A' : Option Addr} {c c' B B' n m : Nat} {L : Nat → Nat} {fs : Nat → List Int} {ps : List Int} (t : Int) (w : World) (hx : RdFF w B A n L fs) (hB : B ≤ w.heap.size) (hL : ∀ i, i < n → L i ≤ 1048576) (hl : ∀ i, i < n → (fs i).length = 2 * L i) (hn : n ≤ 1048576) (hy : RdF w B' A' m ps) (hB' : B' ≤ w.heap.size) (hm : m ≤ 1048576) :
    Calls Tryz.prog 47 #[.agg #[.slice A n c], .slice A' m c', .int .i64 t] w (FsRet (rwN n L fs m ps t) (rwR n L fs m ps t) (rwO n L fs m ps t) w) := by
  obtain ⟨W0, hW0⟩ : ∃ W0, W0 = w.alloc (.cells #[.slice A n c] 33) := ⟨_, rfl⟩
  have hb0 : Below w.heap.size w W0 := by rw [hW0]; exact (Below.refl _ _).alloc (Nat.le_refl _) _
  have k0 : Blk W0 w.heap.size 33 #[.slice A n c] := by rw [hW0]; exact Blk.new w _ _
  have K0 := Lib.hid k0
  have HX := Lib.hid ((hx.below hb0 hB).more (Nat.le_trans hB hb0.size))
  have HY := Lib.hid ((hy.below hb0 hB').more (Nat.le_trans hB' hb0.size))
  have HV := Lib.hid (walkS_any W0 (k0.at 0 (v := .slice A n c) rfl) k0.lt HX.out (Nat.le_refl _) (fun i hi => by have := hL i hi; omega) (by omega))
  have HC := Lib.hid (fun W (h : Below W0.heap.size W0 W) => isS_any (c := c') W (HY.out.below h (Nat.le_refl _)) h.size (show m ≤ 1099511627776 by omega))
  have HB0 := Lib.hid hb0
  have HW0 := Lib.hid hW0
  have HLL := Lib.hid hl
  clear hx hy hb0 hW0 hL hl k0
  cases hv : wkB n L fs with
  | false =>
    have HEE := Lib.hid (rw_no (n := n) (m := m) (L := L) (fs := fs) (ps := ps) (t := t) (by unfold rwB; rw [hv]; rfl))
    rw [hv] at HV
    clear hv
    go_enter Tryz.func47, Tryz.ntmps47
    go_wp2_with fail
    rw [← HW0.out]
    refine HV.out.mono ?_
    rintro e w1 ⟨rfl, hb1⟩
    have HBZ := Lib.hid (Base.Below.nextA HB0.out hb1)
    clear hb1
    go_wp2
    go_ret2
    rw [HEE.out.1, HEE.out.2.1, HEE.out.2.2]
    exact FsRet.no HBZ.out
  | true =>
    rw [hv] at HV
    by_cases hmn : m = n
    · have hne : ((m : Int) != (n : Int)) = false := by simp [hmn]
      cases hcc : chB ps m with
      | false =>
        have HEE := Lib.hid (rw_no (n := n) (m := m) (L := L) (fs := fs) (ps := ps) (t := t) (by unfold rwB; rw [hv, hcc]; rfl))
        rw [hcc] at HC
        clear hv hcc hmn
        go_enter Tryz.func47, Tryz.ntmps47
        go_wp2_with fail
        rw [← HW0.out]
        refine HV.out.mono ?_
        rintro e w1 ⟨rfl, hb1⟩
        have HW1 := Lib.hid hb1
        have HC1 := Lib.hid (HC.out _ hb1)
        have x1 := (K0.out.belowS hb1).at 0 (v := .slice A n c) rfl
        clear hb1
        go_wp2_with fail
        refine HC1.out.mono ?_
        rintro e w2 ⟨rfl, hb2⟩
        have HBZ := Lib.hid (Base.Below.nextA HB0.out (Base.Below.nextA HW1.out hb2))
        clear hb2 x1
        go_wp2
        go_ret2
        rw [HEE.out.1, HEE.out.2.1, HEE.out.2.2]
        exact FsRet.no HBZ.out
      | true =>
        rw [hcc] at HC
        cases hr : inR t 0 30 with
        | false =>
          have HEE := Lib.hid (rw_no (n := n) (m := m) (L := L) (fs := fs) (ps := ps) (t := t) (by unfold rwB; rw [hr, Bool.and_false, Bool.and_false, Bool.and_false]))
          have HR := Lib.hid hr
          clear hv hcc hmn hr
          go_enter Tryz.func47, Tryz.ntmps47
          go_wp2_with fail
          rw [← HW0.out]
          refine HV.out.mono ?_
          rintro e w1 ⟨rfl, hb1⟩
          have HW1 := Lib.hid hb1
          have HC1 := Lib.hid (HC.out _ hb1)
          have x1 := (K0.out.belowS hb1).at 0 (v := .slice A n c) rfl
          clear hb1
          go_wp2_with fail
          refine HC1.out.mono ?_
          rintro e w2 ⟨rfl, hb2⟩
          have HBZ := Lib.hid (Base.Below.nextA HB0.out (Base.Below.nextA HW1.out hb2))
          clear hb2 x1 HC1 HC HV
          go_wp2_with fail
          refine (l00In_any _ _ _ _).mono ?_
          rintro e w3 ⟨rfl, rfl⟩
          rw [HR.out]
          go_wp2
          go_ret2
          rw [HEE.out.1, HEE.out.2.1, HEE.out.2.2]
          exact FsRet.no HBZ.out
        | true =>
          have hrw : rwB n L fs m ps t = true := by unfold rwB; rw [hv, hcc, hr, decide_eq_true hmn]; rfl
          obtain ⟨hwk, _, _, _, hn1, hn6, hLn, hps, hfs⟩ := rwB_true hrw
          have HEE := Lib.hid (rw_yes hrw)
          have hR := inR_true hr
          obtain ⟨S, rfl⟩ : ∃ S : Nat, t = (S : Int) := ⟨t.toNat, by omega⟩
          rw [Int.toNat_natCast] at HEE
          have hS : S ≤ 30 := by omega
          have HR := Lib.hid hr
          obtain rfl := hmn
          have hp1 := chB_pos hcc
          have hp2 : ∀ i k, i < m → k < m → 0 ≤ (fs i).getD (2 * k) 0 := fun i k hi hk => chB_pos ((wkB_true hwk).2.2 i hi).2 k hk
          have hl2 : ∀ i, i < m → (fs i).length = 2 * m := fun i hi => by rw [HLL.out i hi, hLn i hi]
          have HOK := Lib.hid (runOk hn1 hn6 hps hp1 hfs hp2 hl2)
          have HAL := Lib.hid (fun W (h : Below W0.heap.size W0 W) => allS_any W ((K0.out.belowS h).at 0 (v := .slice A m c) rfl) (K0.out.belowS h).lt (HX.out.below h (Nat.le_refl _)) h.size hLn HLL.out (by omega) hfs hp2)
          have HCM := Lib.hid (fun W (h : Below W0.heap.size W0 W) => comS_any (c := c') W (HY.out.below h (Nat.le_refl _)) h.size hps hp1 (show m ≤ 1000 by omega))
          clear hv hcc hr hrw hps hfs hLn hR hwk hp1 hp2 hl2
          go_enter Tryz.func47, Tryz.ntmps47
          go_wp2_with fail
          rw [← HW0.out]
          refine HV.out.mono ?_
          rintro e w1 ⟨rfl, hb1⟩
          have HW1 := Lib.hid hb1
          have HC1 := Lib.hid (HC.out _ hb1)
          have x1 := (K0.out.belowS hb1).at 0 (v := .slice A m c) rfl
          clear hb1
          go_wp2_with fail
          refine HC1.out.mono ?_
          rintro e w2 ⟨rfl, hb2⟩
          have HW2 := Lib.hid (Base.Below.nextA HW1.out hb2)
          clear hb2 HC1 HC HV HW1 x1
          go_wp2_with fail
          refine (l00In_any _ _ _ _).mono ?_
          rintro e w3 ⟨rfl, rfl⟩
          rw [HR.out]
          go_wp2_with fail
          refine (HAL.out _ HW2.out).mono ?_
          rintro e w3 ⟨A3, c3, us3, u3, rfl, ho3, hu3, hb3⟩
          obtain ⟨A4, c4, rfl, _⟩ := Dig.form hu3
          have HW3 := Lib.hid (Base.Below.nextA HW2.out hb3)
          have HO3 : Hid (OwnB w3 w2.heap.size (.slice A3 (m * m) c3) (m * m) (rN fs m) us3) := Lib.hid ho3
          have HU3 : Hid (IsB w3 (dA fs m) (.slice A4 (bigL (dA fs m)).length c4)) := Lib.hid hu3
          have hLA : Hid ((bigL (comD (catF fs m) (m * m))).length = (bigL (dA fs m)).length) := Lib.hid rfl
          rw [hLA.out]
          clear ho3 hu3 hb3 HAL HW2
          go_wp2_with fail
          refine (HCM.out _ HW3.out).mono ?_
          rintro e w4 ⟨A5, c5, us5, u5, rfl, ho5, hu5, hb5⟩
          obtain ⟨A6, c6, rfl, _⟩ := Dig.form hu5
          have HW4 := Lib.hid (Base.Below.nextA HW3.out hb5)
          have HO4 := Lib.hid (HO3.out.below hb5)
          have HU4 := Lib.hid (HU3.out.below hb5)
          have hD0 : denT ps fs m 0 = comD ps m := by unfold denT; rw [Nat.pow_zero, Nat.mul_one]
          have H0 : Hid (RwRel ps fs m S w4 (.int .i64 (S : Int)) (.slice A5 m c5) (.slice A6 (bigL (comD ps m)).length c6) w4) := Lib.hid ⟨0, S, A5, c5, us5, A6, c6, by omega, rfl, rfl, by rw [hD0], Lib.hid (ho5.base (Nat.zero_le _)), Lib.hid (by rw [hD0]; exact hu5), Lib.hid (Below.refl _ _)⟩
          clear ho5 hu5 hb5 HCM HW3 HO3 HU3 hD0 hLA
          go_wp2
          go_loopw [2, 10, 11] (fun sv vv dv wr => RwRel ps fs m S w4 sv vv dv wr) (fun sv _ _ _ => (intOf sv).toNat)
          case atStart => exact H0.out
          case round =>
            obtain ⟨t, r, A7, c7, us7, A8, c8, htr, rfl, rfl, rfl, HO, HU, HB⟩ := hrel
            clear H0
            by_cases hpos : 0 < r
            · have HST := Lib.hid (stepS_any (a := W24) (b := 75) wr (HO4.out.below HB.out) HO.out (by omega) (fun i hi => HOK.out.vlt t i (by omega) hi) HOK.out.rlt (by decide))
              have hld : (bigL (denT ps fs m t)).length ≤ 2400 := bigL_len_le (k := W24) (HOK.out.dlt t (by omega))
              have hla : (bigL (dA fs m)).length ≤ 75 := bigL_len_le HOK.out.alt
              have HU4b := Lib.hid (HU4.out.below HB.out)
              go_wp2_with fail
              refine HST.out.mono ?_
              rintro e w5 ⟨A9, c9, us9, rfl, ho9, hb9⟩
              have HTI := Lib.hid (bigTimes_any w5 (HU.out.below hb9) (HU4b.out.below hb9) (by omega) (by omega))
              have HB9 := Lib.hid (Base.Below.nextA HB.out hb9)
              have HO9 := Lib.hid ho9
              clear ho9 hb9 HST HU4b
              go_wp2_with fail
              refine HTI.out.mono ?_
              rintro e w6 ⟨v, rfl, hv, hb6⟩
              have hDD : denT ps fs m t * dA fs m = denT ps fs m (t + 1) := by unfold denT; rw [Nat.pow_succ, Nat.mul_assoc]
              rw [hDD] at hv
              obtain ⟨A10, c10, rfl, _⟩ := Dig.form hv
              have HN : Hid (RwRel ps fs m S w4 (.int .i64 ((r : Int) - 1)) (.slice A9 m c9) (.slice A10 (bigL (denT ps fs m (t + 1))).length c10) w6) := Lib.hid ⟨t + 1, r - 1, A9, c9, us9, A10, c10, by omega, by congr 1; omega, rfl, rfl, Lib.hid ((HO9.out.below hb6).base (Nat.zero_le _)), Lib.hid hv, Lib.hid (Base.Below.nextA HB9.out hb6)⟩
              clear hv hb6 HTI HO9 HB9 HO HU HB hDD
              go_wp2
              go_roundw
              case rel => exact HN.out
              case measure => simp [intOf]; omega
            · obtain rfl : r = 0 := by omega
              obtain rfl : t = S := by omega
              obtain ⟨w5, rfl⟩ : ∃ x, x = wr := ⟨_, rfl⟩
              have hld : (bigL (denT ps fs m t)).length ≤ 2400 := bigL_len_le (k := W24) (HOK.out.dlt t (by omega))
              have H1 : Hid (OwRel (runR m (wM fs) (fq ps) t) m w5 (.slice (some ⟨w5.heap.size, 0, none⟩) 0 0) (.int .i64 0) (w5.alloc (.cells #[] 81))) := Lib.hid ⟨0, [], rfl, Nat.zero_le _, Lib.hid (OwnW.lit0 w5 _ _), Lib.hid ((Below.refl _ _).alloc (Nat.le_refl _) _)⟩
              obtain ⟨iw, wi, wz0, wz1, wz2⟩ := info_parts infoW
              rw [show (((0 : Nat) : Int)) = 0 from rfl]
              go_wp2
              go_loopw [12, 13] (fun ov iv w6 => OwRel (runR m (wM fs) (fq ps) t) m w5 ov iv w6) (fun _ iv _ => m - (intOf iv).toNat)
              case atStart => exact H1.out
              case round =>
                obtain ⟨i, cs, rfl, hi, HOW, HB2⟩ := hrel
                clear H1
                by_cases hlt : i < m
                · obtain ⟨gv, A9, c9, ev9, hgv, hvc, hvb⟩ := (HO.out.below HB2.out).at hlt
                  subst ev9
                  have hp : Parts wr (runR m (wM fs) (fq ps) t i) 2400 false (.slice A9 (bigL (vT ps fs m t i)).length c9) (.slice A8 (bigL (denT ps fs m t)).length c8) false 0 0 (vT ps fs m t i) (denT ps fs m t) :=
                    ⟨hvb, HU.out.below HB2.out, HOK.out.pos t, HOK.out.val t i hlt, bigL_len_le (k := W24) (HOK.out.vlt t i (by omega) hlt), hld, fun h => by cases h⟩
                  have HN := Lib.hid (fun w7 v' ca ty hown hg => OwRel.next (w2 := w7) (v' := v') (ca := ca) (t := ty) hlt HOW.out HB2.out hp hown hg)
                  have HOA := Lib.hid (World.ownsRow.alloc HOW.out.row (.cells #[.bool false, .slice A9 (bigL (vT ps fs m t i)).length c9, .slice A8 (bigL (denT ps fs m t)).length c8, .bool false, .int .i64 0, .int .i64 0] 81))
                  have hs2 := HB2.out.size
                  clear hvb hp HOW HB2
                  generalize (bigL (vT ps fs m t i)).length = l1 at *
                  generalize (bigL (denT ps fs m t)).length = l2 at *
                  go_wp2_with (at_builtin; refine wpList_append_own_at _ rfl (.tmp 60) (.tmp 67) 93 rfl w5.heap.size 81 iw (.agg #[.bool false, .slice none 0 0, .slice none 0 0, .bool false, .int .i64 0, .int .i64 0]) 6 80 Tryz.underlying93 wi wz0 wz1 wz2 rfl (by decide) _ _ _ rfl HOA.out ⟨wr.heap.size, 0, none⟩ 1 1 [.bool false, .slice A9 l1 c9, .slice A8 l2 c8, .bool false, .int .i64 0, .int .i64 0] rfl rfl ?p1c ?p2c ?p3c ?p4c ?p5c ?_)
                  try case p1c => exact news_six _ _ (by simp)
                  try case p2c => exact ones_six
                  try case p3c => first | (simp only [maxLen]; omega) | omega
                  try case p4c => omega
                  try case p5c => first | (simp only [World.size_alloc]; omega) | omega
                  intro v' w7 hown' hg' _ he
                  have HN3 := Lib.hid (HN.out w7 v' _ _ hown' hg')
                  clear hown' hg' he HN HOA
                  go_wp2
                  go_roundw
                  case rel => exact HN3.out
                  case measure => simp [intOf]; omega
                · obtain rfl : i = m := by omega
                  obtain ⟨A9, c9, rfl, _⟩ := HOW.out.form
                  have HG := Lib.hid (giveS_any wr (HOW.out.base (Nat.zero_le _)) (by decide) (by omega))
                  rw [← HEE.out.1, ← HEE.out.2.1, ← HEE.out.2.2] at HG
                  have HBB := Lib.hid (Base.Below.nextA (Base.Below.nextA HW4.out HB.out) HB2.out)
                  clear HOW HB2 HB
                  go_wp2_with fail
                  refine HG.out.mono ?_
                  rintro e w8 ⟨A10, c10, rfl, ho10, hb10⟩
                  have HOO := Lib.hid (And.intro ho10 (Base.Below.nextA HB0.out (Base.Below.nextA HBB.out hb10)))
                  have hs3 : w.heap.size ≤ wr.heap.size := Nat.le_trans HB0.out.size HBB.out.size
                  clear ho10 hb10
                  go_wp2
                  go_ret2
                  exact ⟨A10, c10, rfl, ownsRow_base HOO.out.1 hs3, HOO.out.2⟩
    · have HEE := Lib.hid (rw_no (n := n) (m := m) (L := L) (fs := fs) (ps := ps) (t := t) (by unfold rwB; rw [decide_eq_false hmn, Bool.false_and, Bool.and_false, Bool.and_false]))
      have hne : ((m : Int) != (n : Int)) = true := by simp; omega
      clear hv hmn
      go_enter Tryz.func47, Tryz.ntmps47
      go_wp2_with fail
      rw [← HW0.out]
      refine HV.out.mono ?_
      rintro e w1 ⟨rfl, hb1⟩
      have HBZ := Lib.hid (Base.Below.nextA HB0.out hb1)
      have x1 := (K0.out.belowS hb1).at 0 (v := .slice A n c) rfl
      clear hb1
      go_wp2
      go_ret2
      rw [HEE.out.1, HEE.out.2.1, HEE.out.2.2]
      exact FsRet.no HBZ.out
end Go.Proofs.YtionognmgcabbaaGreat.ComS
/- The laws' sizes and copies of lists of fractions. -/
namespace Go.Proofs.YtionognmgcabbaaGreat.CpyF
open Go.RowKit Go.Proofs.YtionognmgcabbaaGreat Go.Proofs.YtionognmgcabbaaGreat.Base Go.Proofs.YtionognmgcabbaaGreat.Mem Go.Proofs.YtionognmgcabbaaGreat.Cpy Go.Proofs.YtionognmgcabbaaGreat.MemF Go.Proofs.YtionognmgcabbaaGreat.WalkM
set_option linter.unusedVariables false
theorem szF_any (A : Option Addr) (n c : Nat) (k : Int) (w : World) (hn : n ≤ 9223372036854775807) (hk : 0 ≤ k) (hk2 : k ≤ 1048576) :
    Calls Tryz.prog 12 #[.slice A n c, .int .i64 k] w fun e w' => ∃ r : Int, e = .returned (.int .i64 r) ∧ (r = -1 ∨ (0 ≤ r ∧ r = k - n)) ∧ w = w' := by
  by_cases h0 : k - (n : Int) < 0
  · go_enter Tryz.func12, Tryz.ntmps12
    go_wp2
    go_ret
    exact ⟨-1, rfl, .inl rfl, rfl⟩
  · go_enter Tryz.func12, Tryz.ntmps12
    go_wp2
    go_ret
    exact ⟨k - n, rfl, .inr ⟨by omega, rfl⟩, rfl⟩
/-! ### Fractions that are copied -/
theorem toFr_any (a b : Int) (w : World) : Calls Tryz.prog 38 #[.agg #[.int .i64 a, .int .i64 b]] w fun e w' => e = .returned (.agg #[.int .i64 a, .int .i64 b]) ∧ Below w.heap.size w w' := by
  go_enter Tryz.func38, Tryz.ntmps38
  go_wp2
  exact bodyPost_ret (v := .agg #[.int .i64 a, .int .i64 b]) (by simp [results, Tryz.results38, go_sem]) rfl ⟨rfl, (((Below.refl _ _).alloc (Nat.le_refl _) _).alloc (by simp) _).alloc (by simp; omega) _⟩
theorem set2_half {fs : List Int} {n j : Nat} (hl : fs.length = 2 * n) (hj : j < n) (t : Nat) (ht : t < 2) :
    (ints (fs.take (2 * j + t) ++ List.replicate (2 * n - (2 * j + t)) 0)).set (2 * j + t) (.int .i64 (fs.getD (2 * j + t) 0)) = ints (fs.take (2 * j + t + 1) ++ List.replicate (2 * n - (2 * j + t + 1)) 0) := by
  have hlt : 2 * j + t < fs.length := by omega
  rw [ints_set, List.set_append_right _ _ (by rw [List.length_take]; omega), List.length_take, Nat.min_eq_left (by omega), Nat.sub_self,
    show 2 * n - (2 * j + t) = (2 * n - (2 * j + t + 1)) + 1 by omega, List.replicate_succ, List.set_cons_zero, List.take_succ_eq_append_getElem hlt, List.append_assoc]
  simp [List.getD, hlt]
def HalfF (wr : World) (B g n j : Nat) (fs : List Int) : Prop := wr.ownsRow B 43 2 (.slice (some ⟨g, 0, none⟩) n n) n (ints (fs.take (2 * j) ++ List.replicate (2 * n - 2 * j) 0))
theorem halfF_store {wr : World} {B g n j t : Nat} {fs : List Int} (h : wr.ownsRow B 43 2 (.slice (some ⟨g, 0, none⟩) n n) n (ints (fs.take (2 * j + t) ++ List.replicate (2 * n - (2 * j + t)) 0))) (hl : fs.length = 2 * n) (hj : j < n) (ht : t < 2) :
    (wr.setCell ⟨g, 2 * j + t, none⟩ (.int .i64 (fs.getD (2 * j + t) 0))).ownsRow B 43 2 (.slice (some ⟨g, 0, none⟩) n n) n (ints (fs.take (2 * j + t + 1) ++ List.replicate (2 * n - (2 * j + t + 1)) 0)) := by
  obtain ⟨h1, h2⟩ := h.stored (2 * j + t) (.int .i64 (fs.getD (2 * j + t) 0))
  rw [set2_half hl hj t ht] at h1
  exact h1
theorem halfF_next {wr : World} {B g n j : Nat} {fs : List Int} (h : HalfF wr B g n j fs) (hl : fs.length = 2 * n) (hj : j < n) : HalfF ((wr.setCell ⟨g, j * 2, none⟩ (.int .i64 (fs.getD (2 * j) 0))).setCell ⟨g, j * 2 + 1, none⟩ (.int .i64 (fs.getD (2 * j + 1) 0))) B g n (j + 1) fs := by
  have h1 := halfF_store (t := 0) h hl hj (by decide)
  have h2 := halfF_store (t := 1) h1 hl hj (by decide)
  unfold HalfF
  rw [Nat.mul_comm j 2]
  exact h2
def ToRelF (B g n : Nat) (fs : List Int) (w : World) (i : Value) (wr : World) : Prop := ∃ j : Nat, j ≤ n ∧ i = .int .i64 (j : Int) ∧ Hid (HalfF wr B g n j fs) ∧ Hid (Below B w wr)
def zero2 : Array Value := #[.int .i64 0, .int .i64 0]
theorem zero2_at : ∀ m, m < 2 → zero2[m]! = .int .i64 0
  | 0, _ => rfl
  | 1, _ => rfl
  | n + 2, h => absurd h (by omega)
theorem made2 (n : Nat) : (madeCells zero2 (n * 2)).toList = ints (List.replicate (2 * n) 0) := by
  apply List.ext_getElem?
  intro j
  rw [Nat.mul_comm n 2]
  by_cases hj : j < 2 * n
  · have h1 := zero2_at (j % 2) (Nat.mod_lt _ (by decide))
    have h2 : zero2.size = 2 := rfl
    simp [madeCells, ints, hj, h2, h1]
  · simp [madeCells, ints, hj]
theorem run_make2 (n : Nat) (hn : n ≤ 1048576) (w : World) : (Instr.makeSlice 28 (.int .i64 (n : Int)) (.int .i64 (n : Int))).run Tryz.prog w = .ok (.slice (some ⟨w.heap.size, 0, none⟩) n n) (w.alloc (.cells (madeCells zero2 (n * 2)) 43)) := by
  obtain ⟨i, hi, hzz⟩ := Option.map_eq_some_iff.1 infoFr
  simp only [Prod.mk.injEq] at hzz
  obtain ⟨hz, hs, hb⟩ := hzz
  have hr := run_make (P := Tryz.prog) w 28 43 i _ Tryz.underlying28 hi hz .i64 .i64 n n (by omega) (Int.le_refl _) (by rw [hb]; omega) (by omega)
  simp only [Int.toNat_natCast, hs] at hr
  exact hr
theorem halfF_start (w : World) (n : Nat) (hn : n ≤ 1048576) (fs : List Int) : HalfF (w.alloc (.cells (madeCells zero2 (n * 2)) 43)) w.heap.size w.heap.size n 0 fs := by
  have := World.ownsRow_lit (e := 43) (size := 2) (base := w.heap.size) w (madeCells zero2 (n * 2)) n (Nat.le_refl _) (by simp [maxLen]; omega) (by rw [size_madeCells])
  rw [made2] at this
  unfold HalfF
  simpa using this
set_option maxHeartbeats 1000000 in
set_option maxRecDepth 100000 in
theorem toF_any (A : Option Addr) (c B0 n : Nat) (fs : List Int) (w : World) (hx : RdF w B0 A n fs) (hB : B0 ≤ w.heap.size) (hn : n ≤ 1048576) (hl : fs.length = 2 * n) :
    Calls Tryz.prog 15 #[.slice A n c] w fun e w' => ∃ g, e = .returned (.slice (some ⟨g, 0, none⟩) n n) ∧ OwnF w' w.heap.size (.slice (some ⟨g, 0, none⟩) n n) n fs ∧ Below w.heap.size w w' := by
  have HX := Lib.hid (hx.more hB)
  have HL := Lib.hid hl
  have hmk := fun w => run_make2 n hn w
  have H0 : Hid (ToRelF w.heap.size w.heap.size n fs w (.int .i64 0) (w.alloc (.cells (madeCells zero2 (n * 2)) 43))) := Lib.hid ⟨0, Nat.zero_le _, rfl, Lib.hid (halfF_start w n hn fs), Lib.hid ((Below.refl _ _).alloc (Nat.le_refl _) _)⟩
  clear hx hl
  go_enter Tryz.func15, Tryz.ntmps15
  go_wp2
  clear hmk
  go_loopw [4] (fun i wr => ToRelF w.heap.size w.heap.size n fs w i wr) (fun i _ => n - (intOf i).toNat)
  case atStart => exact H0.out
  case round =>
    obtain ⟨j, hj, rfl, hrow, hb⟩ := hrel
    by_cases hlt : j < n
    · obtain ⟨b, off, rfl, hbl, c0, c1⟩ := (HX.out.below hb.out (Nat.le_refl _)).at hlt
      have hcell : ∀ i, i < 2 → ∃ x : Int, wr.cell? ⟨w.heap.size, j * 2 + i, none⟩ = some (.int .i64 x) := fun i hi => by
        have hh : wr.ownsRow w.heap.size 43 2 (.slice (some ⟨w.heap.size, 0, none⟩) n n) n (ints (fs.take (2 * j) ++ List.replicate (2 * n - 2 * j) 0)) := hrow.out
        have e1 := World.ownsRow.cellAt hh (j * 2 + i) (by omega)
        rw [ints_get _ (j * 2 + i) (by have := HL.out; simp; omega)] at e1
        exact ⟨_, e1⟩
      have hfz : ∀ i, wr.frozen? ⟨w.heap.size, i, none⟩ = false := fun i => by
        have hh : wr.ownsRow w.heap.size 43 2 (.slice (some ⟨w.heap.size, 0, none⟩) n n) n (ints (fs.take (2 * j) ++ List.replicate (2 * n - 2 * j) 0)) := hrow.out
        exact hh.frozenAt i
      have HN := Lib.hid (fun w1 (h1 : Below wr.heap.size wr w1) => (show ToRelF w.heap.size w.heap.size n fs w (.int .i64 ((j : Int) + 1)) ((w1.setCell ⟨w.heap.size, j * 2, none⟩ (.int .i64 (fs.getD (2 * j) 0))).setCell ⟨w.heap.size, j * 2 + 1, none⟩ (.int .i64 (fs.getD (2 * j + 1) 0))) from ⟨j + 1, hlt, by simp, Lib.hid (halfF_next (show HalfF w1 w.heap.size w.heap.size n j fs from ownsRow_below hrow.out h1) HL.out hlt), Lib.hid (((hb.out.trans (h1.mono hb.out.size)).setCell (p := ⟨w.heap.size, j * 2, none⟩) (Nat.le_refl _) _).setCell (p := ⟨w.heap.size, j * 2 + 1, none⟩) (Nat.le_refl _) _)⟩))
      have HT := Lib.hid (fun W => toFr_any (fs.getD (2 * j) 0) (fs.getD (2 * j + 1) 0) W)
      obtain ⟨x0, y0⟩ := hcell 0 (by decide)
      have hlz : w.heap.size < wr.heap.size := block_lt_of_cell y0
      obtain ⟨x1, y1⟩ := hcell 1 (by decide)
      rw [Nat.add_zero] at y0
      have HY := Lib.hid (And.intro y0 y1)
      have HZ := Lib.hid hfz
      clear hrow hb hcell hfz y0 y1
      generalize fs.getD (2 * j) 0 = f0 at *
      generalize fs.getD (2 * j + 1) 0 = f1 at *
      go_wp2_with fail
      refine (HT.out _).mono ?_
      rintro e w1 ⟨rfl, hb1⟩
      have y0 := (hb1.cell (p := ⟨w.heap.size, j * 2, none⟩) hlz).trans HY.out.1
      have y1 := (hb1.cell (p := ⟨w.heap.size, j * 2 + 1, none⟩) hlz).trans HY.out.2
      have z0 := (hb1.frozen (p := ⟨w.heap.size, j * 2, none⟩) hlz).trans (HZ.out _)
      have z1 := (hb1.frozen (p := ⟨w.heap.size, j * 2 + 1, none⟩) hlz).trans (HZ.out _)
      have HM := Lib.hid (HN.out w1 hb1)
      clear hb1 c0 c1
      go_wp2
      go_roundw
      case rel => exact HM.out
      case measure => simp [intOf]; omega
    · obtain rfl : j = n := by omega
      have HR : Hid (OwnF wr w.heap.size (.slice (some ⟨w.heap.size, 0, none⟩) j j) j fs) := Lib.hid (by
        have := hrow.out
        unfold HalfF at this
        rw [Nat.sub_self, List.replicate_zero, List.append_nil, List.take_of_length_le (by have := HL.out; omega)] at this
        exact this)
      have HB := Lib.hid hb.out
      clear hrow hb
      go_wp2
      go_ret
      exact ⟨w.heap.size, rfl, HR.out, HB.out⟩
end Go.Proofs.YtionognmgcabbaaGreat.CpyF
