/- The reference: whether a list are chances; the bits of a source. -/
import Derived.Test.YtionognmgcabbaaMgExt19
import Derived.Test.YtionognmgcabbaaMgExt20
import Derived.Test.YtionognmgcabbaaMgExt09
import Derived.Test.YtionognmgcabbaaMgExt08
import Derived.Test.YtionognmgcabbaaMgExt01
import Derived.Deep.Slices
import Derived.Test.YtionognmgcabbaaMgExt12
import Derived.Test.YtionognmgcabbaaRows
import Derived.Below
import Derived.ChangeSame
import Derived.Carry
import Derived.OpenShut
import Derived.Lib.SmallJoins
namespace Go.Proofs.Ytionognmgcabbaa.Wide
open Go.RowKit Go.Proofs.Ytionognmgcabbaa Go.Proofs.Ytionognmgcabbaa.Base Go.Proofs.Ytionognmgcabbaa.Mem Go.Proofs.Ytionognmgcabbaa.RatM Go.Proofs.Ytionognmgcabbaa.BigM Go.Proofs.Ytionognmgcabbaa.Big Go.Proofs.Ytionognmgcabbaa.Fine Go.Proofs.Ytionognmgcabbaa.Blk Go.Proofs.Ytionognmgcabbaa.GaussM Go.Proofs.Ytionognmgcabbaa.MemF Go.Proofs.Ytionognmgcabbaa.ValF Go.Proofs.Ytionognmgcabbaa.ChM
set_option linter.unusedVariables false
set_option maxHeartbeats 1000000 in
theorem fAll_any {A : Option Addr} {c B n : Nat} {fs : List Int} (w : World) (hx : RdF w B A n fs) (hB : B ≤ w.heap.size) (hn : n ≤ 1099511627776) : Calls Try.prog 59 #[.slice A n c] w fun e w' => e = .returned (.bool (vfAll fs n)) ∧ Below w.heap.size w w' := by
  have HX := Lib.hid (hx.more hB)
  clear hx
  go_enter Try.func59, Try.ntmps59
  go_wp2
  go_loopw [3] (fun iv wr => ∃ i : Nat, iv = .int .i64 (i : Int) ∧ i ≤ n ∧ Hid (∀ j, j < i → vfB (fs.getD (2 * j) 0) (fs.getD (2 * j + 1) 0) = true) ∧ Hid (Below w.heap.size w wr)) (fun iv _ => n - (intOf iv).toNat)
  case atStart => exact ⟨0, rfl, Nat.zero_le _, Lib.hid fun j hj => absurd hj (Nat.not_lt_zero j), Lib.hid (Below.refl _ _)⟩
  case round =>
    obtain ⟨i, rfl, hi, hall, HB⟩ := hrel
    by_cases hlt : i < n
    · obtain ⟨b, off, rfl, hbl, g1, g2⟩ := (HX.out.below HB.out (Nat.le_refl _)).at hlt
      have HV := Lib.hid (fun W => validS_any (fs.getD (2 * i) 0) (fs.getD (2 * i + 1) 0) W)
      have HNO := Lib.hid (fun h => (show vfAll fs n = false from all_no hlt h))
      have HYES := Lib.hid (fun (h : vfB (fs.getD (2 * i) 0) (fs.getD (2 * i + 1) 0) = true) j (hj : j < i + 1) => (show vfB (fs.getD (2 * j) 0) (fs.getD (2 * j + 1) 0) = true by
        rcases Nat.lt_or_ge j i with h1 | h1
        · exact hall.out j h1
        · obtain rfl : j = i := by omega
          exact h))
      have hsz := HB.out.size
      generalize fs.getD (2 * i) 0 = x0 at *
      generalize fs.getD (2 * i + 1) 0 = x1 at *
      go_wp2_with fail
      refine (HV.out _).mono ?_
      rintro e w1 ⟨rfl, hb1⟩
      have HB1 := Lib.hid (Base.Below.nextA HB.out hb1)
      cases hv : vfB x0 x1 with
      | false =>
        have HE := Lib.hid (HNO.out hv)
        clear HNO HYES HV hb1 hv HB g1 g2 hall
        go_wp2
        go_ret
        exact ⟨by rw [HE.out]; rfl, HB1.out⟩
      | true =>
        have HA := Lib.hid (HYES.out hv)
        clear HNO HYES HV hb1 hv HB g1 g2 hall
        go_wp2
        go_roundw
        case rel => exact ⟨i + 1, by simp, hlt, HA, HB1⟩
        case measure => simp [intOf]; omega
    · obtain rfl : i = n := by omega
      have HE : Hid (vfAll fs i = true) := Lib.hid (all_range.2 hall.out)
      clear hall
      go_wp2
      go_ret
      exact ⟨by rw [HE.out]; rfl, HB.out⟩
theorem cmpW_zero (q r : Rat) : (cmpW q r == 0) = decide (q = r) := by
  unfold cmpW
  by_cases h : q = r
  · simp [h]
  · by_cases h2 : q < r
    · simp [h, h2]
    · simp [h, h2]
set_option maxHeartbeats 2000000 in
set_option maxRecDepth 100000 in
theorem isS_any {A : Option Addr} {c B n : Nat} {fs : List Int} (w : World) (hx : RdF w B A n fs) (hB : B ≤ w.heap.size) (hn : n ≤ 1099511627776) : Calls Try.prog 26 #[.slice A n c] w fun e w' => e = .returned (.bool (chB fs n)) ∧ Below w.heap.size w w' := by
  have HX := Lib.hid (hx.more hB)
  have HFA := Lib.hid (fAll_any (c := c) w hx hB hn)
  clear hx
  by_cases h1 : n < 1
  · have HE := Lib.hid (chB_short (fs := fs) h1)
    have h1' : (n : Int) < 1 := by omega
    go_enter Try.func26, Try.ntmps26
    go_wp2
    go_ret
    exact ⟨by rw [HE.out]; rfl, Below.refl _ _⟩
  by_cases h2 : 16 < n
  · have HE := Lib.hid (chB_long (fs := fs) h2)
    have h1' : ¬ (n : Int) < 1 := by omega
    have h2' : (16 : Int) < n := by omega
    go_enter Try.func26, Try.ntmps26
    go_wp2
    go_ret
    exact ⟨by rw [HE.out]; rfl, Below.refl _ _⟩
  have h1' : ¬ (n : Int) < 1 := by omega
  have h2' : ¬ (16 : Int) < n := by omega
  go_enter Try.func26, Try.ntmps26
  go_wp2_with fail
  refine HFA.out.mono ?_
  rintro e w1 ⟨rfl, hb1⟩
  have HB1 := Lib.hid hb1
  clear hb1
  cases hv : vfAll fs n with
  | false =>
    have HE := Lib.hid (chB_vf hv)
    go_wp2
    go_ret
    exact ⟨by rw [HE.out]; rfl, HB1.out⟩
  | true =>
    have HV := Lib.hid hv
    clear hv
    go_wp2
    go_loopw [3] (fun iv wr => ∃ i : Nat, iv = .int .i64 (i : Int) ∧ i ≤ n ∧ Hid (∀ j, j < i → decide (0 ≤ fs.getD (2 * j) 0) = true) ∧ wr = w1) (fun iv _ => n - (intOf iv).toNat)
    case atStart => exact ⟨0, rfl, Nat.zero_le _, Lib.hid fun j hj => absurd hj (Nat.not_lt_zero j), rfl⟩
    case round =>
      obtain ⟨i, rfl, hi, hall, rfl⟩ := hrel
      by_cases hlt : i < n
      · obtain ⟨b, off, rfl, hbl, g1, g2⟩ := (HX.out.below HB1.out (Nat.le_refl _)).at hlt
        have HNO := Lib.hid (fun h => (show posAll fs n = false from all_no hlt h))
        have HYES := Lib.hid (fun (h : decide (0 ≤ fs.getD (2 * i) 0) = true) j (hj : j < i + 1) => (show decide (0 ≤ fs.getD (2 * j) 0) = true by
          rcases Nat.lt_or_ge j i with h1 | h1
          · exact hall.out j h1
          · obtain rfl : j = i := by omega
            exact h))
        generalize fs.getD (2 * i) 0 = x0 at *
        generalize fs.getD (2 * i + 1) 0 = x1 at *
        by_cases hx0 : x0 < 0
        · have HE := Lib.hid (chB_neg (HNO.out (by simp; omega)))
          clear HNO HYES
          go_wp2
          go_ret
          exact ⟨by rw [HE.out]; rfl, HB1.out⟩
        · have HA := Lib.hid (HYES.out (by simp; omega))
          clear HNO HYES hall
          go_wp2
          go_roundw
          case rel => exact ⟨i + 1, by simp, hlt, HA, by first | trivial | rfl⟩
          case measure => simp [intOf]; omega
      · obtain rfl : i = n := by omega
        have HE := Lib.hid (chB_sum (fs := fs) (n := i) (by omega) (by omega) HV.out (all_range.2 hall.out))
        have HW1 := Lib.hid (wides_any (c := c) wr (HX.out.below HB1.out (Nat.le_refl _)) HB1.out.size (vfAll_true.1 HV.out) (by omega))
        have HO := Lib.hid (fun W => wideOf_any vf_one W)
        rw [qf_one] at HO
        clear hall
        go_wp2_with fail
        refine HW1.out.mono ?_
        rintro e w2 ⟨v2, cs2, rfl, hv2, hb2⟩
        have HB2 := Lib.hid (Base.Below.nextA HB1.out hb2)
        have HV2 := Lib.hid (hv2.base (Nat.zero_le _))
        clear hv2 hb2
        go_wp2_with fail
        refine (sum_any w2 HV2.out (by omega) (by omega) (by omega)).mono ?_
        rintro e w3 ⟨v3, rfl, hv3, hb3⟩
        have HB3 := Lib.hid (Base.Below.nextA HB2.out hb3)
        have HV3 := Lib.hid hv3
        clear hv3 hb3
        go_wp2_with fail
        refine (HO.out w3).mono ?_
        rintro e w4 ⟨v4, rfl, hv4, hb4⟩
        have HB4 := Lib.hid (Base.Below.nextA HB3.out hb4)
        have HV4 := Lib.hid hv4
        replace HV3 := Lib.hid (HV3.out.below hb4)
        clear hv4 hb4
        go_wp2_with fail
        refine (cmp_any w4 HV3.out HV4.out (by omega) (by omega) (by omega)).mono ?_
        rintro e w5 ⟨rfl, hb5⟩
        have HB5 := Lib.hid (Base.Below.nextA HB4.out hb5)
        have HE2 := Lib.hid (HE.out.trans (cmpW_zero _ _).symm)
        clear hb5 HE
        generalize cmpW (sumR i (fq fs)) 1 = cw at *
        go_wp2
        go_ret
        exact ⟨ret_bool HE2.out.symm, HB5.out⟩
set_option maxHeartbeats 2000000 in
set_option maxRecDepth 100000 in
theorem bitsS_any {A : Option Addr} {c B n : Nat} {fs : List Int} (w : World) (hx : RdF w B A n fs) (hB : B ≤ w.heap.size) (hn : n ≤ 1099511627776) : Calls Try.prog 54 #[.slice A n c] w fun e w' => e = .returned (.int .i64 ((bitsQ fs n : Nat) : Int)) ∧ Below w.heap.size w w' := by
  have HX := Lib.hid (hx.more hB)
  have HI := Lib.hid (fun W (h : Below w.heap.size w W) => isS_any (c := c) W (hx.below h hB) (Nat.le_trans hB h.size) hn)
  clear hx
  go_enter Try.func54, Try.ntmps54
  go_wp2
  go_loopw [3] (fun iv wr => ∃ i : Nat, iv = .int .i64 (i : Int) ∧ 1 ≤ i ∧ i ≤ 5 ∧ Hid (∀ j, 1 ≤ j → j < i → n = 2 ^ j → chB fs n = false) ∧ Hid (Below w.heap.size w wr)) (fun iv _ => 5 - (intOf iv).toNat)
  case atStart => exact ⟨1, rfl, by omega, by omega, Lib.hid fun j hj hj2 => by omega, Lib.hid (Below.refl _ _)⟩
  case round =>
    obtain ⟨i, rfl, hi1, hi, hall, HB⟩ := hrel
    have hcase : i = 1 ∨ i = 2 ∨ i = 3 ∨ i = 4 ∨ i = 5 := by omega
    rcases hcase with rfl | rfl | rfl | rfl | rfl
    · have hN : Hid (∀ b : Prop, (n = 2 → chB fs n = false) → ∀ j, 1 ≤ j → j < 1 + 1 → n = 2 ^ j → chB fs n = false) := Lib.hid fun _ hb j h1 h2 h3 => by
        rcases Nat.lt_or_ge j 1 with g | g
        · exact hall.out j h1 g h3
        · obtain rfl : j = 1 := by omega
          exact hb h3
      clear hall
      by_cases hp : n = 2
      · have hp' : ((n : Int) == 2) = true := by rw [hp]; rfl
        have HP := Lib.hid hp
        clear hp
        go_wp2_with fail
        refine (HI.out _ HB.out).mono ?_
        rintro e w1 ⟨rfl, hb1⟩
        have HB1 := Lib.hid (Base.Below.nextA HB.out hb1)
        clear hb1
        cases hc : chB fs n with
        | true =>
          have HE : Hid (bitsQ fs n = 1) := Lib.hid (by unfold bitsQ; rw [if_pos hc, HP.out]; rfl)
          clear hN
          go_wp2
          go_ret
          exact ⟨by rw [HE.out]; rfl, HB1.out⟩
        | false =>
          have HA := Lib.hid (hN.out True (fun _ => hc))
          clear hN hc
          go_wp2
          go_roundw
          case rel => exact ⟨1 + 1, by first | rfl | simp, by omega, by omega, HA, HB1⟩
          case measure => simp [intOf]
      · have hp' : ((n : Int) == 2) = false := by simp only [beq_eq_false_iff_ne]; omega
        have HA := Lib.hid (hN.out True (fun h => absurd h hp))
        clear hN hp
        go_wp2
        go_roundw
        case rel => exact ⟨1 + 1, by first | rfl | simp, by omega, by omega, HA, HB⟩
        case measure => simp [intOf]
    · have hN : Hid (∀ b : Prop, (n = 4 → chB fs n = false) → ∀ j, 1 ≤ j → j < 2 + 1 → n = 2 ^ j → chB fs n = false) := Lib.hid fun _ hb j h1 h2 h3 => by
        rcases Nat.lt_or_ge j 2 with g | g
        · exact hall.out j h1 g h3
        · obtain rfl : j = 2 := by omega
          exact hb h3
      clear hall
      by_cases hp : n = 4
      · have hp' : ((n : Int) == 4) = true := by rw [hp]; rfl
        have HP := Lib.hid hp
        clear hp
        go_wp2_with fail
        refine (HI.out _ HB.out).mono ?_
        rintro e w1 ⟨rfl, hb1⟩
        have HB1 := Lib.hid (Base.Below.nextA HB.out hb1)
        clear hb1
        cases hc : chB fs n with
        | true =>
          have HE : Hid (bitsQ fs n = 2) := Lib.hid (by unfold bitsQ; rw [if_pos hc, HP.out]; rfl)
          clear hN
          go_wp2
          go_ret
          exact ⟨by rw [HE.out]; rfl, HB1.out⟩
        | false =>
          have HA := Lib.hid (hN.out True (fun _ => hc))
          clear hN hc
          go_wp2
          go_roundw
          case rel => exact ⟨2 + 1, by first | rfl | simp, by omega, by omega, HA, HB1⟩
          case measure => simp [intOf]
      · have hp' : ((n : Int) == 4) = false := by simp only [beq_eq_false_iff_ne]; omega
        have HA := Lib.hid (hN.out True (fun h => absurd h hp))
        clear hN hp
        go_wp2
        go_roundw
        case rel => exact ⟨2 + 1, by first | rfl | simp, by omega, by omega, HA, HB⟩
        case measure => simp [intOf]
    · have hN : Hid (∀ b : Prop, (n = 8 → chB fs n = false) → ∀ j, 1 ≤ j → j < 3 + 1 → n = 2 ^ j → chB fs n = false) := Lib.hid fun _ hb j h1 h2 h3 => by
        rcases Nat.lt_or_ge j 3 with g | g
        · exact hall.out j h1 g h3
        · obtain rfl : j = 3 := by omega
          exact hb h3
      clear hall
      by_cases hp : n = 8
      · have hp' : ((n : Int) == 8) = true := by rw [hp]; rfl
        have HP := Lib.hid hp
        clear hp
        go_wp2_with fail
        refine (HI.out _ HB.out).mono ?_
        rintro e w1 ⟨rfl, hb1⟩
        have HB1 := Lib.hid (Base.Below.nextA HB.out hb1)
        clear hb1
        cases hc : chB fs n with
        | true =>
          have HE : Hid (bitsQ fs n = 3) := Lib.hid (by unfold bitsQ; rw [if_pos hc, HP.out]; rfl)
          clear hN
          go_wp2
          go_ret
          exact ⟨by rw [HE.out]; rfl, HB1.out⟩
        | false =>
          have HA := Lib.hid (hN.out True (fun _ => hc))
          clear hN hc
          go_wp2
          go_roundw
          case rel => exact ⟨3 + 1, by first | rfl | simp, by omega, by omega, HA, HB1⟩
          case measure => simp [intOf]
      · have hp' : ((n : Int) == 8) = false := by simp only [beq_eq_false_iff_ne]; omega
        have HA := Lib.hid (hN.out True (fun h => absurd h hp))
        clear hN hp
        go_wp2
        go_roundw
        case rel => exact ⟨3 + 1, by first | rfl | simp, by omega, by omega, HA, HB⟩
        case measure => simp [intOf]
    · have hN : Hid (∀ b : Prop, (n = 16 → chB fs n = false) → ∀ j, 1 ≤ j → j < 4 + 1 → n = 2 ^ j → chB fs n = false) := Lib.hid fun _ hb j h1 h2 h3 => by
        rcases Nat.lt_or_ge j 4 with g | g
        · exact hall.out j h1 g h3
        · obtain rfl : j = 4 := by omega
          exact hb h3
      clear hall
      by_cases hp : n = 16
      · have hp' : ((n : Int) == 16) = true := by rw [hp]; rfl
        have HP := Lib.hid hp
        clear hp
        go_wp2_with fail
        refine (HI.out _ HB.out).mono ?_
        rintro e w1 ⟨rfl, hb1⟩
        have HB1 := Lib.hid (Base.Below.nextA HB.out hb1)
        clear hb1
        cases hc : chB fs n with
        | true =>
          have HE : Hid (bitsQ fs n = 4) := Lib.hid (by unfold bitsQ; rw [if_pos hc, HP.out]; rfl)
          clear hN
          go_wp2
          go_ret
          exact ⟨by rw [HE.out]; rfl, HB1.out⟩
        | false =>
          have HA := Lib.hid (hN.out True (fun _ => hc))
          clear hN hc
          go_wp2
          go_roundw
          case rel => exact ⟨4 + 1, by first | rfl | simp, by omega, by omega, HA, HB1⟩
          case measure => simp [intOf]
      · have hp' : ((n : Int) == 16) = false := by simp only [beq_eq_false_iff_ne]; omega
        have HA := Lib.hid (hN.out True (fun h => absurd h hp))
        clear hN hp
        go_wp2
        go_roundw
        case rel => exact ⟨4 + 1, by first | rfl | simp, by omega, by omega, HA, HB⟩
        case measure => simp [intOf]
    · have HE : Hid (bitsQ fs n = 0) := Lib.hid (by
        have h1 := hall.out 1 (by omega) (by omega)
        have h2 := hall.out 2 (by omega) (by omega)
        have h3 := hall.out 3 (by omega) (by omega)
        have h4 := hall.out 4 (by omega) (by omega)
        unfold bitsQ
        by_cases hc : chB fs n = true
        · rw [hc] at h1 h2 h3 h4
          rw [if_pos hc, if_neg (fun e => by have := h1 e; cases this), if_neg (fun e => by have := h2 e; cases this), if_neg (fun e => by have := h3 e; cases this), if_neg (fun e => by have := h4 e; cases this)]
        · rw [if_neg hc])
      clear hall
      go_wp2
      go_ret
      exact ⟨by rw [HE.out]; rfl, HB.out⟩
end Go.Proofs.Ytionognmgcabbaa.Wide
/- Walks in memory; whether one is valid, in plain words. -/
namespace Go.Proofs.Ytionognmgcabbaa.WalkM
open Go.RowKit Go.Proofs.Ytionognmgcabbaa Go.Proofs.Ytionognmgcabbaa.Base Go.Proofs.Ytionognmgcabbaa.Mem Go.Proofs.Ytionognmgcabbaa.MemF Go.Proofs.Ytionognmgcabbaa.ChM
set_option linter.unusedVariables false
/-- n lists of fractions lie behind A, in blocks below B: list i has L i fractions, its numbers are fs i -/
def RdFF (w : World) (B : Nat) (A : Option Addr) (n : Nat) (L : Nat → Nat) (fs : Nat → List Int) : Prop :=
  0 < n → ∃ b off, A = some ⟨b, off, none⟩ ∧ b < B ∧ ∀ i, i < n → ∃ A' c, w.cell? ⟨b, off + i, none⟩ = some (.slice A' (L i) c) ∧ RdF w B A' (L i) (fs i)
theorem RdFF.below {w w' : World} {B C n : Nat} {A : Option Addr} {L : Nat → Nat} {fs : Nat → List Int} (h : RdFF w B A n L fs) (hb : Below C w w') (hBC : B ≤ C) : RdFF w' B A n L fs := fun h0 => by
  obtain ⟨b, off, e, hlt, hc⟩ := h h0
  refine ⟨b, off, e, hlt, fun i hi => ?_⟩
  obtain ⟨A', c, h1, h2⟩ := hc i hi
  exact ⟨A', c, (hb.cell (p := ⟨b, off + i, none⟩) (by show b < C; omega)).trans h1, h2.below hb hBC⟩
theorem RdFF.more {w : World} {B C n : Nat} {A : Option Addr} {L : Nat → Nat} {fs : Nat → List Int} (h : RdFF w B A n L fs) (hBC : B ≤ C) : RdFF w C A n L fs := fun h0 => by
  obtain ⟨b, off, e, hlt, hc⟩ := h h0
  refine ⟨b, off, e, by omega, fun i hi => ?_⟩
  obtain ⟨A', c, h1, h2⟩ := hc i hi
  exact ⟨A', c, h1, h2.more hBC⟩
theorem RdFF.at {w : World} {B n : Nat} {A : Option Addr} {L : Nat → Nat} {fs : Nat → List Int} (h : RdFF w B A n L fs) {i : Nat} (hi : i < n) : ∃ b off A' c, A = some ⟨b, off, none⟩ ∧ b < B ∧ w.cell? ⟨b, off + i, none⟩ = some (.slice A' (L i) c) ∧ RdF w B A' (L i) (fs i) := by
  obtain ⟨b, off, e, hlt, hc⟩ := h (by omega)
  obtain ⟨A', c, h1, h2⟩ := hc i hi
  exact ⟨b, off, A', c, e, hlt, h1, h2⟩
def rowOk (n : Nat) (L : Nat → Nat) (fs : Nat → List Int) (i : Nat) : Bool := decide (L i = n) && chB (fs i) (L i)
/-- a valid walk -/
def wkB (n : Nat) (L : Nat → Nat) (fs : Nat → List Int) : Bool := decide (1 ≤ n ∧ n ≤ 6) && (List.range n).all (rowOk n L fs)
theorem wkB_out {n : Nat} {L : Nat → Nat} {fs : Nat → List Int} (h : ¬ (1 ≤ n ∧ n ≤ 6)) : wkB n L fs = false := by
  unfold wkB; rw [decide_eq_false h]; rfl
theorem wkB_in {n : Nat} {L : Nat → Nat} {fs : Nat → List Int} (h : 1 ≤ n ∧ n ≤ 6) : wkB n L fs = (List.range n).all (rowOk n L fs) := by
  unfold wkB; rw [decide_eq_true h]; rfl
theorem wkB_true {n : Nat} {L : Nat → Nat} {fs : Nat → List Int} (h : wkB n L fs = true) : 1 ≤ n ∧ n ≤ 6 ∧ ∀ i, i < n → L i = n ∧ chB (fs i) n = true := by
  simp only [wkB, Bool.and_eq_true, decide_eq_true_eq] at h
  refine ⟨h.1.1, h.1.2, fun i hi => ?_⟩
  have := all_range.1 h.2 i hi
  simp only [rowOk, Bool.and_eq_true, decide_eq_true_eq] at this
  exact ⟨this.1, by rw [← this.1]; exact (by have h2 := this.2; rw [this.1] at h2 ⊢; exact h2)⟩
end Go.Proofs.Ytionognmgcabbaa.WalkM
/- The laws' sizes and copies of lists of fractions. -/
namespace Go.Proofs.Ytionognmgcabbaa.CpyF
open Go.RowKit Go.Proofs.Ytionognmgcabbaa Go.Proofs.Ytionognmgcabbaa.Base Go.Proofs.Ytionognmgcabbaa.Mem Go.Proofs.Ytionognmgcabbaa.Cpy Go.Proofs.Ytionognmgcabbaa.MemF Go.Proofs.Ytionognmgcabbaa.WalkM
set_option linter.unusedVariables false
theorem szF_any (A : Option Addr) (n c : Nat) (k : Int) (w : World) (hn : n ≤ 9223372036854775807) (hk : 0 ≤ k) (hk2 : k ≤ 1048576) :
    Calls Try.prog 7 #[.slice A n c, .int .i64 k] w fun e w' => ∃ r : Int, e = .returned (.int .i64 r) ∧ (r = -1 ∨ (0 ≤ r ∧ r = k - n)) ∧ w = w' := by
  by_cases h0 : k - (n : Int) < 0
  · go_enter Try.func7, Try.ntmps7
    go_wp2
    go_ret
    exact ⟨-1, rfl, .inl rfl, rfl⟩
  · go_enter Try.func7, Try.ntmps7
    go_wp2
    go_ret
    exact ⟨k - n, rfl, .inr ⟨by omega, rfl⟩, rfl⟩
/-! ### Fractions that are copied -/
theorem toFr_any (a b : Int) (w : World) : Calls Try.prog 34 #[.agg #[.int .i64 a, .int .i64 b]] w fun e w' => e = .returned (.agg #[.int .i64 a, .int .i64 b]) ∧ Below w.heap.size w w' := by
  go_enter Try.func34, Try.ntmps34
  go_wp2
  exact bodyPost_ret (v := .agg #[.int .i64 a, .int .i64 b]) (by simp [results, Try.results34, go_sem]) rfl ⟨rfl, (((Below.refl _ _).alloc (Nat.le_refl _) _).alloc (by simp) _).alloc (by simp; omega) _⟩
theorem set2_half {fs : List Int} {n j : Nat} (hl : fs.length = 2 * n) (hj : j < n) (t : Nat) (ht : t < 2) :
    (ints (fs.take (2 * j + t) ++ List.replicate (2 * n - (2 * j + t)) 0)).set (2 * j + t) (.int .i64 (fs.getD (2 * j + t) 0)) = ints (fs.take (2 * j + t + 1) ++ List.replicate (2 * n - (2 * j + t + 1)) 0) := by
  have hlt : 2 * j + t < fs.length := by omega
  rw [ints_set, List.set_append_right _ _ (by rw [List.length_take]; omega), List.length_take, Nat.min_eq_left (by omega), Nat.sub_self,
    show 2 * n - (2 * j + t) = (2 * n - (2 * j + t + 1)) + 1 by omega, List.replicate_succ, List.set_cons_zero, List.take_succ_eq_append_getElem hlt, List.append_assoc]
  simp [List.getD, hlt]
def HalfF (wr : World) (B g n j : Nat) (fs : List Int) : Prop := wr.ownsRow B 63 2 (.slice (some ⟨g, 0, none⟩) n n) n (ints (fs.take (2 * j) ++ List.replicate (2 * n - 2 * j) 0))
theorem halfF_store {wr : World} {B g n j t : Nat} {fs : List Int} (h : wr.ownsRow B 63 2 (.slice (some ⟨g, 0, none⟩) n n) n (ints (fs.take (2 * j + t) ++ List.replicate (2 * n - (2 * j + t)) 0))) (hl : fs.length = 2 * n) (hj : j < n) (ht : t < 2) :
    (wr.setCell ⟨g, 2 * j + t, none⟩ (.int .i64 (fs.getD (2 * j + t) 0))).ownsRow B 63 2 (.slice (some ⟨g, 0, none⟩) n n) n (ints (fs.take (2 * j + t + 1) ++ List.replicate (2 * n - (2 * j + t + 1)) 0)) := by
  obtain ⟨h1, h2⟩ := h.stored (2 * j + t) (.int .i64 (fs.getD (2 * j + t) 0))
  rw [set2_half hl hj t ht] at h1
  exact h1
theorem halfF_next {wr : World} {B g n j : Nat} {fs : List Int} (h : HalfF wr B g n j fs) (hl : fs.length = 2 * n) (hj : j < n) : HalfF ((wr.setCell ⟨g, j * 2, none⟩ (.int .i64 (fs.getD (2 * j) 0))).setCell ⟨g, j * 2 + 1, none⟩ (.int .i64 (fs.getD (2 * j + 1) 0))) B g n (j + 1) fs := by
  have h1 := halfF_store (t := 0) h hl hj (by decide)
  have h2 := halfF_store (t := 1) h1 hl hj (by decide)
  unfold HalfF
  rw [Nat.mul_comm j 2]
  exact h2
def ToRelF (B g n : Nat) (fs : List Int) (w : World) (i : Value) (wr : World) : Prop := ∃ j : Nat, j ≤ n ∧ i = .int .i64 (j : Int) ∧ Hid (HalfF wr B g n j fs) ∧ Hid (Below B w wr)
def zero2 : Array Value := #[.int .i64 0, .int .i64 0]
theorem zero2_at : ∀ m, m < 2 → zero2[m]! = .int .i64 0
  | 0, _ => rfl
  | 1, _ => rfl
  | n + 2, h => absurd h (by omega)
theorem made2 (n : Nat) : (madeCells zero2 (n * 2)).toList = ints (List.replicate (2 * n) 0) := by
  apply List.ext_getElem?
  intro j
  rw [Nat.mul_comm n 2]
  by_cases hj : j < 2 * n
  · have h1 := zero2_at (j % 2) (Nat.mod_lt _ (by decide))
    have h2 : zero2.size = 2 := rfl
    simp [madeCells, ints, hj, h2, h1]
  · simp [madeCells, ints, hj]
theorem run_make2 (n : Nat) (hn : n ≤ 1048576) (w : World) : (Instr.makeSlice 28 (.int .i64 (n : Int)) (.int .i64 (n : Int))).run Try.prog w = .ok (.slice (some ⟨w.heap.size, 0, none⟩) n n) (w.alloc (.cells (madeCells zero2 (n * 2)) 63)) := by
  obtain ⟨i, hi, hzz⟩ := Option.map_eq_some_iff.1 infoFr
  simp only [Prod.mk.injEq] at hzz
  obtain ⟨hz, hs, hb⟩ := hzz
  have hr := run_make (P := Try.prog) w 28 63 i _ Try.underlying28 hi hz .i64 .i64 n n (by omega) (Int.le_refl _) (by rw [hb]; omega) (by omega)
  simp only [Int.toNat_natCast, hs] at hr
  exact hr
theorem halfF_start (w : World) (n : Nat) (hn : n ≤ 1048576) (fs : List Int) : HalfF (w.alloc (.cells (madeCells zero2 (n * 2)) 63)) w.heap.size w.heap.size n 0 fs := by
  have := World.ownsRow_lit (e := 63) (size := 2) (base := w.heap.size) w (madeCells zero2 (n * 2)) n (Nat.le_refl _) (by simp [maxLen]; omega) (by rw [size_madeCells])
  rw [made2] at this
  unfold HalfF
  simpa using this
set_option maxHeartbeats 1000000 in
set_option maxRecDepth 100000 in
theorem toF_any (A : Option Addr) (c B0 n : Nat) (fs : List Int) (w : World) (hx : RdF w B0 A n fs) (hB : B0 ≤ w.heap.size) (hn : n ≤ 1048576) (hl : fs.length = 2 * n) :
    Calls Try.prog 10 #[.slice A n c] w fun e w' => ∃ g, e = .returned (.slice (some ⟨g, 0, none⟩) n n) ∧ OwnF w' w.heap.size (.slice (some ⟨g, 0, none⟩) n n) n fs ∧ Below w.heap.size w w' := by
  have HX := Lib.hid (hx.more hB)
  have HL := Lib.hid hl
  have hmk := fun w => run_make2 n hn w
  have H0 : Hid (ToRelF w.heap.size w.heap.size n fs w (.int .i64 0) (w.alloc (.cells (madeCells zero2 (n * 2)) 63))) := Lib.hid ⟨0, Nat.zero_le _, rfl, Lib.hid (halfF_start w n hn fs), Lib.hid ((Below.refl _ _).alloc (Nat.le_refl _) _)⟩
  clear hx hl
  go_enter Try.func10, Try.ntmps10
  go_wp2
  clear hmk
  go_loopw [4] (fun i wr => ToRelF w.heap.size w.heap.size n fs w i wr) (fun i _ => n - (intOf i).toNat)
  case atStart => exact H0.out
  case round =>
    obtain ⟨j, hj, rfl, hrow, hb⟩ := hrel
    by_cases hlt : j < n
    · obtain ⟨b, off, rfl, hbl, c0, c1⟩ := (HX.out.below hb.out (Nat.le_refl _)).at hlt
      have hcell : ∀ i, i < 2 → ∃ x : Int, wr.cell? ⟨w.heap.size, j * 2 + i, none⟩ = some (.int .i64 x) := fun i hi => by
        have hh : wr.ownsRow w.heap.size 63 2 (.slice (some ⟨w.heap.size, 0, none⟩) n n) n (ints (fs.take (2 * j) ++ List.replicate (2 * n - 2 * j) 0)) := hrow.out
        have e1 := World.ownsRow.cellAt hh (j * 2 + i) (by omega)
        rw [ints_get _ (j * 2 + i) (by have := HL.out; simp; omega)] at e1
        exact ⟨_, e1⟩
      have hfz : ∀ i, wr.frozen? ⟨w.heap.size, i, none⟩ = false := fun i => by
        have hh : wr.ownsRow w.heap.size 63 2 (.slice (some ⟨w.heap.size, 0, none⟩) n n) n (ints (fs.take (2 * j) ++ List.replicate (2 * n - 2 * j) 0)) := hrow.out
        exact hh.frozenAt i
      have HN := Lib.hid (fun w1 (h1 : Below wr.heap.size wr w1) => (show ToRelF w.heap.size w.heap.size n fs w (.int .i64 ((j : Int) + 1)) ((w1.setCell ⟨w.heap.size, j * 2, none⟩ (.int .i64 (fs.getD (2 * j) 0))).setCell ⟨w.heap.size, j * 2 + 1, none⟩ (.int .i64 (fs.getD (2 * j + 1) 0))) from ⟨j + 1, hlt, by simp, Lib.hid (halfF_next (show HalfF w1 w.heap.size w.heap.size n j fs from ownsRow_below hrow.out h1) HL.out hlt), Lib.hid (((hb.out.trans (h1.mono hb.out.size)).setCell (p := ⟨w.heap.size, j * 2, none⟩) (Nat.le_refl _) _).setCell (p := ⟨w.heap.size, j * 2 + 1, none⟩) (Nat.le_refl _) _)⟩))
      have HT := Lib.hid (fun W => toFr_any (fs.getD (2 * j) 0) (fs.getD (2 * j + 1) 0) W)
      obtain ⟨x0, y0⟩ := hcell 0 (by decide)
      have hlz : w.heap.size < wr.heap.size := block_lt_of_cell y0
      obtain ⟨x1, y1⟩ := hcell 1 (by decide)
      rw [Nat.add_zero] at y0
      have HY := Lib.hid (And.intro y0 y1)
      have HZ := Lib.hid hfz
      clear hrow hb hcell hfz y0 y1
      generalize fs.getD (2 * j) 0 = f0 at *
      generalize fs.getD (2 * j + 1) 0 = f1 at *
      go_wp2_with fail
      refine (HT.out _).mono ?_
      rintro e w1 ⟨rfl, hb1⟩
      have y0 := (hb1.cell (p := ⟨w.heap.size, j * 2, none⟩) hlz).trans HY.out.1
      have y1 := (hb1.cell (p := ⟨w.heap.size, j * 2 + 1, none⟩) hlz).trans HY.out.2
      have z0 := (hb1.frozen (p := ⟨w.heap.size, j * 2, none⟩) hlz).trans (HZ.out _)
      have z1 := (hb1.frozen (p := ⟨w.heap.size, j * 2 + 1, none⟩) hlz).trans (HZ.out _)
      have HM := Lib.hid (HN.out w1 hb1)
      clear hb1 c0 c1
      go_wp2
      go_roundw
      case rel => exact HM.out
      case measure => simp [intOf]; omega
    · obtain rfl : j = n := by omega
      have HR : Hid (OwnF wr w.heap.size (.slice (some ⟨w.heap.size, 0, none⟩) j j) j fs) := Lib.hid (by
        have := hrow.out
        unfold HalfF at this
        rw [Nat.sub_self, List.replicate_zero, List.append_nil, List.take_of_length_le (by have := HL.out; omega)] at this
        exact this)
      have HB := Lib.hid hb.out
      clear hrow hb
      go_wp2
      go_ret
      exact ⟨w.heap.size, rfl, HR.out, HB.out⟩
end Go.Proofs.Ytionognmgcabbaa.CpyF
/- Openers for lists of fractions, and for walks. -/
namespace Go.Proofs.Ytionognmgcabbaa.Open
open Go.ChangeShapes Go.WideShapes Go.ChangeAt Go.RowKit Go.Joins Go.Proofs.Ytionognmgcabbaa
set_option linter.unusedVariables false
set_option maxRecDepth 100000
section
variable {H : Type} {enc : TypeId × Value → H} {w : World} {base b0 : Nat} {spare : Nat → Bool} {held : Bool} {v : Value} {d : DataW H} {p : List MemPlace}
theorem cellsFi : Try.prog.cellsOf 2 = 1 := by kernel_rfl
theorem cellsFr : Try.prog.cellsOf 69 = 2 := by kernel_rfl
theorem frac_cells {n : Nat} {cs : List Value} {x : DataW H × List MemPlace} (h : DataW.trod enc Try.prog w base spare held n 69 cs = some x) : ∃ a b : Int, cs = [.int .i64 a, .int .i64 b] := by
  obtain ⟨xs, n', _, _, hl, hlen, hg⟩ := DataW.trod_struct Try.underlying69 h
  obtain ⟨a, e0⟩ := field_int hlen hg 0 _ rfl rfl
  obtain ⟨b, e1⟩ := field_int hlen hg 1 _ rfl rfl
  rw [cellsFr] at hl
  match cs, hl with
  | [c0, c1], _ =>
    simp [cellsFi] at e0 e1
    exact ⟨a, b, by rw [e0, e1]⟩
/-- a list of fractions -/
structure IsFracs (w : World) (v : Value) : Prop where
  ex : ∃ (A : Option Addr) (n c : Nat) (fs : List Int), v = .slice A n c ∧ n ≤ 9223372036854775807 ∧ fs.length = 2 * n ∧ MemF.RdF w w.heap.size A n fs
theorem fracs_of {fuel : Nat} {c0 : Value} {y : DataW H × List MemPlace} (hf : DataW.trod enc Try.prog w base (fun _ => true) held fuel 25 [c0] = some y) : IsFracs w c0 := by
  rcases Go.Deep.open_slice Try.underlying25 hf with ⟨hcs, _⟩ | ⟨x, len, cap, m, n, D, Pl, hcs, _, hl, hm, hmm, _, hx⟩
  · simp at hcs
    subst hcs
    exact ⟨none, 0, 0, [], rfl, by decide, rfl, fun h => absurd h (by simp)⟩
  · simp at hcs
    subst hcs
    simp only [if_true] at hmm
    unfold maxLen at hm
    have hs2 : 0 < m → x.spot = none := fun h0 => by
      obtain ⟨cs', h1, h2⟩ := hx 0 h0
      rw [cellsFr] at h1
      obtain ⟨a, b, rfl⟩ := frac_cells h2
      have h3 := (World.cells?_some h1).2.2 0 (by decide)
      have e : (x.add (0 * 2)).add 0 = x := by simp [Addr.add]
      rw [e] at h3
      exact World.cell?_spot h3
    have each : ∀ i, i < m → ∃ l : List Int, l.length = 2 ∧ ∀ j, j < 2 → w.cell? (x.add (i * 2 + j)) = some (.int .i64 (l.getD j 0)) := fun i hi => by
      obtain ⟨cs', h1, h2⟩ := hx i hi
      rw [cellsFr] at h1
      obtain ⟨a, b, rfl⟩ := frac_cells h2
      obtain ⟨_, _, h3⟩ := World.cells?_some h1
      refine ⟨[a, b], rfl, fun j hj => ?_⟩
      have hs2 := hs2 (by omega)
      have h4 := h3 j hj
      rw [addr_add hs2] at h4
      rw [addr_add (a := ⟨x.block, x.off + i * 2, none⟩) rfl] at h4
      rw [addr_add hs2, ← Nat.add_assoc, h4]
      match j, hj with
      | 0, _ => rfl
      | 1, _ => rfl
      | j + 2, hj => exact absurd hj (by omega)
    obtain ⟨L, hL⟩ := Go.Deep.choose_lt each
    have hlen : ((List.range (2 * len)).map fun k => (L (k / 2)).getD (k % 2) 0).length = 2 * len := by simp
    refine ⟨some x, len, cap, (List.range (2 * len)).map fun k => (L (k / 2)).getD (k % 2) 0, rfl, by omega, hlen, fun h0 => ?_⟩
    have h00 := (hL 0 (by omega)).2 0 (by decide)
    rw [Nat.zero_mul, Nat.zero_add] at h00
    obtain ⟨hs, hb⟩ := spot_of h00
    refine ⟨x.block, x.off, by cases x; simp_all, hb, fun i hi => ?_⟩
    have h5 := (hL (i / 2) (by omega)).2 (i % 2) (Nat.mod_lt _ (by decide))
    rw [Nat.mul_comm, Nat.div_add_mod] at h5
    rw [← addr_add hs, h5]
    simp [List.getD, hi]
theorem fracs (hv : Value.okWide Try.prog w .any b0 25 v) (h : DataW.Trod enc Try.prog w base (fun _ => true) held 25 v d p) : IsFracs w v := by
  obtain ⟨a, len, cap, rfl⟩ := okWide_slice Try.underlying25 hv
  obtain ⟨fuel, hf⟩ := h
  exact fracs_of (by simpa [Value.cells] using hf)
end
end Go.Proofs.Ytionognmgcabbaa.Open
/- ExtractBy: both sides, and the law. -/
namespace Go.Proofs.Ytionognmgcabbaa.ExtL
open Go.RowKit Go.Proofs.Ytionognmgcabbaa Go.Proofs.Ytionognmgcabbaa.Base Go.Proofs.Ytionognmgcabbaa.Mem Go.Proofs.Ytionognmgcabbaa.MemF Go.Proofs.Ytionognmgcabbaa.ChM Go.Proofs.Ytionognmgcabbaa.GiveM Go.Proofs.Ytionognmgcabbaa.ExtM Go.Proofs.Ytionognmgcabbaa.Ratio Go.Proofs.Ytionognmgcabbaa.Wide Go.Proofs.Ytionognmgcabbaa.Cpy Go.Proofs.Ytionognmgcabbaa.RowsS
set_option linter.unusedVariables false
theorem implExt_any (A A' : Option Addr) (c c' B n : Nat) (xs fs : List Int) (w : World) (hx : RdI w B A xs) (hy : RdF w B A' n fs) (hB : B ≤ w.heap.size) (hl : xs.length ≤ 1048576) (hn : n ≤ 1048576) :
    Calls Try.prog 21 #[.slice A xs.length c, .slice A' n c'] w (FsRet (extN xs fs n) (extR xs fs n) (extB xs fs n) w) := by
  have HE := Lib.hid (isE_any (c := c') (c' := c) w hy hB (by omega) hx hB (by omega))
  cases h : isE xs fs n with
  | false =>
    obtain ⟨e1, e2, e3⟩ := ext_no h
    rw [h] at HE
    have HEE := Lib.hid (And.intro e1 (And.intro e2 e3))
    clear h hx hy e1 e2 e3
    go_enter Try.func21, Try.ntmps21
    go_wp2_with fail
    refine HE.out.mono ?_
    rintro e w1 ⟨rfl, hb1⟩
    have HB1 := Lib.hid hb1
    clear hb1
    go_wp2
    go_ret2
    rw [HEE.out.1, HEE.out.2.1, HEE.out.2.2]
    exact FsRet.no HB1.out
  | true =>
    obtain ⟨e1, e2, e3⟩ := ext_yes h
    rw [h] at HE
    obtain ⟨hv, h16, l1, l3, hr, _⟩ := isE_true h
    have HX := Lib.hid (hx.more hB)
    have HY := Lib.hid (hy.more hB)
    have HRS := Lib.hid (fun W (hb : Below w.heap.size w W) => ratios_any (c := c') W (HY.out.below hb (Nat.le_refl _)) hb.size hv (by omega))
    have HEX := Lib.hid (fun W A2 c2 (hb : Below w.heap.size w W) (hR : RdR W A2 n (fq fs)) => extI_any (c := c2) (c' := c) W hR hv h16 (HX.out.below hb (Nat.le_refl _)) hb.size l1 l3 hr)
    have hp8 := pow_len l3
    have HEE := Lib.hid (And.intro e1 (And.intro e2 e3))
    clear h hx hy e1 e2 e3 hv hr
    go_enter Try.func21, Try.ntmps21
    go_wp2_with fail
    refine HE.out.mono ?_
    rintro e w1 ⟨rfl, hb1⟩
    have HB1 := Lib.hid hb1
    have HR1 := Lib.hid (HRS.out _ hb1)
    clear hb1 HRS
    go_wp2_with fail
    refine HR1.out.mono ?_
    rintro e w2 ⟨v, cs, rfl, ho, hb2⟩
    obtain ⟨A2, c2, rfl, _⟩ := ho.form
    have HB2 := Lib.hid (Base.Below.nextA HB1.out hb2)
    have HR2 := Lib.hid (HEX.out _ _ c2 HB2.out ho.rd)
    clear hb2 HR1 ho HEX
    go_wp2_with fail
    refine HR2.out.mono ?_
    rintro e w3 ⟨g, cs3, rfl, hR, hg, hb3⟩
    have HB3 := Lib.hid (Base.Below.nextA HB2.out hb3)
    have HF := Lib.hid (fractions_any (c := 2 ^ xs.length) w3 hR.rd (by omega))
    rw [← HEE.out.1, ← HEE.out.2.1, ← HEE.out.2.2] at HF
    clear hR hb3 HR2
    generalize 2 ^ xs.length = N at *
    go_wp2_with fail
    refine HF.out.mono ?_
    rintro e w4 ⟨A4, c4, rfl, ho4, hb4⟩
    have HO := Lib.hid (And.intro ho4 (Base.Below.nextA HB3.out hb4))
    have hs3 := HB3.out.size
    clear ho4 hb4
    go_wp2
    go_ret2
    exact ⟨A4, c4, rfl, ownsRow_base HO.out.1 hs3, HO.out.2⟩
theorem specExt_any (A A' : Option Addr) (c c' B n : Nat) (xs fs : List Int) (w : World) (hx : RdI w B A xs) (hy : RdF w B A' n fs) (hB : B ≤ w.heap.size) (hl : xs.length ≤ 1048576) (hn : n ≤ 1048576) :
    Calls Try.prog 19 #[.slice A xs.length c, .slice A' n c'] w (FsRet (extN xs fs n) (extR xs fs n) (extB xs fs n) w) := by
  have HX := Lib.hid (hx.more hB)
  have HY := Lib.hid (hy.more hB)
  have HB0 := Lib.hid (bitsS_any (c := c') w hy hB (by omega))
  have h4 := bitsQ_le fs n
  have HRW := Lib.hid (fun (h : bitsQ fs n ≠ 0) W (hb : Below w.heap.size w W) => rowsS_any (c := c) (k := bitsQ fs n) W (HX.out.below hb (Nat.le_refl _)) (by omega) (by omega) h4)
  by_cases h0 : bitsQ fs n = 0
  · have hf : isE xs fs n = false := by unfold isE; rw [h0]; rfl
    obtain ⟨e1, e2, e3⟩ := ext_no hf
    rw [h0] at HB0
    have HEE := Lib.hid (And.intro e1 (And.intro e2 e3))
    clear h0 hf hx hy e1 e2 e3 HRW
    go_enter Try.func19, Try.ntmps19
    go_wp2_with fail
    refine HB0.out.mono ?_
    rintro e w1 ⟨rfl, hb1⟩
    have HB1 := Lib.hid hb1
    clear hb1
    go_wp2
    go_ret2
    rw [HEE.out.1, HEE.out.2.1, HEE.out.2.2]
    exact FsRet.no HB1.out
  have HRX := Lib.hid (HRW.out h0)
  have hk1 : 1 ≤ bitsQ fs n := by omega
  cases h : isE xs fs n with
  | false =>
    have hrow : (inR (xs.length : Int) 1 3 && AllIn.allInB xs 0 ((2 ^ bitsQ fs n : Nat) - 1 : Int)) = false := by
      unfold isE at h
      rwa [decide_eq_true h0, Bool.true_and] at h
    obtain ⟨e1, e2, e3⟩ := ext_no h
    rw [hrow] at HRX
    have HEE := Lib.hid (And.intro e1 (And.intro e2 e3))
    clear h hx hy e1 e2 e3 HRW h0 hrow
    generalize bitsQ fs n = k at *
    go_enter Try.func19, Try.ntmps19
    go_wp2_with fail
    refine HB0.out.mono ?_
    rintro e w1 ⟨rfl, hb1⟩
    have HB1 := Lib.hid hb1
    have HR1 := Lib.hid (HRX.out _ hb1)
    clear hb1 HRX
    go_wp2_with fail
    refine HR1.out.mono ?_
    rintro e w2 ⟨rfl, rfl⟩
    go_wp2
    go_ret2
    rw [HEE.out.1, HEE.out.2.1, HEE.out.2.2]
    exact FsRet.no HB1.out
  | true =>
    obtain ⟨e1, e2, e3⟩ := ext_yes h
    obtain ⟨hv, h16, l1, l3, hr, _, q1, q2⟩ := isE_true h
    rw [q1, q2] at HRX
    have HEX := Lib.hid (fun W (hb : Below w.heap.size w W) => extS_any (c := c') (c' := c) W (HY.out.below hb (Nat.le_refl _)) hb.size hv h16 (HX.out.below hb (Nat.le_refl _)) hb.size l1 l3 hr)
    have hp8 := pow_len l3
    have HEE := Lib.hid (And.intro e1 (And.intro e2 e3))
    clear h hx hy e1 e2 e3 hv hr HRW h0 q1 q2
    generalize bitsQ fs n = k at *
    generalize 2 ^ xs.length = N at *
    go_enter Try.func19, Try.ntmps19
    go_wp2_with fail
    refine HB0.out.mono ?_
    rintro e w1 ⟨rfl, hb1⟩
    have HB1 := Lib.hid hb1
    have HR1 := Lib.hid (HRX.out _ hb1)
    clear hb1 HRX
    go_wp2_with fail
    refine HR1.out.mono ?_
    rintro e w2 ⟨rfl, rfl⟩
    have HR2 := Lib.hid (HEX.out _ HB1.out)
    clear HEX HR1
    go_wp2_with fail
    refine HR2.out.mono ?_
    rintro e w3 ⟨v, cs, rfl, ho, hb3⟩
    obtain ⟨A3, c3, rfl, _⟩ := ho.form
    have HB3 := Lib.hid (Base.Below.nextA HB1.out hb3)
    have HF := Lib.hid (giveS_any w3 (ho.base (Nat.zero_le _)) (by omega) (by omega))
    rw [← HEE.out.1, ← HEE.out.2.1, ← HEE.out.2.2] at HF
    clear ho hb3 HR2
    go_wp2_with fail
    refine HF.out.mono ?_
    rintro e w4 ⟨A4, c4, rfl, ho4, hb4⟩
    have HO := Lib.hid (And.intro ho4 (Base.Below.nextA HB3.out hb4))
    have hs3 := HB3.out.size
    clear ho4 hb4
    go_wp2
    go_ret2
    exact ⟨A4, c4, rfl, ownsRow_base HO.out.1 hs3, HO.out.2⟩
/-! ### The law (lawgen2.py) -/
set_option maxHeartbeats 4000000 in
set_option maxRecDepth 100000 in
theorem exactExt_any (A0 : Option Addr) (c0 : Nat) (A1 : Option Addr) (c1 : Nat) (xs : List Int) (n : Nat) (fs : List Int) (w : World) (hl0 : xs.length ≤ 9223372036854775807) (hx0 : RdI w w.heap.size A0 xs) (hl1 : n ≤ 9223372036854775807) (hf1 : fs.length = 2 * n) (hx1 : MemF.RdF w w.heap.size A1 n fs) :
    Calls Try.prog 5 #[.slice A0 xs.length c0, .slice A1 n c1] w fun e w' => e = .returned (.bool true) ∧ Below w.heap.size w w' := by
  have hR1 := extN_le xs fs n
  by_cases hb0 : xs.length ≤ 1048576
  case neg =>
    clear hx0
    clear hx1
    have hgt : (1048576 : Int) < (xs.length : Int) := by omega
    go_enter Try.func5, Try.ntmps5
    go_wp2
    go_ret
    exact ⟨rfl, Below.refl _ _⟩
  have HX0 := Lib.hid hx0
  have HX1 := Lib.hid hx1
  have HSZ1 := Lib.hid (fun k W hk hk2 => CpyF.szF_any A1 n c1 k W hl1 hk hk2)
  have HF1 := Lib.hid hf1
  clear hx0 hx1 hf1
  go_enter Try.func5, Try.ntmps5
  go_wp2_with fail
  refine (HSZ1.out 1048576 w (by omega) (by omega)).mono ?_
  rintro e w' ⟨r1, rfl, hr1, rfl⟩
  rcases hr1 with rfl | ⟨hr1a, hr1b⟩
  · go_wp2
    go_ret
    exact ⟨rfl, Below.refl _ _⟩
  have hb1 : n ≤ 1048576 := by omega
  clear hr1b
  have CT0 := Lib.hid (fun (W : World) (hW : Below w.heap.size w W) => toI_any A0 c0 w.heap.size xs W (HX0.out.below hW (Nat.le_refl _)) hW.size hb0)
  have CT1 := Lib.hid (fun (W : World) (hW : Below w.heap.size w W) => CpyF.toF_any A1 c1 w.heap.size n fs W (HX1.out.below hW (Nat.le_refl _)) hW.size hb1 HF1.out)
  have HS := Lib.hid (fun A c A' c' B W hx hy hB => specExt_any A A' c c' B n xs fs W hx hy hB hb0 hb1)
  have HI := Lib.hid (fun A c A' c' B W hx hy hB => implExt_any A A' c c' B n xs fs W hx hy hB hb0 hb1)
  generalize extN xs fs n = N at *
  generalize extR xs fs n = R at *
  generalize extB xs fs n = ok at *
  have hok : (ok != ok) = false := by simp
  go_wp2_with fail
  refine (CT0.out _ (Below.refl _ _)).mono ?_
  rintro e w1 ⟨g_t0, rfl, o_t0, b_w1⟩
  have B_w1 := Lib.hid (b_w1)
  have hs_w1 := (b_w1).size
  have t0 := Lib.hid o_t0
  clear b_w1 o_t0
  go_wp2_with fail
  refine (CT1.out _ B_w1.out).mono ?_
  rintro e w2 ⟨g_t1, rfl, o_t1, b_w2⟩
  have B_w2 := Lib.hid (Base.Below.nextA B_w1.out b_w2)
  have t0_w2 := Lib.hid (t0.out.below b_w2)
  have hs_w2 := (b_w2).size
  have t1 := Lib.hid o_t1
  clear b_w2 o_t1
  go_wp2_with fail
  refine (HS.out _ _ _ _ w2.heap.size w2 t0_w2.out.rd t1.out.rd (Nat.le_refl _)).mono ?_
  rintro e w3 ⟨A_s, c_s, rfl, o_s, b_w3⟩
  have B_w3 := Lib.hid (Base.Below.nextA B_w2.out b_w3)
  have hs_w3 := (b_w3).size
  have s := Lib.hid o_s
  clear b_w3 o_s
  have R3 := Lib.hid (s.out.rd)
  go_wp2_with fail
  refine (CT0.out _ B_w3.out).mono ?_
  rintro e w4 ⟨g_x0, rfl, o_x0, b_w4⟩
  have B_w4 := Lib.hid (Base.Below.nextA B_w3.out b_w4)
  have Y_w4 := Lib.hid (b_w4)
  have hs_w4 := (b_w4).size
  have x0 := Lib.hid o_x0
  clear b_w4 o_x0
  go_wp2_with fail
  refine (CT1.out _ B_w4.out).mono ?_
  rintro e w5 ⟨g_x1, rfl, o_x1, b_w5⟩
  have B_w5 := Lib.hid (Base.Below.nextA B_w4.out b_w5)
  have x0_w5 := Lib.hid (x0.out.below b_w5)
  have Y_w5 := Lib.hid (Base.Below.nextA Y_w4.out b_w5)
  have hs_w5 := (b_w5).size
  have x1 := Lib.hid o_x1
  clear b_w5 o_x1
  go_wp2_with fail
  refine (HI.out _ _ _ _ w5.heap.size w5 x0_w5.out.rd x1.out.rd (Nat.le_refl _)).mono ?_
  rintro e w6 ⟨A_g, c_g, rfl, o_g, b_w6⟩
  have B_w6 := Lib.hid (Base.Below.nextA B_w5.out b_w6)
  have x0_w6 := Lib.hid (x0_w5.out.below b_w6)
  have x1_w6 := Lib.hid (x1.out.below b_w6)
  have Y_w6 := Lib.hid (Base.Below.nextA Y_w5.out b_w6)
  have hs_w6 := (b_w6).size
  have g := Lib.hid o_g
  clear b_w6 o_g
  go_wp2_with fail
  refine (MemF.eqF_yes A_g A_s c_g c_s _ _ N R w6 g.out.rd (R3.out.below Y_w6.out (Nat.le_refl _)) (by omega) (by omega) (by omega)).mono ?_
  rintro e w7 ⟨rfl, x_w7⟩
  have B_w7 := Lib.hid (Base.Below.nextA B_w6.out x_w7)
  have x0_w7 := Lib.hid (x0_w6.out.below x_w7)
  have x1_w7 := Lib.hid (x1_w6.out.below x_w7)
  have g_w7 := Lib.hid (g.out.below x_w7)
  have Y_w7 := Lib.hid (Base.Below.nextA Y_w6.out x_w7)
  have hs_w7 := (x_w7).size
  clear x_w7
  go_wp2_with fail
  refine (CT0.out _ B_w7.out).mono ?_
  rintro e w8 ⟨g_u0, rfl, o_u0, b_w8⟩
  have B_w8 := Lib.hid (Base.Below.nextA B_w7.out b_w8)
  have x0_w8 := Lib.hid (x0_w7.out.below b_w8)
  have x1_w8 := Lib.hid (x1_w7.out.below b_w8)
  have g_w8 := Lib.hid (g_w7.out.below b_w8)
  have Y_w8 := Lib.hid (Base.Below.nextA Y_w7.out b_w8)
  have hs_w8 := (b_w8).size
  have u0 := Lib.hid o_u0
  clear b_w8 o_u0
  go_wp2_with fail
  refine (eqI_yes _ _ _ _ _ _ xs w8 x0_w8.out.rd u0.out.rd (by omega)).mono ?_
  rintro e w9 ⟨rfl, n_w9, e_w9⟩
  have x_w9 : Below w8.heap.size w8 w9 := by rw [e_w9]; exact below_drewN (Below.refl _ _) _
  clear e_w9
  have B_w9 := Lib.hid (Base.Below.nextA B_w8.out x_w9)
  have x0_w9 := Lib.hid (x0_w8.out.below x_w9)
  have x1_w9 := Lib.hid (x1_w8.out.below x_w9)
  have g_w9 := Lib.hid (g_w8.out.below x_w9)
  have Y_w9 := Lib.hid (Base.Below.nextA Y_w8.out x_w9)
  have hs_w9 := (x_w9).size
  clear x_w9
  go_wp2_with fail
  refine (CT1.out _ B_w9.out).mono ?_
  rintro e w10 ⟨g_u1, rfl, o_u1, b_w10⟩
  have B_w10 := Lib.hid (Base.Below.nextA B_w9.out b_w10)
  have x0_w10 := Lib.hid (x0_w9.out.below b_w10)
  have x1_w10 := Lib.hid (x1_w9.out.below b_w10)
  have g_w10 := Lib.hid (g_w9.out.below b_w10)
  have Y_w10 := Lib.hid (Base.Below.nextA Y_w9.out b_w10)
  have hs_w10 := (b_w10).size
  have u1 := Lib.hid o_u1
  clear b_w10 o_u1
  go_wp2_with fail
  refine (MemF.eqF_yes _ _ _ _ _ _ n fs w10 x1_w10.out.rd u1.out.rd (by omega) (by omega) (by omega)).mono ?_
  rintro e w11 ⟨rfl, x_w11⟩
  have B_w11 := Lib.hid (Base.Below.nextA B_w10.out x_w11)
  have x0_w11 := Lib.hid (x0_w10.out.below x_w11)
  have x1_w11 := Lib.hid (x1_w10.out.below x_w11)
  have g_w11 := Lib.hid (g_w10.out.below x_w11)
  have Y_w11 := Lib.hid (Base.Below.nextA Y_w10.out x_w11)
  have hs_w11 := (x_w11).size
  clear x_w11
  go_wp2_with fail
  refine (markI_any _ _ w3.heap.size (1) xs.length xs w11 rfl x0_w11.out (by omega)).mono ?_
  rintro e w12 ⟨rfl, q_w12, g_w12⟩
  have b_w12 : Below w3.heap.size w11 w12 := grown_below g_w12 (fun q hq => (ownsRow_block q_w12 hq).choose_spec.2.1) (by omega)
  have a_w12 : Above w4.heap.size w11 w12 := Above.grown g_w12 (fun q hq => (ownsRow_block x0.out hq).choose_spec.2.2)
  clear q_w12 g_w12
  have B_w12 := Lib.hid (B_w11.out.trans (b_w12.mono (by omega)))
  have Y_w12 := Lib.hid (Y_w11.out.trans (b_w12.mono (by omega)))
  have x1_w12 := Lib.hid (MemF.OwnF_above x1_w11.out (fun g h1 h2 => a_w12 g (by omega) h2))
  have g_w12 := Lib.hid (MemF.OwnF_above g_w11.out (fun g h1 h2 => a_w12 g (by omega) h2))
  have hs_w12 := b_w12.size
  clear a_w12 b_w12
  go_wp2_with fail
  refine (MemF.markF_any _ _ w4.heap.size (1 + xs.length) n fs w12 x1_w12.out (by omega)).mono ?_
  rintro e w13 ⟨rfl, q_w13, g_w13⟩
  have b_w13 : Below w4.heap.size w12 w13 := grown_below g_w13 (fun q hq => (ownsRow_block q_w13 hq).choose_spec.2.1) (by omega)
  have a_w13 : Above w5.heap.size w12 w13 := Above.grown g_w13 (fun q hq => (ownsRow_block x1.out hq).choose_spec.2.2)
  clear q_w13 g_w13
  have B_w13 := Lib.hid (B_w12.out.trans (b_w13.mono (by omega)))
  have Y_w13 := Lib.hid (Y_w12.out.trans (b_w13.mono (by omega)))
  have g_w13 := Lib.hid (MemF.OwnF_above g_w12.out (fun g h1 h2 => a_w13 g (by omega) h2))
  have hs_w13 := b_w13.size
  clear a_w13 b_w13
  have hkk : 1 + xs.length + 2 * n ≤ 1099511627776 := by omega
  go_wp2_with fail
  refine (MemF.eqF_yes A_g A_s c_g c_s _ _ N R w13 g_w13.out.rd (R3.out.below Y_w13.out (Nat.le_refl _)) (by omega) (by omega) (by omega)).mono ?_
  rintro e w14 ⟨rfl, x_w14⟩
  have B_w14 := Lib.hid (Base.Below.nextA B_w13.out x_w14)
  have g_w14 := Lib.hid (g_w13.out.below x_w14)
  have Y_w14 := Lib.hid (Base.Below.nextA Y_w13.out x_w14)
  have hs_w14 := (x_w14).size
  clear x_w14
  go_wp2_with fail
  refine (MemF.markF_any A_g c_g w5.heap.size 1 N R w14 g_w14.out (by omega)).mono ?_
  rintro e w15 ⟨rfl, o_m, g_w15⟩
  have b_w15 : Below w5.heap.size w14 w15 := grown_below g_w15 (fun q hq => (ownsRow_block o_m hq).choose_spec.2.1) (by omega)
  clear g_w15
  have OM := Lib.hid o_m
  have B_w15 := Lib.hid (B_w14.out.trans (b_w15.mono (by omega)))
  have Y_w15 := Lib.hid (Y_w14.out.trans (b_w15.mono (by omega)))
  have hs_w15 := b_w15.size
  clear o_m b_w15
  have hkR : 1 + 2 * N ≤ 1099511627776 := by omega
  go_wp2_with fail
  refine (MemF.heldF_yes A_g c_g _ 1 N w15 (MemF.OwnF.rd OM.out) (by omega)).mono ?_
  rintro e w' ⟨rfl, rfl⟩
  go_wp2_with fail
  refine (CT0.out _ B_w15.out).mono ?_
  rintro e w16 ⟨g_t0, rfl, o_t0, b_w16⟩
  have B_w16 := Lib.hid (Base.Below.nextA B_w15.out b_w16)
  have Y_w16 := Lib.hid (Base.Below.nextA Y_w15.out b_w16)
  have Z_w16 := Lib.hid (b_w16)
  have hs_w16 := (b_w16).size
  have t0 := Lib.hid o_t0
  clear b_w16 o_t0
  go_wp2_with fail
  refine (CT1.out _ B_w16.out).mono ?_
  rintro e w17 ⟨g_t1, rfl, o_t1, b_w17⟩
  have B_w17 := Lib.hid (Base.Below.nextA B_w16.out b_w17)
  have t0_w17 := Lib.hid (t0.out.below b_w17)
  have Y_w17 := Lib.hid (Base.Below.nextA Y_w16.out b_w17)
  have Z_w17 := Lib.hid (Base.Below.nextA Z_w16.out b_w17)
  have hs_w17 := (b_w17).size
  have t1 := Lib.hid o_t1
  clear b_w17 o_t1
  go_wp2_with fail
  refine (HI.out _ _ _ _ w17.heap.size w17 t0_w17.out.rd t1.out.rd (Nat.le_refl _)).mono ?_
  rintro e w18 ⟨A_h, c_h, rfl, o_h, b_w18⟩
  have B_w18 := Lib.hid (Base.Below.nextA B_w17.out b_w18)
  have Y_w18 := Lib.hid (Base.Below.nextA Y_w17.out b_w18)
  have Z_w18 := Lib.hid (Base.Below.nextA Z_w17.out b_w18)
  have hs_w18 := (b_w18).size
  have h := Lib.hid o_h
  clear b_w18 o_h
  go_wp2_with fail
  refine (MemF.eqF_yes A_h A_s c_h c_s _ _ N R w18 h.out.rd (R3.out.below Y_w18.out (Nat.le_refl _)) (by omega) (by omega) (by omega)).mono ?_
  rintro e w19 ⟨rfl, x_w19⟩
  have B_w19 := Lib.hid (Base.Below.nextA B_w18.out x_w19)
  have h_w19 := Lib.hid (h.out.below x_w19)
  have Y_w19 := Lib.hid (Base.Below.nextA Y_w18.out x_w19)
  have Z_w19 := Lib.hid (Base.Below.nextA Z_w18.out x_w19)
  have hs_w19 := (x_w19).size
  clear x_w19
  go_wp2_with fail
  refine (MemF.heldF_yes A_g c_g _ 1 N w19 (MemF.OwnF.rd (MemF.OwnF.below OM.out Z_w19.out)) (by omega)).mono ?_
  rintro e w' ⟨rfl, rfl⟩
  go_wp2
  go_ret
  exact ⟨rfl, B_w19.out⟩
theorem exactExt_v {w : World} {u v : Value} (h : Open.IsInts w u) (h' : Open.IsFracs w v) : Calls Try.prog 5 #[u, v] w fun e w' => e = .returned (.bool true) ∧ Below w.heap.size w w' := by
  obtain ⟨A, c, xs, rfl, hl, _, hx⟩ := h.ex
  obtain ⟨A', n, c', fs, rfl, hn, hf, hy⟩ := h'.ex
  exact exactExt_any A c A' c' xs n fs w hl hx hn hf hy
end Go.Proofs.Ytionognmgcabbaa.ExtL
/- The row's last step where the world behind the call is known by 'Below' alone: the arguments read as they read before, whatever their types. -/
namespace Go.Proofs.Ytionognmgcabbaa.Frame
open Go.RowKit Go.WideShapes Go.ChangeShapes Go.Joins
set_option linter.unusedVariables false
theorem laidOut : laidOutB Try.prog = true := by kernel_rfl
theorem own : ownKnob Try.prog.godebug = none := by kernel_rfl
section
variable {H : Type} {enc : TypeId × Value → H} {P : Program}
theorem trodAll_below (hl : laidOutB P = true) {W W' : World} (hb : Below W.heap.size W W') :
    ∀ {ts : List TypeId} {vs : List Value} {ds : List (DataW H)} {ps : List MemPlace}, (ts.all fun t => P.readableRec t && decide (t < P.types.size)) = true →
      DataW.TrodAll enc P W 0 (fun _ => true) true ts vs ds ps → (∀ x ∈ ps, x.block < W.heap.size) → DataW.TrodAll enc P W' 0 (fun b => decide (b < W.heap.size)) true ts vs ds ps
  | [], vs, ds, ps, _, h, _ => by
    obtain ⟨rfl, rfl, rfl⟩ := trodAll_nil h
    exact trodAll_mk0
  | t :: ts, vs, ds, ps, hr, h, hlt => by
    simp only [List.all_cons, Bool.and_eq_true, decide_eq_true_eq] at hr
    obtain ⟨v, vs', d, ds', p, q, rfl, rfl, rfl, h0, h1⟩ := trodAll_cons h
    exact trodAll_cons_mk (Below.trod hl hr.1.1 hr.1.2 h0 hb fun x hx => hlt x (List.mem_append.2 (.inl hx))) (trodAll_below hl hb hr.2 h1 fun x hx => hlt x (List.mem_append.2 (.inr hx)))
theorem post_below {f : Func} {s : ChangeSpec} {apart fresh handsOn : Bool} {W W' : World} {args : Array Value} {v : Value} {ds : List (DataW H)} {before : List MemPlace}
    (hvars0 : s.vars = []) (hl : laidOutB P = true) (hr : (f.params.toList.all fun t => P.readableRec t && decide (t < P.types.size)) = true)
    (hW : DataW.Whole enc P f.params.toList s.vars apart W args.toList ds [] before)
    (hA : DataW.TrodAll enc P W 0 (fun _ => true) true f.params.toList args.toList ds before)
    (hargs : (s.fn H (ds ++ [])).args = ds) (hvars : (s.fn H (ds ++ [])).vars = [])
    (hres : ∀ (b : Nat) (sp : Nat → Bool) (hd : Bool), DataW.TrodAll enc P W' b sp hd f.resultTypes.toList (v.resultList f.resultTypes.size) (s.fn H (ds ++ [])).results [])
    (hb : Below W.heap.size W W') : s.post enc P f apart fresh handsOn false W args v W' := by
  have hlt : ∀ p ∈ before, p.block < W.heap.size := fun p hp => hW.lt p hp
  have hA' := trodAll_below (enc := enc) hl hb hr hA hlt
  refine ⟨ds, [], before, [], before, [], hW, hres _ _ _, ?_, ?_, World.keptBut_mono (fun p hp => ⟨hp, ?_⟩) (hb.frame (· ∈ before)), fun h => by cases h⟩
  · rw [hargs]; exact hA'
  · rw [hvars, hvars0]; exact rfl
  · right; simpa using hp
end
end Go.Proofs.Ytionognmgcabbaa.Frame
