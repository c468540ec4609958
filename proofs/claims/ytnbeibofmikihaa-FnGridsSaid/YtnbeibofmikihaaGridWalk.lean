/- The walks of the two figures of a grid. -/
import Derived.Test.YtnbeibofmikihaaRows
import Derived.Test.YtnbeibofmikihaaGridMath
import Derived.Test.YtnbeibofmikihaaBase
import Derived.Lib.Hide
namespace Go.Proofs.Ytnbeibofmikihaa.Grid
open Go.RowKit Go.Proofs.Ytnbeibofmikihaa
set_option linter.unusedVariables false

open Go.Proofs.Ytnbeibofmikihaa.Base

theorem l00Min_any (a b : Int) (w : World) :
    Calls Try.prog 93 #[.int .i64 a, .int .i64 b] w fun e w' => e = .returned (.int .i64 (min a b)) ∧ w = w' := by
  by_cases h : a < b
  · go_enter Try.func93, Try.ntmps93
    go_wp2
    go_ret
    exact ⟨ret_int (by omega), rfl⟩
  · go_enter Try.func93, Try.ntmps93
    go_wp2
    go_ret
    exact ⟨ret_int (by omega), rfl⟩

set_option maxHeartbeats 400000 in
theorem specFig_any (n a : Int) (w : World) (h1 : 1 ≤ n) (h2 : n ≤ 400) (h3 : 0 ≤ a) (h4 : a < n) :
    Calls Try.prog 55 #[.int .i64 n, .int .i64 a] w fun e w' => e = .returned (.int .i64 (GridM.fig n a)) ∧ w = w' := by
  have hnn : n * n ≤ 160000 := by have := GridM.mul_le2 (a := n) (b := n) (c := 400) (d := 400) (by omega) (by omega) h2 h2; omega
  have hn0 : 0 ≤ n * n := GridM.sq_nonneg n
  go_enter Try.func55, Try.ntmps55
  go_wp2
  go_loop [5, 6] (fun b k => ∃ m : Nat, k = .int .i64 m ∧ (m : Int) ≤ n + 1 ∧ b = .int .i64 (GridM.B n a (m - 1))) (fun _ k => 500 - (intOf k).toNat)
  case atStart => exact ⟨0, rfl, by omega, rfl⟩
  case round =>
    obtain ⟨m, rfl, hm, rfl⟩ := hrel
    have hb0 := GridM.B_nonneg n a (m - 1)
    have hb1 : GridM.B n a (m - 1) ≤ 160000 := by have := GridM.B_le n a (m - 1); omega
    have hp0 := GridM.sq_nonneg (m : Int)
    have hp1 : (m : Int) * m ≤ 160801 := by have := GridM.mul_le2 (a := (m : Int)) (b := (m : Int)) (c := 401) (d := 401) (by omega) (by omega) (by omega) (by omega); omega
    by_cases hlt : (m : Int) * m ≤ GridM.B n a (m - 1)
    · have hmn : (m : Int) ≤ n := GridM.sq_lt_of n m (by omega) (by have := GridM.B_le n a (m - 1); omega)
      have ha0 : 0 ≤ a * (m : Int) := Int.mul_nonneg h3 (by omega)
      have ha1 : a * (m : Int) ≤ 160000 := by have := GridM.mul_le2 (a := a) (b := (m : Int)) (c := 400) (d := 400) (by omega) (by omega) (by omega) (by omega); omega
      have hq0 : 0 ≤ a * (m : Int) % n := Int.emod_nonneg _ (by omega)
      have hq1 : a * (m : Int) % n < n := Int.emod_lt_of_pos _ (by omega)
      have hr0 : 0 ≤ -(a * (m : Int) % n) % n := Int.emod_nonneg _ (by omega)
      have hr1 : -(a * (m : Int) % n) % n < n := Int.emod_lt_of_pos _ (by omega)
      have hs0 := GridM.sq_nonneg (-(a * (m : Int) % n) % n)
      have hs1 : -(a * (m : Int) % n) % n * (-(a * (m : Int) % n) % n) ≤ 160000 := by have := GridM.mul_le2 (c := 400) (d := 400) hr0 hr0 (by omega) (by omega); omega
      have ht0 := GridM.sq_nonneg (n - -(a * (m : Int) % n) % n)
      have ht1 : (n - -(a * (m : Int) % n) % n) * (n - -(a * (m : Int) % n) % n) ≤ 160000 := by
        have := GridM.mul_le2 (a := n - -(a * (m : Int) % n) % n) (b := n - -(a * (m : Int) % n) % n) (c := 400) (d := 400) (by omega) (by omega) (by omega) (by omega); omega
      by_cases hz : 0 < m
      · go_wp2_with (go_at_call 93; refine (l00Min_any _ _ _).mono ?_; rintro e w' ⟨rfl, rfl⟩)
        go_round
        case rel => exact ⟨m + 1, by go_num, by omega, by rw [GridM.B_next n a m (by omega)]⟩
        case measure => simp [intOf]; omega
      · obtain rfl : m = 0 := by omega
        go_wp2
        go_round
        case rel => exact ⟨1, by go_num, by omega, rfl⟩
        case measure => simp [intOf]
    · have hfin : GridM.fig n a = GridM.B n a (m - 1) := GridM.fig_of n a h1 (m - 1) (by
        rcases Nat.eq_zero_or_pos m with h | h
        · subst h; exfalso; apply hlt; simpa using GridM.B_nonneg n a (0 - 1)
        · rw [show (((m - 1 : Nat) : Int) + 1) = (m : Int) from by omega]; omega)
      have H := Lib.hid hfin; clear hfin
      go_wp2
      go_ret
      exact ⟨ret_int H.out.symm, rfl⟩

theorem floorMod_any (x n : Int) (w : World) (h1 : 1 ≤ n) (h2 : n ≤ 100000) (h3 : -100000000000 ≤ x) (h4 : x ≤ 100000000000) :
    Calls Try.prog 94 #[.int .i64 x, .int .i64 n] w fun e w' => e = .returned (.int .i64 (x % n)) ∧ w = w' := by
  have hfin : (x.tmod n + n) % n = x % n := by
    rw [Int.add_emod_right, GridM.tmod_emod]
  obtain ⟨hb, ha⟩ := GridM.tmod_bd x n h1
  have H := Lib.hid hfin; clear hfin
  go_enter Try.func94, Try.ntmps94
  go_wp2
  go_ret
  exact ⟨ret_int H.out, rfl⟩

set_option maxHeartbeats 400000 in
theorem implFig_any (n a : Int) (w : World) (h1 : 1 ≤ n) (h2 : n ≤ 400) (h3 : 0 ≤ a) (h4 : a < n) :
    Calls Try.prog 57 #[.int .i64 n, .int .i64 a] w fun e w' => e = .returned (.int .i64 (GridM.fig n a)) ∧ w = w' := by
  have hnn : n * n ≤ 160000 := by have := GridM.mul_le2 (a := n) (b := n) (c := 400) (d := 400) (by omega) (by omega) h2 h2; omega
  have hn0 : 0 ≤ n * n := GridM.sq_nonneg n
  go_enter Try.func57, Try.ntmps57
  go_wp2
  go_loop [5, 6] (fun b k => ∃ m : Nat, k = .int .i64 m ∧ 1 ≤ m ∧ (m : Int) ≤ n + 1 ∧ b = .int .i64 (GridM.B n a (m - 1))) (fun _ k => 500 - (intOf k).toNat)
  case atStart => exact ⟨1, rfl, by omega, by omega, rfl⟩
  case round =>
    obtain ⟨m, rfl, hm1, hm, rfl⟩ := hrel
    have hb0 := GridM.B_nonneg n a (m - 1)
    have hb1 : GridM.B n a (m - 1) ≤ 160000 := by have := GridM.B_le n a (m - 1); omega
    have hp0 := GridM.sq_nonneg (m : Int)
    have hp1 : (m : Int) * m ≤ 160801 := by have := GridM.mul_le2 (a := (m : Int)) (b := (m : Int)) (c := 401) (d := 401) (by omega) (by omega) (by omega) (by omega); omega
    by_cases hlt : (m : Int) * m < GridM.B n a (m - 1)
    · have hmn : (m : Int) ≤ n := GridM.sq_lt_of n m (by omega) (by have := GridM.B_le n a (m - 1); omega)
      have ha0 : 0 ≤ a * (m : Int) := Int.mul_nonneg h3 (by omega)
      have ha1 : a * (m : Int) ≤ 160000 := by have := GridM.mul_le2 (a := a) (b := (m : Int)) (c := 400) (d := 400) (by omega) (by omega) (by omega) (by omega); omega
      have ha2 : -a * (m : Int) = -(a * (m : Int)) := Int.neg_mul _ _
      have hr0 : 0 ≤ -(a * (m : Int)) % n := Int.emod_nonneg _ (by omega)
      have hr1 : -(a * (m : Int)) % n < n := Int.emod_lt_of_pos _ (by omega)
      have hs0 := GridM.sq_nonneg (-(a * (m : Int)) % n)
      have hs1 : -(a * (m : Int)) % n * (-(a * (m : Int)) % n) ≤ 160000 := by have := GridM.mul_le2 (c := 400) (d := 400) hr0 hr0 (by omega) (by omega); omega
      have ht0 := GridM.sq_nonneg (n - -(a * (m : Int)) % n)
      have ht1 : (n - -(a * (m : Int)) % n) * (n - -(a * (m : Int)) % n) ≤ 160000 := by
        have := GridM.mul_le2 (a := n - -(a * (m : Int)) % n) (b := n - -(a * (m : Int)) % n) (c := 400) (d := 400) (by omega) (by omega) (by omega) (by omega); omega
      have H := Lib.hid (GridM.B_next' n a m hm1 h1)
      by_cases hsd : n - -(a * (m : Int)) % n < -(a * (m : Int)) % n
      · have hle := GridM.mul_le2 (a := n - -(a * (m : Int)) % n) (b := n - -(a * (m : Int)) % n) (by omega) (by omega) (Int.le_of_lt hsd) (Int.le_of_lt hsd)
        by_cases hup : (n - -(a * (m : Int)) % n) * (n - -(a * (m : Int)) % n) + (m : Int) * m < GridM.B n a (m - 1)
        all_goals
          go_wp2_with (go_at_call 94; refine (floorMod_any _ _ _ (by omega) (by omega) (by omega) (by omega)).mono ?_; rintro e w' ⟨rfl, rfl⟩)
          go_round
          case rel => exact ⟨m + 1, by go_num, by omega, by omega, by rw [H.out]; congr 1; omega⟩
          case measure => simp [intOf]; omega
      · have hle := GridM.mul_le2 (a := -(a * (m : Int)) % n) (b := -(a * (m : Int)) % n) (c := n - -(a * (m : Int)) % n) (d := n - -(a * (m : Int)) % n) hr0 hr0 (by omega) (by omega)
        by_cases hup : -(a * (m : Int)) % n * (-(a * (m : Int)) % n) + (m : Int) * m < GridM.B n a (m - 1)
        all_goals
          go_wp2_with (go_at_call 94; refine (floorMod_any _ _ _ (by omega) (by omega) (by omega) (by omega)).mono ?_; rintro e w' ⟨rfl, rfl⟩)
          go_round
          case rel => exact ⟨m + 1, by go_num, by omega, by omega, by rw [H.out]; congr 1; omega⟩
          case measure => simp [intOf]; omega
    · have hfin : GridM.fig n a = GridM.B n a (m - 1) := GridM.fig_of n a h1 (m - 1) (by
        rw [show (((m - 1 : Nat) : Int) + 1) = (m : Int) from by omega]; omega)
      have H := Lib.hid hfin; clear hfin
      go_wp2
      go_ret
      exact ⟨ret_int H.out.symm, rfl⟩
