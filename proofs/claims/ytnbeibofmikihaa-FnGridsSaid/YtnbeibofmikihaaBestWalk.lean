/- The contracts of BestGrid, of the program and of the reference. -/
import Derived.Test.YtnbeibofmikihaaGridLaw
import Derived.Test.YtnbeibofmikihaaBestMath
namespace Go.Proofs.Ytnbeibofmikihaa.Grid
open Go.RowKit Go.Proofs.Ytnbeibofmikihaa Go.Proofs.Ytnbeibofmikihaa.Base
set_option linter.unusedVariables false

def bestB (n : Int) : Bool := inR n 1 400
theorem bestB_true {n : Int} (h : bestB n = true) : 1 ≤ n ∧ n ≤ 400 := inR_true h
def bestG (n : Int) : Int × Int := if bestB n = true then GridM.best n else (0, 0)
theorem ret_tup3 {k : IntKind} {a b a' b' : Int} {c d : Bool} (h : a = b) (h' : a' = b') (h'' : c = d) : Ending.returned (.tuple #[.int k a, .int k a', .bool c]) = .returned (.tuple #[.int k b, .int k b', .bool d]) := by rw [h, h', h'']

set_option maxHeartbeats 400000 in
theorem specBest_any (n : Int) (w : World) :
    Calls Try.prog 26 #[.int .i64 n] w fun e w' => e = .returned (.tuple #[.int .i64 (bestG n).1, .int .i64 (bestG n).2, .bool (bestB n)]) ∧ w = w' := by
  cases h : bestB n
  · have h' : inR n 1 400 = false := h
    have hf := Lib.hid (show bestG n = (0, 0) by simp [bestG, h])
    go_enter Try.func26, Try.ntmps26
    go_wp2_with (go_at_call 65; refine (l00In_any _ _ _ _).mono ?_; rintro e w' ⟨rfl, rfl⟩)
    go_ret3
    exact ⟨ret_tup3 (by rw [hf.out]) (by rw [hf.out]) rfl, rfl⟩
  · have h' : inR n 1 400 = true := h
    obtain ⟨h1, h2⟩ := bestB_true h
    have hf := Lib.hid (show bestG n = GridM.best n by simp [bestG, h])
    go_enter Try.func26, Try.ntmps26
    go_wp2_with (go_at_call 65; refine (l00In_any _ _ _ _).mono ?_; rintro e w' ⟨rfl, rfl⟩)
    go_loop [5, 6, 7] (fun b m k => ∃ j : Nat, k = .int .i64 j ∧ (j : Int) ≤ n ∧ b = .int .i64 (GridM.S n j).1 ∧ m = .int .i64 (GridM.S n j).2) (fun _ _ k => 500 - (intOf k).toNat)
    case atStart => exact ⟨0, rfl, by omega, rfl, rfl⟩
    case round =>
      obtain ⟨j, rfl, hj, rfl, rfl⟩ := hrel
      by_cases hlt : (j : Int) < n
      · by_cases hgt : (GridM.S n j).2 < GridM.fig n j
        · have H := Lib.hid (GridM.S_yes n j hgt)
          go_wp2_with (go_at_call 55; refine (specFig_any _ _ _ h1 h2 (by omega) (by omega)).mono ?_; rintro e w' ⟨rfl, rfl⟩)
          go_round
          case rel => exact ⟨j + 1, by go_num, by omega, by rw [H.out], by rw [H.out]⟩
          case measure => simp [intOf]; omega
        · have H := Lib.hid (GridM.S_no n j hgt)
          go_wp2_with (go_at_call 55; refine (specFig_any _ _ _ h1 h2 (by omega) (by omega)).mono ?_; rintro e w' ⟨rfl, rfl⟩)
          go_round
          case rel => exact ⟨j + 1, by go_num, by omega, by rw [H.out], by rw [H.out]⟩
          case measure => simp [intOf]; omega
      · have H := Lib.hid (GridM.S_end n j (by omega))
        go_wp2
        go_ret3
        exact ⟨ret_tup3 (by rw [hf.out, H.out]) (by rw [hf.out, H.out]) rfl, rfl⟩

set_option maxHeartbeats 400000 in
theorem implBest_any (n : Int) (w : World) :
    Calls Try.prog 19 #[.int .i64 n] w fun e w' => e = .returned (.tuple #[.int .i64 (bestG n).1, .int .i64 (bestG n).2, .bool (bestB n)]) ∧ w = w' := by
  cases h : bestB n
  · have h' : inR n 1 400 = false := h
    have hf := Lib.hid (show bestG n = (0, 0) by simp [bestG, h])
    go_enter Try.func19, Try.ntmps19
    go_wp2_with (go_at_call 58; refine (inRange_any _ _ _ _).mono ?_; rintro e w' ⟨rfl, rfl⟩)
    go_ret3
    exact ⟨ret_tup3 (by rw [hf.out]) (by rw [hf.out]) rfl, rfl⟩
  · have h' : inR n 1 400 = true := h
    obtain ⟨h1, h2⟩ := bestB_true h
    have hf := Lib.hid (show bestG n = GridM.best n by simp [bestG, h])
    go_enter Try.func19, Try.ntmps19
    go_wp2_with (go_at_call 58; refine (inRange_any _ _ _ _).mono ?_; rintro e w' ⟨rfl, rfl⟩)
    go_loop [5, 6, 13] (fun b m k => ∃ j : Nat, k = .int .i64 j ∧ (j : Int) ≤ n ∧ b = .int .i64 (GridM.S0 n j).1 ∧ m = .int .i64 (GridM.S0 n j).2) (fun _ _ k => 500 - (intOf k).toNat)
    case atStart => exact ⟨0, rfl, by omega, rfl, rfl⟩
    case round =>
      obtain ⟨j, rfl, hj, rfl, rfl⟩ := hrel
      by_cases hlt : (j : Int) < n
      · by_cases hgt : (GridM.S0 n j).2 < GridM.fig n j
        · have H := Lib.hid (GridM.S0_yes n h1 j hgt)
          go_wp2_with (go_at_call 57; refine (implFig_any _ _ _ h1 h2 (by omega) (by omega)).mono ?_; rintro e w' ⟨rfl, rfl⟩)
          go_round
          case rel => exact ⟨j + 1, by go_num, by omega, by rw [H.out], by rw [H.out]⟩
          case measure => simp [intOf]; omega
        · have H := Lib.hid (GridM.S0_no n h1 j hgt)
          go_wp2_with (go_at_call 57; refine (implFig_any _ _ _ h1 h2 (by omega) (by omega)).mono ?_; rintro e w' ⟨rfl, rfl⟩)
          go_round
          case rel => exact ⟨j + 1, by go_num, by omega, by rw [H.out], by rw [H.out]⟩
          case measure => simp [intOf]; omega
      · have H := Lib.hid (GridM.S0_end n h1 j (by omega))
        go_wp2
        go_ret3
        exact ⟨ret_tup3 (by rw [hf.out, H.out]) (by rw [hf.out, H.out]) rfl, rfl⟩

theorem exactBestGrid_any (n : Int) (w : World) :
    Calls Try.prog 7 #[.int .i64 n] w fun e w' => e = .returned (.bool true) ∧ w = w' := by
  go_enter Try.func7, Try.ntmps7
  go_wp2_with (first | (go_at_call 26; refine (specBest_any _ _).mono ?_; rintro e w' ⟨rfl, rfl⟩) | (go_at_call 19; refine (implBest_any _ _).mono ?_; rintro e w' ⟨rfl, rfl⟩))
  all_goals go_ret
  exact ⟨rfl, rfl⟩
end Go.Proofs.Ytnbeibofmikihaa.Grid
