/- The contracts of GridFigure and BestGrid, of the program and of the reference. -/
import Derived.Test.YtnbeibofmikihaaBase
import Derived.Test.YtnbeibofmikihaaGridWalk
namespace Go.Proofs.Ytnbeibofmikihaa.Grid
open Go.RowKit Go.Proofs.Ytnbeibofmikihaa Go.Proofs.Ytnbeibofmikihaa.Base
set_option linter.unusedVariables false

def gridB (n a : Int) : Bool := inR n 1 400 && inR a 0 (n - 1)
theorem gridB_true {n a : Int} (h : gridB n a = true) : 1 ≤ n ∧ n ≤ 400 ∧ 0 ≤ a ∧ a < n := by
  simp only [gridB, Bool.and_eq_true] at h
  have h1 := inR_true h.1
  have h2 := inR_true h.2
  omega
theorem gridB_yes {n a : Int} (h : 1 ≤ n ∧ n ≤ 400 ∧ 0 ≤ a ∧ a < n) : gridB n a = true := by
  simp only [gridB, Bool.and_eq_true]
  exact ⟨inR_yes (by omega), inR_yes (by omega)⟩

theorem l10Grid_any (n a : Int) (w : World) :
    Calls Try.prog 54 #[.int .i64 n, .int .i64 a] w fun e w' => e = .returned (.bool (gridB n a)) ∧ w = w' := by
  cases h : inR n 1 400
  · go_enter Try.func54, Try.ntmps54
    go_wp2_with (go_at_call 65; refine (l00In_any _ _ _ _).mono ?_; rintro e w' ⟨rfl, rfl⟩)
    go_ret
    exact ⟨ret_bool (by simp [gridB, h]), rfl⟩
  · have hb := inR_true h
    obtain ⟨hb1, hb2⟩ := hb
    go_enter Try.func54, Try.ntmps54
    go_wp2_with (go_at_call 65; refine (l00In_any _ _ _ _).mono ?_; rintro e w' ⟨rfl, rfl⟩)
    go_ret
    exact ⟨ret_bool (by simp [gridB, h]), rfl⟩
theorem isGrid_any (n a : Int) (w : World) :
    Calls Try.prog 56 #[.int .i64 n, .int .i64 a] w fun e w' => e = .returned (.bool (gridB n a)) ∧ w = w' := by
  cases h : inR n 1 400
  · go_enter Try.func56, Try.ntmps56
    go_wp2_with (go_at_call 58; refine (inRange_any _ _ _ _).mono ?_; rintro e w' ⟨rfl, rfl⟩)
    go_ret
    exact ⟨ret_bool (by simp [gridB, h]), rfl⟩
  · have hb := inR_true h
    obtain ⟨hb1, hb2⟩ := hb
    go_enter Try.func56, Try.ntmps56
    go_wp2_with (go_at_call 58; refine (inRange_any _ _ _ _).mono ?_; rintro e w' ⟨rfl, rfl⟩)
    go_ret
    exact ⟨ret_bool (by simp [gridB, h]), rfl⟩
attribute [irreducible] gridB

def gridFig (n a : Int) : Int := if gridB n a = true then GridM.fig n a else 0
theorem ret_tup2 {k : IntKind} {a b : Int} {c d : Bool} (h : a = b) (h' : c = d) : Ending.returned (.tuple #[.int k a, .bool c]) = .returned (.tuple #[.int k b, .bool d]) := by rw [h, h']

theorem specGridFigure_any (n a : Int) (w : World) :
    Calls Try.prog 15 #[.int .i64 n, .int .i64 a] w fun e w' => e = .returned (.tuple #[.int .i64 (gridFig n a), .bool (gridB n a)]) ∧ w = w' := by
  cases h : gridB n a
  · go_enter Try.func15, Try.ntmps15
    go_wp2_with (go_at_call 54; refine (l10Grid_any _ _ _).mono ?_; rintro e w' ⟨rfl, rfl⟩)
    go_ret2
    exact ⟨ret_tup2 (by simp [gridFig, h]) rfl, rfl⟩
  · obtain ⟨h1, h2, h3, h4⟩ := gridB_true h
    go_enter Try.func15, Try.ntmps15
    go_wp2_with (first | (go_at_call 54; refine (l10Grid_any _ _ _).mono ?_; rintro e w' ⟨rfl, rfl⟩) | (go_at_call 55; refine (specFig_any _ _ _ h1 h2 h3 h4).mono ?_; rintro e w' ⟨rfl, rfl⟩))
    go_ret2
    exact ⟨ret_tup2 (by simp [gridFig, h]) rfl, rfl⟩
theorem implGridFigure_any (n a : Int) (w : World) :
    Calls Try.prog 16 #[.int .i64 n, .int .i64 a] w fun e w' => e = .returned (.tuple #[.int .i64 (gridFig n a), .bool (gridB n a)]) ∧ w = w' := by
  cases h : gridB n a
  · go_enter Try.func16, Try.ntmps16
    go_wp2_with (go_at_call 56; refine (isGrid_any _ _ _).mono ?_; rintro e w' ⟨rfl, rfl⟩)
    go_ret2
    exact ⟨ret_tup2 (by simp [gridFig, h]) rfl, rfl⟩
  · obtain ⟨h1, h2, h3, h4⟩ := gridB_true h
    go_enter Try.func16, Try.ntmps16
    go_wp2_with (first | (go_at_call 56; refine (isGrid_any _ _ _).mono ?_; rintro e w' ⟨rfl, rfl⟩) | (go_at_call 57; refine (implFig_any _ _ _ h1 h2 h3 h4).mono ?_; rintro e w' ⟨rfl, rfl⟩))
    go_ret2
    exact ⟨ret_tup2 (by simp [gridFig, h]) rfl, rfl⟩
theorem exactGridFigure_any (n a : Int) (w : World) :
    Calls Try.prog 3 #[.int .i64 n, .int .i64 a] w fun e w' => e = .returned (.bool true) ∧ w = w' := by
  go_enter Try.func3, Try.ntmps3
  go_wp2_with (first | (go_at_call 15; refine (specGridFigure_any _ _ _).mono ?_; rintro e w' ⟨rfl, rfl⟩) | (go_at_call 16; refine (implGridFigure_any _ _ _).mono ?_; rintro e w' ⟨rfl, rfl⟩))
  all_goals go_ret
  exact ⟨rfl, rfl⟩
end Go.Proofs.Ytnbeibofmikihaa.Grid
