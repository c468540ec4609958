/- Small contracts that nearly all walks use: the tests of a range, least and greatest. -/
import Derived.Test.YtnbeibofmikihaaRows
import Derived.WalkKit
import Derived.Lib.Hide
namespace Go.Proofs.Ytnbeibofmikihaa.Base
open Go.RowKit Go.Proofs.Ytnbeibofmikihaa
set_option linter.unusedVariables false

theorem ret_int {k : IntKind} {a b : Int} (h : a = b) : Ending.returned (.int k a) = .returned (.int k b) := by rw [h]
theorem ret_bool {a b : Bool} (h : a = b) : Ending.returned (.bool a) = .returned (.bool b) := by rw [h]

/-- n lies from lo to hi -/
def inR (n lo hi : Int) : Bool := decide (lo ≤ n) && decide (n ≤ hi)
theorem inR_true {n lo hi : Int} (h : inR n lo hi = true) : lo ≤ n ∧ n ≤ hi := by simpa [inR] using h
theorem inR_false {n lo hi : Int} (h : inR n lo hi = false) : ¬ (lo ≤ n ∧ n ≤ hi) := by
  intro h'; simp [inR, h'.1, h'.2] at h
theorem inR_yes {n lo hi : Int} (h : lo ≤ n ∧ n ≤ hi) : inR n lo hi = true := by simp [inR, h.1, h.2]
theorem inR_no {n lo hi : Int} (h : ¬ (lo ≤ n ∧ n ≤ hi)) : inR n lo hi = false := by
  cases h' : inR n lo hi
  · rfl
  · exact absurd (inR_true h') h

theorem inRange_any (n lo hi : Int) (w : World) :
    Calls Try.prog 58 #[.int .i64 n, .int .i64 lo, .int .i64 hi] w fun e w' => e = .returned (.bool (inR n lo hi)) ∧ w = w' := by
  by_cases h1 : lo ≤ n
  all_goals by_cases h2 : n ≤ hi
  all_goals
    go_enter Try.func58, Try.ntmps58
    go_wp2
    go_ret
    exact ⟨ret_bool (by simp [inR, h1, h2]), rfl⟩

theorem l00In_any (n lo hi : Int) (w : World) :
    Calls Try.prog 65 #[.int .i64 n, .int .i64 lo, .int .i64 hi] w fun e w' => e = .returned (.bool (inR n lo hi)) ∧ w = w' := by
  by_cases h1 : lo ≤ n
  all_goals by_cases h2 : n ≤ hi
  all_goals
    go_enter Try.func65, Try.ntmps65
    go_wp2
    go_ret
    exact ⟨ret_bool (by simp [inR, h1, h2]), rfl⟩
attribute [irreducible] inR
end Go.Proofs.Ytnbeibofmikihaa.Base
