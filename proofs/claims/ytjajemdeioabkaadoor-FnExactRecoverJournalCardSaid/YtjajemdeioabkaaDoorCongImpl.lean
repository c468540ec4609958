/- The program's congruence: validity, a step, the cycle of states. -/
import Derived.Test.YtjajemdeioabkaaDoorCongSpec
namespace Go.Proofs.YtjajemdeioabkaaDoor.Cong
open Go.RowKit Go.Proofs.YtjajemdeioabkaaDoor Go.Proofs.YtjajemdeioabkaaDoor.Base
set_option linter.unusedVariables false

theorem validCong_any (m f a : Int) (w : World) :
    Calls Tryd.prog 52 #[.agg #[.int .i64 m, .int .i64 f, .int .i64 a]] w fun e w' => e = .returned (.bool (congB m f a)) ∧ Below w.heap.size w w' := by
  cases hm : inR m 2 100000
  · go_enter Tryd.func52, Tryd.ntmps52
    go_wp2_with (go_at_call 51; refine (inRange_any _ _ _ _).mono ?_; rintro e w' ⟨rfl, rfl⟩)
    go_ret
    exact ⟨ret_bool (by simp [congB, hm]), (Below.refl _ _).alloc (Nat.le_refl _) _⟩
  · obtain ⟨b1, b2⟩ := inR_true hm
    cases hf : inR f 0 (m - 1)
    · go_enter Tryd.func52, Tryd.ntmps52
      go_wp2_with (go_at_call 51; refine (inRange_any _ _ _ _).mono ?_; rintro e w' ⟨rfl, rfl⟩)
      go_ret
      exact ⟨ret_bool (by simp [congB, hm, hf]), (Below.refl _ _).alloc (Nat.le_refl _) _⟩
    · go_enter Tryd.func52, Tryd.ntmps52
      go_wp2_with (go_at_call 51; refine (inRange_any _ _ _ _).mono ?_; rintro e w' ⟨rfl, rfl⟩)
      go_ret
      exact ⟨ret_bool (by simp [congB, hm, hf]), (Below.refl _ _).alloc (Nat.le_refl _) _⟩

end Go.Proofs.YtjajemdeioabkaaDoor.Cong
