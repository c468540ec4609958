/- allIn: whether all numbers of a list lie from one number to another; lengths. -/
import Derived.Test.YtjajemdeioabkaaDoorMem
namespace Go.Proofs.YtjajemdeioabkaaDoor.AllIn
open Go.RowKit Go.Proofs.YtjajemdeioabkaaDoor Go.Proofs.YtjajemdeioabkaaDoor.Base Go.Proofs.YtjajemdeioabkaaDoor.Mem
set_option linter.unusedVariables false

def allInB (xs : List Int) (lo hi : Int) : Bool := xs.all fun x => inR x lo hi
theorem allInB_true {xs : List Int} {lo hi : Int} (h : allInB xs lo hi = true) (i : Nat) (hi' : i < xs.length) : lo ≤ xs.getD i 0 ∧ xs.getD i 0 ≤ hi := by
  have := List.all_eq_true.1 h (xs.getD i 0) (by simp [List.getD, hi'])
  exact inR_true this
theorem allInB_of {xs : List Int} {lo hi : Int} (h : ∀ i, i < xs.length → inR (xs.getD i 0) lo hi = true) : allInB xs lo hi = true := by
  refine List.all_eq_true.2 fun x hx => ?_
  obtain ⟨i, hi', rfl⟩ := List.getElem_of_mem hx
  have := h i hi'
  simpa [List.getD, hi'] using this
theorem allInB_no {xs : List Int} {lo hi : Int} {i : Nat} (h : i < xs.length) (hx : inR (xs.getD i 0) lo hi = false) : allInB xs lo hi = false := by
  cases h' : allInB xs lo hi
  · rfl
  · have := List.all_eq_true.1 h' (xs.getD i 0) (by simp [List.getD, h])
    rw [hx] at this; exact this.symm

def IdxRet (b : Bool) (w : World) (e : Ending) (w' : World) : Prop := ∃ r : Int, e = .returned (.int .i64 r) ∧ ((r = -1 ∧ b = true) ∨ (0 ≤ r ∧ b = false)) ∧ w = w'
end Go.Proofs.YtjajemdeioabkaaDoor.AllIn
