/- Whether lists are points with some bits, of the program and of the reference. -/
import Derived.Test.YtjajemdeioabkaaDoorAllIn
import Derived.Test.YtjajemdeioabkaaDoorRegSpec
import Derived.Test.YtjajemdeioabkaaDoorMem
namespace Go.Proofs.YtjajemdeioabkaaDoor.Pts
open Go.RowKit Go.Proofs.YtjajemdeioabkaaDoor Go.Proofs.YtjajemdeioabkaaDoor.Base Go.Proofs.YtjajemdeioabkaaDoor.Mem Go.Proofs.YtjajemdeioabkaaDoor.AllIn
set_option linter.unusedVariables false

/-- a row of a point list: as long as the first one, all numbers of so many bits -/
def rowB (L b : Nat) (xs : List Int) : Bool := (xs.length == L) && allInB xs 0 ((2 : Int) ^ b - 1)
def ptsB (xss : List (List Int)) (bits : Int) : Bool :=
  inR bits 0 6 && (inR (xss.length : Int) 1 64 && (inR ((xss.getD 0 []).length : Int) 1 4 && xss.all (rowB (xss.getD 0 []).length bits.toNat)))
theorem all_of {α : Type} {xs : List α} {f : α → Bool} (d : α) (h : ∀ i, i < xs.length → f (xs.getD i d) = true) : xs.all f = true := by
  refine List.all_eq_true.2 fun x hx => ?_
  obtain ⟨i, hi', rfl⟩ := List.getElem_of_mem hx
  have := h i hi'
  simpa [List.getD, hi'] using this
theorem all_no {α : Type} {xs : List α} {f : α → Bool} (d : α) {i : Nat} (h : i < xs.length) (hx : f (xs.getD i d) = false) : xs.all f = false := by
  cases h' : xs.all f
  · rfl
  · have := List.all_eq_true.1 h' (xs.getD i d) (by simp [List.getD, h])
    rw [hx] at this; exact this.symm
theorem all_at {α : Type} {xs : List α} {f : α → Bool} (d : α) {i : Nat} (h : i < xs.length) (ha : xs.all f = true) : f (xs.getD i d) = true :=
  List.all_eq_true.1 ha (xs.getD i d) (by simp [List.getD, h])
theorem ptsB_true {xss : List (List Int)} {bits : Int} (h : ptsB xss bits = true) : 0 ≤ bits ∧ bits ≤ 6 ∧ 1 ≤ xss.length ∧ xss.length ≤ 64 ∧ 1 ≤ (xss.getD 0 []).length ∧ (xss.getD 0 []).length ≤ 4 ∧ xss.all (rowB (xss.getD 0 []).length bits.toNat) = true := by
  simp only [ptsB, Bool.and_eq_true] at h
  have h1 := inR_true h.1
  have h2 := inR_true h.2.1
  have h3 := inR_true h.2.2.1
  exact ⟨h1.1, h1.2, by omega, by omega, by omega, by omega, h.2.2.2⟩
theorem pw_bd6 {b : Nat} (h : b ≤ 6) : 1 ≤ (2 : Int) ^ b ∧ (2 : Int) ^ b ≤ 64 := by
  have h1 : 2 ^ b ≤ 2 ^ 6 := Nat.pow_le_pow_right (by decide) h
  have h2 : 0 < 2 ^ b := Nat.two_pow_pos b
  have e : ((2 ^ b : Nat) : Int) = (2 : Int) ^ b := by simp
  rw [← e]; omega

/-- the reference's answer, where the heads are in order -/
def ListRet (r : Bool) (w : World) (e : Ending) (w' : World) : Prop := e = .returned (.bool r) ∧ Drawn w w'
/-! ### The program's answer -/
def IdxRet2 (b : Bool) (w : World) (e : Ending) (w' : World) : Prop := ∃ r : Int, e = .returned (.int .i64 r) ∧ ((r = -1 ∧ b = true) ∨ (0 ≤ r ∧ b = false)) ∧ Below w.heap.size w w'
end Go.Proofs.YtjajemdeioabkaaDoor.Pts
