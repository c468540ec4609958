/- IsFull and StateCycle, of the program and of the reference, and their laws. -/
import Derived.Test.YthkogbpabdkfiaaDoorCongImpl
namespace Go.Proofs.YthkogbpabdkfiaaDoor.Cong
open Go.RowKit Go.Proofs.YthkogbpabdkfiaaDoor Go.Proofs.YthkogbpabdkfiaaDoor.Base
set_option linter.unusedVariables false

noncomputable def fullB (m f a : Int) : Bool := congB m f a && decide (CycM.perOf (stepN m.toNat f.toNat a.toNat) 0 = m)
theorem fullB_no {m f a : Int} (h : congB m f a = false) : fullB m f a = false := by simp [fullB, h]
theorem fullB_eq {m f a : Int} (h : congB m f a = true) {j n : Nat} (hc : CycM.IsCyc (stepN m.toNat f.toNat a.toNat) 0 j n) : fullB m f a = ((n : Int) - j == m) := by
  simp [fullB, h, CycM.perOf_of hc, Bool.beq_eq_decide_eq]

/-! ### StateCycle -/
def bothB (m f a x : Int) : Bool := congB m f a && inR x 0 (m - 1)
noncomputable def preB (m f a x : Int) : Int := if bothB m f a x = true then CycM.preOf (stepN m.toNat f.toNat a.toNat) x.toNat else 0
noncomputable def perB (m f a x : Int) : Int := if bothB m f a x = true then CycM.perOf (stepN m.toNat f.toNat a.toNat) x.toNat else 0
theorem preB_eq {m f a x : Int} (h : bothB m f a x = true) {j n : Nat} (hc : CycM.IsCyc (stepN m.toNat f.toNat a.toNat) x.toNat j n) : preB m f a x = j := by
  rw [preB, if_pos h, CycM.preOf_of hc]
theorem perB_eq {m f a x : Int} (h : bothB m f a x = true) {j n : Nat} (hc : CycM.IsCyc (stepN m.toNat f.toNat a.toNat) x.toNat j n) : perB m f a x = (n : Int) - j := by
  rw [perB, if_pos h, CycM.perOf_of hc]
theorem preB_no {m f a x : Int} (h : bothB m f a x = false) : preB m f a x = 0 := by rw [preB, if_neg (by simp [h])]
theorem perB_no {m f a x : Int} (h : bothB m f a x = false) : perB m f a x = 0 := by rw [perB, if_neg (by simp [h])]
theorem ret_tup3 {k : IntKind} {a b a' b' : Int} {c d : Bool} (h : a = b) (h' : a' = b') (h'' : c = d) : Ending.returned (.tuple #[.int k a, .int k a', .bool c]) = .returned (.tuple #[.int k b, .int k b', .bool d]) := by rw [h, h', h'']
theorem bothB_true {m f a x : Int} (h : bothB m f a x = true) : 2 ≤ m ∧ m ≤ 100000 ∧ 0 ≤ f ∧ f < m ∧ 0 ≤ a ∧ a < m ∧ 0 ≤ x ∧ x < m := by
  simp only [bothB, Bool.and_eq_true] at h
  have h1 := congB_true h.1
  have h2 := inR_true h.2
  omega

end Go.Proofs.YthkogbpabdkfiaaDoor.Cong
