/- Whether a net is valid, of the program and of the reference. -/
import Derived.Test.YtjajemdeioabkaaDoorPoints
import Derived.Deep.RegionHeld3
namespace Go.Proofs.YtjajemdeioabkaaDoor.NetV
open Go.RowKit Go.Proofs.YtjajemdeioabkaaDoor Go.Proofs.YtjajemdeioabkaaDoor.Base Go.Proofs.YtjajemdeioabkaaDoor.Mem Go.Proofs.YtjajemdeioabkaaDoor.AllIn Go.Proofs.YtjajemdeioabkaaDoor.Pts
set_option linter.unusedVariables false

def netB (bits : Int) (xss : List (List Int)) : Bool := inR bits 0 6 && (inR (xss.length : Int) 1 4 && xss.all (rowB bits.toNat bits.toNat))
theorem netB_true {bits : Int} {xss : List (List Int)} (h : netB bits xss = true) : 0 ≤ bits ∧ bits ≤ 6 ∧ 1 ≤ xss.length ∧ xss.length ≤ 4 ∧ xss.all (rowB bits.toNat bits.toNat) = true := by
  simp only [netB, Bool.and_eq_true] at h
  have h1 := inR_true h.1
  have h2 := inR_true h.2.1
  exact ⟨h1.1, h1.2, by omega, by omega, h.2.2⟩
/-! ### The program's answer -/
end Go.Proofs.YtjajemdeioabkaaDoor.NetV
