/- Points that are shifted: the law. -/
import Derived.Test.YtjkcdnfmmfpbjaaShift
import Derived.Test.YtjkcdnfmmfpbjaaNetLaw
namespace Go.Proofs.Ytjkcdnfmmfpbjaa.Shift
open Go.RowKit Go.Proofs.Ytjkcdnfmmfpbjaa Go.Proofs.Ytjkcdnfmmfpbjaa.Base Go.Proofs.Ytjkcdnfmmfpbjaa.Mem Go.Proofs.Ytjkcdnfmmfpbjaa.AllIn Go.Proofs.Ytjkcdnfmmfpbjaa.Pts Go.Proofs.Ytjkcdnfmmfpbjaa.RevNet Go.Proofs.Ytjkcdnfmmfpbjaa.Bits Go.Proofs.Ytjkcdnfmmfpbjaa.Cpy
set_option linter.unusedVariables false
def shR (xss : List (List Int)) (bits : Int) (ys : List Int) : List (List Int) := if shB xss bits ys = true then shL xss ys else []
theorem shR_no {xss : List (List Int)} {bits : Int} {ys : List Int} (h : shB xss bits ys = false) : shR xss bits ys = [] := by rw [shR, if_neg (by simp [h])]
theorem RowsRet.none {w w' : World} {e : Ending} {xss : List (List Int)} {bits : Int} {ys : List Int} (h : shB xss bits ys = false) (he : e = .returned (.tuple #[.slice none 0 0, .bool false])) (hb : Below w.heap.size w w') : RowsRet (shR xss bits ys) (shB xss bits ys) w e w' := by
  rw [shR_no h, h]
  exact ⟨_, _, [], he, OwnII.nil _ _, hb⟩
/-! ### The law (laws_gen.py) -/
theorem shL_tot (xss : List (List Int)) (ys : List Int) : tot (shL xss ys) = xss.length * ys.length := by
  induction xss with
  | nil => simp [shL, tot]
  | cons xs r ih =>
    have e : shL (xs :: r) ys = shRow xs ys :: shL r ys := rfl
    rw [e, tot_cons, ih, shRow_len, List.length_cons, Nat.add_mul, Nat.one_mul, Nat.add_comm]
theorem shR_bd (xss : List (List Int)) (bits : Int) (ys : List Int) : (shR xss bits ys).length ≤ 64 ∧ tot (shR xss bits ys) ≤ 256 := by
  unfold shR
  split
  · rename_i h
    simp only [shB, Bool.and_eq_true, beq_iff_eq] at h
    obtain ⟨_, _, _, h4, _, h6, _⟩ := ptsB_true h.1
    rw [shL_len, shL_tot]
    have : xss.length * ys.length ≤ 64 * 4 := Nat.mul_le_mul h4 (by omega)
    omega
  · simp [tot]
end Go.Proofs.Ytjkcdnfmmfpbjaa.Shift
