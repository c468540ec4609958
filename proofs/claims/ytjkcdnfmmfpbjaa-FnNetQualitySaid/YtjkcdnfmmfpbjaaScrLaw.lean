/- The law on a net whose side is mixed. -/
import Derived.Test.YtjkcdnfmmfpbjaaScrS
import Derived.Test.YtjkcdnfmmfpbjaaScrJ
import Derived.Test.YtjkcdnfmmfpbjaaNetLaw
namespace Go.Proofs.Ytjkcdnfmmfpbjaa.Scr
open Go.RowKit Go.Proofs.Ytjkcdnfmmfpbjaa Go.Proofs.Ytjkcdnfmmfpbjaa.Base Go.Proofs.Ytjkcdnfmmfpbjaa.Mem Go.Proofs.Ytjkcdnfmmfpbjaa.AllIn Go.Proofs.Ytjkcdnfmmfpbjaa.Pts Go.Proofs.Ytjkcdnfmmfpbjaa.NetV Go.Proofs.Ytjkcdnfmmfpbjaa.RevNet Go.Proofs.Ytjkcdnfmmfpbjaa.Cpy Go.Proofs.Ytjkcdnfmmfpbjaa.Shift
set_option linter.unusedVariables false
theorem tot_le : ∀ (L : List (List Int)) (m : Nat), (∀ xs ∈ L, xs.length ≤ m) → tot L ≤ m * L.length
  | [], m, _ => by simp [tot]
  | x :: L, m, h => by
    have h1 := tot_le L m fun xs hx => h xs (by simp [hx])
    have h2 := h x (by simp)
    rw [tot_cons, List.length_cons, Nat.mul_add]
    omega
theorem scL_small {bits side : Int} {xss : List (List Int)} {lower : List Int} (h : scB bits xss side lower = true) : (scL xss side.toNat lower).length ≤ 4 ∧ tot (scL xss side.toNat lower) ≤ 24 := by
  simp only [scB, Bool.and_eq_true, decide_eq_true_eq] at h
  obtain ⟨n1, n2, n3, n4, n5⟩ := netB_true h.1
  have hl : lower.length ≤ 6 := by omega
  have h4 : (scL xss side.toNat lower).length ≤ 4 := by rw [scL_len]; exact n4
  refine ⟨h4, ?_⟩
  have h6 : ∀ xs ∈ scL xss side.toNat lower, xs.length ≤ 6 := by
    intro xs hx
    unfold scL at hx
    obtain ⟨d, hd, rfl⟩ := List.mem_map.1 hx
    have hd' := List.mem_range.1 hd
    obtain ⟨r1, _⟩ := row_at n5 hd'
    split
    · rw [mixR_len]; exact hl
    · rw [r1]; omega
  have := tot_le _ 6 h6
  omega
theorem sc_both (bits side : Int) (xss : List (List Int)) (lower : List Int) : ∃ bits' ok R, R.length ≤ 4 ∧ tot R ≤ 24 ∧ ∀ w e w', ScRet bits xss side lower w e w' → GNetRet bits' ok R w e w' := by
  cases h : scB bits xss side lower with
  | false => exact ⟨0, false, [], by simp, by simp [tot], fun w e w' hr => GNetRet.of_no (hr.2 h)⟩
  | true => exact ⟨bits, true, _, (scL_small h).1, (scL_small h).2, fun w e w' hr => hr.1 h⟩
end Go.Proofs.Ytjkcdnfmmfpbjaa.Scr
