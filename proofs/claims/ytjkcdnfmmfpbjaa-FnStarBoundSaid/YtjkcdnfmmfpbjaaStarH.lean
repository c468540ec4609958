/- The star distance, of the program: printed by stargeni.py. -/
import Derived.Test.YtjkcdnfmmfpbjaaStarS
import Derived.Laws.Cover1
namespace Go.Proofs.Ytjkcdnfmmfpbjaa.Star
open Go.RowKit Go.Proofs.Ytjkcdnfmmfpbjaa Go.Proofs.Ytjkcdnfmmfpbjaa.Base Go.Proofs.Ytjkcdnfmmfpbjaa.Mem Go.Proofs.Ytjkcdnfmmfpbjaa.Inv Go.Proofs.Ytjkcdnfmmfpbjaa.Pts Go.Proofs.Ytjkcdnfmmfpbjaa.StarM Go.Proofs.Ytjkcdnfmmfpbjaa.Cpy
set_option linter.unusedVariables false
theorem cmp3 (a x : Nat) : (a < x ∧ (a < x) = True ∧ (a ≤ x) = True) ∨ (a = x ∧ (a < x) = False ∧ (a ≤ x) = True) ∨ (x < a ∧ (a < x) = False ∧ (a ≤ x) = False) := by
  rcases Nat.lt_trichotomy a x with h | h | h
  · exact .inl ⟨h, eq_true h, eq_true (by omega)⟩
  · exact .inr (.inl ⟨h, eq_false (by omega), eq_true (by omega)⟩)
  · exact .inr (.inr ⟨h, eq_false (by omega), eq_false (by omega)⟩)
theorem shl_two {n b o U : Nat} (ho : 2 ^ b = o) (hU : n * o * o = U) (hb : U ≤ 262144) : wrap64 ((n : Int) * 2 ^ (b * 2)) = (U : Int) := by
  have e : (n : Int) * 2 ^ (b * 2) = (U : Int) := by
    have h : 2 ^ (b * 2) = 2 ^ b * 2 ^ b := by rw [Nat.mul_two, Nat.pow_add]
    have e : n * 2 ^ (b * 2) = U := by rw [h, ← Nat.mul_assoc, ho, hU]
    rw [← e]; simp
  rw [e]; simp only [wrap64]; omega
theorem shl_one {n b o U : Nat} (ho : 2 ^ b = o) (hU : n * o = U) (hb : U ≤ 4096) : wrap64 ((n : Int) * 2 ^ b) = (U : Int) := by
  have e : (n : Int) * 2 ^ b = (U : Int) := by rw [← hU, ← ho]; simp
  rw [e]; simp only [wrap64]; omega
theorem max3 (M A B : Int) : (Hid (max (max M A) B = B) ∧ (M < A) = True ∧ (A < B) = True) ∨ (Hid (max (max M A) B = A) ∧ (M < A) = True ∧ (A < B) = False) ∨ (Hid (max (max M A) B = B) ∧ (M < A) = False ∧ (M < B) = True) ∨ (Hid (max (max M A) B = M) ∧ (M < A) = False ∧ (M < B) = False) := by
  by_cases h : M < A
  · by_cases h2 : A < B
    · exact .inl ⟨Lib.hid (by omega), eq_true h, eq_true h2⟩
    · exact .inr (.inl ⟨Lib.hid (by omega), eq_true h, eq_false h2⟩)
  · by_cases h2 : M < B
    · exact .inr (.inr (.inl ⟨Lib.hid (by omega), eq_false h, eq_true h2⟩))
    · exact .inr (.inr (.inr ⟨Lib.hid (by omega), eq_false h, eq_false h2⟩))
theorem prod2 (a b : Nat) (ha : a ≤ 64) (hb : b ≤ 64) : ∃ P : Nat, (a : Int) * (b : Int) = (P : Int) ∧ P ≤ 4096 ∧ a * b = P := ⟨a * b, by simp, Nat.mul_le_mul ha hb, rfl⟩
theorem prod2b (a b : Nat) (ha : a ≤ 64) (hb : b ≤ 4096) : ∃ P : Nat, (a : Int) * (b : Int) = (P : Int) ∧ P ≤ 262144 ∧ a * b = P := ⟨a * b, by simp, Nat.mul_le_mul ha hb, rfl⟩
end Go.Proofs.Ytjkcdnfmmfpbjaa.Star
