/- A register after many steps: the reference walked. -/
import Derived.Test.YtjajemdeioabkaaDoorJump
namespace Go.Proofs.YtjajemdeioabkaaDoor.Jump
open Go.RowKit Go.Proofs.YtjajemdeioabkaaDoor Go.Proofs.YtjajemdeioabkaaDoor.Base Go.Proofs.YtjajemdeioabkaaDoor.Poly Go.Proofs.YtjajemdeioabkaaDoor.Bits
set_option linter.unusedVariables false
theorem bit_test (b k : Nat) (hb : b < 9223372036854775808) : (bits .and .i64 ((b : Int) / 2 ^ k) 1 == 1) = b.testBit k := by
  have e : (b : Int) / 2 ^ k = ((b / 2 ^ k : Nat) : Int) := by simp
  have h : b / 2 ^ k ≤ b := Nat.div_le_self _ _
  rw [e, and1 _ (by omega), Nat.testBit_eq_decide_div_mod_eq]
  rcases Nat.mod_two_eq_zero_or_one (b / 2 ^ k) with h | h <;> rw [h] <;> rfl
theorem xor_shift (m a k : Nat) (hm : m < 9223372036854775808) (ha : a * 2 ^ k < 9223372036854775808) : bits .xor .i64 (m : Int) (wrap64 ((a : Int) * 2 ^ k)) = ((m ^^^ (a <<< k) : Nat) : Int) := by
  have e : (a : Int) * 2 ^ k = ((a * 2 ^ k : Nat) : Int) := by simp
  have e2 : wrap64 (((a * 2 ^ k : Nat) : Int)) = ((a * 2 ^ k : Nat) : Int) := by simp only [wrap64]; omega
  rw [e, e2, i64_xor_nat _ _ hm ha, Nat.shiftLeft_eq]
theorem or_shift (q d : Nat) (hq : q < 9223372036854775808) (hd : d ≤ 62) : bits .or .i64 (q : Int) (wrap64 (2 ^ d)) = ((q ||| 2 ^ d : Nat) : Int) := by
  have h1 : 2 ^ d ≤ 2 ^ 62 := Nat.pow_le_pow_right (by decide) hd
  have e2 : wrap64 ((2 : Int) ^ d) = ((2 ^ d : Nat) : Int) := by
    rw [show (2 : Int) ^ d = ((2 ^ d : Nat) : Int) by simp]
    generalize 2 ^ d = m at *
    simp only [wrap64]; omega
  rw [e2, i64_or_nat _ _ hq (by omega)]
/-- what a division of polynomials hands back -/
def DivRet (a b : Nat) (w : World) (e : Ending) (w' : World) : Prop := ∃ q r : Nat, e = .returned (.tuple #[.int .i64 q, .int .i64 r]) ∧ r < 2 ^ (bl b - 1) ∧ Con b r a ∧ w = w'
/-- a power of x, of degree less than W -/
def PowRet (p W N : Nat) (w : World) (e : Ending) (w' : World) : Prop := ∃ r : Nat, e = .returned (.int .i64 r) ∧ r < 2 ^ W ∧ Rep p r N ∧ w = w'
def PowRel (p W N : Nat) (n o x : Value) : Prop := ∃ (r y k A B : Nat), n = .int .i64 k ∧ o = .int .i64 r ∧ x = .int .i64 y ∧ r < 2 ^ W ∧ y < 2 ^ W ∧ k ≤ N ∧ Rep p r A ∧ Rep p y B ∧ A + B * k = N
theorem PowRel.odd {p W N k A B r y r' y' : Nat} (hW : W ≤ 16) (h1 : r < 2 ^ W) (h2 : y < 2 ^ W) (h3 : Rep p r A) (h4 : Rep p y B) (h5 : A + B * k = N) (hk : k % 2 = 1)
    (q1 : r' < 2 ^ W) (q2 : Con p r' (mulTo r y 32)) (q3 : y' < 2 ^ W) (q4 : Con p y' (mulTo y y 32)) : Rep p r' (A + B) ∧ Rep p y' (B + B) ∧ A + B + (B + B) * (k / 2) = N := by
  have hp : 2 ^ W ≤ 2 ^ 16 := Nat.pow_le_pow_right (by decide) hW
  refine ⟨(h3.mul h4 (by omega) (by omega)).con q2, (h4.mul h4 (by omega) (by omega)).con q4, ?_⟩
  have e : k = 2 * (k / 2) + 1 := by omega
  rw [e, Nat.mul_add, ← Nat.mul_assoc, Nat.mul_one] at h5
  rw [← Nat.mul_two]
  omega
theorem PowRel.even {p W N k A B y y' : Nat} (hW : W ≤ 16) (h2 : y < 2 ^ W) (h4 : Rep p y B) (h5 : A + B * k = N) (hk : ¬ k % 2 = 1)
    (q3 : y' < 2 ^ W) (q4 : Con p y' (mulTo y y 32)) : Rep p y' (B + B) ∧ A + (B + B) * (k / 2) = N := by
  have hp : 2 ^ W ≤ 2 ^ 16 := Nat.pow_le_pow_right (by decide) hW
  refine ⟨(h4.mul h4 (by omega) (by omega)).con q4, ?_⟩
  have e : k = 2 * (k / 2) := by omega
  rw [e, ← Nat.mul_assoc] at h5
  rw [← Nat.mul_two]
  omega
end Go.Proofs.YtjajemdeioabkaaDoor.Jump
