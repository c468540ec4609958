/- Plain mathematics of radical inverses: a number's and that of the number without its last digit. -/
import Derived.Test.YtjkcdnfmmfpbjaaInvS
namespace Go.Proofs.Ytjkcdnfmmfpbjaa.Inv
open Go.RowKit Go.Proofs.Ytjkcdnfmmfpbjaa Go.Proofs.Ytjkcdnfmmfpbjaa.Base
set_option linter.unusedVariables false
theorem inv_zero (b : Nat) : invV 0 b = 0 ∧ invU 0 b = 1 := by
  unfold invV invU
  rw [invs_done]
  exact ⟨rfl, rfl⟩
theorem invs_split {b : Nat} (hb : 2 ≤ b) : ∀ (n v u : Nat), invs b n v u = (v * invU n b + invV n b, u * invU n b) := by
  intro n
  induction n using Nat.strongRecOn with
  | _ n ih =>
    intro v u
    rcases Nat.eq_zero_or_pos n with rfl | h
    · rw [invs_done, (inv_zero b).1, (inv_zero b).2]; simp
    · have hlt : n / b < n := Nat.div_lt_self h hb
      have e1 : invV n b = n % b * invU (n / b) b + invV (n / b) b := by
        show (invs b n 0 1).1 = _
        rw [← invs_step h hb, ih _ hlt]; simp
      have e2 : invU n b = b * invU (n / b) b := by
        show (invs b n 0 1).2 = _
        rw [← invs_step h hb, ih _ hlt]; simp
      rw [← invs_step h hb, ih _ hlt, e1, e2]
      congr 1
      · rw [Nat.add_mul, Nat.add_assoc, Nat.mul_assoc]
      · rw [Nat.mul_assoc]
theorem inv_step {n b : Nat} (h : 0 < n) (hb : 2 ≤ b) : invV n b = n % b * invU (n / b) b + invV (n / b) b ∧ invU n b = b * invU (n / b) b := by
  constructor
  · show (invs b n 0 1).1 = _
    rw [← invs_step h hb, invs_split hb]; simp
  · show (invs b n 0 1).2 = _
    rw [← invs_step h hb, invs_split hb]; simp
theorem inv_bd {n b : Nat} (hn : n ≤ 1000000) (hb : 2 ≤ b) (hb' : b ≤ 36) : invV n b < invU n b ∧ invU n b ≤ 36000000 := by
  have key : ∀ m v u, InvSt b m v u (invV n b) (invU n b) → invV n b < invU n b ∧ invU n b ≤ 36000000 := by
    intro m
    induction m using Nat.strongRecOn with
    | _ m ih =>
      intro v u h
      rcases Nat.eq_zero_or_pos m with rfl | hm
      · exact h.done.2.2
      · exact ih _ (Nat.div_lt_self hm hb) _ _ (h.next hm hb hb')
  exact key n 0 1 (InvSt.start hn)
/-- what the law asks of the fractions -/
structure InvLaw (n b : Nat) (P1 Q1 P2 Q2 : Int) : Prop where
  p1 : 0 ≤ P1
  q1 : 1 ≤ Q1
  lt : P1 < Q1
  le : Q1 ≤ 36000000
  p2 : 0 ≤ P2
  q2 : 1 ≤ Q2
  lt2 : P2 < Q2
  le2 : Q2 ≤ 36000000
  eq : (P1 * b - ((n % b : Nat) : Int) * Q1) * Q2 = P2 * Q1
theorem low_bd {v u : Nat} (h : v < u) (hu : u ≤ 36000000) : 1 ≤ u / Nat.gcd v u ∧ v / Nat.gcd v u < u / Nat.gcd v u ∧ u / Nat.gcd v u ≤ 36000000 := by
  have hg : 0 < Nat.gcd v u := Nat.gcd_pos_of_pos_right v (by omega)
  have e1 := Nat.mul_div_cancel' (Nat.gcd_dvd_left v u)
  have e2 := Nat.mul_div_cancel' (Nat.gcd_dvd_right v u)
  have hlt : v / Nat.gcd v u < u / Nat.gcd v u := by
    refine Nat.lt_of_mul_lt_mul_left (a := Nat.gcd v u) ?_
    rw [e1, e2]; exact h
  exact ⟨Nat.lt_of_le_of_lt (Nat.zero_le _) hlt, hlt, Nat.le_trans (Nat.div_le_self _ _) hu⟩
theorem inv_law {n b : Nat} (hn : n ≤ 1000000) (hb : 2 ≤ b) (hb' : b ≤ 36) : InvLaw n b (numOf n b) (denOf n b) (numOf ((n / b : Nat) : Int) b) (denOf ((n / b : Nat) : Int) b) := by
  have hB1 : invB (n : Int) (b : Int) = true := by simp [invB, inR]; omega
  have hm : n / b ≤ 1000000 := Nat.le_trans (Nat.div_le_self _ _) hn
  have hB2 : invB ((n / b : Nat) : Int) (b : Int) = true := by simp only [invB, inR, Bool.and_eq_true, decide_eq_true_eq]; generalize n / b = m at *; omega
  have e1 : numOf n b = ((invV n b / Nat.gcd (invV n b) (invU n b) : Nat) : Int) := by simp [numOf, hB1]
  have e2 : denOf n b = ((invU n b / Nat.gcd (invV n b) (invU n b) : Nat) : Int) := by simp [denOf, hB1]
  have e3 : numOf ((n / b : Nat) : Int) b = ((invV (n / b) b / Nat.gcd (invV (n / b) b) (invU (n / b) b) : Nat) : Int) := by rw [numOf, if_pos hB2, Int.toNat_natCast, Int.toNat_natCast]
  have e4 : denOf ((n / b : Nat) : Int) b = ((invU (n / b) b / Nat.gcd (invV (n / b) b) (invU (n / b) b) : Nat) : Int) := by rw [denOf, if_pos hB2, Int.toNat_natCast, Int.toNat_natCast]
  rw [e1, e2, e3, e4]
  clear e1 e2 e3 e4
  obtain ⟨a1, a2⟩ := inv_bd hn hb hb'
  obtain ⟨a3, a4⟩ := inv_bd hm hb hb'
  obtain ⟨l1, l2, l3⟩ := low_bd a1 a2
  obtain ⟨l4, l5, l6⟩ := low_bd a3 a4
  have hg1 : 0 < Nat.gcd (invV n b) (invU n b) := Nat.gcd_pos_of_pos_right _ (by omega)
  have hg2 : 0 < Nat.gcd (invV (n / b) b) (invU (n / b) b) := Nat.gcd_pos_of_pos_right _ (by omega)
  have f1 := Nat.mul_div_cancel' (Nat.gcd_dvd_left (invV n b) (invU n b))
  have f2 := Nat.mul_div_cancel' (Nat.gcd_dvd_right (invV n b) (invU n b))
  have f3 := Nat.mul_div_cancel' (Nat.gcd_dvd_left (invV (n / b) b) (invU (n / b) b))
  have f4 := Nat.mul_div_cancel' (Nat.gcd_dvd_right (invV (n / b) b) (invU (n / b) b))
  have hk : (invV n b * b : Int) - ((n % b : Nat) : Int) * invU n b = invV (n / b) b * b := by
    rcases Nat.eq_zero_or_pos n with rfl | h
    · rw [Nat.zero_div, (inv_zero b).1, (inv_zero b).2]; simp
    · obtain ⟨s1, s2⟩ := inv_step h hb
      rw [s1, s2]
      push_cast
      grind
  have hk2 : (invU n b : Int) = b * invU (n / b) b ∨ (invV (n / b) b = 0) := by
    rcases Nat.eq_zero_or_pos n with rfl | h
    · right; rw [Nat.zero_div]; exact (inv_zero b).1
    · left; rw [(inv_step h hb).2]; simp
  generalize Nat.gcd (invV n b) (invU n b) = g at *
  generalize Nat.gcd (invV (n / b) b) (invU (n / b) b) = h at *
  generalize invV n b = V at *
  generalize invU n b = U at *
  generalize invV (n / b) b = V' at *
  generalize invU (n / b) b = U' at *
  generalize V / g = P1 at *
  generalize U / g = Q1 at *
  generalize V' / h = P2 at *
  generalize U' / h = Q2 at *
  refine ⟨by omega, by omega, by omega, by omega, by omega, by omega, by omega, by omega, ?_⟩
  have c1 : (V : Int) = g * P1 := by rw [← f1]; simp
  have c2 : (U : Int) = g * Q1 := by rw [← f2]; simp
  have c3 : (V' : Int) = h * P2 := by rw [← f3]; simp
  have c4 : (U' : Int) = h * Q2 := by rw [← f4]; simp
  have hG : ((g : Int) * h) ≠ 0 := by
    have := Nat.mul_pos hg1 hg2
    intro e
    have e' : ((g * h : Nat) : Int) = 0 := by rw [Int.natCast_mul]; exact e
    omega
  refine Int.eq_of_mul_eq_mul_left hG ?_
  have A1 : (g : Int) * h * ((P1 * b - ((n % b : Nat) : Int) * Q1) * Q2) = (V * b - ((n % b : Nat) : Int) * U) * U' := by rw [c1, c2, c4]; grind
  have A2 : (g : Int) * h * (P2 * Q1) = V' * U := by rw [c3, c2]; grind
  rw [A1, A2, hk]
  rcases hk2 with e | e
  · rw [e]; grind
  · rw [e]; simp
end Go.Proofs.Ytjkcdnfmmfpbjaa.Inv
