/- Plain mathematics of the best grid: the first factor with the greatest figure. No program in sight. -/
import Derived.Test.YtnbeibofmikihaaGridMath
namespace Go.Proofs.Ytnbeibofmikihaa.GridM

theorem cand_pos (n a k : Int) (hk : 1 ≤ k) : 1 ≤ cand n a k := by
  have h1 := cand_ge n a k
  have h2 : 1 * 1 ≤ k * k := mul_le2 (by omega) (by omega) hk hk
  omega
theorem B_pos (n a : Int) (hn : 1 ≤ n) (k : Nat) : 1 ≤ B n a k := by
  induction k with
  | zero =>
    have h2 : 1 * 1 ≤ n * n := mul_le2 (by omega) (by omega) hn hn
    show 1 ≤ n * n
    omega
  | succ k ih =>
    rw [B_succ]
    have := cand_pos n a ((k : Int) + 1) (by omega)
    omega
theorem fig_pos (n a : Int) (hn : 1 ≤ n) : 1 ≤ fig n a := B_pos n a hn _

/-- the first factor with the greatest figure among those below k, and that figure -/
def S (n : Int) : Nat → Int × Int
  | 0 => (0, -1)
  | k + 1 => if fig n (k : Int) > (S n k).2 then ((k : Int), fig n (k : Int)) else S n k
/-- the same, begun at figure 0 -/
def S0 (n : Int) (k : Nat) : Int × Int := if k = 0 then (0, 0) else S n k
theorem S_yes (n : Int) (k : Nat) (h : fig n (k : Int) > (S n k).2) : S n (k + 1) = ((k : Int), fig n (k : Int)) := by
  rw [S]; rw [if_pos h]
theorem S_no (n : Int) (k : Nat) (h : ¬ fig n (k : Int) > (S n k).2) : S n (k + 1) = S n k := by
  rw [S]; rw [if_neg h]
theorem S0_yes (n : Int) (hn : 1 ≤ n) (k : Nat) (h : fig n (k : Int) > (S0 n k).2) : S0 n (k + 1) = ((k : Int), fig n (k : Int)) := by
  unfold S0 at h ⊢
  rw [if_neg (by omega)]
  by_cases hk : k = 0
  · subst hk
    exact S_yes n 0 (by have := fig_pos n 0 hn; show fig n 0 > -1; omega)
  · rw [if_neg hk] at h
    exact S_yes n k h
theorem S0_no (n : Int) (hn : 1 ≤ n) (k : Nat) (h : ¬ fig n (k : Int) > (S0 n k).2) : S0 n (k + 1) = S0 n k := by
  unfold S0 at h ⊢
  rw [if_neg (by omega)]
  by_cases hk : k = 0
  · subst hk
    exact absurd (by have := fig_pos n 0 hn; show fig n 0 > 0; omega) h
  · rw [if_neg hk] at h
    rw [if_neg hk]
    exact S_no n k h
def best (n : Int) : Int × Int := S n n.toNat
theorem S0_end (n : Int) (hn : 1 ≤ n) (k : Nat) (hk : (k : Int) = n) : S0 n k = best n := by
  unfold S0 best
  rw [if_neg (by omega), show n.toNat = k by omega]
theorem S_end (n : Int) (k : Nat) (hk : (k : Int) = n) : S n k = best n := by
  unfold best
  rw [show n.toNat = k by omega]
theorem S_ge (n : Int) (k j : Nat) (h : j < k) : fig n (j : Int) ≤ (S n k).2 := by
  induction k with
  | zero => omega
  | succ k ih =>
    by_cases hk : fig n (k : Int) > (S n k).2
    · rw [S_yes n k hk]
      rcases Nat.lt_or_ge j k with h1 | h1
      · have := ih h1; show fig n j ≤ fig n k; omega
      · obtain rfl : j = k := by omega
        exact Int.le_refl _
    · rw [S_no n k hk]
      rcases Nat.lt_or_ge j k with h1 | h1
      · exact ih h1
      · obtain rfl : j = k := by omega
        omega
theorem S_own (n : Int) (hn : 1 ≤ n) (k : Nat) (hk : 1 ≤ k) : 0 ≤ (S n k).1 ∧ (S n k).1 < (k : Int) ∧ fig n (S n k).1 = (S n k).2 := by
  induction k with
  | zero => omega
  | succ k ih =>
    by_cases h : fig n (k : Int) > (S n k).2
    · rw [S_yes n k h]; exact ⟨by show 0 ≤ (k : Int); omega, by show (k : Int) < _; omega, rfl⟩
    · rw [S_no n k h]
      rcases Nat.eq_zero_or_pos k with h0 | h0
      · subst h0
        exact absurd (by have := fig_pos n 0 hn; show fig n 0 > -1; omega) h
      · have := ih h0
        exact ⟨this.1, by have := this.2.1; omega, this.2.2⟩
theorem best_own (n : Int) (hn : 1 ≤ n) : 0 ≤ (best n).1 ∧ (best n).1 < n ∧ fig n (best n).1 = (best n).2 := by
  have := S_own n hn n.toNat (by omega)
  rw [show ((n.toNat : Nat) : Int) = n by omega] at this
  exact this
theorem best_ge (n a : Int) (h0 : 0 ≤ a) (h : a < n) : fig n a ≤ (best n).2 := by
  have := S_ge n n.toNat a.toNat (by omega)
  rw [show ((a.toNat : Nat) : Int) = a by omega] at this
  exact this
end Go.Proofs.Ytnbeibofmikihaa.GridM
