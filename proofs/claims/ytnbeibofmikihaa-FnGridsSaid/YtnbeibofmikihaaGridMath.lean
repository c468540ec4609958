/- Plain mathematics of the figure of a grid: the loop's value as a running least. No program in sight. -/
namespace Go.Proofs.Ytnbeibofmikihaa.GridM

/-- the remainder of -a*k by n -/
def rem (n a k : Int) : Int := -(a * k % n) % n
/-- what the two candidates of a row k come to -/
def cand (n a k : Int) : Int := min (rem n a k * rem n a k + k * k) ((n - rem n a k) * (n - rem n a k) + k * k)
/-- the least over the rows up to k -/
def B (n a : Int) : Nat → Int
  | 0 => n * n
  | k + 1 => min (B n a k) (cand n a ((k : Int) + 1))
def fig (n a : Int) : Int := B n a n.toNat

theorem sq_nonneg (x : Int) : 0 ≤ x * x := by
  rcases Int.le_total 0 x with h | h
  · exact Int.mul_nonneg h h
  · exact Int.mul_nonneg_of_nonpos_of_nonpos h h
theorem cand_ge (n a k : Int) : k * k ≤ cand n a k := by
  unfold cand
  have h1 := sq_nonneg (rem n a k)
  have h2 := sq_nonneg (n - rem n a k)
  omega
theorem B_succ (n a : Int) (k : Nat) : B n a (k + 1) = min (B n a k) (cand n a ((k : Int) + 1)) := rfl
theorem B_le (n a : Int) (k : Nat) : B n a k ≤ n * n := by
  induction k with
  | zero => exact Int.le_refl _
  | succ k ih => rw [B_succ]; omega
theorem B_nonneg (n a : Int) (k : Nat) : 0 ≤ B n a k := by
  induction k with
  | zero => exact sq_nonneg n
  | succ k ih =>
    rw [B_succ]
    have := cand_ge n a ((k : Int) + 1)
    have := sq_nonneg ((k : Int) + 1)
    omega
theorem B_stable (n a : Int) (k : Nat) (h : B n a k ≤ ((k : Int) + 1) * ((k : Int) + 1)) (d : Nat) : B n a (k + d) = B n a k := by
  induction d with
  | zero => rfl
  | succ d ih =>
    rw [← Nat.add_assoc, B_succ, ih]
    have h1 := cand_ge n a (((k + d : Nat) : Int) + 1)
    have h2 : ((k : Int) + 1) * ((k : Int) + 1) ≤ (((k + d : Nat) : Int) + 1) * (((k + d : Nat) : Int) + 1) :=
      Int.mul_le_mul (by omega) (by omega) (by omega) (by omega)
    omega
theorem B_anti (n a : Int) (k d : Nat) : B n a (k + d) ≤ B n a k := by
  induction d with
  | zero => exact Int.le_refl _
  | succ d ih => rw [← Nat.add_assoc, B_succ]; omega
/-- where the next square is not below the running least, the running least is the figure -/
theorem fig_of (n a : Int) (hn : 1 ≤ n) (k : Nat) (h : B n a k ≤ ((k : Int) + 1) * ((k : Int) + 1)) : fig n a = B n a k := by
  unfold fig
  rcases Nat.le_total k n.toNat with hk | hk
  · obtain ⟨d, hd⟩ : ∃ d, n.toNat = k + d := ⟨n.toNat - k, by omega⟩
    rw [hd, B_stable n a k h d]
  · obtain ⟨d, hd⟩ : ∃ d, k = n.toNat + d := ⟨k - n.toNat, by omega⟩
    have h1 : B n a n.toNat ≤ ((n.toNat : Int) + 1) * ((n.toNat : Int) + 1) := by
      have := B_le n a n.toNat
      have e : ((n.toNat : Int) + 1) = n + 1 := by omega
      rw [e]
      have : n * n ≤ (n + 1) * (n + 1) := Int.mul_le_mul (by omega) (by omega) (by omega) (by omega)
      omega
    rw [hd, B_stable n a _ h1 d]
theorem fig_le (n a : Int) : fig n a ≤ n * n := B_le _ _ _
theorem fig_nonneg (n a : Int) : 0 ≤ fig n a := B_nonneg _ _ _
theorem sq_lt_of (n k : Int) (hn : 0 ≤ n) (h : k * k ≤ n * n) : k ≤ n := by
  rcases Int.lt_or_le n k with h1 | h1
  · have h2 : n * n ≤ n * k := Int.mul_le_mul_of_nonneg_left (by omega) hn
    have h3 : n * k < k * k := Int.mul_lt_mul_of_pos_right h1 (by omega)
    omega
  · exact h1
theorem rem_range (n a k : Int) (hn : 1 ≤ n) : 0 ≤ rem n a k ∧ rem n a k < n :=
  ⟨Int.emod_nonneg _ (by omega), Int.emod_lt_of_pos _ (by omega)⟩
theorem neg_emod_emod (x n : Int) : (-(x % n)) % n = (-x) % n := by
  apply Int.emod_eq_emod_iff_emod_sub_eq_zero.2
  have e : -(x % n) - -x = n * (x / n) := by have := Int.emod_add_mul_ediv x n; omega
  rw [e]; exact Int.mul_emod_right _ _
/-- the other spelling of the same remainder -/
theorem rem_floor (n a k : Int) : ((-(a * k)) % n + n) % n = rem n a k := by
  unfold rem
  rw [Int.add_emod_right, Int.emod_emod_of_dvd _ (Int.dvd_refl n), neg_emod_emod]
theorem tmod_emod (x n : Int) : (x.tmod n) % n = x % n := by
  rw [Int.tmod_def, Int.sub_mul_emod_self_left]
theorem tmod_bd (x n : Int) (hn : 1 ≤ n) : -n < x.tmod n ∧ x.tmod n < n := by
  have h1 := Int.tmod_lt_of_pos x (b := n) (by omega)
  have h2 := Int.tmod_lt_of_pos (-x) (b := n) (by omega)
  rw [Int.neg_tmod] at h2
  exact ⟨by omega, h1⟩
theorem mul_le2 {a b c d : Int} (ha : 0 ≤ a) (hb : 0 ≤ b) (hc : a ≤ c) (hd : b ≤ d) : a * b ≤ c * d := Int.mul_le_mul hc hd hb (by omega)
theorem B_pred (n a : Int) (m : Nat) (hm : 1 ≤ m) : B n a m = min (B n a (m - 1)) (cand n a (m : Int)) := by
  obtain ⟨k, rfl⟩ : ∃ k, m = k + 1 := ⟨m - 1, by omega⟩
  rw [B_succ]; simp
theorem B_next (n a : Int) (m : Nat) (hm : 1 ≤ m) : B n a (m + 1 - 1) = min (B n a (m - 1)) (min (-(a * m % n) % n * (-(a * m % n) % n)) ((n - -(a * m % n) % n) * (n - -(a * m % n) % n)) + m * m) := by
  rw [Nat.add_sub_cancel, B_pred n a m hm]
  unfold cand rem
  omega
theorem B_next' (n a : Int) (m : Nat) (hm : 1 ≤ m) (_hn : 1 ≤ n) : B n a (m + 1 - 1) = min (B n a (m - 1)) (min (-(a * m) % n * (-(a * m) % n)) ((n - -(a * m) % n) * (n - -(a * m) % n)) + m * m) := by
  rw [B_next n a m hm, neg_emod_emod]
end Go.Proofs.Ytnbeibofmikihaa.GridM
