/- Plain mathematics of the law of grids: no two integers with a lesser sum of squares; where the figure is small it is reached. No program in sight. -/
import Derived.Test.YtnbeibofmikihaaBestMath
namespace Go.Proofs.Ytnbeibofmikihaa.GridM
set_option linter.unusedVariables false

theorem fig_le_B (n a : Int) (hn : 1 ≤ n) (k : Nat) : fig n a ≤ B n a k := by
  unfold fig
  rcases Nat.le_total k n.toNat with h | h
  · obtain ⟨d, hd⟩ : ∃ d, n.toNat = k + d := ⟨n.toNat - k, by omega⟩
    rw [hd]; exact B_anti n a k d
  · obtain ⟨d, hd⟩ : ∃ d, k = n.toNat + d := ⟨k - n.toNat, by omega⟩
    have h1 : B n a n.toNat ≤ ((n.toNat : Int) + 1) * ((n.toNat : Int) + 1) := by
      have := B_le n a n.toNat
      have e : ((n.toNat : Int) + 1) = n + 1 := by omega
      rw [e]
      have : n * n ≤ (n + 1) * (n + 1) := mul_le2 (by omega) (by omega) (by omega) (by omega)
      omega
    rw [hd, B_stable n a _ h1 d]
    exact Int.le_refl _
theorem fig_le_cand (n a : Int) (hn : 1 ≤ n) (k : Nat) (hk : 1 ≤ k) : fig n a ≤ cand n a (k : Int) := by
  have h := fig_le_B n a hn k
  rw [B_pred n a k hk] at h
  omega
theorem sq_mono {x y : Int} (hx : 0 ≤ x) (h : x ≤ y ∨ x ≤ -y) : x * x ≤ y * y := by
  rcases h with h | h
  · exact mul_le2 hx hx h h
  · have := mul_le2 (a := x) (b := x) (c := -y) (d := -y) hx hx h h
    rwa [Int.neg_mul_neg] at this
theorem no_less (n a h : Int) (k : Nat) (hn : 1 ≤ n) (hne : ¬ (h = 0 ∧ k = 0)) (hd : (h + a * (k : Int)).tmod n = 0) : fig n a ≤ h * h + (k : Int) * k := by
  have hd' : (h + a * (k : Int)) % n = 0 := by rw [← tmod_emod, hd]; simp
  rcases Nat.eq_zero_or_pos k with hk | hk
  · subst hk
    have h0 : h ≠ 0 := fun e => hne ⟨e, rfl⟩
    have h1 : h % n = 0 := by simpa using hd'
    obtain ⟨q, hq⟩ := Int.dvd_of_emod_eq_zero h1
    have h2 : n ≤ h ∨ n ≤ -h := by
      rcases Int.lt_trichotomy q 0 with hq' | hq' | hq'
      · right
        have : n * 1 ≤ n * -q := Int.mul_le_mul_of_nonneg_left (by omega) (by omega)
        rw [Int.mul_neg] at this; omega
      · subst hq'; simp at hq; exact absurd hq h0
      · left
        have : n * 1 ≤ n * q := Int.mul_le_mul_of_nonneg_left (by omega) (by omega)
        omega
    have h3 := sq_mono (x := n) (y := h) (by omega) h2
    have h4 := fig_le n a
    simp; omega
  · have hc := fig_le_cand n a hn k hk
    obtain ⟨r0, r1⟩ := rem_range n a (k : Int) hn
    have e : h % n = rem n a (k : Int) := by
      unfold rem
      rw [neg_emod_emod]
      apply Int.emod_eq_emod_iff_emod_sub_eq_zero.2
      rw [show h - -(a * (k : Int)) = h + a * (k : Int) by omega]
      exact hd'
    have hcd : cand n a (k : Int) = min (rem n a (k : Int) * rem n a (k : Int) + (k : Int) * k) ((n - rem n a (k : Int)) * (n - rem n a (k : Int)) + (k : Int) * k) := rfl
    generalize rem n a (k : Int) = r at *
    have hq := Int.emod_add_mul_ediv h n
    rw [e] at hq
    generalize h / n = q at *
    have h2 : (r ≤ h ∨ r ≤ -h) ∨ (n - r ≤ h ∨ n - r ≤ -h) := by
      rcases Int.lt_or_le q 0 with hq' | hq'
      · right; right
        have : n * 1 ≤ n * -q := Int.mul_le_mul_of_nonneg_left (by omega) (by omega)
        rw [Int.mul_neg] at this; omega
      · left; left
        have : 0 ≤ n * q := Int.mul_nonneg (by omega) hq'
        omega
    rcases h2 with h2 | h2
    · have := sq_mono (x := r) (y := h) r0 h2
      omega
    · have := sq_mono (x := n - r) (y := h) (by omega) h2
      omega
theorem sq_le12 {x : Int} (hx : 0 ≤ x) (h : x * x ≤ 144) : x ≤ 12 := by
  rcases Int.lt_or_le 12 x with h1 | h1
  · have := mul_le2 (a := 13) (b := 13) (c := x) (d := x) (by omega) (by omega) (by omega) (by omega)
    omega
  · exact h1
theorem B_cases (n a : Int) : ∀ m : Nat, B n a m = n * n ∨ ∃ k : Nat, 1 ≤ k ∧ B n a m = cand n a (k : Int)
  | 0 => .inl rfl
  | m + 1 => by
    rw [B_succ]
    rcases Int.le_total (B n a m) (cand n a ((m : Int) + 1)) with h | h
    · rw [Int.min_eq_left h]; exact B_cases n a m
    · rw [Int.min_eq_right h]; exact .inr ⟨m + 1, by omega, by simp⟩
/-- where the figure is at most 144, it is reached within 12 -/
theorem reached (n a : Int) (hn : 1 ≤ n) (h : fig n a ≤ 144) :
    ∃ (h0 : Int) (k0 : Nat), -12 ≤ h0 ∧ h0 ≤ 12 ∧ k0 ≤ 12 ∧ ¬ (h0 = 0 ∧ k0 = 0) ∧ (h0 + a * (k0 : Int)).tmod n = 0 ∧ h0 * h0 + (k0 : Int) * k0 = fig n a := by
  have hB := B_cases n a n.toNat
  change (fig n a = n * n ∨ ∃ k : Nat, 1 ≤ k ∧ fig n a = cand n a (k : Int)) at hB
  have ht : ∀ x : Int, n ∣ x → x.tmod n = 0 := fun x hx => Int.tmod_eq_zero_of_dvd hx
  rcases hB with hB | ⟨k, hk, hB⟩
  · have := sq_le12 (x := n) (by omega) (by omega)
    refine ⟨n, 0, by omega, this, by omega, by omega, ht _ (by simp), by simp [hB]⟩
  · obtain ⟨r0, r1⟩ := rem_range n a (k : Int) hn
    have hcd : cand n a (k : Int) = min (rem n a (k : Int) * rem n a (k : Int) + (k : Int) * k) ((n - rem n a (k : Int)) * (n - rem n a (k : Int)) + (k : Int) * k) := rfl
    have hdv : n ∣ rem n a (k : Int) + a * (k : Int) := by
      unfold rem
      have h1 := Int.emod_add_mul_ediv (-(a * (k : Int) % n)) n
      have h2 := Int.emod_add_mul_ediv (a * (k : Int)) n
      refine ⟨a * (k : Int) / n - -(a * (k : Int) % n) / n, ?_⟩
      rw [Int.mul_sub]
      omega
    generalize rem n a (k : Int) = r at *
    have hk2 : (k : Int) * k ≤ 144 := by have := cand_ge n a (k : Int); omega
    have hk3 := sq_le12 (x := (k : Int)) (by omega) hk2
    have p1 := sq_nonneg (k : Int)
    rcases Int.le_total (r * r + (k : Int) * k) ((n - r) * (n - r) + (k : Int) * k) with hm | hm
    · have hr := sq_le12 (x := r) r0 (by omega)
      exact ⟨r, k, by omega, hr, by omega, by omega, ht _ hdv, by omega⟩
    · have hr := sq_le12 (x := n - r) (by omega) (by omega)
      refine ⟨r - n, k, by omega, by omega, by omega, by omega, ht _ ?_, ?_⟩
      · rw [show r - n + a * (k : Int) = r + a * (k : Int) - n by omega]
        exact Int.dvd_sub hdv (Int.dvd_refl n)
      · have e : (r - n) * (r - n) = (n - r) * (n - r) := by
          rw [show r - n = -(n - r) by omega, Int.neg_mul_neg]
        rw [e]; omega
end Go.Proofs.Ytnbeibofmikihaa.GridM
