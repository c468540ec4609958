/- Naturals by their digits to the base 2^32. -/
import Derived.Test.YtjkcdnfmmfpbjaaBase
namespace Go.Proofs.Ytjkcdnfmmfpbjaa.NatM
set_option linter.unusedVariables false
def B32 : Nat := 4294967296
def val : List Nat → Nat
  | [] => 0
  | x :: xs => x + B32 * val xs
def okN (xs : List Nat) : Prop := ∀ x ∈ xs, x < B32
theorem val_append : ∀ (xs ys : List Nat), val (xs ++ ys) = val xs + B32 ^ xs.length * val ys
  | [], ys => by simp [val]
  | x :: xs, ys => by
    rw [List.cons_append, val, val, val_append xs ys, List.length_cons, Nat.pow_succ, Nat.mul_add, ← Nat.mul_assoc, Nat.mul_comm B32 (B32 ^ xs.length), Nat.add_assoc]
theorem val_lt : ∀ (xs : List Nat), okN xs → val xs < B32 ^ xs.length
  | [], _ => by simp [val]
  | x :: xs, h => by
    have h1 := val_lt xs fun y hy => h y (by simp [hy])
    have h2 := h x (by simp)
    rw [val, List.length_cons, Nat.pow_succ, Nat.mul_comm (B32 ^ xs.length)]
    have h3 : val xs + 1 ≤ B32 ^ xs.length := h1
    have h4 := Nat.mul_le_mul_left B32 h3
    rw [Nat.mul_add] at h4
    omega
/-- the digits of a number, the last one not 0 -/
def natL (x : Nat) : List Nat := if h : x = 0 then [] else x % B32 :: natL (x / B32)
termination_by x
decreasing_by exact Nat.div_lt_self (Nat.pos_of_ne_zero h) (by decide)
theorem natL_zero : natL 0 = [] := by rw [natL]; simp
theorem natL_pos {x : Nat} (h : x ≠ 0) : natL x = x % B32 :: natL (x / B32) := by
  conv => lhs; rw [natL]
  simp [h]
theorem natL_val (x : Nat) : val (natL x) = x := by
  induction x using Nat.strongRecOn with
  | _ x ih =>
    by_cases h : x = 0
    · subst h; rw [natL_zero]; rfl
    · rw [natL_pos h, val, ih (x / B32) (Nat.div_lt_self (Nat.pos_of_ne_zero h) (by decide))]
      exact Nat.mod_add_div x B32
theorem natL_ok (x : Nat) : okN (natL x) := by
  induction x using Nat.strongRecOn with
  | _ x ih =>
    by_cases h : x = 0
    · subst h; rw [natL_zero]; intro y hy; cases hy
    · rw [natL_pos h]
      intro y hy
      rcases List.mem_cons.1 hy with rfl | hy
      · exact Nat.mod_lt _ (by decide)
      · exact ih (x / B32) (Nat.div_lt_self (Nat.pos_of_ne_zero h) (by decide)) y hy
/-- the last digit is not 0 -/
def canon (xs : List Nat) : Prop := okN xs ∧ ∀ n, xs.length = n + 1 → xs.getD n 0 ≠ 0
theorem okN_cons {x : Nat} {xs : List Nat} (h : okN (x :: xs)) : okN xs := fun y hy => h y (by simp [hy])
theorem canon_natL : ∀ {xs : List Nat}, canon xs → natL (val xs) = xs
  | [], _ => natL_zero
  | x :: xs, h => by
    have hx := h.1 x (by simp)
    have hc : canon xs := ⟨okN_cons h.1, fun n hn => by have := h.2 (n + 1) (by simp [hn]); simpa [List.getD] using this⟩
    have hne : val (x :: xs) ≠ 0 := by
      intro h0
      rw [val] at h0
      rcases xs with _ | ⟨y, ys⟩
      · have := h.2 0 rfl
        simp [List.getD] at this
        omega
      · have hy : val (y :: ys) = 0 := by
          have : B32 * val (y :: ys) = 0 := by omega
          rcases Nat.mul_eq_zero.1 this with h1 | h1
          · exact absurd h1 (by decide)
          · exact h1
        have e := canon_natL hc
        rw [hy, natL_zero] at e
        cases e
    rw [natL_pos hne]
    have hm : val (x :: xs) % B32 = x := by rw [val, Nat.add_mul_mod_self_left, Nat.mod_eq_of_lt hx]
    have hd : val (x :: xs) / B32 = val xs := by rw [val, Nat.add_mul_div_left _ _ (by decide : 0 < B32), Nat.div_eq_of_lt hx, Nat.zero_add]
    rw [hm, hd, canon_natL hc]
theorem natL_canon (x : Nat) : canon (natL x) := by
  refine ⟨natL_ok x, ?_⟩
  induction x using Nat.strongRecOn with
  | _ x ih =>
    intro n hn
    by_cases h : x = 0
    · subst h; rw [natL_zero] at hn; cases hn
    · rw [natL_pos h] at hn ⊢
      have hlt := Nat.div_lt_self (Nat.pos_of_ne_zero h) (show 1 < B32 by decide)
      rcases n with _ | n
      · simp only [List.length_cons] at hn
        have h0 : (natL (x / B32)).length = 0 := by omega
        have h1 : natL (x / B32) = [] := List.eq_nil_of_length_eq_zero h0
        have h2 : x / B32 = 0 := by rw [← natL_val (x / B32), h1]; rfl
        have h3 := Nat.mod_add_div x B32
        rw [h2] at h3
        simp [List.getD]
        omega
      · have := ih (x / B32) hlt n (by simp only [List.length_cons] at hn; omega)
        simpa [List.getD] using this
theorem okN_take {xs : List Nat} (h : okN xs) (n : Nat) : okN (xs.take n) := fun y hy => h y (List.mem_of_mem_take hy)
theorem val_snoc (xs : List Nat) (y : Nat) : val (xs ++ [y]) = val xs + B32 ^ xs.length * y := by
  rw [val_append]; simp [val]
theorem val_take_succ (xs : List Nat) (k : Nat) (h : k < xs.length) : val (xs.take (k + 1)) = val (xs.take k) + B32 ^ k * xs.getD k 0 := by
  rw [List.take_succ_eq_append_getElem h, val_snoc, List.length_take, Nat.min_eq_left (Nat.le_of_lt h)]
  simp [List.getD, h]
/-- trimming: the digits behind n are 0 -/
theorem trim_done {xs : List Nat} {n : Nat} (hok : okN xs) (hn : n ≤ xs.length) (hv : val (xs.take n) = val xs) (hl : n = 0 ∨ xs.getD (n - 1) 0 ≠ 0) : xs.take n = natL (val xs) := by
  rw [← hv]
  refine (canon_natL ⟨okN_take hok n, fun m hm => ?_⟩).symm
  rw [List.length_take, Nat.min_eq_left hn] at hm
  rcases hl with h0 | h0
  · omega
  · have e : n - 1 = m := by omega
    rw [e] at h0
    have : (xs.take n).getD m 0 = xs.getD m 0 := by simp [List.getD, show m < n by omega]
    rw [this]; exact h0
theorem trim_step {xs : List Nat} {n : Nat} (hn : n + 1 ≤ xs.length) (hv : val (xs.take (n + 1)) = val xs) (h0 : xs.getD n 0 = 0) : val (xs.take n) = val xs := by
  rw [val_take_succ xs n (by omega), h0] at hv
  omega
/-- numbers of the same length compare as their first digits that differ, from the last one on -/
theorem val_cmp {xs ys : List Nat} (hl : xs.length = ys.length) (hx : okN xs) (hy : okN ys) : ∀ (n : Nat), n ≤ xs.length → (∀ j, n ≤ j → j < xs.length → xs.getD j 0 = ys.getD j 0) → (val xs < val ys ↔ val (xs.take n) < val (ys.take n)) ∧ (val xs = val ys ↔ val (xs.take n) = val (ys.take n)) := by
  intro n hn
  obtain ⟨d, hd⟩ : ∃ d, xs.length = n + d := ⟨xs.length - n, by omega⟩
  induction d generalizing n with
  | zero =>
    intro _
    rw [List.take_of_length_le (by omega), List.take_of_length_le (by omega)]
    exact ⟨Iff.rfl, Iff.rfl⟩
  | succ d ih =>
    intro he
    have h1 := ih (n + 1) (by omega) (by omega) (fun j hj hj2 => he j (by omega) hj2)
    have e := he n (Nat.le_refl _) (by omega)
    rw [val_take_succ xs n (by omega), val_take_succ ys n (by omega), e] at h1
    refine ⟨h1.1.trans ?_, h1.2.trans ?_⟩ <;> omega
theorem cmp_lt {xs ys : List Nat} (hl : xs.length = ys.length) (hx : okN xs) (hy : okN ys) {n : Nat} (hn : n < xs.length) (he : ∀ j, n + 1 ≤ j → j < xs.length → xs.getD j 0 = ys.getD j 0) (h : xs.getD n 0 < ys.getD n 0) : val xs < val ys := by
  refine (val_cmp hl hx hy (n + 1) (by omega) he).1.2 ?_
  rw [val_take_succ xs n hn, val_take_succ ys n (by omega)]
  have h1 := val_lt _ (okN_take hx n)
  rw [List.length_take, Nat.min_eq_left (by omega)] at h1
  have h2 := Nat.mul_le_mul_left (B32 ^ n) (show xs.getD n 0 + 1 ≤ ys.getD n 0 from h)
  rw [Nat.mul_add, Nat.mul_one] at h2
  omega
/-- more digits, a greater number -/
theorem natL_len_lt {x y : Nat} (h : (natL x).length < (natL y).length) : x < y := by
  have h1 := val_lt _ (natL_ok x)
  rw [natL_val] at h1
  obtain ⟨n, hn⟩ : ∃ n, (natL y).length = n + 1 := ⟨(natL y).length - 1, by omega⟩
  have h2 := (natL_canon y).2 n hn
  have h3 := val_take_succ (natL y) n (by omega)
  rw [List.take_of_length_le (by omega), natL_val] at h3
  have h4 : B32 ^ (natL x).length ≤ B32 ^ n := Nat.pow_le_pow_right (by decide) (by omega)
  have h5 : B32 ^ n * 1 ≤ B32 ^ n * (natL y).getD n 0 := Nat.mul_le_mul_left _ (by omega)
  omega
theorem natL_len_le {x k : Nat} (h : x < B32 ^ k) : (natL x).length ≤ k := by
  rcases Nat.lt_or_ge k (natL x).length with hl | hl
  · obtain ⟨n, hn⟩ : ∃ n, (natL x).length = n + 1 := ⟨(natL x).length - 1, by omega⟩
    have h2 := (natL_canon x).2 n hn
    have h3 := val_take_succ (natL x) n (by omega)
    rw [List.take_of_length_le (by omega), natL_val] at h3
    have h4 : B32 ^ k ≤ B32 ^ n := Nat.pow_le_pow_right (by decide) (by omega)
    have h5 : B32 ^ n * 1 ≤ B32 ^ n * (natL x).getD n 0 := Nat.mul_le_mul_left _ (by omega)
    omega
  · exact hl
end Go.Proofs.Ytjkcdnfmmfpbjaa.NatM
