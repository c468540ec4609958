/- Naturals by their digits to the base 2^30. -/
import Derived.Test.YtionognmgcabbaaGreatMgHit00
namespace Go.Proofs.YtionognmgcabbaaGreat.BigM
set_option linter.unusedVariables false
def D30 : Nat := 1073741824
def val : List Nat → Nat
  | [] => 0
  | x :: xs => x + D30 * val xs
def okN (xs : List Nat) : Prop := ∀ x ∈ xs, x < D30
theorem val_append : ∀ (xs ys : List Nat), val (xs ++ ys) = val xs + D30 ^ xs.length * val ys
  | [], ys => by simp [val]
  | x :: xs, ys => by
    rw [List.cons_append, val, val, val_append xs ys, List.length_cons, Nat.pow_succ, Nat.mul_add, ← Nat.mul_assoc, Nat.mul_comm D30 (D30 ^ xs.length), Nat.add_assoc]
theorem val_lt : ∀ (xs : List Nat), okN xs → val xs < D30 ^ xs.length
  | [], _ => by simp [val]
  | x :: xs, h => by
    have h1 := val_lt xs fun y hy => h y (by simp [hy])
    have h2 := h x (by simp)
    rw [val, List.length_cons, Nat.pow_succ, Nat.mul_comm (D30 ^ xs.length)]
    have h3 : val xs + 1 ≤ D30 ^ xs.length := h1
    have h4 := Nat.mul_le_mul_left D30 h3
    rw [Nat.mul_add] at h4
    omega
/-- the digits of a number, the last one not 0 -/
def bigL (x : Nat) : List Nat := if h : x = 0 then [] else x % D30 :: bigL (x / D30)
termination_by x
decreasing_by exact Nat.div_lt_self (Nat.pos_of_ne_zero h) (by decide)
theorem bigL_zero : bigL 0 = [] := by rw [bigL]; simp
theorem bigL_pos {x : Nat} (h : x ≠ 0) : bigL x = x % D30 :: bigL (x / D30) := by
  conv => lhs; rw [bigL]
  simp [h]
theorem bigL_val (x : Nat) : val (bigL x) = x := by
  induction x using Nat.strongRecOn with
  | _ x ih =>
    by_cases h : x = 0
    · subst h; rw [bigL_zero]; rfl
    · rw [bigL_pos h, val, ih (x / D30) (Nat.div_lt_self (Nat.pos_of_ne_zero h) (by decide))]
      exact Nat.mod_add_div x D30
theorem bigL_ok (x : Nat) : okN (bigL x) := by
  induction x using Nat.strongRecOn with
  | _ x ih =>
    by_cases h : x = 0
    · subst h; rw [bigL_zero]; intro y hy; cases hy
    · rw [bigL_pos h]
      intro y hy
      rcases List.mem_cons.1 hy with rfl | hy
      · exact Nat.mod_lt _ (by decide)
      · exact ih (x / D30) (Nat.div_lt_self (Nat.pos_of_ne_zero h) (by decide)) y hy
/-- the last digit is not 0 -/
def canon (xs : List Nat) : Prop := okN xs ∧ ∀ n, xs.length = n + 1 → xs.getD n 0 ≠ 0
theorem okN_cons {x : Nat} {xs : List Nat} (h : okN (x :: xs)) : okN xs := fun y hy => h y (by simp [hy])
theorem canon_bigL : ∀ {xs : List Nat}, canon xs → bigL (val xs) = xs
  | [], _ => bigL_zero
  | x :: xs, h => by
    have hx := h.1 x (by simp)
    have hc : canon xs := ⟨okN_cons h.1, fun n hn => by have := h.2 (n + 1) (by simp [hn]); simpa [List.getD] using this⟩
    have hne : val (x :: xs) ≠ 0 := by
      intro h0
      rw [val] at h0
      rcases xs with _ | ⟨y, ys⟩
      · have := h.2 0 rfl
        simp [List.getD] at this
        omega
      · have hy : val (y :: ys) = 0 := by
          have : D30 * val (y :: ys) = 0 := by omega
          rcases Nat.mul_eq_zero.1 this with h1 | h1
          · exact absurd h1 (by decide)
          · exact h1
        have e := canon_bigL hc
        rw [hy, bigL_zero] at e
        cases e
    rw [bigL_pos hne]
    have hm : val (x :: xs) % D30 = x := by rw [val, Nat.add_mul_mod_self_left, Nat.mod_eq_of_lt hx]
    have hd : val (x :: xs) / D30 = val xs := by rw [val, Nat.add_mul_div_left _ _ (by decide : 0 < D30), Nat.div_eq_of_lt hx, Nat.zero_add]
    rw [hm, hd, canon_bigL hc]
theorem bigL_canon (x : Nat) : canon (bigL x) := by
  refine ⟨bigL_ok x, ?_⟩
  induction x using Nat.strongRecOn with
  | _ x ih =>
    intro n hn
    by_cases h : x = 0
    · subst h; rw [bigL_zero] at hn; cases hn
    · rw [bigL_pos h] at hn ⊢
      have hlt := Nat.div_lt_self (Nat.pos_of_ne_zero h) (show 1 < D30 by decide)
      rcases n with _ | n
      · simp only [List.length_cons] at hn
        have h0 : (bigL (x / D30)).length = 0 := by omega
        have h1 : bigL (x / D30) = [] := List.eq_nil_of_length_eq_zero h0
        have h2 : x / D30 = 0 := by rw [← bigL_val (x / D30), h1]; rfl
        have h3 := Nat.mod_add_div x D30
        rw [h2] at h3
        simp [List.getD]
        omega
      · have := ih (x / D30) hlt n (by simp only [List.length_cons] at hn; omega)
        simpa [List.getD] using this
theorem okN_take {xs : List Nat} (h : okN xs) (n : Nat) : okN (xs.take n) := fun y hy => h y (List.mem_of_mem_take hy)
theorem val_snoc (xs : List Nat) (y : Nat) : val (xs ++ [y]) = val xs + D30 ^ xs.length * y := by
  rw [val_append]; simp [val]
theorem val_take_succ (xs : List Nat) (k : Nat) (h : k < xs.length) : val (xs.take (k + 1)) = val (xs.take k) + D30 ^ k * xs.getD k 0 := by
  rw [List.take_succ_eq_append_getElem h, val_snoc, List.length_take, Nat.min_eq_left (Nat.le_of_lt h)]
  simp [List.getD, h]
/-- trimming: the digits behind n are 0 -/
theorem trim_done {xs : List Nat} {n : Nat} (hok : okN xs) (hn : n ≤ xs.length) (hv : val (xs.take n) = val xs) (hl : n = 0 ∨ xs.getD (n - 1) 0 ≠ 0) : xs.take n = bigL (val xs) := by
  rw [← hv]
  refine (canon_bigL ⟨okN_take hok n, fun m hm => ?_⟩).symm
  rw [List.length_take, Nat.min_eq_left hn] at hm
  rcases hl with h0 | h0
  · omega
  · have e : n - 1 = m := by omega
    rw [e] at h0
    have : (xs.take n).getD m 0 = xs.getD m 0 := by simp [List.getD, show m < n by omega]
    rw [this]; exact h0
theorem trim_step {xs : List Nat} {n : Nat} (hn : n + 1 ≤ xs.length) (hv : val (xs.take (n + 1)) = val xs) (h0 : xs.getD n 0 = 0) : val (xs.take n) = val xs := by
  rw [val_take_succ xs n (by omega), h0] at hv
  omega
/-- numbers of the same length compare as their first digits that differ, from the last one on -/
theorem val_cmp {xs ys : List Nat} (hl : xs.length = ys.length) (hx : okN xs) (hy : okN ys) : ∀ (n : Nat), n ≤ xs.length → (∀ j, n ≤ j → j < xs.length → xs.getD j 0 = ys.getD j 0) → (val xs < val ys ↔ val (xs.take n) < val (ys.take n)) ∧ (val xs = val ys ↔ val (xs.take n) = val (ys.take n)) := by
  intro n hn
  obtain ⟨d, hd⟩ : ∃ d, xs.length = n + d := ⟨xs.length - n, by omega⟩
  induction d generalizing n with
  | zero =>
    intro _
    rw [List.take_of_length_le (by omega), List.take_of_length_le (by omega)]
    exact ⟨Iff.rfl, Iff.rfl⟩
  | succ d ih =>
    intro he
    have h1 := ih (n + 1) (by omega) (by omega) (fun j hj hj2 => he j (by omega) hj2)
    have e := he n (Nat.le_refl _) (by omega)
    rw [val_take_succ xs n (by omega), val_take_succ ys n (by omega), e] at h1
    refine ⟨h1.1.trans ?_, h1.2.trans ?_⟩ <;> omega
theorem cmp_lt {xs ys : List Nat} (hl : xs.length = ys.length) (hx : okN xs) (hy : okN ys) {n : Nat} (hn : n < xs.length) (he : ∀ j, n + 1 ≤ j → j < xs.length → xs.getD j 0 = ys.getD j 0) (h : xs.getD n 0 < ys.getD n 0) : val xs < val ys := by
  refine (val_cmp hl hx hy (n + 1) (by omega) he).1.2 ?_
  rw [val_take_succ xs n hn, val_take_succ ys n (by omega)]
  have h1 := val_lt _ (okN_take hx n)
  rw [List.length_take, Nat.min_eq_left (by omega)] at h1
  have h2 := Nat.mul_le_mul_left (D30 ^ n) (show xs.getD n 0 + 1 ≤ ys.getD n 0 from h)
  rw [Nat.mul_add, Nat.mul_one] at h2
  omega
/-- more digits, a greater number -/
theorem bigL_len_lt {x y : Nat} (h : (bigL x).length < (bigL y).length) : x < y := by
  have h1 := val_lt _ (bigL_ok x)
  rw [bigL_val] at h1
  obtain ⟨n, hn⟩ : ∃ n, (bigL y).length = n + 1 := ⟨(bigL y).length - 1, by omega⟩
  have h2 := (bigL_canon y).2 n hn
  have h3 := val_take_succ (bigL y) n (by omega)
  rw [List.take_of_length_le (by omega), bigL_val] at h3
  have h4 : D30 ^ (bigL x).length ≤ D30 ^ n := Nat.pow_le_pow_right (by decide) (by omega)
  have h5 : D30 ^ n * 1 ≤ D30 ^ n * (bigL y).getD n 0 := Nat.mul_le_mul_left _ (by omega)
  omega
theorem bigL_len_le {x k : Nat} (h : x < D30 ^ k) : (bigL x).length ≤ k := by
  rcases Nat.lt_or_ge k (bigL x).length with hl | hl
  · obtain ⟨n, hn⟩ : ∃ n, (bigL x).length = n + 1 := ⟨(bigL x).length - 1, by omega⟩
    have h2 := (bigL_canon x).2 n hn
    have h3 := val_take_succ (bigL x) n (by omega)
    rw [List.take_of_length_le (by omega), bigL_val] at h3
    have h4 : D30 ^ k ≤ D30 ^ n := Nat.pow_le_pow_right (by decide) (by omega)
    have h5 : D30 ^ n * 1 ≤ D30 ^ n * (bigL x).getD n 0 := Nat.mul_le_mul_left _ (by omega)
    omega
  · exact hl
theorem val_take_any (ys : List Nat) (i : Nat) : val (ys.take (i + 1)) = val (ys.take i) + D30 ^ i * ys.getD i 0 := by
  rcases Nat.lt_or_ge i ys.length with h | h
  · exact val_take_succ ys i h
  · rw [List.take_of_length_le (by omega), List.take_of_length_le h]
    have : ys.getD i 0 = 0 := by simp [List.getD, h]
    rw [this]; simp
theorem sub_step {i vo vy vx b b' D x y : Nat} (h : vo + vy = vx + D30 ^ i * b) (hD : D + y + b = x + D30 * b') :
    (vo + D30 ^ i * D) + (vy + D30 ^ i * y) = (vx + D30 ^ i * x) + D30 ^ (i + 1) * b' := by
  have e : D30 ^ i * D + D30 ^ i * y + D30 ^ i * b = D30 ^ i * x + D30 ^ (i + 1) * b' := by
    rw [← Nat.mul_add, ← Nat.mul_add, hD, Nat.mul_add, Nat.pow_succ, Nat.mul_assoc]
  omega
theorem val_setw : ∀ (l : List Nat) (j d : Nat), j < l.length → val (l.set j d) + D30 ^ j * l.getD j 0 = val l + D30 ^ j * d
  | [], j, d, h => by simp at h
  | x :: l, 0, d, _ => by simp [val]; omega
  | x :: l, j + 1, d, h => by
    have ih := val_setw l j d (by simpa using h)
    rw [List.set_cons_succ, val, val, show (x :: l).getD (j + 1) 0 = l.getD j 0 by simp [List.getD]]
    have e : D30 ^ (j + 1) = D30 * D30 ^ j := by rw [Nat.pow_succ, Nat.mul_comm]
    rw [e, Nat.mul_assoc, Nat.mul_assoc]
    have := congrArg (D30 * ·) ih
    simp only [Nat.mul_add] at this
    omega
theorem okN_setw {l : List Nat} {j d : Nat} (h : okN l) (hd : d < D30) : okN (l.set j d) := fun y hy => by
  rcases List.mem_or_eq_of_mem_set hy with hy | rfl
  · exact h y hy
  · exact hd
theorem getD_set_ne {l : List Nat} {i j d : Nat} (h : i ≠ j) : (l.set i d).getD j 0 = l.getD j 0 := by
  simp [List.getD, h]
theorem okN_at {l : List Nat} (h : okN l) (j : Nat) : l.getD j 0 < D30 := by
  rcases Nat.lt_or_ge j l.length with hl | hl
  · exact h _ (by simp [List.getD, hl])
  · rw [show l.getD j 0 = 0 by simp [List.getD, hl]]; decide
theorem mul_step {i k vz vz' C V0 x y o vy S : Nat} (h : vz + D30 ^ (i + k) * C = V0 + x * D30 ^ i * vy) (hS : S = C + (o + x * y)) (hset : vz' + D30 ^ (i + k) * o = vz + D30 ^ (i + k) * (S % D30)) :
    vz' + D30 ^ (i + (k + 1)) * (S / D30) = V0 + x * D30 ^ i * (vy + D30 ^ k * y) := by
  have h1 := Nat.mod_add_div S D30
  have e1 : D30 ^ (i + (k + 1)) = D30 ^ (i + k) * D30 := by rw [← Nat.add_assoc, Nat.pow_succ]
  have e2 : D30 ^ (i + k) * S = D30 ^ (i + k) * (S % D30) + D30 ^ (i + k) * D30 * (S / D30) := by rw [Nat.mul_assoc, ← Nat.mul_add, h1]
  have e3 : D30 ^ (i + k) * S = D30 ^ (i + k) * C + (D30 ^ (i + k) * o + D30 ^ (i + k) * (x * y)) := by rw [hS, Nat.mul_add, Nat.mul_add]
  have e4 : x * D30 ^ i * (D30 ^ k * y) = D30 ^ (i + k) * (x * y) := by
    rw [Nat.pow_add]
    simp only [Nat.mul_assoc, Nat.mul_left_comm, Nat.mul_comm]
  rw [e1, Nat.mul_add, e4]
  omega
theorem val_set (ys : List Nat) (i x : Nat) (h : i < ys.length) : val ((ys.set i x).take (i + 1)) = val (ys.take i) + D30 ^ i * x := by
  rw [val_take_succ _ i (by rw [List.length_set]; exact h)]
  have e1 : (ys.set i x).take i = ys.take i := by rw [List.take_set, List.set_eq_of_length_le (by rw [List.length_take]; omega)]
  rw [e1]
  simp [List.getD, h]
theorem okN_set {ys : List Nat} {i x : Nat} (h : i < ys.length) (ho : okN (ys.take i)) (hx : x < D30) : okN ((ys.set i x).take (i + 1)) := by
  have e : (ys.set i x).take (i + 1) = ys.take i ++ [x] := by
    rw [List.take_succ_eq_append_getElem (by rw [List.length_set]; exact h)]
    rw [List.take_set, List.set_eq_of_length_le (by rw [List.length_take]; omega)]
    simp
  rw [e]
  intro y hy
  rcases List.mem_append.1 hy with hy | hy
  · exact ho y hy
  · simp only [List.mem_singleton] at hy; rw [hy]; exact hx
theorem val_zeros : ∀ n : Nat, val (List.replicate n 0) = 0
  | 0 => rfl
  | n + 1 => by rw [List.replicate_succ, val, val_zeros n]; rfl
theorem okN_drop {xs : List Nat} (h : okN xs) (k : Nat) : okN (xs.drop k) := fun y hy => h y (List.mem_of_mem_drop hy)
theorem okN_zeros (n : Nat) : okN (List.replicate n 0) := fun y hy => by rw [(List.mem_replicate.1 hy).2]; decide
theorem okN_append {xs ys : List Nat} (h : okN xs) (h' : okN ys) : okN (xs ++ ys) := fun y hy => by
  rcases List.mem_append.1 hy with hy | hy
  · exact h y hy
  · exact h' y hy
theorem len_pos {q : Nat} (h : 0 < q) : 0 < (bigL q).length := by
  rcases Nat.eq_zero_or_pos (bigL q).length with h0 | h0
  · have := bigL_val q
    rw [List.length_eq_zero_iff.1 h0, val] at this
    omega
  · exact h0
theorem getD_none {l : List Nat} {i : Nat} (h : l.length ≤ i) : l.getD i 0 = 0 := by simp [List.getD, h]
/-- the last digit of a number is not 0 -/
theorem big_top {x : Nat} (h : 0 < (bigL x).length) : (bigL x).getD ((bigL x).length - 1) 0 ≠ 0 := (bigL_canon x).2 ((bigL x).length - 1) (by omega)
/-- one digit of a number, its beginning told -/
theorem of_step {x m : Nat} {zs : List Nat} (h : bigL x = zs ++ bigL m) (hm : m ≠ 0) : bigL x = (zs ++ [m % D30]) ++ bigL (m / D30) := by
  rw [h, bigL_pos hm]; simp
/-- digits with a last one that is not 0 are the digits of their number -/
theorem top_done {zs : List Nat} {v : Nat} (hok : okN zs) (hv : val zs = v) (h : 0 < zs.length → zs.getD (zs.length - 1) 0 ≠ 0) : zs = bigL v := by
  subst hv
  refine (canon_bigL ⟨hok, fun n hn => ?_⟩).symm
  have := h (by omega)
  rwa [hn, Nat.add_sub_cancel] at this
theorem snoc_len (zs : List Nat) (d : Nat) : (zs ++ [d]).length = zs.length + 1 := by simp
theorem snoc_ok {zs : List Nat} {d : Nat} (h : okN zs) (hd : d < D30) : okN (zs ++ [d]) := okN_append h fun y hy => by rw [List.mem_singleton.1 hy]; exact hd
/-- a number by its bits: shifted right -/
theorem shr_step (x i : Nat) : x / 2 ^ i = 2 * (x / 2 ^ (i + 1)) + x / 2 ^ i % 2 := by
  have : x / 2 ^ (i + 1) = x / 2 ^ i / 2 := by rw [Nat.pow_succ, Nat.div_div_eq_div_mul]
  rw [this]
  omega
/-- one bit of a long division -/
theorem split_step {q r y h b : Nat} (hq : h = q * y + r) (hr : r < y) (hb : b ≤ 1) :
    (y ≤ 2 * r + b → 2 * h + b = (2 * q + 1) * y + (2 * r + b - y) ∧ 2 * r + b - y < y) ∧ (2 * r + b < y → 2 * h + b = (2 * q) * y + (2 * r + b)) := by
  have e1 : (2 * q + 1) * y = 2 * (q * y) + y := by rw [Nat.add_mul, Nat.mul_assoc, Nat.one_mul]
  have e2 : (2 * q) * y = 2 * (q * y) := Nat.mul_assoc _ _ _
  rw [e1, e2]
  refine ⟨fun h1 => ⟨by omega, by omega⟩, fun h1 => by omega⟩
theorem div_of {x q y r : Nat} (h : x = q * y + r) (hr : r < y) : x / y = q ∧ x % y = r := by
  subst h
  have hy : 0 < y := by omega
  refine ⟨?_, ?_⟩
  · rw [Nat.mul_comm, Nat.mul_add_div hy, Nat.div_eq_of_lt hr, Nat.add_zero]
  · rw [Nat.mul_comm, Nat.mul_add_mod, Nat.mod_eq_of_lt hr]
theorem val_drop_div {xs : List Nat} (hok : okN xs) : ∀ k, val (xs.drop k) = val xs / D30 ^ k := by
  intro k
  rcases Nat.lt_or_ge xs.length k with h | h
  · rw [List.drop_of_length_le (by omega), val]
    have h1 := val_lt xs hok
    have h2 : D30 ^ xs.length ≤ D30 ^ k := Nat.pow_le_pow_right (by decide) (by omega)
    exact (Nat.div_eq_of_lt (by omega)).symm
  · have e := val_append (xs.take k) (xs.drop k)
    rw [List.take_append_drop, List.length_take, Nat.min_eq_left h] at e
    have h1 := val_lt _ (okN_take hok k)
    rw [List.length_take, Nat.min_eq_left h] at h1
    rw [e, Nat.add_mul_div_left _ _ (Nat.pow_pos (by decide)), Nat.div_eq_of_lt h1, Nat.zero_add]
theorem drop_big (x : Nat) (k : Nat) : (bigL x).drop k = bigL (x / D30 ^ k) := by
  have h1 := val_drop_div (bigL_ok x) k
  rw [bigL_val] at h1
  refine top_done (okN_drop (bigL_ok x) k) h1 fun h => ?_
  rw [List.length_drop] at h ⊢
  have h2 := big_top (x := x) (by omega)
  have e : ((bigL x).drop k).getD ((bigL x).length - k - 1) 0 = (bigL x).getD ((bigL x).length - 1) 0 := by
    simp only [List.getD_eq_getElem?_getD, List.getElem?_drop]
    rw [show k + ((bigL x).length - k - 1) = (bigL x).length - 1 by omega]
  rw [e]; exact h2
/-- a digit's bit -/
theorem digit_bit (x i : Nat) : (bigL x).getD (i / 30) 0 / 2 ^ (i % 30) % 2 = x / 2 ^ i % 2 := by
  have e1 : (bigL x).getD (i / 30) 0 = x / D30 ^ (i / 30) % D30 := by
    have h := drop_big x (i / 30)
    rcases Nat.eq_zero_or_pos (x / D30 ^ (i / 30)) with h0 | h0
    · rw [h0, bigL_zero] at h
      rw [h0, Nat.zero_mod]
      have : (bigL x).length ≤ i / 30 := by
        have := congrArg List.length h
        rw [List.length_drop, List.length_nil] at this
        omega
      exact getD_none this
    · rw [bigL_pos (x := x / D30 ^ (i / 30)) (Nat.ne_of_gt h0)] at h
      have : ((bigL x).drop (i / 30)).getD 0 0 = (bigL x).getD (i / 30) 0 := by simp [List.getD_eq_getElem?_getD, List.getElem?_drop]
      rw [← this, h]; rfl
  have e2 : D30 = 2 ^ 30 := by decide
  have hr : i % 30 < 30 := Nat.mod_lt _ (by decide)
  rw [e1, e2, ← Nat.pow_mul]
  have e3 : 2 ^ i = 2 ^ (30 * (i / 30)) * 2 ^ (i % 30) := by rw [← Nat.pow_add]; congr 1; omega
  rw [e3, ← Nat.div_div_eq_div_mul]
  generalize x / 2 ^ (30 * (i / 30)) = z
  generalize i % 30 = r at *
  have e4 : 2 ^ 30 = 2 ^ r * (2 * 2 ^ (29 - r)) := by rw [← Nat.pow_succ', ← Nat.pow_add]; congr 1; omega
  rw [e4, Nat.mod_mul_right_div_self]
  rw [Nat.mod_mul_right_mod]
theorem big_lt_pow (x : Nat) : x < D30 ^ (bigL x).length := by
  have := val_lt _ (bigL_ok x)
  rwa [bigL_val] at this
/-- a digit of a number -/
theorem dig_at (x i : Nat) : (bigL x).getD i 0 = x / D30 ^ i % D30 := by
  have h := drop_big x i
  rcases Nat.eq_zero_or_pos (x / D30 ^ i) with h0 | h0
  · rw [h0, bigL_zero] at h
    rw [h0, Nat.zero_mod]
    have : (bigL x).length ≤ i := by
      have := congrArg List.length h
      rw [List.length_drop, List.length_nil] at this
      omega
    exact getD_none this
  · rw [bigL_pos (x := x / D30 ^ i) (Nat.ne_of_gt h0)] at h
    have : ((bigL x).drop i).getD 0 0 = (bigL x).getD i 0 := by simp [List.getD_eq_getElem?_getD, List.getElem?_drop]
    rw [← this, h]; rfl
theorem lt_iff (x i : Nat) : i < (bigL x).length ↔ 0 < x / D30 ^ i := by
  have h := congrArg List.length (drop_big x i)
  rw [List.length_drop] at h
  constructor
  · intro h1
    refine Nat.pos_of_ne_zero fun h0 => ?_
    rw [h0, bigL_zero, List.length_nil] at h
    omega
  · intro h1
    have := len_pos h1
    omega
theorem pow_succ_div (x i : Nat) : x / D30 ^ (i + 1) = x / D30 ^ i / D30 := by rw [Nat.pow_succ, Nat.div_div_eq_div_mul]
theorem len_add (x y : Nat) : (bigL (x + y)).length ≤ (bigL x).length + (bigL y).length + 1 := by
  refine bigL_len_le ?_
  have h1 := big_lt_pow x
  have h2 := big_lt_pow y
  have h3 : D30 ^ (bigL x).length ≤ D30 ^ ((bigL x).length + (bigL y).length) := Nat.pow_le_pow_right (by decide) (by omega)
  have h4 : D30 ^ (bigL y).length ≤ D30 ^ ((bigL x).length + (bigL y).length) := Nat.pow_le_pow_right (by decide) (by omega)
  rw [Nat.pow_succ]
  have : 2 * D30 ^ ((bigL x).length + (bigL y).length) ≤ D30 ^ ((bigL x).length + (bigL y).length) * D30 := by rw [Nat.mul_comm]; exact Nat.mul_le_mul_left _ (by decide)
  omega
theorem len_mul (x y : Nat) : (bigL (x * y)).length ≤ (bigL x).length + (bigL y).length := by
  refine bigL_len_le ?_
  rw [Nat.pow_add]
  have h1 := big_lt_pow x
  have h2 := big_lt_pow y
  rcases Nat.eq_zero_or_pos y with rfl | hy
  · rw [Nat.mul_zero]; exact Nat.mul_pos (by omega) (by omega)
  · exact Nat.lt_of_lt_of_le ((Nat.mul_lt_mul_right hy).2 h1) (Nat.mul_le_mul_left _ (by omega))
theorem len_mono {x y : Nat} (h : x ≤ y) : (bigL x).length ≤ (bigL y).length := bigL_len_le (Nat.lt_of_le_of_lt h (big_lt_pow y))
end Go.Proofs.YtionognmgcabbaaGreat.BigM
/- The reference's naturals: digits to the base 2^30 in memory; a number made, sums. -/
namespace Go.Proofs.YtionognmgcabbaaGreat.Big
open Go.RowKit Go.Proofs.YtionognmgcabbaaGreat Go.Proofs.YtionognmgcabbaaGreat.Base Go.Proofs.YtionognmgcabbaaGreat.Mem Go.Proofs.YtionognmgcabbaaGreat.BigM
set_option linter.unusedVariables false
/-- digits as the numbers of a list in memory -/
def zs (xs : List Nat) : List Int := xs.map Int.ofNat
theorem zs_len (xs : List Nat) : (zs xs).length = xs.length := by simp [zs]
theorem zs_get (xs : List Nat) (i : Nat) : (zs xs).getD i 0 = ((xs.getD i 0 : Nat) : Int) := by
  simp only [zs, List.getD_eq_getElem?_getD, List.getElem?_map]
  cases xs[i]? <;> rfl
theorem zs_snoc (xs : List Nat) (d : Nat) : ints (zs xs) ++ [.int .i64 (d : Int)] = ints (zs (xs ++ [d])) := by simp [zs, ints]
/-- digits that lie in an array of their own -/
def Dig (w : World) (B : Nat) (v : Value) (xs : List Nat) : Prop := w.ownsRow B 2 1 v xs.length (ints (zs xs))
/-- a number that is read -/
def IsB (w : World) (x : Nat) (v : Value) : Prop := Dig w 0 v (bigL x)
/-- a number that is returned -/
def BRet (x : Nat) (w : World) (e : Ending) (w' : World) : Prop := ∃ v, e = .returned v ∧ IsB w' x v ∧ Below w.heap.size w w'
theorem Dig.form {w : World} {B : Nat} {v : Value} {xs : List Nat} (h : Dig w B v xs) : ∃ A c, v = .slice A xs.length c ∧ (0 < xs.length → ∃ g, A = some ⟨g, 0, none⟩ ∧ B ≤ g ∧ g < w.heap.size) := ownsRow_form h
theorem Dig.below {w w' : World} {B : Nat} {v : Value} {xs : List Nat} (h : Dig w B v xs) (hb : Below w.heap.size w w') : Dig w' B v xs := ownsRow_below h hb
theorem Dig.base {w : World} {B B' : Nat} {v : Value} {xs : List Nat} (h : Dig w B v xs) (hb : B' ≤ B) : Dig w B' v xs := ownsRow_base h hb
theorem Dig.cell {w : World} {B n c : Nat} {A : Option Addr} {xs : List Nat} (h : Dig w B (.slice A n c) xs) {i : Nat} (hi : i < xs.length) : ∃ g, A = some ⟨g, 0, none⟩ ∧ B ≤ g ∧ g < w.heap.size ∧ w.cell? ⟨g, i, none⟩ = some (.int .i64 ((xs.getD i 0 : Nat) : Int)) := by
  obtain ⟨A', c', e, hf⟩ := h.form
  injection e with e1 e2 e3
  subst e1 e2 e3
  obtain ⟨g, rfl, h1, h2⟩ := hf (by omega)
  refine ⟨g, rfl, h1, h2, ?_⟩
  rw [World.ownsRow.cellAt h i (by omega), ints_get _ i (by rw [zs_len]; exact hi), zs_get]
theorem Dig.take {w : World} {B n c : Nat} {A : Option Addr} {xs : List Nat} (h : Dig w B (.slice A n c) xs) {k : Nat} (hk : k ≤ xs.length) : Dig w B (.slice A k c) (xs.take k) := by
  obtain ⟨A', c', e, hf⟩ := h.form
  injection e with e1 e2 e3
  subst e1 e2 e3
  unfold Dig at h ⊢
  rw [List.length_take, Nat.min_eq_left hk]
  refine ⟨by rw [ints_len, zs_len, List.length_take, Nat.min_eq_left hk, Nat.mul_one], ?_⟩
  rcases h.2 with ⟨h0, h1⟩ | ⟨g, cap, cur, e, h1, hh, h2⟩
  · injection h0 with e1 e2 e3
    subst e1 e3
    have : k = 0 := by omega
    subst this
    refine .inl ⟨rfl, ?_⟩
    first | rfl | omega
  · injection e with e1 e2 e3
    subst e1 e3
    refine .inr ⟨g, c, cur, rfl, h1, hh, by omega, h2.2.1, h2.2.2.1, ?_⟩
    have h3 := h2.2.2.2
    simp only [Nat.mul_one] at h3 ⊢
    have h4 := congrArg (List.take k) h3
    rw [List.take_take, Nat.min_eq_left hk] at h4
    rw [h4]
    simp only [zs, ints, List.map_take]
theorem IsB.below {w w' : World} {x : Nat} {v : Value} (h : IsB w x v) (hb : Below w.heap.size w w') : IsB w' x v := Dig.below h hb
theorem BRet.of {x : Nat} {w w' : World} {v : Value} {B : Nat} {xs : List Nat} (h : Dig w' B v xs) (hx : xs = bigL x) (hb : Below w.heap.size w w') : BRet x w (.returned v) w' := by
  subst hx; exact ⟨v, rfl, h.base (Nat.zero_le _), hb⟩
theorem and30 (x : Nat) (h : x < 9223372036854775808) : bits .and .i64 (x : Int) 1073741823 = ((x % 1073741824 : Nat) : Int) := by
  have := Bits.i64_and_nat x 1073741823 h (by decide)
  rw [Nat.and_two_pow_sub_one_eq_mod x 30] at this
  exact this
/-- the state of BigOf -/
def OfRel (x : Nat) (w : World) (nv ov : Value) (wr : World) : Prop :=
  ∃ (m : Nat) (ys : List Nat), nv = .int .i64 (m : Int) ∧ m ≤ x ∧ ys.length ≤ 3 ∧ Hid (bigL x = ys ++ bigL m) ∧ Hid (Dig wr w.heap.size ov ys) ∧ Hid (Below w.heap.size w wr)
theorem Dig.push {w wr w3 : World} {v v' : Value} {ys : List Nat} {d : Nat} {cs : Array Value} {t : TypeId} (hO : Dig wr w.heap.size v ys) (hb : Below w.heap.size w wr)
    (hown : w3.ownsRow w.heap.size 2 1 v' (ys.length + 1) (ints (zs ys) ++ [.int .i64 (d : Int)])) (hg : (wr.alloc (.cells cs t)).grownBy w3 v.ownBlock) : Dig w3 w.heap.size v' (ys ++ [d]) ∧ Below w.heap.size w w3 := by
  refine ⟨?_, ?_⟩
  · unfold Dig
    rw [List.length_append, List.length_singleton, ← zs_snoc]
    exact hown
  · exact (hb.alloc hb.size _).trans (grown_below hg (fun g e => by
      obtain ⟨_, _, h1, _⟩ := ownsRow_block hO e
      exact h1) (by simp; have := hb.size; omega))
theorem OfRel.next {x m : Nat} {w wr w3 : World} {v v' : Value} {ys : List Nat} {cs : Array Value} {t : TypeId} (hpos : 0 < m) (hm : m ≤ x) (hx : x < 9223372036854775808) (hd : bigL x = ys ++ bigL m) (hO : Dig wr w.heap.size v ys) (hb : Below w.heap.size w wr)
    (hown : w3.ownsRow w.heap.size 2 1 v' (ys.length + 1) (ints (zs ys) ++ [.int .i64 ((m % D30 : Nat) : Int)])) (hg : (wr.alloc (.cells cs t)).grownBy w3 v.ownBlock) : OfRel x w (.int .i64 ((m / D30 : Nat) : Int)) v' w3 := by
  obtain ⟨h1, h2⟩ := hO.push hb hown hg
  have h3 := of_step hd (Nat.ne_of_gt hpos)
  refine ⟨m / D30, ys ++ [m % D30], rfl, Nat.le_trans (Nat.div_le_self _ _) hm, ?_, Lib.hid h3, Lib.hid h1, Lib.hid h2⟩
  have h4 := bigL_len_le (x := x) (k := 3) (Nat.lt_of_lt_of_le hx (by decide))
  have h5 := congrArg List.length h3
  rw [List.length_append] at h5
  omega
set_option maxHeartbeats 1000000 in
set_option maxRecDepth 100000 in
theorem bigOf_any (x : Nat) (hx : x < 9223372036854775808) (w : World) : Calls Tryz.prog 98 #[.int .i64 (x : Int)] w (BRet x w) := by
  obtain ⟨i0, hi, hz0, hz1, hz2⟩ := info_parts infoI
  have H0 : Hid (OfRel x w (.int .i64 (x : Int)) (.slice (some ⟨w.heap.size, 0, none⟩) 0 0) (w.alloc (.cells #[] 2))) := Lib.hid
    ⟨x, [], rfl, Nat.le_refl _, by simp, Lib.hid rfl, Lib.hid (World.ownsRow_made w #[] 0 (Nat.le_refl _) (Nat.zero_le _) (by simp)), Lib.hid ((Below.refl _ _).alloc (Nat.le_refl _) _)⟩
  have HX := Lib.hid hx
  go_enter Tryz.func98, Tryz.ntmps98
  go_wp2
  go_loopw [0, 3] (fun nv ov wr => OfRel x w nv ov wr) (fun nv _ _ => (intOf nv).toNat)
  case atStart => exact H0.out
  case round =>
    obtain ⟨m, ys, rfl, hm, hl, hd, hO, hb⟩ := hrel
    clear H0
    by_cases hpos : 0 < m
    · have hand := and30 m (by omega)
      have hdiv : (m : Int) / 1073741824 = ((m / D30 : Nat) : Int) := by simp [D30]
      have hlt : m / D30 < m := Nat.div_lt_self hpos (by decide)
      have HN := Lib.hid (fun w3 v' cs t hown hg => OfRel.next (w3 := w3) (v' := v') (cs := cs) (t := t) hpos hm HX.out hd.out hO.out hb.out hown hg)
      have hsz := hb.out.size
      have hown := World.ownsRow.alloc hO.out (.cells #[.int .i64 ((m % 1073741824 : Nat) : Int)] 2)
      have HW := Lib.hid hown
      clear hown hO hb hd hx
      unfold D30 at HN hdiv hlt
      generalize m % 1073741824 = d at *
      go_wp2_with (at_builtin; refine wpList_append_own_at _ rfl (.tmp 9) (.tmp 12) 79 rfl w.heap.size 2 i0 (.int .i64 0) 1 8 Tryz.underlying79 hi hz0 hz1 hz2 rfl (by decide) _ _ _ rfl HW.out ⟨wr.heap.size, 0, none⟩ 1 1 [.int .i64 (d : Int)] rfl rfl ?p1a ?p2a ?p3a ?p4a ?p5a ?_)
      try case p1a => exact news_one _ _ _ (by simp)
      try case p2a => first | exact one_int | rfl | simp
      try case p3a => first | (simp only [maxLen]; omega) | omega
      try case p4a => omega
      try case p5a => first | (simp only [World.size_alloc]; omega) | omega
      intro v' w3 hown' hg' _ he
      have HN3 := Lib.hid (HN.out w3 v' _ _ hown' hg')
      clear hown' hg' he HN HW
      generalize m / 1073741824 = q at *
      go_wp2
      go_roundw
      case rel => exact HN3.out
      case measure => simp [intOf]; omega
    · obtain rfl : m = 0 := by omega
      have hR := hd.out
      rw [bigL_zero, List.append_nil] at hR
      have HR := Lib.hid (BRet.of hO.out hR.symm hb.out)
      clear hR hO hb hd
      go_wp2
      go_ret
      exact HR.out
end Go.Proofs.YtionognmgcabbaaGreat.Big
/- The reference's naturals: sums. -/
namespace Go.Proofs.YtionognmgcabbaaGreat.Big
open Go.RowKit Go.Proofs.YtionognmgcabbaaGreat Go.Proofs.YtionognmgcabbaaGreat.Base Go.Proofs.YtionognmgcabbaaGreat.Mem Go.Proofs.YtionognmgcabbaaGreat.BigM
set_option linter.unusedVariables false
/-- the state of a sum: X, Y what is left of the numbers, C carried -/
def PlusSt (x y i C X Y : Nat) (ys : List Nat) : Prop := X = x / D30 ^ i ∧ Y = y / D30 ^ i ∧ ys.length = i ∧ bigL (x + y) = ys ++ bigL (X + Y + C) ∧ C ≤ 1
def PlusRel (x y : Nat) (w : World) (iv cv ov : Value) (wr : World) : Prop :=
  ∃ (i C X Y : Nat) (ys : List Nat), iv = .int .i64 (i : Int) ∧ cv = .int .i64 (C : Int) ∧ i ≤ 4000000 ∧ Hid (PlusSt x y i C X Y ys) ∧ Hid (Dig wr w.heap.size ov ys) ∧ Hid (Below w.heap.size w wr)
theorem PlusSt.next {x y i C X Y a b S : Nat} {ys : List Nat} (h : PlusSt x y i C X Y ys) (ha : a = (bigL x).getD i 0) (hb : b = (bigL y).getD i 0) (hS : S = C + a + b) (hpos : 0 < X + Y + C) :
    PlusSt x y (i + 1) (S / D30) (X / D30) (Y / D30) (ys ++ [S % D30]) := by
  obtain ⟨h1, h2, h3, h4, h5⟩ := h
  rw [dig_at, ← h1] at ha
  rw [dig_at, ← h2] at hb
  have e := of_step h4 (Nat.ne_of_gt hpos)
  have hx := Nat.mod_add_div X D30
  have hy := Nat.mod_add_div Y D30
  have e1 : X + Y + C = S + D30 * (X / D30 + Y / D30) := by rw [Nat.mul_add]; omega
  have e2 : (X + Y + C) % D30 = S % D30 := by rw [e1, Nat.add_mul_mod_self_left]
  have e3 : (X + Y + C) / D30 = X / D30 + Y / D30 + S / D30 := by rw [e1, Nat.add_mul_div_left _ _ (by decide : 0 < D30)]; omega
  rw [e2, e3] at e
  refine ⟨by rw [pow_succ_div, h1], by rw [pow_succ_div, h2], by rw [List.length_append, h3]; rfl, e, ?_⟩
  have l1 : X % D30 < D30 := Nat.mod_lt _ (by decide)
  have l2 : Y % D30 < D30 := Nat.mod_lt _ (by decide)
  unfold D30 at *
  omega
theorem PlusRel.next {x y i C X Y a b S : Nat} {w wr w3 : World} {v v' : Value} {ys : List Nat} {cs : Array Value} {t : TypeId} (h : PlusSt x y i C X Y ys) (hl : (bigL (x + y)).length ≤ 4000000) (ha : a = (bigL x).getD i 0) (hb : b = (bigL y).getD i 0) (hS : S = C + a + b) (hpos : 0 < X + Y + C)
    (hO : Dig wr w.heap.size v ys) (hbl : Below w.heap.size w wr)
    (hown : w3.ownsRow w.heap.size 2 1 v' (ys.length + 1) (ints (zs ys) ++ [.int .i64 ((S % D30 : Nat) : Int)])) (hg : (wr.alloc (.cells cs t)).grownBy w3 v.ownBlock) : PlusRel x y w (.int .i64 ((i : Int) + 1)) (.int .i64 ((S / D30 : Nat) : Int)) v' w3 := by
  obtain ⟨h1, h2⟩ := hO.push hbl hown hg
  have h3 := h.next ha hb hS hpos
  have h4 := h3.2.2.2.1
  have h5 := congrArg List.length h4
  have h6 := h3.2.2.1
  rw [List.length_append] at h5
  exact ⟨i + 1, S / D30, X / D30, Y / D30, ys ++ [S % D30], by simp, rfl, by omega, Lib.hid h3, Lib.hid h1, Lib.hid h2⟩
theorem PlusRel.done {x y i C X Y : Nat} {w wr : World} {v : Value} {ys : List Nat} (h : PlusSt x y i C X Y ys) (h0 : X + Y + C = 0) (hO : Dig wr w.heap.size v ys) (hbl : Below w.heap.size w wr) : BRet (x + y) w (.returned v) wr := by
  obtain ⟨h1, h2, h3, h4, h5⟩ := h
  rw [h0, bigL_zero, List.append_nil] at h4
  exact BRet.of hO h4.symm hbl
set_option maxHeartbeats 4000000 in
set_option maxRecDepth 100000 in
theorem bigPlus_any {x y : Nat} {u v : Value} (w : World) (hx : IsB w x u) (hy : IsB w y v) (hl : (bigL x).length ≤ 1000000) (hl' : (bigL y).length ≤ 1000000) : Calls Tryz.prog 146 #[u, v] w (BRet (x + y) w) := by
  obtain ⟨i0, hi, hz0, hz1, hz2⟩ := info_parts infoI
  have HL : Hid ((bigL (x + y)).length ≤ 4000000) := Lib.hid (by have := len_add x y; omega)
  have HLX : Hid (∀ i, i < (bigL x).length ↔ 0 < x / D30 ^ i) := Lib.hid (fun i => lt_iff x i)
  have HLY : Hid (∀ i, i < (bigL y).length ↔ 0 < y / D30 ^ i) := Lib.hid (fun i => lt_iff y i)
  have HDX := Lib.hid (fun i => okN_at (bigL_ok x) i)
  have HDY := Lib.hid (fun i => okN_at (bigL_ok y) i)
  have H0 : Hid (PlusRel x y w (.int .i64 0) (.int .i64 0) (.slice (some ⟨w.heap.size, 0, none⟩) 0 0) (w.alloc (.cells #[] 2))) := Lib.hid
    ⟨0, 0, x, y, [], rfl, rfl, Nat.zero_le _, Lib.hid ⟨by simp, by simp, rfl, rfl, Nat.zero_le _⟩, Lib.hid (World.ownsRow_made w #[] 0 (Nat.le_refl _) (Nat.zero_le _) (by simp)), Lib.hid ((Below.refl _ _).alloc (Nat.le_refl _) _)⟩
  obtain ⟨A, c, rfl, _⟩ := Dig.form hx
  obtain ⟨A', c', rfl, _⟩ := Dig.form hy
  have HX := Lib.hid hx
  have HY := Lib.hid hy
  clear hx hy
  go_enter Tryz.func146, Tryz.ntmps146
  go_wp2
  go_loopw [7, 6, 5] (fun iv cv ov wr => PlusRel x y w iv cv ov wr) (fun iv _ _ _ => 4000001 - (intOf iv).toNat)
  case atStart => exact H0.out
  case round =>
    obtain ⟨i, C, X, Y, ys, rfl, rfl, hil, hst, hO, hb⟩ := hrel
    clear H0
    have hC := hst.out.2.2.2.2
    have hyl : ys.length ≤ 4000000 := by have := hst.out.2.2.1; omega
    have hX := (HLX.out i)
    have hY := (HLY.out i)
    rw [← hst.out.1] at hX
    rw [← hst.out.2.1] at hY
    have HPX := Lib.hid hX
    have HPY := Lib.hid hY
    have hsz := hb.out.size
    clear hX hY
    have hax := HDX.out i
    have hay := HDY.out i
    unfold D30 at hax hay
    obtain ⟨a, ha⟩ : ∃ a, a = (bigL x).getD i 0 := ⟨_, rfl⟩
    obtain ⟨b, hbd⟩ : ∃ b, b = (bigL y).getD i 0 := ⟨_, rfl⟩
    rw [← ha] at hax
    rw [← hbd] at hay
    have HN := Lib.hid (fun (hpos : 0 < X + Y + C) S (hS : S = C + a + b) w3 v' cs t hown hg => PlusRel.next (w3 := w3) (v' := v') (cs := cs) (t := t) hst.out HL.out ha hbd hS hpos hO.out hb.out hown hg)
    by_cases h1 : i < (bigL x).length
    · obtain ⟨g, rfl, _, hgl, hca⟩ := Dig.cell (HX.out.below hb.out) h1
      rw [← ha] at hca
      have hpos : 0 < X + Y + C := by have := HPX.out.1 h1; omega
      by_cases h2 : i < (bigL y).length
      · obtain ⟨g', rfl, _, hgl', hcb⟩ := Dig.cell (HY.out.below hb.out) h2
        rw [← hbd] at hcb
        obtain ⟨S, hS⟩ : ∃ S, S = C + a + b := ⟨_, rfl⟩
        replace HN := Lib.hid (HN.out hpos S hS)
        clear hpos ha hbd
        have hand := and30 S (by omega)
        have hcS : (S : Int) = (C : Int) + (a : Int) + (b : Int) := by omega
        rw [hcS] at hand
        have hdiv : ((C : Int) + (a : Int) + (b : Int)) / 1073741824 = ((S / D30 : Nat) : Int) := by rw [← hcS]; simp [D30]
        have hown := World.ownsRow.alloc hO.out (.cells #[.int .i64 ((S % 1073741824 : Nat) : Int)] 2)
        have HW := Lib.hid hown
        clear hown hO hb hst hcS
        unfold D30 at HN hdiv
        generalize S % 1073741824 = d at *
        generalize S / 1073741824 = q at *
        go_wp2_with (at_builtin; refine wpList_append_own_at _ rfl (.tmp 45) (.tmp 48) 79 rfl w.heap.size 2 i0 (.int .i64 0) 1 8 Tryz.underlying79 hi hz0 hz1 hz2 rfl (by decide) _ _ _ rfl HW.out ⟨wr.heap.size, 0, none⟩ 1 1 [.int .i64 (d : Int)] rfl rfl ?p1a ?p2a ?p3a ?p4a ?p5a ?_)
        try case p1a => exact news_one _ _ _ (by simp)
        try case p2a => first | exact one_int | rfl | simp
        try case p3a => first | (simp only [maxLen]; omega) | omega
        try case p4a => omega
        try case p5a => first | (simp only [World.size_alloc]; omega) | omega
        intro v' w3 hown' hg' _ he
        have HN3 := Lib.hid (HN.out w3 v' _ _ hown' hg')
        clear hown' hg' he HN HW
        go_wp2
        go_roundw
        case rel => exact HN3.out
        case measure => simp [intOf]; omega
      · have hb0 : b = 0 := by rw [hbd]; exact getD_none (by omega)
        subst hb0
        obtain ⟨S, hS⟩ : ∃ S, S = C + a := ⟨_, rfl⟩
        replace HN := Lib.hid (HN.out hpos S (by omega))
        clear hpos ha hbd
        have hand := and30 S (by omega)
        have hcS : (S : Int) = (C : Int) + (a : Int) := by omega
        rw [hcS] at hand
        have hdiv : ((C : Int) + (a : Int)) / 1073741824 = ((S / D30 : Nat) : Int) := by rw [← hcS]; simp [D30]
        have hown := World.ownsRow.alloc hO.out (.cells #[.int .i64 ((S % 1073741824 : Nat) : Int)] 2)
        have HW := Lib.hid hown
        clear hown hO hb hst hcS
        unfold D30 at HN hdiv
        generalize S % 1073741824 = d at *
        generalize S / 1073741824 = q at *
        go_wp2_with (at_builtin; refine wpList_append_own_at _ rfl (.tmp 45) (.tmp 48) 79 rfl w.heap.size 2 i0 (.int .i64 0) 1 8 Tryz.underlying79 hi hz0 hz1 hz2 rfl (by decide) _ _ _ rfl HW.out ⟨wr.heap.size, 0, none⟩ 1 1 [.int .i64 (d : Int)] rfl rfl ?p1a ?p2a ?p3a ?p4a ?p5a ?_)
        try case p1a => exact news_one _ _ _ (by simp)
        try case p2a => first | exact one_int | rfl | simp
        try case p3a => first | (simp only [maxLen]; omega) | omega
        try case p4a => omega
        try case p5a => first | (simp only [World.size_alloc]; omega) | omega
        intro v' w3 hown' hg' _ he
        have HN3 := Lib.hid (HN.out w3 v' _ _ hown' hg')
        clear hown' hg' he HN HW
        go_wp2
        go_roundw
        case rel => exact HN3.out
        case measure => simp [intOf]; omega
    · have ha0 : a = 0 := by rw [ha]; exact getD_none (by omega)
      subst ha0
      by_cases h2 : i < (bigL y).length
      · obtain ⟨g', rfl, _, hgl', hcb⟩ := Dig.cell (HY.out.below hb.out) h2
        rw [← hbd] at hcb
        have hpos : 0 < X + Y + C := by have := HPY.out.1 h2; omega
        obtain ⟨S, hS⟩ : ∃ S, S = C + b := ⟨_, rfl⟩
        replace HN := Lib.hid (HN.out hpos S (by omega))
        clear hpos ha hbd
        have hand := and30 S (by omega)
        have hcS : (S : Int) = (C : Int) + (b : Int) := by omega
        rw [hcS] at hand
        have hdiv : ((C : Int) + (b : Int)) / 1073741824 = ((S / D30 : Nat) : Int) := by rw [← hcS]; simp [D30]
        have hown := World.ownsRow.alloc hO.out (.cells #[.int .i64 ((S % 1073741824 : Nat) : Int)] 2)
        have HW := Lib.hid hown
        clear hown hO hb hst hcS
        unfold D30 at HN hdiv
        generalize S % 1073741824 = d at *
        generalize S / 1073741824 = q at *
        go_wp2_with (at_builtin; refine wpList_append_own_at _ rfl (.tmp 45) (.tmp 48) 79 rfl w.heap.size 2 i0 (.int .i64 0) 1 8 Tryz.underlying79 hi hz0 hz1 hz2 rfl (by decide) _ _ _ rfl HW.out ⟨wr.heap.size, 0, none⟩ 1 1 [.int .i64 (d : Int)] rfl rfl ?p1a ?p2a ?p3a ?p4a ?p5a ?_)
        try case p1a => exact news_one _ _ _ (by simp)
        try case p2a => first | exact one_int | rfl | simp
        try case p3a => first | (simp only [maxLen]; omega) | omega
        try case p4a => omega
        try case p5a => first | (simp only [World.size_alloc]; omega) | omega
        intro v' w3 hown' hg' _ he
        have HN3 := Lib.hid (HN.out w3 v' _ _ hown' hg')
        clear hown' hg' he HN HW
        go_wp2
        go_roundw
        case rel => exact HN3.out
        case measure => simp [intOf]; omega
      · have hb0 : b = 0 := by rw [hbd]; exact getD_none (by omega)
        subst hb0
        by_cases h3 : 0 < C
        · have hpos : 0 < X + Y + C := by omega
          obtain ⟨S, hS⟩ : ∃ S, S = C := ⟨_, rfl⟩
          replace HN := Lib.hid (HN.out hpos S (by omega))
          clear hpos ha hbd
          have hand := and30 S (by omega)
          have hcS : (S : Int) = (C : Int) := by omega
          rw [hcS] at hand
          have hdiv : ((C : Int)) / 1073741824 = ((S / D30 : Nat) : Int) := by rw [← hcS]; simp [D30]
          have hown := World.ownsRow.alloc hO.out (.cells #[.int .i64 ((S % 1073741824 : Nat) : Int)] 2)
          have HW := Lib.hid hown
          clear hown hO hb hst hcS
          unfold D30 at HN hdiv
          generalize S % 1073741824 = d at *
          generalize S / 1073741824 = q at *
          go_wp2_with (at_builtin; refine wpList_append_own_at _ rfl (.tmp 45) (.tmp 48) 79 rfl w.heap.size 2 i0 (.int .i64 0) 1 8 Tryz.underlying79 hi hz0 hz1 hz2 rfl (by decide) _ _ _ rfl HW.out ⟨wr.heap.size, 0, none⟩ 1 1 [.int .i64 (d : Int)] rfl rfl ?p1a ?p2a ?p3a ?p4a ?p5a ?_)
          try case p1a => exact news_one _ _ _ (by simp)
          try case p2a => first | exact one_int | rfl | simp
          try case p3a => first | (simp only [maxLen]; omega) | omega
          try case p4a => omega
          try case p5a => first | (simp only [World.size_alloc]; omega) | omega
          intro v' w3 hown' hg' _ he
          have HN3 := Lib.hid (HN.out w3 v' _ _ hown' hg')
          clear hown' hg' he HN HW
          go_wp2
          go_roundw
          case rel => exact HN3.out
          case measure => simp [intOf]; omega
        · have h0 : X + Y + C = 0 := by
            have := HPX.out
            have := HPY.out
            omega
          have HR := Lib.hid (PlusRel.done hst.out h0 hO.out hb.out)
          clear hO hb hst HN h0 ha hbd
          go_wp2
          go_ret
          exact HR.out
end Go.Proofs.YtionognmgcabbaaGreat.Big
/- The reference's naturals: comparison, differences. -/
namespace Go.Proofs.YtionognmgcabbaaGreat.Big
open Go.RowKit Go.Proofs.YtionognmgcabbaaGreat Go.Proofs.YtionognmgcabbaaGreat.Base Go.Proofs.YtionognmgcabbaaGreat.Mem Go.Proofs.YtionognmgcabbaaGreat.BigM
set_option linter.unusedVariables false
/-- which of two naturals is less -/
def cmpN (x y : Nat) : Int := if x < y then -1 else if y < x then 1 else 0
theorem cmpN_lt {x y : Nat} (h : x < y) : cmpN x y = -1 := by simp [cmpN, h]
theorem cmpN_gt {x y : Nat} (h : y < x) : cmpN x y = 1 := by
  unfold cmpN; rw [if_neg (by omega), if_pos h]
theorem cmpN_eq {x y : Nat} (h : x = y) : cmpN x y = 0 := by
  unfold cmpN; rw [if_neg (by omega), if_neg (by omega)]
theorem IsB.cell {w : World} {x n c : Nat} {A : Option Addr} (h : IsB w x (.slice A n c)) {i : Nat} (hi : i < (bigL x).length) : ∃ g, A = some ⟨g, 0, none⟩ ∧ w.cell? ⟨g, i, none⟩ = some (.int .i64 (((bigL x).getD i 0 : Nat) : Int)) := by
  obtain ⟨g, e, _, _, h4⟩ := Dig.cell h hi
  exact ⟨g, e, h4⟩
set_option maxHeartbeats 2000000 in
set_option maxRecDepth 100000 in
theorem bigCmp_any {x y : Nat} {u v : Value} (w : World) (hx : IsB w x u) (hy : IsB w y v) (hl : (bigL x).length ≤ 4000000) (hl' : (bigL y).length ≤ 4000000) : Calls Tryz.prog 147 #[u, v] w fun e w' => e = .returned (.int .i64 (cmpN x y)) ∧ Drawn w w' := by
  obtain ⟨A, c, rfl, _⟩ := Dig.form hx
  obtain ⟨A', c', rfl, _⟩ := Dig.form hy
  have HX := Lib.hid (fun wr (hD : Drawn w wr) i (hi : i < (bigL x).length) => IsB.cell (hx.below hD.below) hi)
  have HY := Lib.hid (fun wr (hD : Drawn w wr) i (hi : i < (bigL y).length) => IsB.cell (hy.below hD.below) hi)
  have vx := bigL_val x
  have vy := bigL_val y
  have ox := bigL_ok x
  have oy := bigL_ok y
  have l1 := @bigL_len_lt x y
  have l2 := @bigL_len_lt y x
  clear hx hy
  generalize hxs : bigL x = xs at *
  generalize hys : bigL y = ys at *
  have HV := Lib.hid (And.intro vx vy)
  have HO := Lib.hid (And.intro ox oy)
  by_cases hlen : xs.length = ys.length
  · have heq : ((xs.length : Int) != (ys.length : Int)) = false := by simp [hlen]
    have HL := Lib.hid hlen
    clear vx vy ox oy l1 l2 hlen hxs hys
    go_enter Tryz.func147, Tryz.ntmps147
    go_wp2
    go_loopw [5] (fun iv wr => ∃ n : Nat, n ≤ xs.length ∧ iv = .int .i64 ((n : Int) - 1) ∧ Hid (∀ j, n ≤ j → j < xs.length → xs.getD j 0 = ys.getD j 0) ∧ Drawn w wr) (fun iv _ => (intOf iv + 1).toNat)
    case atStart => exact ⟨xs.length, Nat.le_refl _, rfl, Lib.hid (fun j h1 h2 => absurd h2 (by omega)), Drawn.refl _⟩
    case round =>
      obtain ⟨n, hn, rfl, he, hD⟩ := hrel
      have HD := Lib.hid hD
      clear hD
      by_cases hpos : 0 < n
      · obtain ⟨m, rfl⟩ : ∃ m, n = m + 1 := ⟨n - 1, by omega⟩
        obtain ⟨b, rfl, g⟩ := HX.out wr HD.out m (by omega)
        obtain ⟨b', rfl, g'⟩ := HY.out wr HD.out m (by have := HL.out; omega)
        have hmy : m < ys.length := by have := HL.out; omega
        have e1 : (((m + 1 : Nat) : Int) - 1) = (m : Int) := by omega
        rw [e1]
        have i0 : (0 : Int) ≤ (m : Int) := Int.natCast_nonneg _
        have i1 : (m : Int) < (xs.length : Int) := by omega
        have i2 : (m : Int) < (ys.length : Int) := by omega
        clear e1
        by_cases hz : xs.getD m 0 = ys.getD m 0
        · have HN : Hid (∀ j, m ≤ j → j < xs.length → xs.getD j 0 = ys.getD j 0) := Lib.hid fun j h1 h2 => by
            rcases Nat.lt_or_ge m j with h | h
            · exact he.out j (by omega) h2
            · rw [show j = m by omega]; exact hz
          rw [hz] at g
          clear hz
          generalize ys.getD m 0 = y1 at *
          have hb3 : decide (y1 < y1) = false := decide_eq_false (by omega)
          go_wp2
          go_quiet (fail)
          go_wp2
          go_quiet (fail)
          go_wp2
          go_roundw
          case rel => exact ⟨m, by omega, by congr 1, HN, HD.out.next _⟩
          case measure => simp [intOf]
        · rcases Nat.lt_or_gt_of_ne hz with hlt | hgt
          · have HR := Lib.hid (cmp_lt (n := m) HL.out HO.out.1 HO.out.2 (by omega) (fun j h1 h2 => he.out j h1 h2) hlt)
            have hb2 : decide (((xs.getD m 0 : Nat) : Int) < ((ys.getD m 0 : Nat) : Int)) = true := decide_eq_true (by omega)
            have hb3 : decide (xs.getD m 0 < ys.getD m 0) = true := decide_eq_true hlt
            clear hz hlt
            generalize xs.getD m 0 = x1 at *
            generalize ys.getD m 0 = y1 at *
            go_wp2
            go_quiet (fail)
            go_wp2
            go_ret
            exact ⟨ret_int (by rw [HV.out.1, HV.out.2] at HR; exact (cmpN_lt HR.out).symm), HD.out.next _⟩
          · have HR := Lib.hid (cmp_lt (n := m) HL.out.symm HO.out.2 HO.out.1 (by omega) (fun j h1 h2 => (he.out j h1 (by have := HL.out; omega)).symm) hgt)
            have hb2 : decide (((xs.getD m 0 : Nat) : Int) < ((ys.getD m 0 : Nat) : Int)) = false := decide_eq_false (by omega)
            have hb3 : decide (xs.getD m 0 < ys.getD m 0) = false := decide_eq_false (by omega)
            have hb4 : decide (((ys.getD m 0 : Nat) : Int) < ((xs.getD m 0 : Nat) : Int)) = true := decide_eq_true (by omega)
            have hb5 : decide (ys.getD m 0 < xs.getD m 0) = true := decide_eq_true (by omega)
            clear hz hgt
            generalize xs.getD m 0 = x1 at *
            generalize ys.getD m 0 = y1 at *
            go_wp2
            go_quiet (fail)
            go_wp2
            go_quiet (fail)
            go_wp2
            go_ret
            exact ⟨ret_int (by rw [HV.out.1, HV.out.2] at HR; exact (cmpN_gt HR.out).symm), (HD.out.next _).next _⟩
      · obtain rfl : n = 0 := by omega
        have HE := Lib.hid ((val_cmp HL.out HO.out.1 HO.out.2 0 (Nat.zero_le _) he.out).2.2 (by simp))
        go_wp2
        go_ret
        exact ⟨ret_int (by rw [HV.out.1, HV.out.2] at HE; exact (cmpN_eq HE.out).symm), HD.out⟩
  · have heq : ((xs.length : Int) != (ys.length : Int)) = true := by simp; omega
    rcases Nat.lt_or_gt_of_ne hlen with h | h
    · have HR := Lib.hid (cmpN_lt (l1 h))
      clear vx vy ox oy l1 l2 hlen hxs hys
      go_enter Tryz.func147, Tryz.ntmps147
      go_wp2
      go_ret
      exact ⟨ret_int HR.out.symm, Drawn.refl _⟩
    · have HR := Lib.hid (cmpN_gt (l2 h))
      have hn : ¬ xs.length < ys.length := by omega
      clear vx vy ox oy l1 l2 hlen hxs hys
      go_enter Tryz.func147, Tryz.ntmps147
      go_wp2
      go_ret
      exact ⟨ret_int HR.out.symm, Drawn.refl _⟩
end Go.Proofs.YtionognmgcabbaaGreat.Big
/- The reference's naturals: differences. -/
namespace Go.Proofs.YtionognmgcabbaaGreat.Big
open Go.RowKit Go.Proofs.YtionognmgcabbaaGreat Go.Proofs.YtionognmgcabbaaGreat.Base Go.Proofs.YtionognmgcabbaaGreat.Mem Go.Proofs.YtionognmgcabbaaGreat.BigM
set_option linter.unusedVariables false
def sLen : Value → Nat
  | .slice _ n _ => n
  | _ => 0
/-- the digits 0 at the end go -/
def TrimRel (A : Option Addr) (c : Nat) (xs : List Nat) (ov : Value) : Prop := ∃ n : Nat, n ≤ xs.length ∧ ov = .slice A n c ∧ Hid (val (xs.take n) = val xs)
theorem Dig.cap {w : World} {B n c : Nat} {A : Option Addr} {xs : List Nat} (h : Dig w B (.slice A n c) xs) : n ≤ c ∧ c ≤ 9223372036854775807 := by
  rcases h.2 with ⟨e, _⟩ | ⟨g, cap, cur, e, h1, hh, h2, h3, h4⟩
  · injection e with e1 e2 e3
    omega
  · injection e with e1 e2 e3
    subst e3 e2
    unfold maxLen at h3
    exact ⟨h2, h3⟩
theorem trim_end {w wr : World} {B m n c : Nat} {A : Option Addr} {xs : List Nat} (hO : Dig wr B (.slice A m c) xs) (hok : okN xs) (hn : n ≤ xs.length) (hv : val (xs.take n) = val xs) (h : n = 0 ∨ xs.getD (n - 1) 0 ≠ 0) (hb : Below w.heap.size w wr) : BRet (val xs) w (.returned (.slice A n c)) wr := by
  have h1 := trim_done hok hn hv h
  have h2 := hO.take hn
  exact BRet.of h2 h1 hb
def MinusSt (xs ys : List Nat) (i C : Nat) (os : List Nat) : Prop := os.length = i ∧ okN os ∧ val os + val (ys.take i) = val (xs.take i) + D30 ^ i * C ∧ C ≤ 1
def MinusRel (xs ys : List Nat) (w : World) (iv cv ov : Value) (wr : World) : Prop :=
  ∃ (i C : Nat) (os : List Nat), iv = .int .i64 (i : Int) ∧ cv = .int .i64 (C : Int) ∧ i ≤ xs.length ∧ Hid (MinusSt xs ys i C os) ∧ Hid (Dig wr w.heap.size ov os) ∧ Hid (Below w.heap.size w wr)
theorem MinusRel.next {xs ys os : List Nat} {i C C' a b d : Nat} {w wr w3 : World} {v v' : Value} {cs : Array Value} {t : TypeId} (h : MinusSt xs ys i C os) (hi : i < xs.length) (ha : a = xs.getD i 0) (hb : b = ys.getD i 0) (hS : d + b + C = a + D30 * C') (hd : d < D30) (hC : C' ≤ 1)
    (hO : Dig wr w.heap.size v os) (hbl : Below w.heap.size w wr)
    (hown : w3.ownsRow w.heap.size 2 1 v' (os.length + 1) (ints (zs os) ++ [.int .i64 (d : Int)])) (hg : (wr.alloc (.cells cs t)).grownBy w3 v.ownBlock) : MinusRel xs ys w (.int .i64 ((i : Int) + 1)) (.int .i64 (C' : Int)) v' w3 := by
  obtain ⟨h1, h2⟩ := hO.push hbl hown hg
  obtain ⟨k1, k2, k3, k4⟩ := h
  refine ⟨i + 1, C', os ++ [d], by simp, rfl, hi, Lib.hid ⟨by rw [snoc_len, k1], snoc_ok k2 hd, ?_, hC⟩, Lib.hid h1, Lib.hid h2⟩
  rw [val_snoc, val_take_any ys i, val_take_any xs i, k1, ← ha, ← hb]
  exact sub_step k3 hS
theorem minus_done {x y C : Nat} {os : List Nat} (h : MinusSt (bigL x) (bigL y) (bigL x).length C os) (hle : y ≤ x) : val os = x - y := by
  obtain ⟨h1, h2, h3, h4⟩ := h
  have hl := len_mono hle
  rw [List.take_of_length_le hl, List.take_of_length_le (Nat.le_refl _), bigL_val, bigL_val] at h3
  have h5 := val_lt os h2
  rw [h1] at h5
  have h01 : C = 0 ∨ C = 1 := by omega
  rcases h01 with rfl | rfl
  · omega
  · omega
set_option maxHeartbeats 4000000 in
set_option maxRecDepth 100000 in
theorem bigMinus_any {x y : Nat} {u v : Value} (w : World) (hx : IsB w x u) (hy : IsB w y v) (hl : (bigL x).length ≤ 4000000) (hle : y ≤ x) : Calls Tryz.prog 148 #[u, v] w (BRet (x - y) w) := by
  obtain ⟨i0, hi, hz0, hz1, hz2⟩ := info_parts infoI
  have HV : Hid (∀ os C, MinusSt (bigL x) (bigL y) (bigL x).length C os → val os = x - y) := Lib.hid (fun os C h => minus_done h hle)
  have hlen2 := len_mono hle
  have HDX := Lib.hid (fun i => okN_at (bigL_ok x) i)
  have HDY := Lib.hid (fun i => okN_at (bigL_ok y) i)
  obtain ⟨A, c, rfl, _⟩ := Dig.form hx
  obtain ⟨A', c', rfl, _⟩ := Dig.form hy
  have HX := Lib.hid (fun wr (hD : Below w.heap.size w wr) i (hi : i < (bigL x).length) => IsB.cell (hx.below hD) hi)
  have HY := Lib.hid (fun wr (hD : Below w.heap.size w wr) i (hi : i < (bigL y).length) => IsB.cell (hy.below hD) hi)
  clear hx hy hle
  generalize bigL x = xs at *
  generalize bigL y = ys at *
  generalize x - y = z at *
  have H0 : Hid (MinusRel xs ys w (.int .i64 0) (.int .i64 0) (.slice (some ⟨w.heap.size, 0, none⟩) 0 0) (w.alloc (.cells #[] 2))) := Lib.hid
    ⟨0, 0, [], rfl, rfl, Nat.zero_le _, Lib.hid ⟨rfl, (fun y hy => by cases hy), by simp [val], Nat.zero_le _⟩, Lib.hid (World.ownsRow_made w #[] 0 (Nat.le_refl _) (Nat.zero_le _) (by simp)), Lib.hid ((Below.refl _ _).alloc (Nat.le_refl _) _)⟩
  go_enter Tryz.func148, Tryz.ntmps148
  go_wp2
  go_loopw [7, 6, 5] (fun iv cv ov wr => MinusRel xs ys w iv cv ov wr) (fun iv _ _ _ => xs.length - (intOf iv).toNat)
  case atStart => exact H0.out
  case round =>
    obtain ⟨i, C, os, rfl, rfl, hil, hst, hO, hb⟩ := hrel
    clear H0
    have hC := hst.out.2.2.2
    have hyl : os.length ≤ 4000000 := by have := hst.out.1; omega
    have hsz := hb.out.size
    by_cases hlt : i < xs.length
    · have hax := HDX.out i
      have hay := HDY.out i
      unfold D30 at hax hay
      obtain ⟨g, rfl, hca⟩ := HX.out _ hb.out i hlt
      obtain ⟨a, ha⟩ : ∃ a, a = xs.getD i 0 := ⟨_, rfl⟩
      obtain ⟨b, hbd⟩ : ∃ b, b = ys.getD i 0 := ⟨_, rfl⟩
      rw [← ha] at hax hca
      rw [← hbd] at hay
      have HN0 := Lib.hid (fun d C' (hS : d + b + C = a + 1073741824 * C') (hd : d < 1073741824) (hC' : C' ≤ 1) w3 v' cs t hown hg => MinusRel.next (w3 := w3) (v' := v') (cs := cs) (t := t) hst.out hlt ha hbd hS hd hC' hO.out hb.out hown hg)
      by_cases h2 : i < ys.length
      · obtain ⟨g', rfl, hcb⟩ := HY.out _ hb.out i h2
        rw [← hbd] at hcb
        clear ha hbd
        by_cases h3 : a < b + C
        · have hng : (a : Int) - (C : Int) - (b : Int) < 0 := by omega
          obtain ⟨d, hd⟩ : ∃ d, d + b + C = a + 1073741824 := ⟨a + 1073741824 - b - C, by omega⟩
          have hdd : (a : Int) - (C : Int) - (b : Int) + 1073741824 = (d : Int) := by omega
          have hdd2 : 1073741824 + ((a : Int) - (C : Int) - (b : Int)) = (d : Int) := by omega
          have HN := Lib.hid (HN0.out d 1 (by omega) (by omega) (by omega))
          clear HN0
          have hown := World.ownsRow.alloc hO.out (.cells #[.int .i64 (d : Int)] 2)
          have HW := Lib.hid hown
          clear hown hO hb hst
          go_wp2_with (at_builtin; refine wpList_append_own_at _ rfl (.tmp 36) (.tmp 38) 79 rfl w.heap.size 2 i0 (.int .i64 0) 1 8 Tryz.underlying79 hi hz0 hz1 hz2 rfl (by decide) _ _ _ rfl HW.out ⟨wr.heap.size, 0, none⟩ 1 1 [.int .i64 (d : Int)] rfl rfl ?p1a ?p2a ?p3a ?p4a ?p5a ?_)
          try case p1a => exact news_one _ _ _ (by simp)
          try case p2a => first | exact one_int | rfl | simp
          try case p3a => first | (simp only [maxLen]; omega) | omega
          try case p4a => omega
          try case p5a => first | (simp only [World.size_alloc]; omega) | omega
          intro v' w3 hown' hg' _ he
          have HN3 := Lib.hid (HN.out w3 v' _ _ hown' hg')
          clear hown' hg' he HN HW
          go_wp2
          go_roundw
          case rel => exact HN3.out
          case measure => simp [intOf]; omega
        · have hng : ¬ (a : Int) - (C : Int) - (b : Int) < 0 := by omega
          obtain ⟨d, hd⟩ : ∃ d, d + b + C = a := ⟨a - b - C, by omega⟩
          have hdd : (a : Int) - (C : Int) - (b : Int) = (d : Int) := by omega
          have HN := Lib.hid (HN0.out d 0 (by omega) (by omega) (by omega))
          clear HN0 hng
          have hown := World.ownsRow.alloc hO.out (.cells #[.int .i64 (d : Int)] 2)
          have HW := Lib.hid hown
          clear hown hO hb hst
          go_wp2_with (at_builtin; refine wpList_append_own_at _ rfl (.tmp 36) (.tmp 38) 79 rfl w.heap.size 2 i0 (.int .i64 0) 1 8 Tryz.underlying79 hi hz0 hz1 hz2 rfl (by decide) _ _ _ rfl HW.out ⟨wr.heap.size, 0, none⟩ 1 1 [.int .i64 (d : Int)] rfl rfl ?p1a ?p2a ?p3a ?p4a ?p5a ?_)
          try case p1a => exact news_one _ _ _ (by simp)
          try case p2a => first | exact one_int | rfl | simp
          try case p3a => first | (simp only [maxLen]; omega) | omega
          try case p4a => omega
          try case p5a => first | (simp only [World.size_alloc]; omega) | omega
          intro v' w3 hown' hg' _ he
          have HN3 := Lib.hid (HN.out w3 v' _ _ hown' hg')
          clear hown' hg' he HN HW
          go_wp2
          go_roundw
          case rel => exact HN3.out
          case measure => simp [intOf]; omega
      · have hb0 : b = 0 := by rw [hbd]; exact getD_none (by omega)
        subst hb0
        clear ha hbd
        by_cases h3 : a < C
        · have hng : (a : Int) - (C : Int) < 0 := by omega
          obtain ⟨d, hd⟩ : ∃ d, d + C = a + 1073741824 := ⟨a + 1073741824 - C, by omega⟩
          have hdd : (a : Int) - (C : Int) + 1073741824 = (d : Int) := by omega
          have HN := Lib.hid (HN0.out d 1 (by omega) (by omega) (by omega))
          clear HN0
          have hown := World.ownsRow.alloc hO.out (.cells #[.int .i64 (d : Int)] 2)
          have HW := Lib.hid hown
          clear hown hO hb hst
          go_wp2_with (at_builtin; refine wpList_append_own_at _ rfl (.tmp 36) (.tmp 38) 79 rfl w.heap.size 2 i0 (.int .i64 0) 1 8 Tryz.underlying79 hi hz0 hz1 hz2 rfl (by decide) _ _ _ rfl HW.out ⟨wr.heap.size, 0, none⟩ 1 1 [.int .i64 (d : Int)] rfl rfl ?p1a ?p2a ?p3a ?p4a ?p5a ?_)
          try case p1a => exact news_one _ _ _ (by simp)
          try case p2a => first | exact one_int | rfl | simp
          try case p3a => first | (simp only [maxLen]; omega) | omega
          try case p4a => omega
          try case p5a => first | (simp only [World.size_alloc]; omega) | omega
          intro v' w3 hown' hg' _ he
          have HN3 := Lib.hid (HN.out w3 v' _ _ hown' hg')
          clear hown' hg' he HN HW
          go_wp2
          go_roundw
          case rel => exact HN3.out
          case measure => simp [intOf]; omega
        · have hng : ¬ (a : Int) - (C : Int) < 0 := by omega
          obtain ⟨d, hd⟩ : ∃ d, d + C = a := ⟨a - C, by omega⟩
          have hdd : (a : Int) - (C : Int) = (d : Int) := by omega
          have HN := Lib.hid (HN0.out d 0 (by omega) (by omega) (by omega))
          clear HN0 hng
          have hown := World.ownsRow.alloc hO.out (.cells #[.int .i64 (d : Int)] 2)
          have HW := Lib.hid hown
          clear hown hO hb hst
          go_wp2_with (at_builtin; refine wpList_append_own_at _ rfl (.tmp 36) (.tmp 38) 79 rfl w.heap.size 2 i0 (.int .i64 0) 1 8 Tryz.underlying79 hi hz0 hz1 hz2 rfl (by decide) _ _ _ rfl HW.out ⟨wr.heap.size, 0, none⟩ 1 1 [.int .i64 (d : Int)] rfl rfl ?p1a ?p2a ?p3a ?p4a ?p5a ?_)
          try case p1a => exact news_one _ _ _ (by simp)
          try case p2a => first | exact one_int | rfl | simp
          try case p3a => first | (simp only [maxLen]; omega) | omega
          try case p4a => omega
          try case p5a => first | (simp only [World.size_alloc]; omega) | omega
          intro v' w3 hown' hg' _ he
          have HN3 := Lib.hid (HN.out w3 v' _ _ hown' hg')
          clear hown' hg' he HN HW
          go_wp2
          go_roundw
          case rel => exact HN3.out
          case measure => simp [intOf]; omega
    · obtain rfl : i = xs.length := by omega
      have hlen := Lib.hid hst.out.1
      have Hok := Lib.hid hst.out.2.1
      replace HV := Lib.hid (HV.out os C hst.out)
      obtain ⟨AA, cc, rfl, _⟩ := Dig.form hO.out
      have hcap := Dig.cap hO.out
      have HO := Lib.hid hO.out
      have HB := Lib.hid hb.out
      clear HX HY HDX HDY hst hO hb
      go_wp2
      go_loop [5] (fun ov => TrimRel AA cc os ov) (fun ov => sLen ov)
      case atStart => exact ⟨os.length, Nat.le_refl _, by first | rfl | rw [hlen.out], Lib.hid (by rw [List.take_of_length_le (Nat.le_refl _)])⟩
      case round =>
        obtain ⟨n, hn, rfl, hv⟩ := hrel
        by_cases hpos : 0 < n
        · obtain ⟨m, rfl⟩ : ∃ m, n = m + 1 := ⟨n - 1, by omega⟩
          obtain ⟨g, hg0, _, _, hcell⟩ := Dig.cell HO.out (show m < os.length by omega)
          first | subst hg0 | (injection hg0 with hg0; injection hg0 with hg0 _ _; subst hg0)
          have hmc : ((m : Int) ≤ ((cc : Nat) : Int)) := by have := hcap; omega
          by_cases hz : os.getD m 0 = 0
          · have HN := Lib.hid (trim_step hn hv.out hz)
            rw [hz] at hcell
            clear hz
            go_wp2
            go_round
            case rel => exact ⟨m, by omega, by first | rfl | simp, HN⟩
            case measure => simp [sLen]
          · have HR := Lib.hid (trim_end HO.out Hok.out hn hv.out (.inr (by simpa using hz)) HB.out)
            have hzb : (((os.getD m 0 : Nat) : Int) == 0) = false := by simp only [beq_eq_false_iff_ne]; omega
            clear hz
            generalize os.getD m 0 = y at *
            go_wp2
            go_ret
            rw [← HV.out]
            exact HR.out
        · obtain rfl : n = 0 := by omega
          have HR := Lib.hid (trim_end HO.out Hok.out hn hv.out (.inl rfl) HB.out)
          go_wp2
          go_ret
          rw [← HV.out]
          exact HR.out
end Go.Proofs.YtionognmgcabbaaGreat.Big
