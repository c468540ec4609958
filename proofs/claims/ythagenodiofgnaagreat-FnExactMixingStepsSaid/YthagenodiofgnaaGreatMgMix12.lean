/- Naturals by their digits to the base 2^30. -/
import Derived.Test.YthagenodiofgnaaGreatMgMix00
import Derived.Test.YthagenodiofgnaaGreatMgMix08
import Derived.Test.YthagenodiofgnaaGreatMgMix11
import Derived.Test.YthagenodiofgnaaGreatMgMix07
import Derived.Test.YthagenodiofgnaaGreatMgMix06
namespace Go.Proofs.YthagenodiofgnaaGreat.BigM
set_option linter.unusedVariables false
def D30 : Nat := 1073741824
def val : List Nat → Nat
 | [] => 0
 | x :: xs => x + D30 * val xs
def okN (xs : List Nat) : Prop := ∀ x ∈ xs, x < D30
theorem val_append : ∀ (xs ys : List Nat), val (xs ++ ys) = val xs + D30 ^ xs.length * val ys
 | [], ys => by simp [val]
 | x :: xs, ys => by
  rw [List.cons_append, val, val, val_append xs ys, List.length_cons, Nat.pow_succ, Nat.mul_add, ← Nat.mul_assoc, Nat.mul_comm D30 (D30 ^ xs.length), Nat.add_assoc]
theorem val_lt : ∀ (xs : List Nat), okN xs → val xs < D30 ^ xs.length
 | [], _ => by simp [val]
 | x :: xs, h => by
  have h1 := val_lt xs fun y hy => h y (by simp [hy])
  have h2 := h x (by simp)
  rw [val, List.length_cons, Nat.pow_succ, Nat.mul_comm (D30 ^ xs.length)]
  have h3 : val xs + 1 ≤ D30 ^ xs.length := h1
  have h4 := Nat.mul_le_mul_left D30 h3
  rw [Nat.mul_add] at h4
  omega
def bigL (x : Nat) : List Nat := if h : x = 0 then [] else x % D30 :: bigL (x / D30)
termination_by x
decreasing_by exact Nat.div_lt_self (Nat.pos_of_ne_zero h) (by decide)
theorem bigL_zero : bigL 0 = [] := by rw [bigL]; simp
theorem bigL_pos {x : Nat} (h : x ≠ 0) : bigL x = x % D30 :: bigL (x / D30) := by
 conv => lhs; rw [bigL]
 simp [h]
theorem bigL_val (x : Nat) : val (bigL x) = x := by
 induction x using Nat.strongRecOn with
 | _ x ih =>
  by_cases h : x = 0
  ·subst h; rw [bigL_zero]; rfl
  ·rw [bigL_pos h, val, ih (x / D30) (Nat.div_lt_self (Nat.pos_of_ne_zero h) (by decide))]
   exact Nat.mod_add_div x D30
theorem bigL_ok (x : Nat) : okN (bigL x) := by
 induction x using Nat.strongRecOn with
 | _ x ih =>
  by_cases h : x = 0
  ·subst h; rw [bigL_zero]; intro y hy; cases hy
  ·rw [bigL_pos h]
   intro y hy
   rcases List.mem_cons.1 hy with rfl | hy
   ·exact Nat.mod_lt _ (by decide)
   ·exact ih (x / D30) (Nat.div_lt_self (Nat.pos_of_ne_zero h) (by decide)) y hy
def canon (xs : List Nat) : Prop := okN xs ∧ ∀ n, xs.length = n + 1 → xs.getD n 0 ≠ 0
theorem okN_cons {x : Nat} {xs : List Nat} (h : okN (x :: xs)) : okN xs := fun y hy => h y (by simp [hy])
theorem canon_bigL : ∀ {xs : List Nat}, canon xs → bigL (val xs) = xs
 | [], _ => bigL_zero
 | x :: xs, h => by
  have hx := h.1 x (by simp)
  have hc : canon xs := ⟨okN_cons h.1, fun n hn => by have := h.2 (n + 1) (by simp [hn]); simpa [List.getD] using this⟩
  have hne : val (x :: xs) ≠ 0 := by
   intro h0
   rw [val] at h0
   rcases xs with _ | ⟨y, ys⟩
   ·have := h.2 0 rfl
    simp [List.getD] at this
    omega
   ·have hy : val (y :: ys) = 0 := by
     have : D30 * val (y :: ys) = 0 := by omega
     rcases Nat.mul_eq_zero.1 this with h1 | h1
     ·exact absurd h1 (by decide)
     ·exact h1
    have e := canon_bigL hc
    rw [hy, bigL_zero] at e
    cases e
  rw [bigL_pos hne]
  have hm : val (x :: xs) % D30 = x := by rw [val, Nat.add_mul_mod_self_left, Nat.mod_eq_of_lt hx]
  have hd : val (x :: xs) / D30 = val xs := by rw [val, Nat.add_mul_div_left _ _ (by decide : 0 < D30), Nat.div_eq_of_lt hx, Nat.zero_add]
  rw [hm, hd, canon_bigL hc]
theorem bigL_canon (x : Nat) : canon (bigL x) := by
 refine ⟨bigL_ok x, ?_⟩
 induction x using Nat.strongRecOn with
 | _ x ih =>
  intro n hn
  by_cases h : x = 0
  ·subst h; rw [bigL_zero] at hn; cases hn
  ·rw [bigL_pos h] at hn ⊢
   have hlt := Nat.div_lt_self (Nat.pos_of_ne_zero h) (show 1 < D30 by decide)
   rcases n with _ | n
   ·simp only [List.length_cons] at hn
    have h0 : (bigL (x / D30)).length = 0 := by omega
    have h1 : bigL (x / D30) = [] := List.eq_nil_of_length_eq_zero h0
    have h2 : x / D30 = 0 := by rw [← bigL_val (x / D30), h1]; rfl
    have h3 := Nat.mod_add_div x D30
    rw [h2] at h3
    simp [List.getD]
    omega
   ·have := ih (x / D30) hlt n (by simp only [List.length_cons] at hn; omega)
    simpa [List.getD] using this
theorem okN_take {xs : List Nat} (h : okN xs) (n : Nat) : okN (xs.take n) := fun y hy => h y (List.mem_of_mem_take hy)
theorem val_snoc (xs : List Nat) (y : Nat) : val (xs ++ [y]) = val xs + D30 ^ xs.length * y := by
 rw [val_append]; simp [val]
theorem val_take_succ (xs : List Nat) (k : Nat) (h : k < xs.length) : val (xs.take (k + 1)) = val (xs.take k) + D30 ^ k * xs.getD k 0 := by
 rw [List.take_succ_eq_append_getElem h, val_snoc, List.length_take, Nat.min_eq_left (Nat.le_of_lt h)]
 simp [List.getD, h]
theorem trim_done {xs : List Nat} {n : Nat} (hok : okN xs) (hn : n ≤ xs.length) (hv : val (xs.take n) = val xs) (hl : n = 0 ∨ xs.getD (n - 1) 0 ≠ 0) : xs.take n = bigL (val xs) := by
 rw [← hv]
 refine (canon_bigL ⟨okN_take hok n, fun m hm => ?_⟩).symm
 rw [List.length_take, Nat.min_eq_left hn] at hm
 rcases hl with h0 | h0
 ·omega
 ·have e : n - 1 = m := by omega
  rw [e] at h0
  have : (xs.take n).getD m 0 = xs.getD m 0 := by simp [List.getD, show m < n by omega]
  rw [this]; exact h0
theorem trim_step {xs : List Nat} {n : Nat} (hn : n + 1 ≤ xs.length) (hv : val (xs.take (n + 1)) = val xs) (h0 : xs.getD n 0 = 0) : val (xs.take n) = val xs := by
 rw [val_take_succ xs n (by omega), h0] at hv
 omega
theorem val_cmp {xs ys : List Nat} (hl : xs.length = ys.length) (hx : okN xs) (hy : okN ys) : ∀ (n : Nat), n ≤ xs.length → (∀ j, n ≤ j → j < xs.length → xs.getD j 0 = ys.getD j 0) → (val xs < val ys ↔ val (xs.take n) < val (ys.take n)) ∧ (val xs = val ys ↔ val (xs.take n) = val (ys.take n)) := by
 intro n hn
 obtain ⟨d, hd⟩ : ∃ d, xs.length = n + d := ⟨xs.length - n, by omega⟩
 induction d generalizing n with
 | zero =>
  intro _
  rw [List.take_of_length_le (by omega), List.take_of_length_le (by omega)]
  exact ⟨Iff.rfl, Iff.rfl⟩
 | succ d ih =>
  intro he
  have h1 := ih (n + 1) (by omega) (by omega) (fun j hj hj2 => he j (by omega) hj2)
  have e := he n (Nat.le_refl _) (by omega)
  rw [val_take_succ xs n (by omega), val_take_succ ys n (by omega), e] at h1
  refine ⟨h1.1.trans ?_, h1.2.trans ?_⟩ <;> omega
theorem cmp_lt {xs ys : List Nat} (hl : xs.length = ys.length) (hx : okN xs) (hy : okN ys) {n : Nat} (hn : n < xs.length) (he : ∀ j, n + 1 ≤ j → j < xs.length → xs.getD j 0 = ys.getD j 0) (h : xs.getD n 0 < ys.getD n 0) : val xs < val ys := by
 refine (val_cmp hl hx hy (n + 1) (by omega) he).1.2 ?_
 rw [val_take_succ xs n hn, val_take_succ ys n (by omega)]
 have h1 := val_lt _ (okN_take hx n)
 rw [List.length_take, Nat.min_eq_left (by omega)] at h1
 have h2 := Nat.mul_le_mul_left (D30 ^ n) (show xs.getD n 0 + 1 ≤ ys.getD n 0 from h)
 rw [Nat.mul_add, Nat.mul_one] at h2
 omega
theorem bigL_len_lt {x y : Nat} (h : (bigL x).length < (bigL y).length) : x < y := by
 have h1 := val_lt _ (bigL_ok x)
 rw [bigL_val] at h1
 obtain ⟨n, hn⟩ : ∃ n, (bigL y).length = n + 1 := ⟨(bigL y).length - 1, by omega⟩
 have h2 := (bigL_canon y).2 n hn
 have h3 := val_take_succ (bigL y) n (by omega)
 rw [List.take_of_length_le (by omega), bigL_val] at h3
 have h4 : D30 ^ (bigL x).length ≤ D30 ^ n := Nat.pow_le_pow_right (by decide) (by omega)
 have h5 : D30 ^ n * 1 ≤ D30 ^ n * (bigL y).getD n 0 := Nat.mul_le_mul_left _ (by omega)
 omega
theorem bigL_len_le {x k : Nat} (h : x < D30 ^ k) : (bigL x).length ≤ k := by
 rcases Nat.lt_or_ge k (bigL x).length with hl | hl
 ·obtain ⟨n, hn⟩ : ∃ n, (bigL x).length = n + 1 := ⟨(bigL x).length - 1, by omega⟩
  have h2 := (bigL_canon x).2 n hn
  have h3 := val_take_succ (bigL x) n (by omega)
  rw [List.take_of_length_le (by omega), bigL_val] at h3
  have h4 : D30 ^ k ≤ D30 ^ n := Nat.pow_le_pow_right (by decide) (by omega)
  have h5 : D30 ^ n * 1 ≤ D30 ^ n * (bigL x).getD n 0 := Nat.mul_le_mul_left _ (by omega)
  omega
 ·exact hl
theorem val_take_any (ys : List Nat) (i : Nat) : val (ys.take (i + 1)) = val (ys.take i) + D30 ^ i * ys.getD i 0 := by
 rcases Nat.lt_or_ge i ys.length with h | h
 ·exact val_take_succ ys i h
 ·rw [List.take_of_length_le (by omega), List.take_of_length_le h]
  have : ys.getD i 0 = 0 := by simp [List.getD, h]
  rw [this]; simp
theorem sub_step {i vo vy vx b b' D x y : Nat} (h : vo + vy = vx + D30 ^ i * b) (hD : D + y + b = x + D30 * b') :
  (vo + D30 ^ i * D) + (vy + D30 ^ i * y) = (vx + D30 ^ i * x) + D30 ^ (i + 1) * b' := by
 have e : D30 ^ i * D + D30 ^ i * y + D30 ^ i * b = D30 ^ i * x + D30 ^ (i + 1) * b' := by
  rw [← Nat.mul_add, ← Nat.mul_add, hD, Nat.mul_add, Nat.pow_succ, Nat.mul_assoc]
 omega
theorem val_setw : ∀ (l : List Nat) (j d : Nat), j < l.length → val (l.set j d) + D30 ^ j * l.getD j 0 = val l + D30 ^ j * d
 | [], j, d, h => by simp at h
 | x :: l, 0, d, _ => by simp [val]; omega
 | x :: l, j + 1, d, h => by
  have ih := val_setw l j d (by simpa using h)
  rw [List.set_cons_succ, val, val, show (x :: l).getD (j + 1) 0 = l.getD j 0 by simp [List.getD]]
  have e : D30 ^ (j + 1) = D30 * D30 ^ j := by rw [Nat.pow_succ, Nat.mul_comm]
  rw [e, Nat.mul_assoc, Nat.mul_assoc]
  have := congrArg (D30 * ·) ih
  simp only [Nat.mul_add] at this
  omega
theorem okN_setw {l : List Nat} {j d : Nat} (h : okN l) (hd : d < D30) : okN (l.set j d) := fun y hy => by
 rcases List.mem_or_eq_of_mem_set hy with hy | rfl
 ·exact h y hy
 ·exact hd
theorem getD_set_ne {l : List Nat} {i j d : Nat} (h : i ≠ j) : (l.set i d).getD j 0 = l.getD j 0 := by
 simp [List.getD, h]
theorem okN_at {l : List Nat} (h : okN l) (j : Nat) : l.getD j 0 < D30 := by
 rcases Nat.lt_or_ge j l.length with hl | hl
 ·exact h _ (by simp [List.getD, hl])
 ·rw [show l.getD j 0 = 0 by simp [List.getD, hl]]; decide
theorem mul_step {i k vz vz' C V0 x y o vy S : Nat} (h : vz + D30 ^ (i + k) * C = V0 + x * D30 ^ i * vy) (hS : S = C + (o + x * y)) (hset : vz' + D30 ^ (i + k) * o = vz + D30 ^ (i + k) * (S % D30)) :
  vz' + D30 ^ (i + (k + 1)) * (S / D30) = V0 + x * D30 ^ i * (vy + D30 ^ k * y) := by
 have h1 := Nat.mod_add_div S D30
 have e1 : D30 ^ (i + (k + 1)) = D30 ^ (i + k) * D30 := by rw [← Nat.add_assoc, Nat.pow_succ]
 have e2 : D30 ^ (i + k) * S = D30 ^ (i + k) * (S % D30) + D30 ^ (i + k) * D30 * (S / D30) := by rw [Nat.mul_assoc, ← Nat.mul_add, h1]
 have e3 : D30 ^ (i + k) * S = D30 ^ (i + k) * C + (D30 ^ (i + k) * o + D30 ^ (i + k) * (x * y)) := by rw [hS, Nat.mul_add, Nat.mul_add]
 have e4 : x * D30 ^ i * (D30 ^ k * y) = D30 ^ (i + k) * (x * y) := by
  rw [Nat.pow_add]
  simp only [Nat.mul_assoc, Nat.mul_left_comm, Nat.mul_comm]
 rw [e1, Nat.mul_add, e4]
 omega
theorem val_set (ys : List Nat) (i x : Nat) (h : i < ys.length) : val ((ys.set i x).take (i + 1)) = val (ys.take i) + D30 ^ i * x := by
 rw [val_take_succ _ i (by rw [List.length_set]; exact h)]
 have e1 : (ys.set i x).take i = ys.take i := by rw [List.take_set, List.set_eq_of_length_le (by rw [List.length_take]; omega)]
 rw [e1]
 simp [List.getD, h]
theorem okN_set {ys : List Nat} {i x : Nat} (h : i < ys.length) (ho : okN (ys.take i)) (hx : x < D30) : okN ((ys.set i x).take (i + 1)) := by
 have e : (ys.set i x).take (i + 1) = ys.take i ++ [x] := by
  rw [List.take_succ_eq_append_getElem (by rw [List.length_set]; exact h)]
  rw [List.take_set, List.set_eq_of_length_le (by rw [List.length_take]; omega)]
  simp
 rw [e]
 intro y hy
 rcases List.mem_append.1 hy with hy | hy
 ·exact ho y hy
 ·simp only [List.mem_singleton] at hy; rw [hy]; exact hx
theorem val_zeros : ∀ n : Nat, val (List.replicate n 0) = 0
 | 0 => rfl
 | n + 1 => by rw [List.replicate_succ, val, val_zeros n]; rfl
theorem okN_drop {xs : List Nat} (h : okN xs) (k : Nat) : okN (xs.drop k) := fun y hy => h y (List.mem_of_mem_drop hy)
theorem okN_zeros (n : Nat) : okN (List.replicate n 0) := fun y hy => by rw [(List.mem_replicate.1 hy).2]; decide
theorem okN_append {xs ys : List Nat} (h : okN xs) (h' : okN ys) : okN (xs ++ ys) := fun y hy => by
 rcases List.mem_append.1 hy with hy | hy
 ·exact h y hy
 ·exact h' y hy
theorem len_pos {q : Nat} (h : 0 < q) : 0 < (bigL q).length := by
 rcases Nat.eq_zero_or_pos (bigL q).length with h0 | h0
 ·have := bigL_val q
  rw [List.length_eq_zero_iff.1 h0, val] at this
  omega
 ·exact h0
theorem getD_none {l : List Nat} {i : Nat} (h : l.length ≤ i) : l.getD i 0 = 0 := by simp [List.getD, h]
theorem big_top {x : Nat} (h : 0 < (bigL x).length) : (bigL x).getD ((bigL x).length - 1) 0 ≠ 0 := (bigL_canon x).2 ((bigL x).length - 1) (by omega)
theorem of_step {x m : Nat} {zs : List Nat} (h : bigL x = zs ++ bigL m) (hm : m ≠ 0) : bigL x = (zs ++ [m % D30]) ++ bigL (m / D30) := by
 rw [h, bigL_pos hm]; simp
theorem top_done {zs : List Nat} {v : Nat} (hok : okN zs) (hv : val zs = v) (h : 0 < zs.length → zs.getD (zs.length - 1) 0 ≠ 0) : zs = bigL v := by
 subst hv
 refine (canon_bigL ⟨hok, fun n hn => ?_⟩).symm
 have := h (by omega)
 rwa [hn, Nat.add_sub_cancel] at this
theorem snoc_len (zs : List Nat) (d : Nat) : (zs ++ [d]).length = zs.length + 1 := by simp
theorem snoc_ok {zs : List Nat} {d : Nat} (h : okN zs) (hd : d < D30) : okN (zs ++ [d]) := okN_append h fun y hy => by rw [List.mem_singleton.1 hy]; exact hd
theorem shr_step (x i : Nat) : x / 2 ^ i = 2 * (x / 2 ^ (i + 1)) + x / 2 ^ i % 2 := by
 have : x / 2 ^ (i + 1) = x / 2 ^ i / 2 := by rw [Nat.pow_succ, Nat.div_div_eq_div_mul]
 rw [this]
 omega
theorem split_step {q r y h b : Nat} (hq : h = q * y + r) (hr : r < y) (hb : b ≤ 1) :
  (y ≤ 2 * r + b → 2 * h + b = (2 * q + 1) * y + (2 * r + b - y) ∧ 2 * r + b - y < y) ∧ (2 * r + b < y → 2 * h + b = (2 * q) * y + (2 * r + b)) := by
 have e1 : (2 * q + 1) * y = 2 * (q * y) + y := by rw [Nat.add_mul, Nat.mul_assoc, Nat.one_mul]
 have e2 : (2 * q) * y = 2 * (q * y) := Nat.mul_assoc _ _ _
 rw [e1, e2]
 refine ⟨fun h1 => ⟨by omega, by omega⟩, fun h1 => by omega⟩
theorem div_of {x q y r : Nat} (h : x = q * y + r) (hr : r < y) : x / y = q ∧ x % y = r := by
 subst h
 have hy : 0 < y := by omega
 refine ⟨?_, ?_⟩
 ·rw [Nat.mul_comm, Nat.mul_add_div hy, Nat.div_eq_of_lt hr, Nat.add_zero]
 ·rw [Nat.mul_comm, Nat.mul_add_mod, Nat.mod_eq_of_lt hr]
theorem val_drop_div {xs : List Nat} (hok : okN xs) : ∀ k, val (xs.drop k) = val xs / D30 ^ k := by
 intro k
 rcases Nat.lt_or_ge xs.length k with h | h
 ·rw [List.drop_of_length_le (by omega), val]
  have h1 := val_lt xs hok
  have h2 : D30 ^ xs.length ≤ D30 ^ k := Nat.pow_le_pow_right (by decide) (by omega)
  exact (Nat.div_eq_of_lt (by omega)).symm
 ·have e := val_append (xs.take k) (xs.drop k)
  rw [List.take_append_drop, List.length_take, Nat.min_eq_left h] at e
  have h1 := val_lt _ (okN_take hok k)
  rw [List.length_take, Nat.min_eq_left h] at h1
  rw [e, Nat.add_mul_div_left _ _ (Nat.pow_pos (by decide)), Nat.div_eq_of_lt h1, Nat.zero_add]
theorem drop_big (x : Nat) (k : Nat) : (bigL x).drop k = bigL (x / D30 ^ k) := by
 have h1 := val_drop_div (bigL_ok x) k
 rw [bigL_val] at h1
 refine top_done (okN_drop (bigL_ok x) k) h1 fun h => ?_
 rw [List.length_drop] at h ⊢
 have h2 := big_top (x := x) (by omega)
 have e : ((bigL x).drop k).getD ((bigL x).length - k - 1) 0 = (bigL x).getD ((bigL x).length - 1) 0 := by
  simp only [List.getD_eq_getElem?_getD, List.getElem?_drop]
  rw [show k + ((bigL x).length - k - 1) = (bigL x).length - 1 by omega]
 rw [e]; exact h2
theorem digit_bit (x i : Nat) : (bigL x).getD (i / 30) 0 / 2 ^ (i % 30) % 2 = x / 2 ^ i % 2 := by
 have e1 : (bigL x).getD (i / 30) 0 = x / D30 ^ (i / 30) % D30 := by
  have h := drop_big x (i / 30)
  rcases Nat.eq_zero_or_pos (x / D30 ^ (i / 30)) with h0 | h0
  ·rw [h0, bigL_zero] at h
   rw [h0, Nat.zero_mod]
   have : (bigL x).length ≤ i / 30 := by
    have := congrArg List.length h
    rw [List.length_drop, List.length_nil] at this
    omega
   exact getD_none this
  ·rw [bigL_pos (x := x / D30 ^ (i / 30)) (Nat.ne_of_gt h0)] at h
   have : ((bigL x).drop (i / 30)).getD 0 0 = (bigL x).getD (i / 30) 0 := by simp [List.getD_eq_getElem?_getD, List.getElem?_drop]
   rw [← this, h]; rfl
 have e2 : D30 = 2 ^ 30 := by decide
 have hr : i % 30 < 30 := Nat.mod_lt _ (by decide)
 rw [e1, e2, ← Nat.pow_mul]
 have e3 : 2 ^ i = 2 ^ (30 * (i / 30)) * 2 ^ (i % 30) := by rw [← Nat.pow_add]; congr 1; omega
 rw [e3, ← Nat.div_div_eq_div_mul]
 generalize x / 2 ^ (30 * (i / 30)) = z
 generalize i % 30 = r at *
 have e4 : 2 ^ 30 = 2 ^ r * (2 * 2 ^ (29 - r)) := by rw [← Nat.pow_succ', ← Nat.pow_add]; congr 1; omega
 rw [e4, Nat.mod_mul_right_div_self]
 rw [Nat.mod_mul_right_mod]
theorem big_lt_pow (x : Nat) : x < D30 ^ (bigL x).length := by
 have := val_lt _ (bigL_ok x)
 rwa [bigL_val] at this
theorem dig_at (x i : Nat) : (bigL x).getD i 0 = x / D30 ^ i % D30 := by
 have h := drop_big x i
 rcases Nat.eq_zero_or_pos (x / D30 ^ i) with h0 | h0
 ·rw [h0, bigL_zero] at h
  rw [h0, Nat.zero_mod]
  have : (bigL x).length ≤ i := by
   have := congrArg List.length h
   rw [List.length_drop, List.length_nil] at this
   omega
  exact getD_none this
 ·rw [bigL_pos (x := x / D30 ^ i) (Nat.ne_of_gt h0)] at h
  have : ((bigL x).drop i).getD 0 0 = (bigL x).getD i 0 := by simp [List.getD_eq_getElem?_getD, List.getElem?_drop]
  rw [← this, h]; rfl
theorem lt_iff (x i : Nat) : i < (bigL x).length ↔ 0 < x / D30 ^ i := by
 have h := congrArg List.length (drop_big x i)
 rw [List.length_drop] at h
 constructor
 ·intro h1
  refine Nat.pos_of_ne_zero fun h0 => ?_
  rw [h0, bigL_zero, List.length_nil] at h
  omega
 ·intro h1
  have := len_pos h1
  omega
theorem pow_succ_div (x i : Nat) : x / D30 ^ (i + 1) = x / D30 ^ i / D30 := by rw [Nat.pow_succ, Nat.div_div_eq_div_mul]
theorem len_add (x y : Nat) : (bigL (x + y)).length ≤ (bigL x).length + (bigL y).length + 1 := by
 refine bigL_len_le ?_
 have h1 := big_lt_pow x
 have h2 := big_lt_pow y
 have h3 : D30 ^ (bigL x).length ≤ D30 ^ ((bigL x).length + (bigL y).length) := Nat.pow_le_pow_right (by decide) (by omega)
 have h4 : D30 ^ (bigL y).length ≤ D30 ^ ((bigL x).length + (bigL y).length) := Nat.pow_le_pow_right (by decide) (by omega)
 rw [Nat.pow_succ]
 have : 2 * D30 ^ ((bigL x).length + (bigL y).length) ≤ D30 ^ ((bigL x).length + (bigL y).length) * D30 := by rw [Nat.mul_comm]; exact Nat.mul_le_mul_left _ (by decide)
 omega
theorem len_mul (x y : Nat) : (bigL (x * y)).length ≤ (bigL x).length + (bigL y).length := by
 refine bigL_len_le ?_
 rw [Nat.pow_add]
 have h1 := big_lt_pow x
 have h2 := big_lt_pow y
 rcases Nat.eq_zero_or_pos y with rfl | hy
 ·rw [Nat.mul_zero]; exact Nat.mul_pos (by omega) (by omega)
 ·exact Nat.lt_of_lt_of_le ((Nat.mul_lt_mul_right hy).2 h1) (Nat.mul_le_mul_left _ (by omega))
theorem len_mono {x y : Nat} (h : x ≤ y) : (bigL x).length ≤ (bigL y).length := bigL_len_le (Nat.lt_of_le_of_lt h (big_lt_pow y))
end Go.Proofs.YthagenodiofgnaaGreat.BigM
namespace Go.Proofs.YthagenodiofgnaaGreat.ComM
open Go.RowKit Go.Proofs.YthagenodiofgnaaGreat Go.Proofs.YthagenodiofgnaaGreat.Base Go.Proofs.YthagenodiofgnaaGreat.RatM Go.Proofs.YthagenodiofgnaaGreat.GaussM Go.Proofs.YthagenodiofgnaaGreat.ChM Go.Proofs.YthagenodiofgnaaGreat.BigM Go.Proofs.YthagenodiofgnaaGreat.Ratio
set_option linter.unusedVariables false
def dn (fs : List Int) (i : Nat) : Nat := (fs.getD (2 * i + 1) 0).toNat
def nm (fs : List Int) (i : Nat) : Nat := (fs.getD (2 * i) 0).toNat
def comD (fs : List Int) : Nat → Nat
 | 0 => 1
 | n + 1 => comD fs n * (dn fs n / Nat.gcd (comD fs n) (dn fs n))
def comN (fs : List Int) (n i : Nat) : Nat := nm fs i * (comD fs n / dn fs i)
theorem dn_pos {fs : List Int} {n i : Nat} (h : AllVF fs n) (hi : i < n) : 0 < dn fs i ∧ dn fs i ≤ 1000000000000000000 := by
 have h1 := (h i hi).1
 have h2 := (h i hi).2.1
 unfold dn
 omega
theorem comD_pos {fs : List Int} : ∀ {n : Nat}, AllVF fs n → 0 < comD fs n
 | 0, _ => Nat.one_pos
 | n + 1, h => by
  have ih := comD_pos (n := n) fun i hi => h i (by omega)
  have h1 := (dn_pos h (show n < n + 1 by omega)).1
  have hg : 0 < Nat.gcd (comD fs n) (dn fs n) := Nat.gcd_pos_of_pos_right _ h1
  exact Nat.mul_pos ih (Nat.div_pos (Nat.gcd_le_right _ h1) hg)
theorem comD_le {fs : List Int} : ∀ {n : Nat}, AllVF fs n → comD fs n ≤ denP fs n
 | 0, _ => Nat.le_refl _
 | n + 1, h => Nat.mul_le_mul (comD_le fun i hi => h i (by omega)) (Nat.div_le_self _ _)
theorem dvd_step {a d : Nat} : d ∣ a * (d / Nat.gcd a d) := by
 have h1 := Nat.gcd_dvd_left a d
 have h2 := Nat.gcd_dvd_right a d
 obtain ⟨k, hk⟩ := h1
 refine ⟨k, ?_⟩
 have : a * (d / Nat.gcd a d) = (Nat.gcd a d * k) * (d / Nat.gcd a d) := by rw [← hk]
 rw [this, Nat.mul_comm (Nat.gcd a d) k, Nat.mul_assoc, Nat.mul_div_cancel' h2, Nat.mul_comm]
theorem comD_dvd {fs : List Int} : ∀ {n i : Nat}, i < n → dn fs i ∣ comD fs n
 | 0, _, h => absurd h (Nat.not_lt_zero _)
 | n + 1, i, h => by
  rcases Nat.lt_or_ge i n with h1 | h1
  ·exact Nat.dvd_trans (comD_dvd h1) (Nat.dvd_mul_right _ _)
  ·obtain rfl : i = n := by omega
   exact dvd_step
theorem com_val {fs : List Int} {n i : Nat} (h : AllVF fs n) (hp : 0 ≤ fs.getD (2 * i) 0) (hi : i < n) : qv false (comN fs n i) (comD fs n) = fq fs i := by
 obtain ⟨h1, _⟩ := dn_pos h hi
 have hD := comD_pos h
 obtain ⟨k, hk⟩ := comD_dvd (fs := fs) hi
 have hk0 : k ≠ 0 := fun e => by rw [e, Nat.mul_zero] at hk; omega
 have e1 : comN fs n i = nm fs i * k := by unfold comN; rw [hk, Nat.mul_div_cancel_left k h1]
 have e2 : fq fs i = qv false (nm fs i) (dn fs i) := by
  unfold fq qf nm dn
  rw [decide_eq_false (by omega), show (fs.getD (2 * i) 0).natAbs = (fs.getD (2 * i) 0).toNat by omega]
 rw [e1, e2, hk]
 unfold qv
 simp only [Bool.false_eq_true, if_false]
 rw [Rat.natCast_mul, Rat.natCast_mul]
 have hd0 : ((dn fs i : Nat) : Rat) ≠ 0 := natCast_ne (by omega)
 have hkr : ((k : Nat) : Rat) ≠ 0 := natCast_ne hk0
 grind
theorem nm_le {fs : List Int} {n i : Nat} (h : AllVF fs n) (hi : i < n) : nm fs i ≤ 1000000000000000000 := by
 have := (h i hi).2.2.2.1
 unfold nm
 omega
theorem len_ten {x k : Nat} (h : x ≤ 1000000000000000000 ^ k) : (bigL x).length ≤ 2 * k + 1 := by
 refine bigL_len_le (Nat.lt_of_le_of_lt h ?_)
 have h1 : (1000000000000000000 : Nat) ^ k ≤ (D30 ^ 2) ^ k := Nat.pow_le_pow_left (by decide) k
 rw [← Nat.pow_mul] at h1
 exact Nat.lt_of_le_of_lt h1 (Nat.pow_lt_pow_right (by decide) (Nat.lt_succ_self _))
theorem comD_len {fs : List Int} {n : Nat} (h : AllVF fs n) : (bigL (comD fs n)).length ≤ 2 * n + 1 := len_ten (Nat.le_trans (comD_le h) (denP_le h))
theorem comN_len {fs : List Int} {n i : Nat} (h : AllVF fs n) (hi : i < n) : (bigL (comN fs n i)).length ≤ 2 * (n + 1) + 1 := by
 refine len_ten ?_
 have h1 : comN fs n i ≤ 1000000000000000000 * comD fs n := Nat.mul_le_mul (nm_le h hi) (Nat.div_le_self _ _)
 have h2 := Nat.le_trans (comD_le h) (denP_le h)
 rw [Nat.pow_succ, Nat.mul_comm (_ ^ n)]
 exact Nat.le_trans h1 (Nat.mul_le_mul_left _ h2)
theorem gcd_step {a d x y : Nat} (hy : 0 < y) (h : Nat.gcd x y = Nat.gcd a d) : Nat.gcd y (x % y) = Nat.gcd a d := by
 rw [← h, Nat.gcd_comm x y, Nat.gcd_rec y x, Nat.gcd_comm]
end Go.Proofs.YthagenodiofgnaaGreat.ComM
namespace Go.Proofs.YthagenodiofgnaaGreat.Ratio
open Go.RowKit Go.Proofs.YthagenodiofgnaaGreat Go.Proofs.YthagenodiofgnaaGreat.Base Go.Proofs.YthagenodiofgnaaGreat.Mem Go.Proofs.YthagenodiofgnaaGreat.NatM Go.Proofs.YthagenodiofgnaaGreat.Nat32 Go.Proofs.YthagenodiofgnaaGreat.RatM Go.Proofs.YthagenodiofgnaaGreat.GaussM Go.Proofs.YthagenodiofgnaaGreat.ChM Go.Proofs.YthagenodiofgnaaGreat.WalkM Go.Proofs.YthagenodiofgnaaGreat.GiveM
open Go.Proofs.YthagenodiofgnaaGreat.ComM (comD comN dn nm)
open Go.Proofs.YthagenodiofgnaaGreat.ValF (vfB vfB_true)
set_option linter.unusedVariables false
def unR (k : Nat) : Nat → Rat := fun i => if i = k then 1 else 0
def unF (n k : Nat) : List Int := outF (unR k) n
theorem unR_num (k i : Nat) : smallQ (unR k i) = true ∧ numQ (unR k i) = (if i = k then 1 else 0) ∧ denQ (unR k i) = 1 := by
 unfold unR
 by_cases e : i = k
 ·rw [if_pos e, if_pos e]; decide
 ·rw [if_neg e, if_neg e]; decide
theorem un_small (n k : Nat) : smallAll (unR k) n = true := (small_yes' fun i _ => (unR_num k i).1).2.2
theorem un_vf (n k : Nat) : AllVF (unF n k) n := (outF_vf (un_small n k)).1
theorem un_fq {n k i : Nat} (hi : i < n) : fq (unF n k) i = unR k i := (outF_vf (un_small n k)).2 i hi
theorem un_get {n k i : Nat} (hi : i < n) : (unF n k).getD (2 * i) 0 = (if i = k then 1 else 0) ∧ (unF n k).getD (2 * i + 1) 0 = 1 := by
 obtain ⟨e1, e2⟩ := outF_get (unR k) hi
 exact ⟨by unfold unF; rw [e1, (unR_num k i).2.1], by unfold unF; rw [e2, (unR_num k i).2.2]⟩
theorem un_pos {n k i : Nat} (hi : i < n) : 0 ≤ (unF n k).getD (2 * i) 0 := by
 rw [(un_get hi).1]
 split <;> decide
theorem un_comD {n k : Nat} : ∀ {m : Nat}, m ≤ n → comD (unF n k) m = 1
 | 0, _ => rfl
 | m + 1, h => by
  have hd : dn (unF n k) m = 1 := by unfold dn; rw [(un_get (show m < n by omega)).2]; rfl
  unfold comD
  rw [un_comD (show m ≤ n by omega), hd]
  rfl
theorem un_comN {n k i : Nat} (hi : i < n) : comN (unF n k) n i = if i = k then 1 else 0 := by
 have hd : dn (unF n k) i = 1 := by unfold dn; rw [(un_get hi).2]; rfl
 unfold comN nm
 rw [(un_get hi).1, hd, un_comD (Nat.le_refl n)]
 split <;> rfl
def mxP (n : Nat) (fs : Nat → List Int) (k t : Nat) : Nat → Rat := runR n (wM fs) (fq (unF n k)) t
noncomputable def mxD (n : Nat) (fs : Nat → List Int) (k t : Nat) : Rat := disR n (mxP n fs k t) (stX n fs)
noncomputable def mxC (n : Nat) (fs : Nat → List Int) (x y : Int) (t : Nat) : Bool := (List.range n).all fun k => decide (mxD n fs k t ≤ qf x y)
def mxT (C : Nat → Bool) : Nat → Nat → Int × Bool
 | 0, _ => (0, false)
 | m + 1, s => if C s then ((s : Int), true) else mxT C m (s + 1)
theorem mxT_none {C : Nat → Bool} (h : ∀ s, C s = false) : ∀ m s, mxT C m s = (0, false)
 | 0, _ => rfl
 | m + 1, s => by rw [mxT, h s, mxT_none h m (s + 1)]; rfl
noncomputable def mxB (n : Nat) (L : Nat → Nat) (fs : Nat → List Int) (x y : Int) : Bool := vfB x y && stO n L fs
noncomputable def mxQ (n : Nat) (L : Nat → Nat) (fs : Nat → List Int) (x y : Int) : Int := if mxB n L fs x y then (mxT (mxC n fs x y) 31 0).1 else 0
noncomputable def mxO (n : Nat) (L : Nat → Nat) (fs : Nat → List Int) (x y : Int) : Bool := if mxB n L fs x y then (mxT (mxC n fs x y) 31 0).2 else false
theorem mx_no {n : Nat} {L : Nat → Nat} {fs : Nat → List Int} {x y : Int} (h : mxB n L fs x y = false) : mxQ n L fs x y = 0 ∧ mxO n L fs x y = false := by
 unfold mxQ mxO
 simp [h]
theorem mx_yes {n : Nat} {L : Nat → Nat} {fs : Nat → List Int} {x y : Int} (h : mxB n L fs x y = true) : mxQ n L fs x y = (mxT (mxC n fs x y) 31 0).1 ∧ mxO n L fs x y = (mxT (mxC n fs x y) 31 0).2 := by
 unfold mxQ mxO
 simp [h]
theorem disR_pos (n : Nat) (f g : Nat → Rat) : 0 ≤ disR n f g := Rat.mul_nonneg (sumR_pos fun j _ => absR_pos _) (by decide +kernel)
theorem mxC_neg {n : Nat} {fs : Nat → List Int} {x y : Int} (h1 : 1 ≤ n) (hv : VF x y) (hx : x < 0) (t : Nat) : mxC n fs x y t = false := by
 obtain ⟨_, _, g3⟩ := hv.num
 have hneg : qf x y < 0 := of_decide_eq_true (by rw [g3]; exact decide_eq_true hx)
 cases h : mxC n fs x y t with
 | false => rfl
 | true =>
  have h2 := of_decide_eq_true (all_range.1 h 0 (by omega))
  have h3 := disR_pos n (mxP n fs 0 t) (stX n fs)
  unfold mxD at h2
  exact absurd (show (0 : Rat) ≤ qf x y by grind) (Rat.not_le.2 hneg)
theorem mx_ov {n t k : Nat} {fs : Nat → List Int} (h2 : ∀ i, i < n → AllVF (fs i) n) : ∀ i, i < n → Ov (denP (unF n k) n * denW fs n n ^ t) (1000000000000000000 * (n * 1000000000000000000) ^ t) (mxP n fs k t i) := fun i hi =>
 ov_run (fun i hi => ov_fq (un_vf n k) hi) (fun i k hi hk => ov_wM h2 hi hk) t i hi
theorem mx_ok {n t k : Nat} {fs : Nat → List Int} (hn1 : 1 ≤ n) (hn : n ≤ 6) (ht : t ≤ 30) (h2 : ∀ i, i < n → AllVF (fs i) n) (hs : smallAll (stX n fs) n = true) : DisOk n (mxP n fs k t) (stX n fs) ∧ szR (mxD n fs k t) ≤ 200000 := by
 obtain ⟨hg, hge⟩ := outF_vf hs
 have hO := mx_ov (k := k) (t := t) h2
 have hG : ∀ i, i < n → Ov (denP (outF (stX n fs) n) n) 1000000000000000000 (stX n fs i) := fun i hi => by
  have := ov_fq hg hi
  rwa [hge i hi] at this
 have d1 := denP_pos (un_vf n k)
 have d2 := denW_pos (m := n) h2
 have d3 := denP_pos hg
 have a1 := leB_small (x := n) (by omega)
 have a2 := (a1.mul leB_ten).pow t
 have hE72 : LeB 72 (denW fs n n) := (leB_denW h2).more (by
  have := Nat.mul_le_mul (show 2 * n ≤ 12 by omega) hn
  omega)
 have l1 := (a1.mul ((leB_ten.mul a2).mul (show LeB 2 1000000000000000001 by unfold LeB; decide))).mul ((((leB_denP (un_vf n k)).mul (hE72.pow t)).mul (leB_denP hg)).mul (show LeB 1 2 by unfold LeB; decide))
 have hlt := l1.lt (k := bigE) (by unfold bigE; omega)
 have hD1 : 0 < denP (unF n k) n * denW fs n n ^ t := Nat.mul_pos d1 (Nat.pow_pos d2)
 have hb1 : 0 < 1000000000000000000 * (n * 1000000000000000000) ^ t := Nat.mul_pos (by decide) (Nat.pow_pos (by omega))
 generalize 1000000000000000000 * (n * 1000000000000000000) ^ t = bt at *
 generalize denP (unF n k) n * denW fs n n ^ t = D at *
 generalize denP (outF (stX n fs) n) n = G at *
 have hf : ∀ i, i < n → Ov (D * G) (bt * 1000000000000000001) (mxP n fs k t i) := fun i hi => ((hO i hi).scale (E := G)).more (Nat.le_mul_of_pos_right _ (by decide))
 have hg2 : ∀ i, i < n → Ov (D * G) (bt * 1000000000000000001) (stX n fs i) := fun i hi => by
  have := (hG i hi).scale (E := D)
  rw [Nat.mul_comm G D] at this
  refine this.more ?_
  have := Nat.mul_le_mul hb1 (Nat.le_refl 1000000000000000001)
  omega
 have hd : ∀ i, i < n → Ov (D * G) (bt * 1000000000000000001) (mxP n fs k t i - stX n fs i) := fun i hi => by
  have h3 := (hG i hi).scale (E := D)
  rw [Nat.mul_comm G D] at h3
  refine (((hO i hi).scale (E := G)).sub h3).more ?_
  have := Nat.mul_le_mul hb1 (Nat.le_refl 1000000000000000000)
  omega
 have hDG : 0 < D * G := Nat.mul_pos hD1 d3
 have hbb : 0 < n * (bt * 1000000000000000001) := Nat.mul_pos hn1 (Nat.mul_pos hb1 (by decide))
 have hsmall : n * (bt * 1000000000000000001) * (D * G) < B32 ^ bigE := Nat.lt_of_le_of_lt (Nat.mul_le_mul_left _ (Nat.le_mul_of_pos_right _ (by decide))) hlt
 have up : ∀ i, i < n → ∀ q, Ov (D * G) (bt * 1000000000000000001) q → szR q ≤ 200000 := fun i hi q h => sz_of (m := 0) hDG hbb (h.more (Nat.le_mul_of_pos_left _ hn1)) hsmall
 have hsum : ∀ i, i ≤ n → Ov (D * G) (n * (bt * 1000000000000000001)) (dsum (mxP n fs k t) (stX n fs) i) := fun i hi => (ov_sum fun j hj => ov_abs (hd j (by omega))).more (Nat.mul_le_mul_right _ hi)
 refine ⟨⟨fun i hi => ⟨up i hi _ (hf i hi), up i hi _ (hg2 i hi), up i hi _ (hd i hi)⟩, fun i hi => sz_of (m := 0) hDG hbb (hsum i hi) hsmall⟩, ?_⟩
 have hh : Ov 2 1 ((2 : Rat)⁻¹) := by
  have := ov_vf (n := 1) (d := 2) (D := 2) ⟨by decide, by decide, by decide, by decide, by decide⟩ (by decide)
  rw [qf_half] at this
  exact ⟨this.1, by decide +kernel, by decide +kernel⟩
 have hm := (hsum n (Nat.le_refl _)).mul hh
 rw [Nat.mul_one] at hm
 exact sz_of (m := 0) (Nat.mul_pos hDG (by decide)) hbb hm hlt
end Go.Proofs.YthagenodiofgnaaGreat.Ratio
namespace Go.Proofs.YthagenodiofgnaaGreat.Ratio
open Go.RowKit Go.Proofs.YthagenodiofgnaaGreat Go.Proofs.YthagenodiofgnaaGreat.Base Go.Proofs.YthagenodiofgnaaGreat.Mem Go.Proofs.YthagenodiofgnaaGreat.NatM Go.Proofs.YthagenodiofgnaaGreat.Nat32 Go.Proofs.YthagenodiofgnaaGreat.RatM Go.Proofs.YthagenodiofgnaaGreat.Blk Go.Proofs.YthagenodiofgnaaGreat.MemF Go.Proofs.YthagenodiofgnaaGreat.ChM Go.Proofs.YthagenodiofgnaaGreat.GaussM
open Go.Proofs.YthagenodiofgnaaGreat.Inv (natOf natOf_eq len_pos Rat3 not_slice not_bool frz)
set_option linter.unusedVariables false
theorem ratioOf_is {n d : Int} (h : VF n d) (w : World) : Calls Tryz.prog 47 #[.agg #[.int .i64 n, .int .i64 d]] w fun e w' => ∃ v, e = .returned v ∧ IsRt w' (qf n d) v ∧ Below w.heap.size w w' := by
 refine (ratioOf_vf h w).mono ?_
 rintro e w' ⟨A, c, A', c', rfl, h1, h2, hb⟩
 exact ⟨_, rfl, ⟨A, c, A', c', rfl, h1.1, h2.1⟩, hb⟩
theorem cmpQ_gtr (q r : Rat) : decide (0 < cmpQ q r) = !decide (q ≤ r) := by
 unfold cmpQ
 by_cases e : q = r
 ·subst e
  rw [if_pos rfl, decide_eq_true Rat.le_refl]; rfl
 ·rw [if_neg e]
  by_cases h : q < r
  ·rw [if_pos h, decide_eq_true (Rat.le_of_lt h)]; rfl
  ·rw [if_neg h, show decide (q ≤ r) = false from decide_eq_false (fun h2 => h (by grind))]; rfl
set_option maxHeartbeats 1000000 in
set_option maxRecDepth 100000 in
theorem mixC_any {A A2 : Option Addr} {c c2 n b9 b3 : Nat} {f g : Nat → Rat} {x y : Int} (w : World) (k1 : Blk w b9 76 #[.slice A2 n c2]) (k3 : Blk w b3 34 #[.int .i64 x, .int .i64 y]) (hx : RdR w A n f) (hy : RdR w A2 n g) (hn : n ≤ 1000) (hz : DisOk n f g ∧ szR (disR n f g) ≤ 200000) (hv : VF x y) :
  Calls Tryz.prog 44 #[.slice A n c, .pointer (some ⟨b9, 0, none⟩), .pointer (some ⟨b3, 0, none⟩)] w fun e w' => e = .returned (.bool (!decide (disR n f g ≤ qf x y))) ∧ Below w.heap.size w w' := by
 have HX := Lib.hid hx
 have HY := Lib.hid hy
 have HZ := Lib.hid hz
 have HV := Lib.hid hv
 have K1 := Lib.hid k1
 have K3 := Lib.hid k3
 have HSQ : Hid (szR (qf x y) ≤ 200000) := Lib.hid (by have := dgb_sz (dgb_vf hv); omega)
 have HR := Lib.hid (cmpQ_gtr (disR n f g) (qf x y))
 clear hx hy hz hv k1 k3
 go_enter Tryz.func44, Tryz.ntmps44
 go_upto_region 1 with (fail)
 refine Rel.wp_region_rel 6 (by kernel_rfl) (by kernel_rfl) (fun F hF => ?_)
 simp only [List.take_succ_cons, List.take_zero, List.drop_succ_cons, List.drop_zero, Rel.putL] at hF ⊢
 have HF := Lib.hid hF
 clear hF
 have uv := @Rel.upon_value Tryz.prog
 have ue := @Rel.upon_enter Tryz.prog
 apply Rel.rel_pure
 apply Exists.intro
 refine ⟨fun vs wq hq hdp R hR => ?_, ?_⟩
 ·(rw [HF.out, Rel.stepAt_eq]; clear hdp; skip; go_simp; exact hR)
 apply Rel.rel_pure
 apply Exists.intro
 refine ⟨fun vs wq hq hdp R hR => ?_, ?_⟩
 ·(rw [HF.out, Rel.stepAt_eq]; clear hdp; have y0 := (K1.out.belowS hq).at 0 (v := .slice A2 n c2) rfl; go_simp; exact hR)
 refine Rel.rel_law (S := fun v w' => IsRt w' (disR n f g) v) (isRt_mono _) (fun vs wq hq hdp => ?_) ?_
 ·(rw [HF.out, Rel.stepAt_eq]; have qd0 : vs 0 = _ := Rel.dep hdp 0 (by kernel_rfl); have qd1 : vs 1 = _ := Rel.dep hdp 1 (by kernel_rfl); clear hdp; skip; go_simp; refine (disI_any (c := c) (c' := c2) wq (HX.out.below hq) (HY.out.below hq) hn HZ.out.1).mono ?_; rintro e w7 h; obtain ⟨v, rfl, hv, hb⟩ := h.is; exact ⟨_, rfl, hv, hb⟩)
 apply Rel.rel_pure
 apply Exists.intro
 refine ⟨fun vs wq hq hdp R hR => ?_, ?_⟩
 ·(rw [HF.out, Rel.stepAt_eq]; clear hdp; have y0 := (K3.out.belowS hq).at 0 (v := .int .i64 x) rfl; have y1 := (K3.out.belowS hq).at 1 (v := .int .i64 y) rfl; go_simp; exact hR)
 refine Rel.rel_law (S := fun v w' => IsRt w' (qf x y) v) (isRt_mono _) (fun vs wq hq hdp => ?_) ?_
 ·(rw [HF.out, Rel.stepAt_eq]; have qd3 : vs 3 = _ := Rel.dep hdp 3 (by kernel_rfl); clear hdp; skip; go_simp; refine (ratioOf_is HV.out wq).mono ?_; rintro e w7 ⟨v, rfl, hv, hb⟩; exact ⟨_, rfl, hv, hb⟩)
 apply Rel.rel_same
 apply Exists.intro
 refine ⟨fun vs wq hq hdp => ?_, ?_⟩
 ·(rw [HF.out, Rel.stepAt_eq]; have qd2 : IsRt wq _ (vs 2) := Rel.dep hdp 2 (by kernel_rfl); have qd4 : IsRt wq _ (vs 4) := Rel.dep hdp 4 (by kernel_rfl); clear hdp; skip; go_simp; refine (ratCompare wq qd2 qd4 HZ.out.2 HSQ.out).mono ?_; rintro e w7 ⟨rfl, hb⟩; exact ⟨_, rfl, rfl, hb⟩)
 refine Rel.rel_end (fun vs wq hq hall => ?_)
 rw [HF.out]
 have qe0 : vs 0 = _ := Rel.fin hall 0 (by decide)
 have qe1 : vs 1 = _ := Rel.fin hall 1 (by decide)
 have qe2 : IsRt wq _ (vs 2) := Rel.fin hall 2 (by decide)
 have qe3 : vs 3 = _ := Rel.fin hall 3 (by decide)
 have qe4 : IsRt wq _ (vs 4) := Rel.fin hall 4 (by decide)
 have qe5 : vs 5 = _ := Rel.fin hall 5 (by decide)
 clear hall HF uv ue
 have hqe := qe5
 have HB := Lib.hid hq
 clear hq K1 K3 HX HY HZ HV HSQ qe0 qe1 qe2 qe3 qe4 qe5
 generalize cmpQ (disR n f g) (qf x y) = z at *
 go_wp2
 go_ret
 exact ⟨by rw [← HR.out]; rfl, HB.out⟩
def nearB (n m : Nat) (F : Nat → Nat → Rat) (g : Nat → Rat) (q : Rat) : Bool := (List.range m).all fun k => decide (disR n (F k) g ≤ q)
theorem near_no {n m k : Nat} {F : Nat → Nat → Rat} {g : Nat → Rat} {q : Rat} (hk : k < m) (h : decide (disR n (F k) g ≤ q) = false) : nearB n m F g q = false := by
 cases h' : nearB n m F g q with
 | false => rfl
 | true => rw [all_range.1 h' k hk] at h; cases h
set_option maxHeartbeats 1000000 in
set_option maxRecDepth 100000 in
theorem mixIdx_any {A A2 : Option Addr} {c c2 n m b9 b3 : Nat} {F : Nat → Nat → Rat} {g : Nat → Rat} {x y : Int} (w : World) (k1 : Blk w b9 76 #[.slice A2 n c2]) (k3 : Blk w b3 34 #[.int .i64 x, .int .i64 y]) (hx : RdRR w A m (fun _ => n) F) (hy : RdR w A2 n g) (hn : n ≤ 1000) (hm : m ≤ 1000) (hz : ∀ k, k < m → DisOk n (F k) g ∧ szR (disR n (F k) g) ≤ 200000) (hv : VF x y) :
  Calls Tryz.prog 89 #[.slice A m c, .func (Fn.func 44) #[] #[.pointer (some ⟨b9, 0, none⟩), .pointer (some ⟨b3, 0, none⟩)]] w (IdxRetB (nearB n m F g (qf x y)) w) := by
 have HX := Lib.hid hx
 have K1 := Lib.hid k1
 have K3 := Lib.hid k3
 have HC := Lib.hid (fun W (hb : Below w.heap.size w W) k (hk : k < m) A' c' (hr : RdR W A' n (F k)) => mixC_any (c := c') W (K1.out.belowS hb) (K3.out.belowS hb) hr (hy.below hb) hn (hz k hk) hv)
 clear hx hy hz hv k1 k3 K1 K3
 go_enter Tryz.func89, Tryz.ntmps89
 go_wp2
 go_loopw [8] (fun iv wr => ∃ i : Nat, iv = .int .i64 (i : Int) ∧ i ≤ m ∧ Hid (∀ j, j < i → decide (disR n (F j) g ≤ qf x y) = true) ∧ Hid (Below w.heap.size w wr)) (fun iv _ => m - (intOf iv).toNat)
 case atStart => exact ⟨0, rfl, Nat.zero_le _, Lib.hid fun j hj => absurd hj (Nat.not_lt_zero j), Lib.hid (Below.refl _ _)⟩
 case round =>
  obtain ⟨i, rfl, hi, hall, HB⟩ := hrel
  by_cases hlt : i < m
  ·obtain ⟨g0, A', c', rfl, hg0, y0, hrow⟩ := (HX.out.below HB.out).at hlt
   have HV := Lib.hid (HC.out wr HB.out i hlt A' c' hrow)
   have HNO := Lib.hid (fun h => near_no (n := n) (F := F) (g := g) (q := qf x y) hlt h)
   have HYES := Lib.hid (fun (h : decide (disR n (F i) g ≤ qf x y) = true) j (hj : j < i + 1) => (show decide (disR n (F j) g ≤ qf x y) = true by
    rcases Nat.lt_or_ge j i with h1 | h1
    ·exact hall.out j h1
    ·obtain rfl : j = i := by omega
     exact h))
   have hsz := HB.out.size
   clear hrow
   generalize decide (disR n (F i) g ≤ qf x y) = b at *
   go_wp2_with fail
   refine HV.out.mono ?_
   rintro e w1 ⟨rfl, hb1⟩
   have HB1 := Lib.hid (Base.Below.nextA HB.out hb1)
   cases b with
   | false =>
    have HE := Lib.hid (HNO.out rfl)
    clear HNO HYES HV hb1 HB y0 hall
    go_wp2
    go_ret
    exact ⟨(i : Int), rfl, .inr ⟨by omega, HE.out⟩, HB1.out⟩
   | true =>
    have HA := Lib.hid (HYES.out rfl)
    clear HNO HYES HV hb1 HB y0 hall
    go_wp2
    go_roundw
    case rel => exact ⟨i + 1, by simp, hlt, HA, HB1⟩
    case measure => simp [intOf]; omega
  ·obtain rfl : i = m := by omega
   have HE : Hid (nearB n i F g (qf x y) = true) := Lib.hid (all_range.2 hall.out)
   clear hall
   go_wp2
   go_ret
   exact ⟨-1, rfl, .inl ⟨rfl, HE.out⟩, HB.out⟩
set_option maxHeartbeats 1000000 in
theorem mixCon_any {A A2 : Option Addr} {c c2 n m b9 b3 : Nat} {F : Nat → Nat → Rat} {g : Nat → Rat} {x y : Int} (w : World) (k1 : Blk w b9 76 #[.slice A2 n c2]) (k3 : Blk w b3 34 #[.int .i64 x, .int .i64 y]) (hx : RdRR w A m (fun _ => n) F) (hy : RdR w A2 n g) (hn : n ≤ 1000) (hm : m ≤ 1000) (hz : ∀ k, k < m → DisOk n (F k) g ∧ szR (disR n (F k) g) ≤ 200000) (hv : VF x y) :
  Calls Tryz.prog 43 #[.slice A m c, .func (Fn.func 44) #[] #[.pointer (some ⟨b9, 0, none⟩), .pointer (some ⟨b3, 0, none⟩)]] w fun e w' => e = .returned (.bool (!nearB n m F g (qf x y))) ∧ Below w.heap.size w w' := by
 have hc := Lib.hid (mixIdx_any (c := c) w k1 k3 hx hy hn hm hz hv)
 clear hx hy hz hv k1 k3
 go_enter Tryz.func43, Tryz.ntmps43
 go_wp2_with fail
 refine hc.out.mono ?_
 rintro e w' ⟨r, rfl, ⟨rfl, hb⟩ | ⟨hr, hb⟩, hbl⟩
 ·have HB := Lib.hid hbl
  clear hbl
  go_wp2
  go_ret
  exact ⟨ret_bool (by simp [hb]), HB.out⟩
 ·have HB := Lib.hid hbl
  clear hbl
  go_wp2
  go_ret
  exact ⟨ret_bool (by simp [hb]), HB.out⟩
end Go.Proofs.YthagenodiofgnaaGreat.Ratio
namespace Go.Proofs.YthagenodiofgnaaGreat.Ratio
open Go.RowKit Go.Proofs.YthagenodiofgnaaGreat Go.Proofs.YthagenodiofgnaaGreat.Base Go.Proofs.YthagenodiofgnaaGreat.Mem Go.Proofs.YthagenodiofgnaaGreat.MemF Go.Proofs.YthagenodiofgnaaGreat.ChM Go.Proofs.YthagenodiofgnaaGreat.WalkM
set_option linter.unusedVariables false
theorem lenFF_any (A : Option Addr) (n c : Nat) (w : World) (h : n ≤ 9223372036854775807) :
  Calls Tryz.prog 57 #[.slice A n c] w fun e w' => e = .returned (.int .i64 (n : Int)) ∧ w = w' := by
 go_enter Tryz.func57, Tryz.ntmps57
 go_wp2
 go_ret
 exact ⟨rfl, rfl⟩
set_option maxHeartbeats 1000000 in
theorem closureW_any {A A' : Option Addr} {c c' B l n b0 : Nat} {fs : List Int} (w : World) (h0 : w.cell? ⟨b0, 0, none⟩ = some (.slice A n c)) (hx : RdF w B A' l fs) (hB : B ≤ w.heap.size) (hl : l ≤ 1099511627776) (hn : n ≤ 1099511627776) :
  Calls Tryz.prog 100 #[.slice A' l c', .pointer (some ⟨b0, 0, none⟩)] w fun e w' => e = .returned (.bool (!(decide (l = n) && chB fs l))) ∧ Below w.heap.size w w' := by
 have HC := Lib.hid (areCh_any (c := c') w hx hB hl)
 clear hx
 by_cases hln : l = n
 ·have hne : ((l : Int) != (n : Int)) = false := by simp [hln]
  have HE : Hid ((!(decide (l = n) && chB fs l)) = !chB fs l) := Lib.hid (by rw [decide_eq_true hln, Bool.true_and])
  rw [HE.out]
  clear hln HE
  go_enter Tryz.func100, Tryz.ntmps100
  go_wp2_with fail
  refine HC.out.mono ?_
  rintro e w1 ⟨rfl, hb1⟩
  have HB1 := Lib.hid hb1
  clear hb1
  go_wp2
  go_ret
  exact ⟨ret_bool (by simp), HB1.out⟩
 ·have hne : ((l : Int) != (n : Int)) = true := by simp; omega
  have HE : Hid ((!(decide (l = n) && chB fs l)) = true) := Lib.hid (by rw [decide_eq_false hln]; rfl)
  rw [HE.out]
  clear hln HE
  go_enter Tryz.func100, Tryz.ntmps100
  go_wp2
  go_ret
  exact ⟨rfl, Below.refl _ _⟩
set_option maxHeartbeats 1000000 in
theorem indexW_any {A : Option Addr} {c B n b0 : Nat} {L : Nat → Nat} {fs : Nat → List Int} (w : World) (h0 : w.cell? ⟨b0, 0, none⟩ = some (.slice A n c)) (hb0 : b0 < w.heap.size) (hx : RdFF w B A n L fs) (hB : B ≤ w.heap.size) (hL : ∀ i, i < n → L i ≤ 1099511627776) (hn : n ≤ 1099511627776) :
  Calls Tryz.prog 125 #[.slice A n c, .func (Fn.func 100) #[] #[.pointer (some ⟨b0, 0, none⟩)]] w (IdxRetB ((List.range n).all (rowOk n L fs)) w) := by
 have HX := Lib.hid (hx.more hB)
 clear hx
 go_enter Tryz.func125, Tryz.ntmps125
 go_wp2
 go_loopw [8] (fun iv wr => ∃ i : Nat, iv = .int .i64 (i : Int) ∧ i ≤ n ∧ Hid (∀ j, j < i → rowOk n L fs j = true) ∧ Hid (Below w.heap.size w wr)) (fun iv _ => n - (intOf iv).toNat)
 case atStart => exact ⟨0, rfl, Nat.zero_le _, Lib.hid fun j hj => absurd hj (Nat.not_lt_zero j), Lib.hid (Below.refl _ _)⟩
 case round =>
  obtain ⟨i, rfl, hi, hall, HB⟩ := hrel
  have d0 := (HB.out.cell (p := ⟨b0, 0, none⟩) hb0).trans h0
  by_cases hlt : i < n
  ·obtain ⟨b, off, A', c', rfl, hbl, g, hr⟩ := (HX.out.below HB.out (Nat.le_refl _)).at hlt
   have HNO := Lib.hid (fun h : rowOk n L fs i = false => (show (List.range n).all (rowOk n L fs) = false from all_no hlt h))
   have HYES := Lib.hid (fun (h : rowOk n L fs i = true) j (hj : j < i + 1) => (show rowOk n L fs j = true by
    rcases Nat.lt_or_ge j i with h1 | h1
    ·exact hall.out j h1
    ·obtain rfl : j = i := by omega
     exact h))
   have HI : Hid (Calls Tryz.prog 100 #[.slice A' (L i) c', .pointer (some ⟨b0, 0, none⟩)] wr fun e w' => e = .returned (.bool (!rowOk n L fs i)) ∧ Below wr.heap.size wr w') := Lib.hid (closureW_any (c' := c') wr d0 hr HB.out.size (hL i hlt) hn)
   have hsz := HB.out.size
   clear hr hall d0
   generalize L i = l at *
   go_wp2_with fail
   refine HI.out.mono ?_
   rintro e w1 ⟨rfl, hb1⟩
   have HB1 := Lib.hid (Base.Below.nextA HB.out hb1)
   clear hb1 HI
   cases hv : rowOk n L fs i with
   | false =>
    have HE := Lib.hid (HNO.out hv)
    clear HNO HYES hv HB g
    go_wp2
    go_ret
    exact ⟨(i : Int), rfl, .inr ⟨by omega, HE.out⟩, HB1.out⟩
   | true =>
    have HA := Lib.hid (HYES.out hv)
    clear HNO HYES hv HB g
    go_wp2
    go_roundw
    case rel => exact ⟨i + 1, by simp, hlt, HA, HB1⟩
    case measure => simp [intOf]; omega
  ·obtain rfl : i = n := by omega
   have HE := Lib.hid (all_range.2 hall.out)
   clear hall
   go_wp2
   go_ret
   exact ⟨-1, rfl, .inl ⟨rfl, HE.out⟩, HB.out⟩
theorem containsW_any {A : Option Addr} {c B n b0 : Nat} {L : Nat → Nat} {fs : Nat → List Int} (w : World) (h0 : w.cell? ⟨b0, 0, none⟩ = some (.slice A n c)) (hb0 : b0 < w.heap.size) (hx : RdFF w B A n L fs) (hB : B ≤ w.heap.size) (hL : ∀ i, i < n → L i ≤ 1099511627776) (hn : n ≤ 1099511627776) :
  Calls Tryz.prog 99 #[.slice A n c, .func (Fn.func 100) #[] #[.pointer (some ⟨b0, 0, none⟩)]] w fun e w' => e = .returned (.bool (!(List.range n).all (rowOk n L fs))) ∧ Below w.heap.size w w' := by
 have hc := Lib.hid (indexW_any w h0 hb0 hx hB hL hn)
 clear hx
 go_enter Tryz.func99, Tryz.ntmps99
 go_wp2_with fail
 refine hc.out.mono ?_
 rintro e w' ⟨r, rfl, ⟨rfl, hb⟩ | ⟨hr, hb⟩, hbl⟩
 all_goals
  have HB := Lib.hid hbl
  have HE := Lib.hid hb
  clear hbl hb
  go_wp2
  go_ret
  exact ⟨ret_bool (by rw [HE.out]; simp <;> omega), HB.out⟩
set_option maxHeartbeats 1000000 in
theorem walkI_any {A : Option Addr} {c B n : Nat} {L : Nat → Nat} {fs : Nat → List Int} (w : World) (hx : RdFF w B A n L fs) (hB : B ≤ w.heap.size) (hL : ∀ i, i < n → L i ≤ 1099511627776) (hn : n ≤ 1099511627776) :
  Calls Tryz.prog 53 #[.agg #[.slice A n c]] w fun e w' => e = .returned (.bool (wkB n L fs)) ∧ Below w.heap.size w w' := by
 have hb : Below w.heap.size w (w.alloc (.cells #[.slice A n c] 32)) := (Below.refl _ _).alloc (Nat.le_refl _) _
 have HC := Lib.hid (containsW_any (c := c) (b0 := w.heap.size) (w.alloc (.cells #[.slice A n c] 32)) (by simp) (by simp) (hx.below hb hB) (Nat.le_trans hB hb.size) hL hn)
 have HB := Lib.hid hb
 have HL := Lib.hid (fun W => lenFF_any A n c W (by omega))
 clear hb hx
 by_cases h : 1 ≤ n ∧ n ≤ 6
 ·have HE := Lib.hid (wkB_in (L := L) (fs := fs) h)
  have HR := Lib.hid (inR_yes (n := (n : Int)) (lo := 1) (hi := 6) (by omega))
  clear h
  go_enter Tryz.func53, Tryz.ntmps53
  go_wp2_with fail
  refine (HL.out _).mono ?_
  rintro e w1 ⟨rfl, rfl⟩
  go_wp2_with fail
  refine (inRange_any _ _ _ _).mono ?_
  rintro e w1 ⟨rfl, rfl⟩
  rw [HR.out]
  go_wp2_with fail
  refine HC.out.mono ?_
  rintro e w1 ⟨rfl, hb1⟩
  have HB1 := Lib.hid (Base.Below.nextA HB.out hb1)
  clear hb1
  go_wp2
  go_ret
  exact ⟨ret_bool (by first | (rw [HE.out]; done) | (rw [HE.out]; simp)), HB1.out⟩
 ·have HE := Lib.hid (wkB_out (L := L) (fs := fs) h)
  have HR := Lib.hid (inR_no (n := (n : Int)) (lo := 1) (hi := 6) (by omega))
  clear h
  go_enter Tryz.func53, Tryz.ntmps53
  go_wp2_with fail
  refine (HL.out _).mono ?_
  rintro e w1 ⟨rfl, rfl⟩
  go_wp2_with fail
  refine (inRange_any _ _ _ _).mono ?_
  rintro e w1 ⟨rfl, rfl⟩
  rw [HR.out]
  go_wp2
  go_ret
  exact ⟨by rw [HE.out]; rfl, HB.out⟩
end Go.Proofs.YthagenodiofgnaaGreat.Ratio
namespace Go.Proofs.YthagenodiofgnaaGreat.Ratio
open Go.RowKit Go.Proofs.YthagenodiofgnaaGreat Go.Proofs.YthagenodiofgnaaGreat.Base Go.Proofs.YthagenodiofgnaaGreat.Mem Go.Proofs.YthagenodiofgnaaGreat.NatM Go.Proofs.YthagenodiofgnaaGreat.Nat32 Go.Proofs.YthagenodiofgnaaGreat.RatM Go.Proofs.YthagenodiofgnaaGreat.Blk Go.Proofs.YthagenodiofgnaaGreat.MemF Go.Proofs.YthagenodiofgnaaGreat.ChM Go.Proofs.YthagenodiofgnaaGreat.GaussM Go.Proofs.YthagenodiofgnaaGreat.WalkM Go.Proofs.YthagenodiofgnaaGreat.GiveM
open Go.Proofs.YthagenodiofgnaaGreat.Inv (natOf natOf_eq len_pos Rat3 not_slice not_bool frz)
set_option linter.unusedVariables false
theorem RdRR.congrL {w : World} {A : Option Addr} {n : Nat} {L L' : Nat → Nat} {f : Nat → Nat → Rat} (h : RdRR w A n L f) (hL : ∀ i, i < n → L i = L' i) : RdRR w A n L' f := fun h0 => by
 obtain ⟨g, e, hlt, hc⟩ := h h0
 exact ⟨g, e, hlt, fun i hi => by rw [← hL i hi]; exact hc i hi⟩
end Go.Proofs.YthagenodiofgnaaGreat.Ratio
namespace Go.Proofs.YthagenodiofgnaaGreat.Ratio
open Go.RowKit Go.Proofs.YthagenodiofgnaaGreat Go.Proofs.YthagenodiofgnaaGreat.Base Go.Proofs.YthagenodiofgnaaGreat.Mem Go.Proofs.YthagenodiofgnaaGreat.NatM Go.Proofs.YthagenodiofgnaaGreat.Nat32 Go.Proofs.YthagenodiofgnaaGreat.RatM Go.Proofs.YthagenodiofgnaaGreat.Blk Go.Proofs.YthagenodiofgnaaGreat.MemF Go.Proofs.YthagenodiofgnaaGreat.ChM Go.Proofs.YthagenodiofgnaaGreat.GaussM Go.Proofs.YthagenodiofgnaaGreat.WalkM Go.Proofs.YthagenodiofgnaaGreat.GiveM
open Go.Proofs.YthagenodiofgnaaGreat.Inv (natOf natOf_eq len_pos Rat3 not_slice not_bool frz)
set_option linter.unusedVariables false
set_option maxHeartbeats 2000000 in
set_option maxRecDepth 100000 in
theorem setOfI_any {A : Option Addr} {c B n : Nat} {L : Nat → Nat} {fs : Nat → List Int} (w : World) (hx : RdFF w B A n L fs) (hB : B ≤ w.heap.size) (hL : ∀ i, i < n → L i ≤ 1048576) (hn : n ≤ 1048576) :
  Calls Tryz.prog 13 #[.agg #[.slice A n c]] w (FsRet (stN n L fs) (stR n L fs) (stO n L fs) w) := by
 obtain ⟨W0, hW0⟩ : ∃ W0, W0 = w.alloc (.cells #[.slice A n c] 32) := ⟨_, rfl⟩
 have hb0 : Below w.heap.size w W0 := by rw [hW0]; exact (Below.refl _ _).alloc (Nat.le_refl _) _
 have K0 : Hid (Blk W0 w.heap.size 32 #[.slice A n c]) := Lib.hid (by rw [hW0]; exact Blk.new w _ _)
 have HX := Lib.hid ((hx.below hb0 hB).more (Nat.le_trans hB hb0.size))
 have HV := Lib.hid (walkI_any (c := c) W0 HX.out (Nat.le_refl _) (fun i hi => by have := hL i hi; omega) (by omega))
 have HB0 := Lib.hid hb0
 have HW0 := Lib.hid hW0
 clear hx hb0 hW0 hL
 have x0 := K0.out.at 0 (v := .slice A n c) rfl
 rw [HW0.out] at x0
 cases hv : wkB n L fs with
 | false =>
  have HEE := Lib.hid (st_no (n := n) (L := L) (fs := fs) (by unfold stV; rw [hv]; rfl))
  rw [hv] at HV
  clear hv
  go_enter Tryz.func13, Tryz.ntmps13
  go_wp2_with fail
  rw [← HW0.out]
  clear x0
  refine HV.out.mono ?_
  rintro e w1 ⟨rfl, hb1⟩
  have HBZ := Lib.hid (Base.Below.nextA HB0.out hb1)
  clear hb1
  go_wp2
  go_ret2
  rw [HEE.out.1, HEE.out.2.1, HEE.out.2.2]
  exact FsRet.no HBZ.out
 | true =>
  rw [hv] at HV
  obtain ⟨hn1, hn6, hLn, hfs, hsum, hdg⟩ := wk_all hv
  obtain ⟨hsb, hsx⟩ := st_same hv
  have HRW := Lib.hid (fun W (h : Below W0.heap.size W0 W) => rowsI_any (c := c) W (HX.out.below h (Nat.le_refl _)) h.size (fun i hi => by rw [hLn i hi]; exact hfs i hi) (fun i hi => by rw [hLn i hi]; omega) (by omega))
  have HST := Lib.hid (fun W A3 c3 (hr : RdRR W A3 n L (wQ fs)) => settledI_any (c := c3) W (hr.congrL (L' := fun _ => n) hLn) hn1 hn6 hdg)
  have HSB := Lib.hid hsb
  have HSX := Lib.hid hsx
  have HVB := Lib.hid hv
  clear hv hLn hfs hsum hdg hsb hsx
  go_enter Tryz.func13, Tryz.ntmps13
  go_wp2_with fail
  rw [← HW0.out]
  clear x0
  refine HV.out.mono ?_
  rintro e w1 ⟨rfl, hb1⟩
  have HW1 := Lib.hid hb1
  have x1 := (K0.out.belowS hb1).at 0 (v := .slice A n c) rfl
  clear hb1 HV
  go_wp2_with fail
  refine (HRW.out _ HW1.out).mono ?_
  rintro e w3 ⟨A3, c3, rfl, hrr, hb3⟩
  have HW3 := Lib.hid (Base.Below.nextA HW1.out hb3)
  have HS3 := Lib.hid (HST.out w3 A3 c3 hrr)
  clear hb3 hrr HRW HW1 HST
  go_wp2_with fail
  refine HS3.out.mono ?_
  rintro e w4 ⟨v, cs, rfl, ho, hb4⟩
  rw [HSB.out]
  have HW4 := Lib.hid (Base.Below.nextA HW3.out hb4)
  have hs3 := HW3.out.size
  cases hsb : solB (eqS n (wQ fs)) n n with
  | false =>
   have HEE := Lib.hid (st_no (n := n) (L := L) (fs := fs) (by unfold stV; rw [HVB.out, hsb]; rfl))
   have HBZ := Lib.hid (Base.Below.nextA HB0.out HW4.out)
   clear hsb ho hb4 HW3 HW4 x1 HS3
   go_wp2
   go_ret2
   rw [HEE.out.1, HEE.out.2.1, HEE.out.2.2]
   exact FsRet.no HBZ.out
  | true =>
   have HEE := Lib.hid (st_yes (n := n) (L := L) (fs := fs) (by unfold stV; rw [HVB.out, hsb]; rfl))
   have hsn : sN (eqI n (wQ fs)) (n + 1) n = n := by
    unfold sN
    rw [HSB.out, hsb, if_pos rfl]
   rw [hsn] at ho
   obtain ⟨A4, c4, rfl, _⟩ := ho.form
   have hcg := give_congr (n := n) (fun j hj => HSX.out j hj)
   have HF := Lib.hid (fractions_any (c := c4) w4 ho.rd (show n ≤ 1000 by omega))
   rw [hcg.1, hcg.2.1, hcg.2.2, ← HEE.out.1, ← HEE.out.2.1, ← HEE.out.2.2] at HF
   clear hsb ho hb4 HW3 x1 HS3 hsn hcg
   go_wp2_with fail
   refine HF.out.mono ?_
   rintro e w6 ⟨A6, c6, rfl, ho6, hb6⟩
   have HO := Lib.hid (And.intro ho6 (Base.Below.nextA HB0.out (Base.Below.nextA HW4.out hb6)))
   have hs4 : w.heap.size ≤ w4.heap.size := Nat.le_trans HB0.out.size HW4.out.size
   clear ho6 hb6
   go_wp2
   go_ret2
   exact ⟨A6, c6, rfl, ownsRow_base HO.out.1 hs4, HO.out.2⟩
end Go.Proofs.YthagenodiofgnaaGreat.Ratio
