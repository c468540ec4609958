/- The program's naturals: division by digits: the numbers. -/
import Derived.Test.YtjkcdnfmmfpbjaaNatClz
namespace Go.Proofs.Ytjkcdnfmmfpbjaa.Nat32
open Go.RowKit Go.Proofs.Ytjkcdnfmmfpbjaa Go.Proofs.Ytjkcdnfmmfpbjaa.Base Go.Proofs.Ytjkcdnfmmfpbjaa.Mem Go.Proofs.Ytjkcdnfmmfpbjaa.NatM
set_option linter.unusedVariables false
theorem val_split {xs : List Nat} {k : Nat} (h : k ≤ xs.length) : val xs = val (xs.take k) + B32 ^ k * val (xs.drop k) := by
  have e := val_append (xs.take k) (xs.drop k)
  rw [List.take_append_drop, List.length_take, Nat.min_eq_left h] at e
  exact e
theorem val_drop_succ {xs : List Nat} {k : Nat} (h : k < xs.length) : val (xs.drop k) = xs.getD k 0 + B32 * val (xs.drop (k + 1)) := by rw [drop_cons h, val]
theorem val_zeros : ∀ n : Nat, val (List.replicate n 0) = 0
  | 0 => rfl
  | n + 1 => by rw [List.replicate_succ, val, val_zeros n]; rfl
theorem okN_drop {xs : List Nat} (h : okN xs) (k : Nat) : okN (xs.drop k) := fun y hy => h y (List.mem_of_mem_drop hy)
theorem okN_take' {xs : List Nat} (h : okN xs) (k : Nat) : okN (xs.take k) := fun y hy => h y (List.mem_of_mem_take hy)
theorem okN_zeros (n : Nat) : okN (List.replicate n 0) := fun y hy => by rw [(List.mem_replicate.1 hy).2]; decide
theorem okN_append {xs ys : List Nat} (h : okN xs) (h' : okN ys) : okN (xs ++ ys) := fun y hy => by
  rcases List.mem_append.1 hy with hy | hy
  · exact h y hy
  · exact h' y hy
/-- a window that is laid anew -/
def relay (rs : List Nat) (k n : Nat) (ls : List Nat) : List Nat := splice (splice rs k (List.replicate n 0)) k ls
theorem relay_eq {rs ls : List Nat} {k n : Nat} (hk : k + n ≤ rs.length) (hl : ls.length ≤ n) : relay rs k n ls = rs.take k ++ (ls ++ (List.replicate (n - ls.length) 0 ++ rs.drop (k + n))) := by
  have h1 : (rs.take k).length = k := by rw [List.length_take]; omega
  unfold relay splice
  rw [List.length_replicate]
  have e1 : (rs.take k ++ (List.replicate n 0 ++ rs.drop (k + n))).take k = rs.take k := by
    rw [List.take_append_of_le_length (by omega), List.take_of_length_le (by omega)]
  have e2 : (rs.take k ++ (List.replicate n 0 ++ rs.drop (k + n))).drop (k + ls.length) = List.replicate (n - ls.length) 0 ++ rs.drop (k + n) := by
    rw [List.drop_append, List.drop_of_length_le (by omega), List.nil_append, h1, show k + ls.length - k = ls.length by omega, List.drop_append_of_le_length (by rw [List.length_replicate]; exact hl), List.drop_replicate]
  rw [e1, e2]
theorem relay_len {rs ls : List Nat} {k n : Nat} (hk : k + n ≤ rs.length) (hl : ls.length ≤ n) : (relay rs k n ls).length = rs.length := by
  rw [relay_eq hk hl]
  simp
  omega
theorem relay_ok {rs ls : List Nat} {k n : Nat} (hk : k + n ≤ rs.length) (hl : ls.length ≤ n) (h : okN rs) (h' : okN ls) : okN (relay rs k n ls) := by
  rw [relay_eq hk hl]
  exact okN_append (okN_take' h k) (okN_append h' (okN_append (okN_zeros _) (okN_drop h _)))
theorem relay_take {rs ls : List Nat} {k n : Nat} (hk : k + n ≤ rs.length) (hl : ls.length ≤ n) : (relay rs k n ls).take k = rs.take k := by
  have h1 : (rs.take k).length = k := by rw [List.length_take]; omega
  rw [relay_eq hk hl, List.take_append_of_le_length (by omega), List.take_of_length_le (by omega)]
theorem relay_val {rs ls : List Nat} {k n : Nat} (hk : k + n ≤ rs.length) (hl : ls.length ≤ n) (h0 : val (rs.drop (k + n)) = 0) : val ((relay rs k n ls).drop k) = val ls := by
  have h1 : (rs.take k).length = k := by rw [List.length_take]; omega
  rw [relay_eq hk hl, List.drop_append, List.drop_of_length_le (by omega), List.nil_append, h1, Nat.sub_self, List.drop_zero, val_append, val_append, val_zeros, h0]
  simp
/-- what is left and what is found, at a place -/
def DivInv (A D K : Nat) (rs qs : List Nat) : Prop := val rs + B32 ^ K * (D * val (qs.drop K)) = A ∧ val (rs.drop K) < D
theorem DivInv.start {A D K n : Nat} {rs : List Nat} (h : val rs = A) (hd : val (rs.drop K) < D) (hn : n = K) : DivInv A D K rs (List.replicate n 0) := by
  subst hn
  refine ⟨?_, hd⟩
  rw [List.drop_of_length_le (by simp), val]
  omega
theorem DivInv.win {A D k n : Nat} {rs qs : List Nat} (h : DivInv A D (k + 1) rs qs) (hok : okN rs) (hk : k + (n + 2) ≤ rs.length) (hD : D < B32 ^ (n + 1)) :
    val ((rs.drop k).take (n + 2)) = val (rs.drop k) ∧ val (rs.drop k) < B32 * D ∧ val (rs.drop (k + (n + 2))) = 0 := by
  have h1 := val_drop_succ (show k < rs.length by omega)
  have h2 : val (rs.drop k) < B32 * D := by
    have h3 : val (rs.drop (k + 1)) + 1 ≤ D := h.2
    have h4 := Nat.mul_le_mul_left B32 h3
    have h5 := okN_at hok k
    rw [Nat.mul_add] at h4
    omega
  have h3 := val_split (xs := rs.drop k) (k := n + 2) (by rw [List.length_drop]; omega)
  rw [List.drop_drop] at h3
  have h4 : B32 * D < B32 ^ (n + 2) := by
    rw [Nat.pow_succ, Nat.mul_comm (B32 ^ (n + 1))]
    exact Nat.mul_lt_mul_of_pos_left hD (by decide)
  have h5 : val (rs.drop (k + (n + 2))) = 0 := by
    rcases Nat.eq_zero_or_pos (val (rs.drop (k + (n + 2)))) with h6 | h6
    · exact h6
    · have := Nat.le_mul_of_pos_right (B32 ^ (n + 2)) h6
      omega
  rw [h5, Nat.mul_zero, Nat.add_zero] at h3
  exact ⟨h3.symm, h2, h5⟩
theorem DivInv.next {A D k n q : Nat} {rs qs : List Nat} (h : DivInv A D (k + 1) rs qs) (hk : k + (n + 2) ≤ rs.length) (hkq : k < qs.length) (hD : D < B32 ^ (n + 1)) (h0 : val (rs.drop (k + (n + 2))) = 0) (hq : q * D ≤ val (rs.drop k)) (hlt : val (rs.drop k) - q * D < D) :
    DivInv A D k (relay rs k (n + 2) (natL (val (rs.drop k) - q * D))) (qs.set k q) := by
  have hl : (natL (val (rs.drop k) - q * D)).length ≤ n + 2 := natL_len_le (Nat.lt_trans hlt (Nat.lt_of_lt_of_le hD (Nat.pow_le_pow_right (by decide) (by omega))))
  have e1 := relay_val hk hl h0
  rw [natL_val] at e1
  refine ⟨?_, by rw [e1]; exact hlt⟩
  have e2 := val_split (xs := relay rs k (n + 2) (natL (val (rs.drop k) - q * D))) (k := k) (by rw [relay_len hk hl]; omega)
  have e3 := val_split (xs := rs) (k := k) (by omega)
  have e4 := h.1
  rw [e2, e1, relay_take hk hl, drop_setw hkq, val]
  rw [e3] at e4
  generalize val (rs.drop k) = W at *
  generalize val (rs.take k) = T at *
  generalize val (qs.drop (k + 1)) = V at *
  obtain ⟨L, rfl⟩ : ∃ L, W = L + q * D := ⟨W - q * D, by omega⟩
  rw [Nat.add_sub_cancel]
  rw [← e4, Nat.pow_succ]
  generalize B32 ^ k = P
  rw [Nat.mul_add, Nat.mul_add, Nat.mul_add]
  have f1 : P * (D * q) = P * (q * D) := by rw [Nat.mul_comm D q]
  have f2 : P * (D * (B32 * V)) = P * B32 * (D * V) := by rw [Nat.mul_assoc, Nat.mul_left_comm D B32 V]
  omega
theorem DivInv.done {A D : Nat} {rs qs : List Nat} (h : DivInv A D 0 rs qs) : val qs = A / D ∧ val rs = A % D := by
  obtain ⟨h1, h2⟩ := h
  rw [List.drop_zero] at h1 h2
  rw [Nat.pow_zero, Nat.one_mul] at h1
  rw [← h1]
  have hD : 0 < D := by omega
  refine ⟨?_, ?_⟩
  · rw [Nat.add_mul_div_left _ _ hD, Nat.div_eq_of_lt h2, Nat.zero_add]
  · rw [Nat.add_mul_mod_self_left, Nat.mod_eq_of_lt h2]
/-- the first try of a digit is not too low -/
theorem try_high {D n t top : Nat} {L : List Nat} (hok : okN L) (ht : (natL D).getD n 0 = t) (hlen : (natL D).length = n + 1) (htop : L.getD (n + 1) 0 * B32 + L.getD n 0 = top) (hW : val (L.take (n + 2)) < B32 * D) :
    val (L.take (n + 2)) / D ≤ min (top / t) 4294967295 := by
  have t0 : t ≠ 0 := by rw [← ht]; exact (natL_canon D).2 n hlen
  have d1 : B32 ^ n * t ≤ D := by
    have h1 := val_take_any (natL D) n
    rw [List.take_of_length_le (by omega), natL_val, ht] at h1
    omega
  have hD : 0 < D := by
    have := Nat.mul_pos (Nat.pow_pos (n := n) (show 0 < B32 by decide)) (Nat.pos_of_ne_zero t0)
    omega
  have w1 : val (L.take (n + 2)) < B32 ^ n * (top + 1) := by
    have h1 := val_take_any L (n + 1)
    have h2 := val_take_any L n
    have h3 := val_lt _ (okN_take' hok n)
    have h4 : B32 ^ (L.take n).length ≤ B32 ^ n := Nat.pow_le_pow_right (by decide) (by rw [List.length_take]; omega)
    rw [h1, h2, ← htop, Nat.pow_succ, Nat.mul_add, Nat.mul_add, Nat.mul_comm (L.getD (n + 1) 0) B32, ← Nat.mul_assoc]
    omega
  have hq : val (L.take (n + 2)) / D * D ≤ val (L.take (n + 2)) := Nat.div_mul_le_self _ _
  have hb : val (L.take (n + 2)) / D < B32 := by rw [Nat.div_lt_iff_lt_mul hD]; exact hW
  generalize hqe : val (L.take (n + 2)) / D = q at *
  refine Nat.le_min.2 ⟨?_, by unfold B32 at hb; omega⟩
  rw [Nat.le_div_iff_mul_le (Nat.pos_of_ne_zero t0)]
  have h5 : B32 ^ n * (q * t) ≤ q * D := by
    rw [Nat.mul_left_comm]
    exact Nat.mul_le_mul_left _ d1
  have h6 : B32 ^ n * (q * t) < B32 ^ n * (top + 1) := by omega
  have := Nat.lt_of_mul_lt_mul_left h6
  omega
/-- a number that is shifted up within its first digit keeps its length -/
theorem up_len {b s n : Nat} (hlen : (natL b).length = n + 1) (hs : s ≤ 31) (ht : (natL b).getD n 0 * 2 ^ s < B32) : (natL (b * 2 ^ s)).length = n + 1 ∧ b * 2 ^ s < B32 ^ (n + 1) ∧ B32 ^ n * 2 ^ s ≤ b * 2 ^ s := by
  have h1 := val_take_any (natL b) n
  rw [List.take_of_length_le (by omega), natL_val] at h1
  have h2 := val_lt _ (okN_take' (natL_ok b) n)
  rw [List.length_take, hlen, Nat.min_eq_left (by omega)] at h2
  have t0 := (natL_canon b).2 n hlen
  generalize (natL b).getD n 0 = t at *
  have hlo : B32 ^ n ≤ b := by
    have := Nat.le_mul_of_pos_right (B32 ^ n) (Nat.pos_of_ne_zero t0)
    omega
  have hP : 0 < 2 ^ s := Nat.two_pow_pos s
  have hBs : B32 = 2 ^ (32 - s) * 2 ^ s := by rw [← Nat.pow_add, show 32 - s + s = 32 by omega]; rfl
  have ht1 : (t + 1) * 2 ^ s ≤ B32 := by
    rw [hBs] at ht ⊢
    have := Nat.lt_of_mul_lt_mul_right ht
    exact Nat.mul_le_mul_right _ this
  have hhi : b * 2 ^ s < B32 ^ (n + 1) := by
    have h3 : b + 1 ≤ B32 ^ n * (t + 1) := by rw [Nat.mul_add]; omega
    have h4 := Nat.mul_le_mul_right (2 ^ s) h3
    rw [Nat.add_mul, Nat.mul_assoc] at h4
    have h5 := Nat.mul_le_mul_left (B32 ^ n) ht1
    rw [Nat.pow_succ]
    omega
  have hlo2 := Nat.mul_le_mul_right (2 ^ s) hlo
  refine ⟨?_, hhi, hlo2⟩
  refine Nat.le_antisymm (natL_len_le hhi) ?_
  have h7 := val_lt _ (natL_ok (b * 2 ^ s))
  rw [natL_val] at h7
  have h8 : B32 ^ n ≤ b * 2 ^ s := Nat.le_trans hlo (Nat.le_mul_of_pos_right _ hP)
  rcases Nat.lt_or_ge (natL (b * 2 ^ s)).length (n + 1) with h9 | h9
  · have := Nat.pow_le_pow_right (show 0 < B32 by decide) (show (natL (b * 2 ^ s)).length ≤ n by omega)
    omega
  · exact h9
/-- what lies above the first place is below the divisor -/
theorem top_low {a b s n : Nat} {rs : List Nat} (hlen : (natL b).length = n + 1) (hb : B32 ^ n * 2 ^ s ≤ b * 2 ^ s) (hr : rs.length = (natL a).length + 1) (hv : val rs = a * 2 ^ s) (hn : n ≤ (natL a).length) : val (rs.drop ((natL a).length - n)) < b * 2 ^ s := by
  have h1 := val_split (xs := rs) (k := (natL a).length - n) (by omega)
  have h2 := val_lt _ (natL_ok a)
  rw [natL_val] at h2
  have h3 : a * 2 ^ s < B32 ^ (natL a).length * 2 ^ s := Nat.mul_lt_mul_of_pos_right h2 (Nat.two_pow_pos s)
  have h4 : B32 ^ (natL a).length = B32 ^ ((natL a).length - n) * B32 ^ n := by rw [← Nat.pow_add, Nat.sub_add_cancel hn]
  rw [h4, Nat.mul_assoc] at h3
  have h5 : B32 ^ ((natL a).length - n) * val (rs.drop ((natL a).length - n)) < B32 ^ ((natL a).length - n) * (B32 ^ n * 2 ^ s) := by omega
  have := Nat.lt_of_mul_lt_mul_left h5
  omega
end Go.Proofs.Ytjkcdnfmmfpbjaa.Nat32
