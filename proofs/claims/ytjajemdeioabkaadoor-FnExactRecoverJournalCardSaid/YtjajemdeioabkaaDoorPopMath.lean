/- Plain mathematics of counting the ones of a word by fields (bits.OnesCount64), and of parity. No program in sight. -/
import Derived.Laws.BitsAllLaws
namespace Go.Proofs.YtjajemdeioabkaaDoor.PopM
set_option linter.unusedVariables false

/-- the sum of k digits in base B -/
def T (B : Nat) : Nat → Nat → Nat
  | 0, _ => 0
  | k + 1, x => x % B + T B k (x / B)
/-- k digits in base B, each at most m, and no more digits -/
def Fld (B m : Nat) : Nat → Nat → Prop
  | 0, x => x = 0
  | k + 1, x => x % B ≤ m ∧ Fld B m k (x / B)
def mask (B e : Nat) : Nat → Nat
  | 0 => 0
  | k + 1 => e + B * mask B e k
theorem T_zero (B k : Nat) : T B k 0 = 0 := by
  induction k with
  | zero => rfl
  | succ k ih => simp [T, ih]
theorem and_split (j a e C : Nat) (he : e < 2 ^ j) : a &&& (e + 2 ^ j * C) = ((a % 2 ^ j) &&& e) + 2 ^ j * ((a / 2 ^ j) &&& C) := by
  have h := Nat.mod_add_div (a &&& (e + 2 ^ j * C)) (2 ^ j)
  rw [Nat.and_mod_two_pow, Nat.and_div_two_pow, Nat.add_mul_mod_self_left, Nat.mod_eq_of_lt he, Nat.add_mul_div_left _ _ (Nat.two_pow_pos j), Nat.div_eq_of_lt he, Nat.zero_add] at h
  exact h.symm
theorem claim1 : ∀ (k x : Nat), x < 4 ^ k → T 4 k ((x / 2 &&& mask 4 1 k) + (x &&& mask 4 1 k)) = T 2 (2 * k) x ∧ Fld 4 2 k ((x / 2 &&& mask 4 1 k) + (x &&& mask 4 1 k))
  | 0, x, h => by simp [mask, T, Fld]
  | k + 1, x, h => by
    have ih := claim1 k (x / 4) (by rw [Nat.pow_succ] at h; omega)
    have e1 := and_split 2 x 1 (mask 4 1 k) (by decide)
    have e2 := and_split 2 (x / 2) 1 (mask 4 1 k) (by decide)
    simp only [show (2 : Nat) ^ 2 = 4 from rfl, nat_mask1] at e1 e2
    have e3 : x / 2 / 4 = x / 4 / 2 := by omega
    rw [e3] at e2
    have hy : (x / 2 &&& mask 4 1 (k + 1)) + (x &&& mask 4 1 (k + 1)) = (x / 2 % 2 + x % 2) + 4 * ((x / 4 / 2 &&& mask 4 1 k) + (x / 4 &&& mask 4 1 k)) := by
      show (x / 2 &&& (1 + 4 * mask 4 1 k)) + (x &&& (1 + 4 * mask 4 1 k)) = _
      rw [e1, e2]; omega
    rw [hy]
    generalize (x / 4 / 2 &&& mask 4 1 k) + (x / 4 &&& mask 4 1 k) = y at *
    have hm : (x / 2 % 2 + x % 2 + 4 * y) % 4 = x / 2 % 2 + x % 2 := by omega
    have hd : (x / 2 % 2 + x % 2 + 4 * y) / 4 = y := by omega
    refine ⟨?_, ?_⟩
    · show (x / 2 % 2 + x % 2 + 4 * y) % 4 + T 4 k ((x / 2 % 2 + x % 2 + 4 * y) / 4) = x % 2 + (x / 2 % 2 + T 2 (2 * k) (x / 2 / 2))
      rw [hm, hd, ih.1, show x / 2 / 2 = x / 4 by omega]; omega
    · show (x / 2 % 2 + x % 2 + 4 * y) % 4 ≤ 2 ∧ Fld 4 2 k ((x / 2 % 2 + x % 2 + 4 * y) / 4)
      rw [hm, hd]; exact ⟨by omega, ih.2⟩
theorem claim2 : ∀ (k x : Nat), Fld 4 2 (2 * k) x → T 16 k ((x / 4 &&& mask 16 3 k) + (x &&& mask 16 3 k)) = T 4 (2 * k) x ∧ Fld 16 4 k ((x / 4 &&& mask 16 3 k) + (x &&& mask 16 3 k))
  | 0, x, h => by simp [mask, T, Fld]
  | k + 1, x, h => by
    obtain ⟨h1, h2, h3⟩ : x % 4 ≤ 2 ∧ x / 4 % 4 ≤ 2 ∧ Fld 4 2 (2 * k) (x / 4 / 4) := h
    rw [show x / 4 / 4 = x / 16 by omega] at h3
    have ih := claim2 k (x / 16) h3
    have e1 := and_split 4 x 3 (mask 16 3 k) (by decide)
    have e2 := and_split 4 (x / 4) 3 (mask 16 3 k) (by decide)
    simp only [show (2 : Nat) ^ 4 = 16 from rfl, nat_mask2] at e1 e2
    rw [show x / 4 / 16 = x / 16 / 4 by omega] at e2
    have hy : (x / 4 &&& mask 16 3 (k + 1)) + (x &&& mask 16 3 (k + 1)) = (x / 4 % 4 + x % 4) + 16 * ((x / 16 / 4 &&& mask 16 3 k) + (x / 16 &&& mask 16 3 k)) := by
      show (x / 4 &&& (3 + 16 * mask 16 3 k)) + (x &&& (3 + 16 * mask 16 3 k)) = _
      rw [e1, e2]; omega
    rw [hy]
    generalize (x / 16 / 4 &&& mask 16 3 k) + (x / 16 &&& mask 16 3 k) = y at *
    have hm : (x / 4 % 4 + x % 4 + 16 * y) % 16 = x / 4 % 4 + x % 4 := by omega
    have hd : (x / 4 % 4 + x % 4 + 16 * y) / 16 = y := by omega
    refine ⟨?_, ?_⟩
    · show (x / 4 % 4 + x % 4 + 16 * y) % 16 + T 16 k ((x / 4 % 4 + x % 4 + 16 * y) / 16) = x % 4 + (x / 4 % 4 + T 4 (2 * k) (x / 4 / 4))
      rw [hm, hd, ih.1, show x / 4 / 4 = x / 16 by omega]; omega
    · show (x / 4 % 4 + x % 4 + 16 * y) % 16 ≤ 4 ∧ Fld 16 4 k ((x / 4 % 4 + x % 4 + 16 * y) / 16)
      rw [hm, hd]; exact ⟨by omega, ih.2⟩
theorem c3a (x : Nat) (h1 : x % 16 ≤ 4) (h2 : x / 16 % 16 ≤ 4) (h4 : x / 256 % 16 ≤ 4) : (x / 16 + x) / 256 = x / 256 / 16 + x / 256 := by
  obtain ⟨a, ha⟩ : ∃ a, a = x % 16 := ⟨_, rfl⟩
  obtain ⟨b, hb⟩ : ∃ b, b = x / 16 % 16 := ⟨_, rfl⟩
  obtain ⟨e, he⟩ : ∃ e, e = x / 256 % 16 := ⟨_, rfl⟩
  obtain ⟨f, hf⟩ : ∃ f, f = x / 256 / 16 := ⟨_, rfl⟩
  have hx : x = a + 16 * b + 256 * (e + 16 * f) := by omega
  have q1 : x / 16 = b + 16 * (e + 16 * f) := by omega
  have q2 : x / 256 = e + 16 * f := by omega
  have q3 : (e + 16 * f) / 16 = f := by omega
  rw [q1, q2, q3, hx]
  omega
theorem claim3 : ∀ (k x : Nat), Fld 16 4 (2 * k) x → T 256 k ((x / 16 + x) &&& mask 256 15 k) = T 16 (2 * k) x ∧ Fld 256 8 k ((x / 16 + x) &&& mask 256 15 k)
  | 0, x, h => by simp [mask, T, Fld]
  | k + 1, x, h => by
    obtain ⟨h1, h2, h3⟩ : x % 16 ≤ 4 ∧ x / 16 % 16 ≤ 4 ∧ Fld 16 4 (2 * k) (x / 16 / 16) := h
    rw [show x / 16 / 16 = x / 256 by omega] at h3
    have h4 : x / 256 % 16 ≤ 4 := by
      cases k with
      | zero => have h0 : x / 256 = 0 := h3; omega
      | succ k => exact h3.1
    have ih := claim3 k (x / 256) h3
    have e1 := and_split 8 (x / 16 + x) 15 (mask 256 15 k) (by decide)
    simp only [show (2 : Nat) ^ 8 = 256 from rfl, nat_mask4] at e1
    have e2 : (x / 16 + x) / 256 = x / 256 / 16 + x / 256 := c3a x h1 h2 h4
    have e3 : (x / 16 + x) % 256 % 16 = x / 16 % 16 + x % 16 := by omega
    rw [e2, e3] at e1
    have hy : (x / 16 + x) &&& mask 256 15 (k + 1) = (x / 16 % 16 + x % 16) + 256 * ((x / 256 / 16 + x / 256) &&& mask 256 15 k) := e1
    rw [hy]
    generalize (x / 256 / 16 + x / 256) &&& mask 256 15 k = y at *
    have hm : (x / 16 % 16 + x % 16 + 256 * y) % 256 = x / 16 % 16 + x % 16 := by omega
    have hd : (x / 16 % 16 + x % 16 + 256 * y) / 256 = y := by omega
    refine ⟨?_, ?_⟩
    · show (x / 16 % 16 + x % 16 + 256 * y) % 256 + T 256 k ((x / 16 % 16 + x % 16 + 256 * y) / 256) = x % 16 + (x / 16 % 16 + T 16 (2 * k) (x / 16 / 16))
      rw [hm, hd, ih.1, show x / 16 / 16 = x / 256 by omega]; omega
    · show (x / 16 % 16 + x % 16 + 256 * y) % 256 ≤ 8 ∧ Fld 256 8 k ((x / 16 % 16 + x % 16 + 256 * y) / 256)
      rw [hm, hd]; exact ⟨by omega, ih.2⟩
theorem fold (A A2 A3 D : Nat) (h1 : A ≤ 4112) (h2 : A2 ≤ 4112) (h3 : A3 ≤ 4112) (hD : D ≤ 4112) (y4 : Nat) (h : y4 = A + 65536 * (A2 + 65536 * (A3 + 65536 * D))) :
    (y4 + y4 / 65536 + (y4 + y4 / 65536) / 4294967296) % 128 = (A + A2 + A3 + D) % 128 := by
  subst h
  have q1 : (A + 65536 * (A2 + 65536 * (A3 + 65536 * D))) / 65536 = A2 + 65536 * (A3 + 65536 * D) := by omega
  rw [q1]
  have q2 : (A + 65536 * (A2 + 65536 * (A3 + 65536 * D)) + (A2 + 65536 * (A3 + 65536 * D))) / 4294967296 = A3 + D + 65536 * D := by omega
  rw [q2]
  omega
theorem dig {k y : Nat} (h : Fld 256 8 (k + 1) y) : ∃ d y', d ≤ 8 ∧ y = d + 256 * y' ∧ Fld 256 8 k y' ∧ ∀ s, T 256 k y' = s → T 256 (k + 1) y = d + s :=
  ⟨y % 256, y / 256, h.1, by omega, h.2, fun s hs => by show y % 256 + T 256 k (y / 256) = _; rw [hs]⟩
theorem Fld.sum {y : Nat} (h : Fld 256 8 8 y) : y < 1157442765409226769 ∧ (y + y / 256 + (y + y / 256) / 65536 + (y + y / 256 + (y + y / 256) / 65536) / 4294967296) % 128 = T 256 8 y ∧ T 256 8 y ≤ 64 := by
  obtain ⟨d0, y1, b0, e0, h, t0⟩ := dig h
  obtain ⟨d1, y2, b1, e1, h, t1⟩ := dig h
  obtain ⟨d2, y3, b2, e2, h, t2⟩ := dig h
  obtain ⟨d3, y4, b3, e3, h, t3⟩ := dig h
  obtain ⟨d4, y5, b4, e4, h, t4⟩ := dig h
  obtain ⟨d5, y6, b5, e5, h, t5⟩ := dig h
  obtain ⟨d6, y7, b6, e6, h, t6⟩ := dig h
  obtain ⟨d7, y8, b7, e7, h, t7⟩ := dig h
  have h8 : y8 = 0 := h
  have ht := t0 _ (t1 _ (t2 _ (t3 _ (t4 _ (t5 _ (t6 _ (t7 0 rfl)))))))
  clear t0 t1 t2 t3 t4 t5 t6 t7 h
  have hq : y / 256 = y1 := by omega
  have hy4 : y + y / 256 = (d0 + d1 + 256 * (d1 + d2)) + 65536 * ((d2 + d3 + 256 * (d3 + d4)) + 65536 * ((d4 + d5 + 256 * (d5 + d6)) + 65536 * (d6 + d7 + 256 * d7))) := by rw [hq]; omega
  have hf := fold _ _ _ _ (by omega) (by omega) (by omega) (by omega) _ hy4
  rw [hf, ht]
  clear hf ht hy4 hq
  exact ⟨by omega, by omega, by omega⟩
/-- the ones of a word below 2^64 -/
def pop (n : Nat) : Nat := T 2 64 n
def par (n : Nat) : Nat := pop n % 2
def S1 (x : Nat) : Nat := (x / 2 &&& 6148914691236517205) + (x &&& 6148914691236517205)
def S2 (x : Nat) : Nat := (x / 4 &&& 3689348814741910323) + (x &&& 3689348814741910323)
def S3 (x : Nat) : Nat := (x / 16 + x) &&& 1085102592571150095
theorem pop_le {n : Nat} (hn : n < 18446744073709551616) : pop n ≤ 64 ∧ S1 n < 18446744073709551616 ∧ S2 (S1 n) < 7378697629483820647 ∧ S3 (S2 (S1 n)) < 1157442765409226769 ∧
    (S3 (S2 (S1 n)) + S3 (S2 (S1 n)) / 256 + (S3 (S2 (S1 n)) + S3 (S2 (S1 n)) / 256) / 65536 + (S3 (S2 (S1 n)) + S3 (S2 (S1 n)) / 256 + (S3 (S2 (S1 n)) + S3 (S2 (S1 n)) / 256) / 65536) / 4294967296) % 128 = pop n := by
  have m1 : mask 4 1 32 = 6148914691236517205 := by decide
  have m2 : mask 16 3 16 = 3689348814741910323 := by decide
  have m3 : mask 256 15 8 = 1085102592571150095 := by decide
  have c1 := claim1 32 n (by exact hn)
  rw [m1] at c1
  have c2 := claim2 16 (S1 n) c1.2
  rw [m2] at c2
  have c3 := claim3 8 (S2 (S1 n)) c2.2
  rw [m3] at c3
  have c4 := Fld.sum (y := S3 (S2 (S1 n))) c3.2
  have ht : T 256 8 (S3 (S2 (S1 n))) = pop n := c3.1.trans (c2.1.trans c1.1)
  rw [ht] at c4
  refine ⟨c4.2.2, ?_, ?_, c4.1, c4.2.1⟩
  · unfold S1
    have a1 := Nat.and_le_right (n := n / 2) (m := 6148914691236517205)
    have a2 := Nat.and_le_right (n := n) (m := 6148914691236517205)
    omega
  · unfold S2
    have a1 := Nat.and_le_right (n := S1 n / 4) (m := 3689348814741910323)
    have a2 := Nat.and_le_right (n := S1 n) (m := 3689348814741910323)
    omega
theorem xor_bit (a b : Nat) (ha : a < 2) (hb : b < 2) : a ^^^ b = (a + b) % 2 := by
  rcases (show a = 0 ∨ a = 1 by omega) with rfl | rfl <;> rcases (show b = 0 ∨ b = 1 by omega) with rfl | rfl <;> rfl
theorem T2_half (k x : Nat) (h : x < 2 ^ (k + 1)) : T 2 (k + 1) x = x % 2 + T 2 (k + 1) (x / 2) := by
  show x % 2 + T 2 k (x / 2) = _
  have : ∀ (k x : Nat), x < 2 ^ k → T 2 (k + 1) x = T 2 k x := by
    intro k
    induction k with
    | zero => intro x hx; have : x = 0 := by simpa using hx
              subst this; rfl
    | succ k ih =>
      intro x hx
      show x % 2 + T 2 (k + 1) (x / 2) = x % 2 + T 2 k (x / 2)
      rw [ih (x / 2) (by rw [Nat.pow_succ] at hx; omega)]
  rw [this k (x / 2) (by rw [Nat.pow_succ] at h; omega)]
theorem pop_half {x : Nat} (h : x < 18446744073709551616) : pop x = x % 2 + pop (x / 2) := T2_half 63 x h
theorem pop_zero : pop 0 = 0 := T_zero 2 64
theorem par_lt (n : Nat) : par n < 2 := Nat.mod_lt _ (by decide)
end Go.Proofs.YtjajemdeioabkaaDoor.PopM
