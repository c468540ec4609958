/- A register after many steps: the reference's powers of x. -/
import Derived.Test.YtjajemdeioabkaaDoorPoly
import Derived.Test.YtjajemdeioabkaaDoorRegImpl
namespace Go.Proofs.YtjajemdeioabkaaDoor.Jump
open Go.RowKit Go.Proofs.YtjajemdeioabkaaDoor Go.Proofs.YtjajemdeioabkaaDoor.Base Go.Proofs.YtjajemdeioabkaaDoor.Poly
set_option linter.unusedVariables false

/-! ### The plain law -/
theorem nextR_bit {W T x i : Nat} (hi : i + 1 < W) : (Reg.nextR W T x).testBit i = x.testBit (i + 1) := by
  unfold Reg.nextR
  rw [if_neg (by omega), Nat.testBit_or, Nat.testBit_mul_two_pow, Nat.testBit_succ]
  simp; omega
theorem nextR_top {W T x : Nat} (hx : x < 2 ^ W) (hW : 1 ≤ W) : (Reg.nextR W T x).testBit (W - 1) = (PopM.par (x &&& T) == 1) := by
  unfold Reg.nextR
  have h1 : (x / 2).testBit (W - 1) = false := by
    rw [← Nat.testBit_succ]; exact Nat.testBit_lt_two_pow (by rw [show (W - 1).succ = W by omega]; exact hx)
  rw [if_neg (by omega), Nat.testBit_or, Nat.testBit_mul_two_pow, h1]
  have := PopM.par_lt (x &&& T)
  generalize PopM.par (x &&& T) = b at *
  match b, this with
  | 0, _ => simp
  | 1, _ => simp
theorem bits_sq {W T x : Nat} : ∀ i n, i < W → (CycM.iter (Reg.nextR W T) x n).testBit i = sq (Reg.nextR W T) x (n + i)
  | 0, n, _ => rfl
  | i + 1, n, h => by
    rw [← nextR_bit (W := W) (T := T) h, ← CycM.iter_succ (Reg.nextR W T) x n, bits_sq i (n + 1) (by omega), show n + 1 + i = n + (i + 1) by omega]
theorem poly_split {W T : Nat} (hT : T < 2 ^ W) : 2 ^ W ||| T = T ^^^ (1 <<< W) := by
  apply Nat.eq_of_testBit_eq
  intro i
  rw [Nat.testBit_or, Nat.testBit_xor, Nat.testBit_shiftLeft, Nat.testBit_two_pow]
  by_cases h : W = i
  · subst h
    simp [Nat.testBit_lt_two_pow hT]
  · have : (decide (W ≤ i) && Nat.testBit 1 (i - W)) = false := by
      by_cases h2 : W ≤ i
      · rw [show i - W = (i - W - 1) + 1 by omega, Nat.testBit_succ]; simp
      · simp [h2]
    rw [this]; simp [h]
theorem lrs_sq {W T x : Nat} (hW : W ≤ 16) (hT : T < 2 ^ W) (hx : x < 2 ^ W) : Lrs (2 ^ W ||| T) (sq (Reg.nextR W T) x) := fun k => by
  have hlt := CycM.iter_lt (T := Reg.nextR W T) (M := 2 ^ W) (fun s hs => Reg.nextR_lt hs) hx k
  have e1 : ev (fun i => sq (Reg.nextR W T) x (k + i)) 64 (1 <<< W) = sq (Reg.nextR W T) x (k + W) := by
    have h1 : 1 <<< W < 2 ^ (W + 1) := by rw [Nat.shiftLeft_eq, Nat.pow_succ]; have := Nat.two_pow_pos W; omega
    rw [ev_fuel _ h1 (by omega), ev_shift]
    simp [ev]
  rw [poly_split hT, ev_xor, e1, ev_fuel _ hT (by omega)]
  by_cases h0 : W = 0
  · subst h0
    have e2 : sq (Reg.nextR 0 T) x k = false := by
      unfold sq
      rw [show CycM.iter (Reg.nextR 0 T) x k = 0 by simpa using hlt]; rfl
    simp [ev, e2]
  · rw [ev_congr (t := fun i => (CycM.iter (Reg.nextR W T) x k).testBit i) T W (fun i hi => (bits_sq i k hi).symm), ← par_and (by omega) hT, Nat.and_comm, ← nextR_top hlt (by omega), ← CycM.iter_succ (Reg.nextR W T) x k, bits_sq (W - 1) (k + 1) (by omega),
      show k + 1 + (W - 1) = k + W by omega]
    simp
/-- a power of x tells a bit -/
theorem rep_bit {W T x n i R : Nat} (hW : W ≤ 16) (hT : T < 2 ^ W) (hx : x < 2 ^ W) (hi : i < W) (hR : R < 2 ^ W) (h : Rep (2 ^ W ||| T) R (n + i)) :
    PopM.par (R &&& x) = ((CycM.iter (Reg.nextR W T) x n).testBit i).toNat := by
  have h1 := par_and (x := x) (show W ≤ 63 by omega) hR
  rw [ev_congr (t := sq (Reg.nextR W T) x) R W (fun j hj => by have := bits_sq (W := W) (T := T) (x := x) j 0 hj; rw [Nat.zero_add] at this; exact this), ← ev_fuel _ hR (show W ≤ 64 by omega), h _ (lrs_sq hW hT hx), ← bits_sq i n hi] at h1
  have := PopM.par_lt (R &&& x)
  generalize PopM.par (R &&& x) = b at *
  rw [← h1]
  match b, this with
  | 0, _ => rfl
  | 1, _ => rfl
theorem low_succ (X i : Nat) : X % 2 ^ i ||| (X.testBit i).toNat * 2 ^ i = X % 2 ^ (i + 1) := by
  apply Nat.eq_of_testBit_eq
  intro j
  rw [Nat.testBit_or, Nat.testBit_mod_two_pow, Nat.testBit_mod_two_pow, Nat.testBit_mul_two_pow]
  rcases Nat.lt_trichotomy j i with h | h | h
  · simp [h, show j < i + 1 by omega, show ¬ i ≤ j by omega]
  · subst h
    cases X.testBit j <;> simp
  · have : (X.testBit i).toNat.testBit (j - i) = false := by
      rw [show j - i = (j - i - 1) + 1 by omega, Nat.testBit_succ]
      cases X.testBit i <;> simp
    simp [this, show ¬ j < i by omega, show ¬ j < i + 1 by omega]
/-- how many bits a number has -/
def bl (p : Nat) : Nat := if p = 0 then 0 else p.log2 + 1
theorem bl_lt (p : Nat) : p < 2 ^ bl p := by
  unfold bl
  split
  · subst_vars; decide
  · exact Nat.lt_log2_self
theorem bl_ge {p : Nat} (h : p ≠ 0) : 2 ^ (bl p - 1) ≤ p := by
  unfold bl
  rw [if_neg h]
  exact Nat.log2_self_le h
theorem bl_le {p k : Nat} (h : p < 2 ^ k) : bl p ≤ k := by
  by_cases h0 : p = 0
  · subst h0; simp [bl]
  · have := bl_ge h0
    have h2 : 2 ^ (bl p - 1) < 2 ^ k := by omega
    have := (Nat.pow_lt_pow_iff_right (by decide : 1 < 2)).1 h2
    omega
theorem bl_pos {p : Nat} (h : p ≠ 0) : 1 ≤ bl p := by unfold bl; rw [if_neg h]; omega
theorem bl_half {p : Nat} (h : p ≠ 0) : bl (p / 2) + 1 = bl p := by
  have h1 := bl_lt p
  have h2 := bl_ge h
  have h3 := bl_pos h
  have h4 := bl_lt (p / 2)
  have a1 : bl (p / 2) ≤ bl p - 1 := bl_le (by
    have : 2 ^ bl p = 2 ^ (bl p - 1) * 2 := by rw [← Nat.pow_succ]; congr 1; omega
    omega)
  have a2 : bl p ≤ bl (p / 2) + 1 := bl_le (by rw [Nat.pow_succ]; omega)
  omega
theorem div_step {a b : Nat} (hb : b ≠ 0) (h : bl b ≤ bl a) : a ^^^ (b <<< (bl a - bl b)) < 2 ^ (bl a - 1) := by
  have ha : a ≠ 0 := by
    intro e; subst e
    have := bl_pos hb
    simp [bl] at h
    omega
  have hb1 := bl_pos hb
  have h1 := bl_lt a
  have h3 : b <<< (bl a - bl b) < 2 ^ bl a := by
    have : 2 ^ bl a = 2 ^ bl b * 2 ^ (bl a - bl b) := by rw [← Nat.pow_add]; congr 1; omega
    rw [Nat.shiftLeft_eq, this]
    exact Nat.mul_lt_mul_of_pos_right (bl_lt b) (Nat.two_pow_pos _)
  have t1 : a.testBit (bl a - 1) = true := by
    have h2 := bl_ge ha
    rw [Nat.testBit_eq_decide_div_mod_eq]
    have e : 2 ^ bl a = 2 ^ (bl a - 1) * 2 := by rw [← Nat.pow_succ]; congr 1; omega
    have : a / 2 ^ (bl a - 1) = 1 := by
      refine Nat.div_eq_of_lt_le (by omega) (by omega)
    simp [this]
  have t2 : (b <<< (bl a - bl b)).testBit (bl a - 1) = true := by
    rw [Nat.testBit_shiftLeft]
    have h2 := bl_ge hb
    have : b.testBit (bl a - 1 - (bl a - bl b)) = true := by
      rw [show bl a - 1 - (bl a - bl b) = bl b - 1 by omega, Nat.testBit_eq_decide_div_mod_eq]
      have e : 2 ^ bl b = 2 ^ (bl b - 1) * 2 := by rw [← Nat.pow_succ]; congr 1; omega
      have := bl_lt b
      have : b / 2 ^ (bl b - 1) = 1 := by
        refine Nat.div_eq_of_lt_le (by omega) (by omega)
      simp [this]
    rw [this]
    simp; omega
  apply Nat.lt_pow_two_of_testBit
  intro i hi
  rcases Nat.lt_or_ge i (bl a) with h4 | h4
  · obtain rfl : i = bl a - 1 := by omega
    rw [Nat.testBit_xor, t1, t2]; rfl
  · have x1 := Nat.xor_lt_two_pow h1 h3
    exact Nat.testBit_lt_two_pow (Nat.lt_of_lt_of_le x1 (Nat.pow_le_pow_right (by decide) h4))
end Go.Proofs.YtjajemdeioabkaaDoor.Jump
