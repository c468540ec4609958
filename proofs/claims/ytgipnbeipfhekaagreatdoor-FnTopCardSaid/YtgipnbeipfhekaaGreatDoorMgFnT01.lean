/- Polynomials over two elements as numbers: what they make of a row of bits (ev); rows that a polynomial sends to 0; products, remainders, powers of x. -/
import Derived.Test.YtgipnbeipfhekaaGreatDoorMgFnT00
import Derived.Laws.BitsAllLaws
import Derived.IntWalk
import Derived.BigRegion
import Derived.Maps.AppendAt
import Derived.Deep.RegionHeld3
import Derived.Test.YtgipnbeipfhekaaGreatDoorRows
import Derived.Deep.Matrix
import Derived.ProofKit
import Derived.OpenShut
import Derived.Lib.SmallJoins
import Derived.Deep.RegionWith
namespace Go.Proofs.YtgipnbeipfhekaaGreatDoor.Poly
open Go.Proofs.YtgipnbeipfhekaaGreatDoor
set_option linter.unusedVariables false
def ev (s : Nat → Bool) : Nat → Nat → Bool
 | 0, _ => false
 | k + 1, q => (ev s k q) ^^ (q.testBit k && s k)
theorem ev_xor (s : Nat → Bool) (a b : Nat) : ∀ k, ev s k (a ^^^ b) = ((ev s k a) ^^ (ev s k b))
 | 0 => rfl
 | k + 1 => by
  simp only [ev, ev_xor s a b k, Nat.testBit_xor]
  cases ev s k a <;> cases ev s k b <;> cases a.testBit k <;> cases b.testBit k <;> cases s k <;> rfl
theorem ev_zero (s : Nat → Bool) : ∀ k, ev s k 0 = false
 | 0 => rfl
 | k + 1 => by simp [ev, ev_zero s k]
theorem ev_low (s : Nat → Bool) (q : Nat) : ∀ k, (∀ i, i < k → q.testBit i = false) → ev s k q = false
 | 0, _ => rfl
 | k + 1, h => by simp [ev, ev_low s q k (fun i hi => h i (by omega)), h k (by omega)]
theorem ev_more (s : Nat → Bool) {q k : Nat} (h : q < 2 ^ k) : ∀ m, ev s (k + m) q = ev s k q
 | 0 => rfl
 | m + 1 => by
  have h1 : q.testBit (k + m) = false := Nat.testBit_lt_two_pow (Nat.lt_of_lt_of_le h (Nat.pow_le_pow_right (by decide) (by omega)))
  rw [← Nat.add_assoc]
  simp only [ev, ev_more s h m, h1]
  simp
theorem ev_fuel (s : Nat → Bool) {q k l : Nat} (h : q < 2 ^ k) (hkl : k ≤ l) : ev s l q = ev s k q := by
 obtain ⟨m, rfl⟩ : ∃ m, l = k + m := ⟨l - k, by omega⟩
 exact ev_more s h m
theorem ev_shift (s : Nat → Bool) (a i : Nat) : ∀ k, ev s (i + k) (a <<< i) = ev (fun j => s (i + j)) k a
 | 0 => ev_low s _ i fun j hj => by rw [Nat.testBit_shiftLeft]; simp; omega
 | k + 1 => by
  rw [← Nat.add_assoc]
  simp only [ev, ev_shift s a i k, Nat.testBit_shiftLeft]
  congr 1
  simp [Nat.le_add_right]
theorem ev_congr {s t : Nat → Bool} (q : Nat) : ∀ k, (∀ i, i < k → s i = t i) → ev s k q = ev t k q
 | 0, _ => rfl
 | k + 1, h => by simp only [ev, ev_congr q k (fun i hi => h i (by omega)), h k (by omega)]
theorem ev_half (s : Nat → Bool) (q : Nat) : ∀ k, ev s (k + 1) q = ((q.testBit 0 && s 0) ^^ (ev (fun i => s (i + 1)) k (q / 2)))
 | 0 => by simp [ev]
 | k + 1 => by
  rw [ev, ev_half s q k]
  simp only [ev, Nat.testBit_succ]
  cases ((q.testBit 0) && s 0) <;> cases ev (fun i => s (i + 1)) k (q / 2) <;> cases ((q / 2).testBit k && s (k + 1)) <;> rfl
theorem par_ev : ∀ (k : Nat), k ≤ 63 → ∀ n, n < 2 ^ k → ((PopM.par n == 1) = ev (fun _ => true) k n)
 | 0, _, n, h => by
  obtain rfl : n = 0 := by simpa using h
  simp [PopM.par, PopM.pop_zero, ev]
 | k + 1, hk, n, h => by
  have h2 : n < 18446744073709551616 := Nat.lt_of_lt_of_le h (by have := Nat.pow_le_pow_right (n := 2) (by decide) hk; omega)
  rw [ev_half, ← par_ev k (by omega) (n / 2) (by rw [Nat.pow_succ] at h; omega)]
  have e := PopM.pop_half h2
  have hb : n.testBit 0 = (n % 2 == 1) := by rw [Nat.testBit_zero]; cases h : decide (n % 2 = 1) <;> simp_all
  have h3 : PopM.par (n / 2) = PopM.pop (n / 2) % 2 := rfl
  rw [hb, PopM.par, e, h3]
  rcases Nat.mod_two_eq_zero_or_one n with h4 | h4 <;> rcases Nat.mod_two_eq_zero_or_one (PopM.pop (n / 2)) with h5 | h5
  all_goals
   rw [h4, h5]
   first
    | (rw [show (0 + PopM.pop (n / 2)) % 2 = 0 by omega]; rfl)
    | (rw [show (0 + PopM.pop (n / 2)) % 2 = 1 by omega]; rfl)
    | (rw [show (1 + PopM.pop (n / 2)) % 2 = 1 by omega]; rfl)
    | (rw [show (1 + PopM.pop (n / 2)) % 2 = 0 by omega]; rfl)
theorem ev_and (x q : Nat) : ∀ k, ev (fun _ => true) k (q &&& x) = ev (fun i => x.testBit i) k q
 | 0 => rfl
 | k + 1 => by simp [ev, ev_and x q k]
theorem par_and {k x q : Nat} (hk : k ≤ 63) (hq : q < 2 ^ k) : (PopM.par (q &&& x) == 1) = ev (fun i => x.testBit i) k q := by
 rw [par_ev k hk (q &&& x) (Nat.lt_of_le_of_lt Nat.and_le_left hq), ev_and]
def Lrs (p : Nat) (s : Nat → Bool) : Prop := ∀ k, ev (fun i => s (k + i)) 64 p = false
theorem Lrs.shift {p : Nat} {s : Nat → Bool} (h : Lrs p s) (m : Nat) : Lrs p fun i => s (m + i) := fun k => by
 have := h (m + k)
 simpa [Nat.add_assoc] using this
def Con (p a b : Nat) : Prop := ∀ s, Lrs p s → ev s 64 a = ev s 64 b
theorem Con.refl (p a : Nat) : Con p a a := fun _ _ => rfl
theorem Con.trans {p a b c : Nat} (h : Con p a b) (k : Con p b c) : Con p a c := fun s hs => (h s hs).trans (k s hs)
theorem Con.step {p a i : Nat} (hp : p < 2 ^ 32) (hi : i ≤ 32) : Con p (a ^^^ (p <<< i)) a := fun s hs => by
 rw [ev_xor]
 have e : ev s 64 (p <<< i) = ev (fun j => s (i + j)) 32 p := by
  have h1 : p <<< i < 2 ^ (i + 32) := by rw [Nat.shiftLeft_eq, Nat.pow_add, Nat.mul_comm]; exact Nat.mul_lt_mul_of_pos_left hp (Nat.two_pow_pos i)
  rw [ev_fuel s h1 (by omega), ev_shift]
 have e2 := hs i
 rw [ev_fuel _ hp (by omega)] at e2
 rw [e, e2]; simp
def Rep (p a N : Nat) : Prop := ∀ s, Lrs p s → ev s 64 a = s N
theorem Rep.con {p a b N : Nat} (h : Rep p a N) (c : Con p b a) : Rep p b N := fun s hs => (c s hs).trans (h s hs)
theorem Rep.one (p : Nat) : Rep p 1 0 := fun s _ => by
 rw [ev_fuel s (k := 1) (by decide) (by decide)]; simp [ev]
theorem Rep.two (p : Nat) : Rep p 2 1 := fun s _ => by
 rw [ev_fuel s (k := 2) (by decide) (by decide)]; simp [ev, Nat.testBit]
def mulTo (a b : Nat) : Nat → Nat
 | 0 => 0
 | k + 1 => if b.testBit k then mulTo a b k ^^^ (a <<< k) else mulTo a b k
theorem mulTo_lt {a b : Nat} {m : Nat} (ha : a < 2 ^ m) : ∀ k, mulTo a b k < 2 ^ (m + k)
 | 0 => by simp [mulTo]; exact Nat.two_pow_pos m
 | k + 1 => by
  have h1 := mulTo_lt (b := b) ha k
  have h2 : 2 ^ (m + k) < 2 ^ (m + (k + 1)) := Nat.pow_lt_pow_right (by decide) (by omega)
  have h3 : a <<< k < 2 ^ (m + k) := by rw [Nat.shiftLeft_eq, Nat.pow_add]; exact Nat.mul_lt_mul_of_pos_right ha (Nat.two_pow_pos k)
  unfold mulTo
  split
  ·exact Nat.lt_of_lt_of_le (Nat.xor_lt_two_pow h1 h3) (Nat.le_of_lt h2)
  ·omega
theorem mulTo_more {a b m : Nat} (hb : b < 2 ^ m) : ∀ j, mulTo a b (m + j) = mulTo a b m
 | 0 => rfl
 | j + 1 => by
  rw [← Nat.add_assoc, mulTo, Nat.testBit_lt_two_pow (Nat.lt_of_lt_of_le hb (Nat.pow_le_pow_right (by decide) (by omega))), mulTo_more hb j]
  simp
theorem mulTo_16 {a b W : Nat} (hW : W ≤ 16) (ha : a < 2 ^ W) (hb : b < 2 ^ W) : mulTo a b 32 < 2 ^ 32 := by
 have hp : 2 ^ W ≤ 2 ^ 16 := Nat.pow_le_pow_right (by decide) hW
 have := mulTo_more (a := a) (b := b) (m := 16) (by omega) 16
 rw [show 16 + 16 = 32 from rfl] at this
 rw [this]
 exact mulTo_lt (m := 16) (by omega) 16
theorem ev_mulTo {a b m : Nat} (s : Nat → Bool) (ha : a < 2 ^ m) (hm : m ≤ 32) : ∀ k, k ≤ 32 → ev s 64 (mulTo a b k) = ev (fun i => ev (fun j => s (i + j)) 64 a) k b
 | 0, _ => ev_zero s 64
 | k + 1, hk => by
  have ih := ev_mulTo (b := b) s ha hm k (by omega)
  have e : ev s 64 (a <<< k) = ev (fun j => s (k + j)) 64 a := by
   have h3 : a <<< k < 2 ^ (k + m) := by rw [Nat.shiftLeft_eq, Nat.add_comm, Nat.pow_add]; exact Nat.mul_lt_mul_of_pos_right ha (Nat.two_pow_pos k)
   rw [ev_fuel s h3 (by omega), ev_shift, ← ev_fuel (fun j => s (k + j)) ha (show m ≤ 64 by omega)]
  have e3 : ev (fun i => ev (fun j => s (i + j)) 64 a) (k + 1) b = ((ev (fun i => ev (fun j => s (i + j)) 64 a) k b) ^^ (b.testBit k && ev (fun j => s (k + j)) 64 a)) := rfl
  rw [e3, ← ih, ← e]
  cases hb : b.testBit k
  ·rw [mulTo, hb]; simp only [Bool.false_eq_true, if_false, Bool.false_and, Bool.xor_false]
  ·rw [mulTo, hb, if_pos rfl, ev_xor, Bool.true_and]
theorem ev_lin (s : Nat → Bool) (a : Nat) (p : Nat) : ∀ k, ev (fun i => ev (fun j => s (i + j)) k a) 64 p = ev (fun j => ev (fun i => s (i + j)) 64 p) k a
 | 0 => by
  simp only [ev]
  have : ∀ l q, ev (fun _ => false) l q = false := fun l q => by
   induction l with
   | zero => rfl
   | succ l ih => simp [ev, ih]
  exact this 64 p
 | k + 1 => by
  rw [show ev (fun j => ev (fun i => s (i + j)) 64 p) (k + 1) a = ((ev (fun j => ev (fun i => s (i + j)) 64 p) k a) ^^ (a.testBit k && ev (fun i => s (i + k)) 64 p)) from rfl, ← ev_lin s a p k]
  have : ∀ l (f g : Nat → Bool) (c : Bool) q, ev (fun i => (f i) ^^ (c && g i)) l q = ((ev f l q) ^^ (c && ev g l q)) := fun l f g c q => by
   induction l with
   | zero => cases c <;> rfl
   | succ l ih =>
    simp only [ev, ih]
    cases ev f l q <;> cases ev g l q <;> cases q.testBit l <;> cases f l <;> cases g l <;> cases c <;> rfl
  exact this 64 (fun i => ev (fun j => s (i + j)) k a) (fun i => s (i + k)) (a.testBit k) p
theorem Lrs.sum {p : Nat} {s : Nat → Bool} (hs : Lrs p s) (a : Nat) : Lrs p fun i => ev (fun j => s (i + j)) 64 a := fun k => by
 have h := ev_lin (fun i => s (k + i)) a p 64
 have e : (fun i => ev (fun j => s (k + i + j)) 64 a) = fun i => ev (fun j => s (k + (i + j))) 64 a := by simp only [Nat.add_assoc]
 have h' : ev (fun i => ev (fun j => s (k + (i + j))) 64 a) 64 p = ev (fun j => ev (fun i => s (k + (i + j))) 64 p) 64 a := h
 rw [e, h']
 have : ∀ j, ev (fun i => s (k + (i + j))) 64 p = false := fun j => by
  have e : (fun i => s (k + j + i)) = fun i => s (k + (i + j)) := funext fun i => congrArg s (by omega)
  exact (congrArg (fun f => ev f 64 p) e).symm.trans (hs (k + j))
 rw [ev_congr (t := fun _ => false) a 64 (fun i _ => this i)]
 have h0 : ∀ l q, ev (fun _ => false) l q = false := fun l q => by
  induction l with
  | zero => rfl
  | succ l ih => simp [ev, ih]
 exact h0 64 a
theorem Rep.mul {p a b N M : Nat} (ha : Rep p a N) (hb : Rep p b M) (ha2 : a < 2 ^ 32) (hb2 : b < 2 ^ 32) : Rep p (mulTo a b 32) (N + M) := fun s hs => by
 rw [ev_mulTo s ha2 (by decide) 32 (by decide), ← ev_fuel _ hb2 (show 32 ≤ 64 by decide)]
 have h1 := hb _ (hs.sum a)
 rw [h1]
 have := ha _ (hs.shift M)
 rw [this, Nat.add_comm]
def sq (F : Nat → Nat) (x : Nat) (m : Nat) : Bool := (CycM.iter F x m).testBit 0
end Go.Proofs.YtgipnbeipfhekaaGreatDoor.Poly
namespace Go.Proofs.YtgipnbeipfhekaaGreatDoor.Jump
open Go.RowKit Go.Proofs.YtgipnbeipfhekaaGreatDoor Go.Proofs.YtgipnbeipfhekaaGreatDoor.Base Go.Proofs.YtgipnbeipfhekaaGreatDoor.Poly
set_option linter.unusedVariables false
theorem nextR_bit {W T x i : Nat} (hi : i + 1 < W) : (Reg.nextR W T x).testBit i = x.testBit (i + 1) := by
 unfold Reg.nextR
 rw [if_neg (by omega), Nat.testBit_or, Nat.testBit_mul_two_pow, Nat.testBit_succ]
 simp; omega
theorem nextR_top {W T x : Nat} (hx : x < 2 ^ W) (hW : 1 ≤ W) : (Reg.nextR W T x).testBit (W - 1) = (PopM.par (x &&& T) == 1) := by
 unfold Reg.nextR
 have h1 : (x / 2).testBit (W - 1) = false := by
  rw [← Nat.testBit_succ]; exact Nat.testBit_lt_two_pow (by rw [show (W - 1).succ = W by omega]; exact hx)
 rw [if_neg (by omega), Nat.testBit_or, Nat.testBit_mul_two_pow, h1]
 have := PopM.par_lt (x &&& T)
 generalize PopM.par (x &&& T) = b at *
 match b, this with
 | 0, _ => simp
 | 1, _ => simp
theorem bits_sq {W T x : Nat} : ∀ i n, i < W → (CycM.iter (Reg.nextR W T) x n).testBit i = sq (Reg.nextR W T) x (n + i)
 | 0, n, _ => rfl
 | i + 1, n, h => by
  rw [← nextR_bit (W := W) (T := T) h, ← CycM.iter_succ (Reg.nextR W T) x n, bits_sq i (n + 1) (by omega), show n + 1 + i = n + (i + 1) by omega]
theorem poly_split {W T : Nat} (hT : T < 2 ^ W) : 2 ^ W ||| T = T ^^^ (1 <<< W) := by
 apply Nat.eq_of_testBit_eq
 intro i
 rw [Nat.testBit_or, Nat.testBit_xor, Nat.testBit_shiftLeft, Nat.testBit_two_pow]
 by_cases h : W = i
 ·subst h
  simp [Nat.testBit_lt_two_pow hT]
 ·have : (decide (W ≤ i) && Nat.testBit 1 (i - W)) = false := by
   by_cases h2 : W ≤ i
   ·rw [show i - W = (i - W - 1) + 1 by omega, Nat.testBit_succ]; simp
   ·simp [h2]
  rw [this]; simp [h]
theorem lrs_sq {W T x : Nat} (hW : W ≤ 16) (hT : T < 2 ^ W) (hx : x < 2 ^ W) : Lrs (2 ^ W ||| T) (sq (Reg.nextR W T) x) := fun k => by
 have hlt := CycM.iter_lt (T := Reg.nextR W T) (M := 2 ^ W) (fun s hs => Reg.nextR_lt hs) hx k
 have e1 : ev (fun i => sq (Reg.nextR W T) x (k + i)) 64 (1 <<< W) = sq (Reg.nextR W T) x (k + W) := by
  have h1 : 1 <<< W < 2 ^ (W + 1) := by rw [Nat.shiftLeft_eq, Nat.pow_succ]; have := Nat.two_pow_pos W; omega
  rw [ev_fuel _ h1 (by omega), ev_shift]
  simp [ev]
 rw [poly_split hT, ev_xor, e1, ev_fuel _ hT (by omega)]
 by_cases h0 : W = 0
 ·subst h0
  have e2 : sq (Reg.nextR 0 T) x k = false := by
   unfold sq
   rw [show CycM.iter (Reg.nextR 0 T) x k = 0 by simpa using hlt]; rfl
  simp [ev, e2]
 ·rw [ev_congr (t := fun i => (CycM.iter (Reg.nextR W T) x k).testBit i) T W (fun i hi => (bits_sq i k hi).symm), ← par_and (by omega) hT, Nat.and_comm, ← nextR_top hlt (by omega), ← CycM.iter_succ (Reg.nextR W T) x k, bits_sq (W - 1) (k + 1) (by omega),
   show k + 1 + (W - 1) = k + W by omega]
  simp
theorem rep_bit {W T x n i R : Nat} (hW : W ≤ 16) (hT : T < 2 ^ W) (hx : x < 2 ^ W) (hi : i < W) (hR : R < 2 ^ W) (h : Rep (2 ^ W ||| T) R (n + i)) :
  PopM.par (R &&& x) = ((CycM.iter (Reg.nextR W T) x n).testBit i).toNat := by
 have h1 := par_and (x := x) (show W ≤ 63 by omega) hR
 rw [ev_congr (t := sq (Reg.nextR W T) x) R W (fun j hj => by have := bits_sq (W := W) (T := T) (x := x) j 0 hj; rw [Nat.zero_add] at this; exact this), ← ev_fuel _ hR (show W ≤ 64 by omega), h _ (lrs_sq hW hT hx), ← bits_sq i n hi] at h1
 have := PopM.par_lt (R &&& x)
 generalize PopM.par (R &&& x) = b at *
 rw [← h1]
 match b, this with
 | 0, _ => rfl
 | 1, _ => rfl
theorem low_succ (X i : Nat) : X % 2 ^ i ||| (X.testBit i).toNat * 2 ^ i = X % 2 ^ (i + 1) := by
 apply Nat.eq_of_testBit_eq
 intro j
 rw [Nat.testBit_or, Nat.testBit_mod_two_pow, Nat.testBit_mod_two_pow, Nat.testBit_mul_two_pow]
 rcases Nat.lt_trichotomy j i with h | h | h
 ·simp [h, show j < i + 1 by omega, show ¬ i ≤ j by omega]
 ·subst h
  cases X.testBit j <;> simp
 ·have : (X.testBit i).toNat.testBit (j - i) = false := by
   rw [show j - i = (j - i - 1) + 1 by omega, Nat.testBit_succ]
   cases X.testBit i <;> simp
  simp [this, show ¬ j < i by omega, show ¬ j < i + 1 by omega]
def bl (p : Nat) : Nat := if p = 0 then 0 else p.log2 + 1
theorem bl_lt (p : Nat) : p < 2 ^ bl p := by
 unfold bl
 split
 ·subst_vars; decide
 ·exact Nat.lt_log2_self
theorem bl_ge {p : Nat} (h : p ≠ 0) : 2 ^ (bl p - 1) ≤ p := by
 unfold bl
 rw [if_neg h]
 exact Nat.log2_self_le h
theorem bl_le {p k : Nat} (h : p < 2 ^ k) : bl p ≤ k := by
 by_cases h0 : p = 0
 ·subst h0; simp [bl]
 ·have := bl_ge h0
  have h2 : 2 ^ (bl p - 1) < 2 ^ k := by omega
  have := (Nat.pow_lt_pow_iff_right (by decide : 1 < 2)).1 h2
  omega
theorem bl_pos {p : Nat} (h : p ≠ 0) : 1 ≤ bl p := by unfold bl; rw [if_neg h]; omega
theorem bl_half {p : Nat} (h : p ≠ 0) : bl (p / 2) + 1 = bl p := by
 have h1 := bl_lt p
 have h2 := bl_ge h
 have h3 := bl_pos h
 have h4 := bl_lt (p / 2)
 have a1 : bl (p / 2) ≤ bl p - 1 := bl_le (by
  have : 2 ^ bl p = 2 ^ (bl p - 1) * 2 := by rw [← Nat.pow_succ]; congr 1; omega
  omega)
 have a2 : bl p ≤ bl (p / 2) + 1 := bl_le (by rw [Nat.pow_succ]; omega)
 omega
theorem div_step {a b : Nat} (hb : b ≠ 0) (h : bl b ≤ bl a) : a ^^^ (b <<< (bl a - bl b)) < 2 ^ (bl a - 1) := by
 have ha : a ≠ 0 := by
  intro e; subst e
  have := bl_pos hb
  simp [bl] at h
  omega
 have hb1 := bl_pos hb
 have h1 := bl_lt a
 have h3 : b <<< (bl a - bl b) < 2 ^ bl a := by
  have : 2 ^ bl a = 2 ^ bl b * 2 ^ (bl a - bl b) := by rw [← Nat.pow_add]; congr 1; omega
  rw [Nat.shiftLeft_eq, this]
  exact Nat.mul_lt_mul_of_pos_right (bl_lt b) (Nat.two_pow_pos _)
 have t1 : a.testBit (bl a - 1) = true := by
  have h2 := bl_ge ha
  rw [Nat.testBit_eq_decide_div_mod_eq]
  have e : 2 ^ bl a = 2 ^ (bl a - 1) * 2 := by rw [← Nat.pow_succ]; congr 1; omega
  have : a / 2 ^ (bl a - 1) = 1 := by
   refine Nat.div_eq_of_lt_le (by omega) (by omega)
  simp [this]
 have t2 : (b <<< (bl a - bl b)).testBit (bl a - 1) = true := by
  rw [Nat.testBit_shiftLeft]
  have h2 := bl_ge hb
  have : b.testBit (bl a - 1 - (bl a - bl b)) = true := by
   rw [show bl a - 1 - (bl a - bl b) = bl b - 1 by omega, Nat.testBit_eq_decide_div_mod_eq]
   have e : 2 ^ bl b = 2 ^ (bl b - 1) * 2 := by rw [← Nat.pow_succ]; congr 1; omega
   have := bl_lt b
   have : b / 2 ^ (bl b - 1) = 1 := by
    refine Nat.div_eq_of_lt_le (by omega) (by omega)
   simp [this]
  rw [this]
  simp; omega
 apply Nat.lt_pow_two_of_testBit
 intro i hi
 rcases Nat.lt_or_ge i (bl a) with h4 | h4
 ·obtain rfl : i = bl a - 1 := by omega
  rw [Nat.testBit_xor, t1, t2]; rfl
 ·have x1 := Nat.xor_lt_two_pow h1 h3
  exact Nat.testBit_lt_two_pow (Nat.lt_of_lt_of_le x1 (Nat.pow_le_pow_right (by decide) h4))
end Go.Proofs.YtgipnbeipfhekaaGreatDoor.Jump
namespace Go.Proofs.YtgipnbeipfhekaaGreatDoor.Jump
open Go.RowKit Go.Proofs.YtgipnbeipfhekaaGreatDoor Go.Proofs.YtgipnbeipfhekaaGreatDoor.Base Go.Proofs.YtgipnbeipfhekaaGreatDoor.Poly Go.Proofs.YtgipnbeipfhekaaGreatDoor.Bits
set_option linter.unusedVariables false
theorem bit_test (b k : Nat) (hb : b < 9223372036854775808) : (bits .and .i64 ((b : Int) / 2 ^ k) 1 == 1) = b.testBit k := by
 have e : (b : Int) / 2 ^ k = ((b / 2 ^ k : Nat) : Int) := by simp
 have h : b / 2 ^ k ≤ b := Nat.div_le_self _ _
 rw [e, and1 _ (by omega), Nat.testBit_eq_decide_div_mod_eq]
 rcases Nat.mod_two_eq_zero_or_one (b / 2 ^ k) with h | h <;> rw [h] <;> rfl
theorem xor_shift (m a k : Nat) (hm : m < 9223372036854775808) (ha : a * 2 ^ k < 9223372036854775808) : bits .xor .i64 (m : Int) (wrap64 ((a : Int) * 2 ^ k)) = ((m ^^^ (a <<< k) : Nat) : Int) := by
 have e : (a : Int) * 2 ^ k = ((a * 2 ^ k : Nat) : Int) := by simp
 have e2 : wrap64 (((a * 2 ^ k : Nat) : Int)) = ((a * 2 ^ k : Nat) : Int) := by simp only [wrap64]; omega
 rw [e, e2, i64_xor_nat _ _ hm ha, Nat.shiftLeft_eq]
theorem or_shift (q d : Nat) (hq : q < 9223372036854775808) (hd : d ≤ 62) : bits .or .i64 (q : Int) (wrap64 (2 ^ d)) = ((q ||| 2 ^ d : Nat) : Int) := by
 have h1 : 2 ^ d ≤ 2 ^ 62 := Nat.pow_le_pow_right (by decide) hd
 have e2 : wrap64 ((2 : Int) ^ d) = ((2 ^ d : Nat) : Int) := by
  rw [show (2 : Int) ^ d = ((2 ^ d : Nat) : Int) by simp]
  generalize 2 ^ d = m at *
  simp only [wrap64]; omega
 rw [e2, i64_or_nat _ _ hq (by omega)]
set_option maxHeartbeats 400000 in
theorem l02Degree_any (n : Nat) (hn : n < 9223372036854775808) (w : World) :
  Calls Tryz.prog 236 #[.int .i64 n] w fun e w' => e = .returned (.int .i64 ((bl n : Int) - 1)) ∧ w = w' := by
 have hb : bl n ≤ 63 := bl_le (by omega)
 go_enter Tryz.func236, Tryz.ntmps236
 go_wp2
 go_loop [0, 3] (fun x o => ∃ m j : Nat, m < 9223372036854775808 ∧ Hid (bl m + j = bl n) ∧ j ≤ 63 ∧ x = .int .i64 m ∧ o = .int .i64 ((j : Int) - 1)) (fun x _ => (intOf x).toNat)
 case atStart => exact ⟨n, 0, hn, Lib.hid rfl, by omega, rfl, rfl⟩
 case round =>
  obtain ⟨m, j, hm, HE, hj, rfl, rfl⟩ := hrel
  by_cases h0 : 0 < m
  ·have H1 : Hid (bl (m / 2) + (j + 1) = bl n) := Lib.hid (by have := bl_half (p := m) (by omega); have := HE.out; omega)
   have hj2 : j + 1 ≤ 63 := by have := H1.out; omega
   go_wp2
   go_round
   case rel => exact ⟨m / 2, j + 1, by omega, H1, hj2, by go_num, by congr 1; simp⟩
   case measure => simp [intOf]; omega
  ·obtain rfl : m = 0 := by omega
   have H : Hid (bl n = j) := Lib.hid (by have := HE.out; rw [show bl 0 = 0 from rfl] at this; omega)
   go_wp2
   go_ret
   exact ⟨ret_int (by rw [H.out]), rfl⟩
set_option maxHeartbeats 400000 in
theorem l02Mul_any (a b : Nat) (ha : a < 2 ^ 32) (hb : b < 2 ^ 32) (w : World) :
  Calls Tryz.prog 215 #[.int .i64 a, .int .i64 b] w fun e w' => e = .returned (.int .i64 (mulTo a b 32 : Nat)) ∧ w = w' := by
 go_enter Tryz.func215, Tryz.ntmps215
 go_wp2
 go_loop [5, 6] (fun o i => ∃ k : Nat, k ≤ 32 ∧ i = .int .i64 k ∧ o = .int .i64 (mulTo a b k : Nat)) (fun _ i => 32 - (intOf i).toNat)
 case atStart => exact ⟨0, by omega, rfl, rfl⟩
 case round =>
  obtain ⟨k, hk, rfl, rfl⟩ := hrel
  by_cases hlt : k < 32
  ·have HT := Lib.hid (bit_test b k (by omega))
   have hp : 2 ^ k ≤ 2 ^ 31 := Nat.pow_le_pow_right (by decide) (by omega)
   have hak : a * 2 ^ k < 9223372036854775808 := by
    have : a * 2 ^ k ≤ 4294967296 * 2147483648 := Nat.mul_le_mul (by omega) hp
    rcases Nat.lt_or_ge (a * 2 ^ k) 9223372036854775808 with h | h
    ·exact h
    ·have h1 : 4294967295 * 2 ^ k ≤ 4294967295 * 2147483648 := Nat.mul_le_mul_left _ hp
     have h2 : a * 2 ^ k ≤ 4294967295 * 2 ^ k := Nat.mul_le_mul_right _ (by omega)
     omega
   have hm1 := mulTo_lt (b := b) ha k
   have hm2 : 2 ^ (32 + k) ≤ 2 ^ 63 := Nat.pow_le_pow_right (by decide) (by omega)
   have HX := Lib.hid (xor_shift (mulTo a b k) a k (by omega) hak)
   have HM : Hid (mulTo a b (k + 1) = if b.testBit k then mulTo a b k ^^^ (a <<< k) else mulTo a b k) := Lib.hid rfl
   clear hm1 hm2 hak hp
   cases hbk : b.testBit k
   all_goals
    rw [hbk] at HT HM
    have ht := HT.out
    clear hbk
    go_wp2
    go_round
    case rel => exact ⟨k + 1, by omega, by go_num, by rw [HM.out]; first | rfl | (rw [HX.out]; rfl)⟩
    case measure => simp [intOf]; omega
  ·obtain rfl : k = 32 := by omega
   go_wp2
   go_ret
   exact ⟨rfl, rfl⟩
def DivRet (a b : Nat) (w : World) (e : Ending) (w' : World) : Prop := ∃ q r : Nat, e = .returned (.tuple #[.int .i64 q, .int .i64 r]) ∧ r < 2 ^ (bl b - 1) ∧ Con b r a ∧ w = w'
set_option maxHeartbeats 1000000 in
theorem l02Div_any (a b : Nat) (ha : a < 2 ^ 32) (hb : b < 2 ^ 32) (hb0 : b ≠ 0) (w : World) :
  Calls Tryz.prog 214 #[.int .i64 a, .int .i64 b] w (DivRet a b w) := by
 have hbb := bl_le hb
 have hbp := bl_pos hb0
 go_enter Tryz.func214, Tryz.ntmps214
 go_wp2
 go_loop [0, 6] (fun x y => ∃ r q : Nat, r < 2 ^ 32 ∧ q < 2 ^ 32 ∧ Hid (Con b r a) ∧ x = .int .i64 r ∧ y = .int .i64 q) (fun x _ => bl (intOf x).toNat)
 case atStart => exact ⟨a, 0, ha, by omega, Lib.hid (Con.refl _ _), rfl, rfl⟩
 case round =>
  obtain ⟨r, q, hr, hq, hc, rfl, rfl⟩ := hrel
  have hrb := bl_le hr
  by_cases h : bl b ≤ bl r
  ·have hs := div_step hb0 h
   obtain ⟨d, hd⟩ : ∃ d, d = bl r - 1 - (bl b - 1) := ⟨_, rfl⟩
   have hde : bl r - bl b = d := by omega
   have hd31 : d ≤ 31 := by omega
   have hc2 : Hid (Con b (r ^^^ (b <<< d)) a) := Lib.hid ((Con.step hb (by omega)).trans hc.out)
   rw [hde] at hs
   have hr1 := bl_pos hb0
   have hr2 : r ^^^ (b <<< d) < 2 ^ 32 := Nat.lt_of_lt_of_le hs (Nat.pow_le_pow_right (by decide) (by omega))
   have hb63 : b * 2 ^ d < 9223372036854775808 := by
    have h1 : 2 ^ d ≤ 2 ^ 31 := Nat.pow_le_pow_right (by decide) hd31
    have h2 : b * 2 ^ d ≤ 4294967295 * 2 ^ 31 := Nat.mul_le_mul (by omega) h1
    omega
   have HX := Lib.hid (xor_shift r b d (by omega) hb63)
   have HO := Lib.hid (or_shift q d (by omega) (by omega))
   have hq2 : q ||| 2 ^ d < 2 ^ 32 := Nat.or_lt_two_pow hq (Nat.pow_lt_pow_right (by decide) (by omega))
   have hm := Lib.hid (bl_le hs)
   have HD := Lib.hid hd
   clear hd hde hs hb63
   go_wp2_with (go_at_call 236; refine (l02Degree_any _ (by omega) _).mono ?_; rintro e w' ⟨rfl, rfl⟩)
   rw [← HD.out, HX.out, HO.out]
   go_round
   case rel => exact ⟨_, _, hr2, hq2, hc2, rfl, rfl⟩
   case measure =>
    have := hm.out
    show bl ((r ^^^ b <<< d : Nat) : Int).toNat < bl ((r : Nat) : Int).toNat
    rw [Int.toNat_natCast, Int.toNat_natCast]
    omega
  ·have hlt : r < 2 ^ (bl b - 1) := Nat.lt_of_lt_of_le (bl_lt r) (Nat.pow_le_pow_right (by decide) (by omega))
   go_wp2_with (go_at_call 236; refine (l02Degree_any _ (by omega) _).mono ?_; rintro e w' ⟨rfl, rfl⟩)
   go_ret2
   exact ⟨q, r, rfl, hlt, hc.out, rfl⟩
def PowRet (p W N : Nat) (w : World) (e : Ending) (w' : World) : Prop := ∃ r : Nat, e = .returned (.int .i64 r) ∧ r < 2 ^ W ∧ Rep p r N ∧ w = w'
def PowRel (p W N : Nat) (n o x : Value) : Prop := ∃ (r y k A B : Nat), n = .int .i64 k ∧ o = .int .i64 r ∧ x = .int .i64 y ∧ r < 2 ^ W ∧ y < 2 ^ W ∧ k ≤ N ∧ Rep p r A ∧ Rep p y B ∧ A + B * k = N
theorem PowRel.odd {p W N k A B r y r' y' : Nat} (hW : W ≤ 16) (h1 : r < 2 ^ W) (h2 : y < 2 ^ W) (h3 : Rep p r A) (h4 : Rep p y B) (h5 : A + B * k = N) (hk : k % 2 = 1)
  (q1 : r' < 2 ^ W) (q2 : Con p r' (mulTo r y 32)) (q3 : y' < 2 ^ W) (q4 : Con p y' (mulTo y y 32)) : Rep p r' (A + B) ∧ Rep p y' (B + B) ∧ A + B + (B + B) * (k / 2) = N := by
 have hp : 2 ^ W ≤ 2 ^ 16 := Nat.pow_le_pow_right (by decide) hW
 refine ⟨(h3.mul h4 (by omega) (by omega)).con q2, (h4.mul h4 (by omega) (by omega)).con q4, ?_⟩
 have e : k = 2 * (k / 2) + 1 := by omega
 rw [e, Nat.mul_add, ← Nat.mul_assoc, Nat.mul_one] at h5
 rw [← Nat.mul_two]
 omega
theorem PowRel.even {p W N k A B y y' : Nat} (hW : W ≤ 16) (h2 : y < 2 ^ W) (h4 : Rep p y B) (h5 : A + B * k = N) (hk : ¬ k % 2 = 1)
  (q3 : y' < 2 ^ W) (q4 : Con p y' (mulTo y y 32)) : Rep p y' (B + B) ∧ A + (B + B) * (k / 2) = N := by
 have hp : 2 ^ W ≤ 2 ^ 16 := Nat.pow_le_pow_right (by decide) hW
 refine ⟨(h4.mul h4 (by omega) (by omega)).con q4, ?_⟩
 have e : k = 2 * (k / 2) := by omega
 rw [e, ← Nat.mul_assoc] at h5
 rw [← Nat.mul_two]
 omega
set_option maxHeartbeats 1000000 in
theorem l02Power_any (N p W : Nat) (hN : N ≤ 2000000000000000000) (hW : W ≤ 16) (hp : bl p = W + 1) (w : World) :
  Calls Tryz.prog 175 #[.int .i64 N, .int .i64 p] w (PowRet p W N w) := by
 have hp0 : p ≠ 0 := by intro e; subst e; simp [bl] at hp
 have hp32 : p < 2 ^ 32 := Nat.lt_of_lt_of_le (bl_lt p) (Nat.pow_le_pow_right (by decide) (by omega))
 have hpw : 2 ^ W ≤ 2 ^ 16 := Nat.pow_le_pow_right (by decide) hW
 have hd : bl p - 1 = W := by omega
 have HD := Lib.hid hd
 have HDiv : Hid (∀ (a : Nat), a < 2 ^ 32 → Calls Tryz.prog 214 #[.int .i64 a, .int .i64 p] w fun e w' => ∃ q r : Nat, e = .returned (.tuple #[.int .i64 q, .int .i64 r]) ∧ r < 2 ^ W ∧ Con p r a ∧ w = w') := Lib.hid fun a ha => by
  have := l02Div_any a p ha hp32 hp0 w
  unfold DivRet at this
  rwa [hd] at this
 clear hp hd
 go_enter Tryz.func175, Tryz.ntmps175
 go_wp2_with fail
 refine (HDiv.out 1 (by omega)).mono ?_
 rintro e w' ⟨q1, r1, rfl, h1, c1, rfl⟩
 have R1 := Lib.hid ((Rep.one p).con c1)
 clear c1
 go_wp2_with fail
 refine (HDiv.out 2 (by omega)).mono ?_
 rintro e w' ⟨q2, r2, rfl, h2, c2, rfl⟩
 have R2 := Lib.hid ((Rep.two p).con c2)
 clear c2
 go_wp2_with fail
 go_loop [0, 6, 8] (fun n o x => PowRel p W N n o x) (fun n _ _ => (intOf n).toNat)
 case atStart => exact ⟨r1, r2, N, 0, 1, rfl, rfl, rfl, h1, h2, Nat.le_refl _, R1.out, R2.out, by omega⟩
 case round =>
  obtain ⟨r, y, k, A, B, rfl, rfl, rfl, g1, g2, hk, hA, hB, he⟩ := hrel
  have m1 := mulTo_16 hW g1 g2
  have m2 := mulTo_16 hW g2 g2
  by_cases hk0 : 0 < k
  ·by_cases hodd : k % 2 = 1
   ·have HN := Lib.hid (fun (r' y' : Nat) => PowRel.odd (r' := r') (y' := y') hW g1 g2 hA hB he hodd)
    clear hA hB he
    have ht : (((k : Int) % 2) == 1) = true := by simp; omega
    go_wp2_with fail
    refine (l02Mul_any r y (by omega) (by omega) _).mono ?_
    rintro e w' ⟨rfl, rfl⟩
    go_wp2_with fail
    refine (HDiv.out _ m1).mono ?_
    rintro e w' ⟨q3, r3, rfl, h3, c3, rfl⟩
    have C3 := Lib.hid c3
    clear c3
    go_wp2_with fail
    refine (l02Mul_any y y (by omega) (by omega) _).mono ?_
    rintro e w' ⟨rfl, rfl⟩
    go_wp2_with fail
    refine (HDiv.out _ m2).mono ?_
    rintro e w' ⟨q4, r4, rfl, h4, c4, rfl⟩
    have HF := Lib.hid (HN.out r3 r4 h3 C3.out h4 c4)
    clear c4
    go_wp2_with fail
    go_round
    case rel => exact ⟨r3, r4, k / 2, A + B, B + B, by go_num, rfl, rfl, h3, h4, by omega, HF.out.1, HF.out.2.1, HF.out.2.2⟩
    case measure => simp [intOf]; omega
   ·have HN := Lib.hid (fun (y' : Nat) => PowRel.even (y' := y') hW g2 hB he hodd)
    have HA := Lib.hid hA
    clear hA hB he
    have ht : (((k : Int) % 2) == 1) = false := by simp; omega
    go_wp2_with fail
    refine (l02Mul_any y y (by omega) (by omega) _).mono ?_
    rintro e w' ⟨rfl, rfl⟩
    go_wp2_with fail
    refine (HDiv.out _ m2).mono ?_
    rintro e w' ⟨q4, r4, rfl, h4, c4, rfl⟩
    have HF := Lib.hid (HN.out r4 h4 c4)
    clear c4
    go_wp2_with fail
    go_round
    case rel => exact ⟨r, r4, k / 2, A, B + B, by go_num, rfl, rfl, g1, h4, by omega, HA.out, HF.out.1, HF.out.2⟩
    case measure => simp [intOf]; omega
  ·obtain rfl : k = 0 := by omega
   have HA := Lib.hid hA
   have HE : Hid (A = N) := Lib.hid (by simpa using he)
   clear hA hB he
   go_wp2
   go_ret
   exact ⟨r, rfl, g1, by rw [← HE.out]; exact HA.out, rfl⟩
end Go.Proofs.YtgipnbeipfhekaaGreatDoor.Jump
namespace Go.Proofs.YtgipnbeipfhekaaGreatDoor.Jump
open Go.RowKit Go.Proofs.YtgipnbeipfhekaaGreatDoor Go.Proofs.YtgipnbeipfhekaaGreatDoor.Base Go.Proofs.YtgipnbeipfhekaaGreatDoor.Poly Go.Proofs.YtgipnbeipfhekaaGreatDoor.Bits
set_option linter.unusedVariables false
theorem bl_poly {W T : Nat} (hT : T < 2 ^ W) : bl (2 ^ W ||| T) = W + 1 := by
 have h1 : bl (2 ^ W ||| T) ≤ W + 1 := bl_le (Nat.or_lt_two_pow (Nat.pow_lt_pow_right (by decide) (by omega)) (Nat.lt_of_lt_of_le hT (Nat.pow_le_pow_right (by decide) (by omega))))
 have h2 := bl_lt (2 ^ W ||| T)
 have h3 : 2 ^ W ≤ 2 ^ W ||| T := Nat.left_le_or
 have h4 : 2 ^ W < 2 ^ bl (2 ^ W ||| T) := by omega
 have := (Nat.pow_lt_pow_iff_right (by decide : 1 < 2)).1 h4
 omega
theorem poly_int {W T : Nat} (hW : W ≤ 16) (hT : T < 2 ^ W) : bits .or .i64 (wrap64 ((2 : Int) ^ W)) (T : Int) = ((2 ^ W ||| T : Nat) : Int) := by
 have h1 : 2 ^ W ≤ 2 ^ 16 := Nat.pow_le_pow_right (by decide) hW
 have e2 : wrap64 ((2 : Int) ^ W) = ((2 ^ W : Nat) : Int) := by
  rw [show (2 : Int) ^ W = ((2 ^ W : Nat) : Int) by simp]
  generalize 2 ^ W = m at *
  simp only [wrap64]; omega
 rw [e2, i64_or_nat _ _ (by omega) (by omega)]
theorem poly_int' {W T : Nat} (hW : W ≤ 16) (hT : T < 2 ^ W) : bits .or .i64 ((2 : Int) ^ W) (T : Int) = ((2 ^ W ||| T : Nat) : Int) := by
 have h1 : 2 ^ W ≤ 2 ^ 16 := Nat.pow_le_pow_right (by decide) hW
 rw [show (2 : Int) ^ W = ((2 ^ W : Nat) : Int) by simp, i64_or_nat _ _ (by omega) (by omega)]
theorem l02Of_any (b W T : Nat) (w : World) (h0 : w.cell? ⟨b, 0, none⟩ = some (.int .i64 W)) (h1 : w.cell? ⟨b, 1, none⟩ = some (.int .i64 T)) (hW : W ≤ 16) (hT : T < 2 ^ W) :
  Calls Tryz.prog 176 #[.pointer (some ⟨b, 0, none⟩)] w fun e w' => e = .returned (.int .i64 (2 ^ W ||| T : Nat)) ∧ ∃ n, w' = w.drewN n := by
 have HP := Lib.hid (poly_int hW hT)
 have HP' := Lib.hid (poly_int' hW hT)
 go_enter Tryz.func176, Tryz.ntmps176
 go_wp2
 go_quiet (fail)
 go_wp2
 go_ret
 exact ⟨ret_int (by first | exact HP.out | exact HP'.out), _, rfl⟩
def jumpTo (W T x n : Nat) : Nat := CycM.iter (Reg.nextR W T) x n
def JumpYes (W T x n : Nat) (w : World) (e : Ending) (w' : World) : Prop := e = .returned (.tuple #[.int .i64 (jumpTo W T x n : Nat), .bool true]) ∧ Below w.heap.size w w'
theorem jumpTo_lt {W T x n : Nat} (hx : x < 2 ^ W) : jumpTo W T x n < 2 ^ W := CycM.iter_lt (fun s hs => Reg.nextR_lt hs) hx n
theorem bothR_yes {W T x : Nat} (hW : W ≤ 16) (hT : T < 2 ^ W) (hx : x < 2 ^ W) : Reg.bothR W T x = true := by
 have e : ((2 ^ W : Nat) : Int) = (2 : Int) ^ W := by simp
 have h1 := inR_yes (n := (W : Int)) (lo := 0) (hi := 16) (by omega)
 have h2 := inR_yes (n := (T : Int)) (lo := 0) (hi := (2 : Int) ^ W - 1) (by omega)
 have h3 := inR_yes (n := (x : Int)) (lo := 0) (hi := (2 : Int) ^ W - 1) (by omega)
 simp [Reg.bothR, Reg.regB, Reg.stB, h1, h2, h3]
theorem jump_or {X i : Nat} (hX : X < 2 ^ 16) (hi : i < 16) : bits .or .i64 ((X % 2 ^ i : Nat) : Int) (wrap64 ((((X.testBit i).toNat : Nat) : Int) * 2 ^ i)) = ((X % 2 ^ (i + 1) : Nat) : Int) := by
 have hp : 2 ^ i ≤ 2 ^ 15 := Nat.pow_le_pow_right (by decide) (by omega)
 have h1 : (X.testBit i).toNat ≤ 1 := by cases X.testBit i <;> decide
 have h2 : (X.testBit i).toNat * 2 ^ i ≤ 1 * 2 ^ 15 := Nat.mul_le_mul h1 hp
 have h3 : X % 2 ^ i ≤ X := Nat.mod_le _ _
 have e : (((X.testBit i).toNat : Nat) : Int) * 2 ^ i = (((X.testBit i).toNat * 2 ^ i : Nat) : Int) := by simp
 rw [e, ← low_succ X i]
 generalize (X.testBit i).toNat * 2 ^ i = m at *
 have e2 : wrap64 ((m : Nat) : Int) = ((m : Nat) : Int) := by simp only [wrap64]; omega
 rw [e2, i64_or_nat _ _ (by omega) (by omega)]
set_option maxHeartbeats 1000000 in
theorem specJump_yes (W T x n : Nat) (w : World) (hW : W ≤ 16) (hT : T < 2 ^ W) (hx : x < 2 ^ W) (hn : n ≤ 1000000000000000000) :
  Calls Tryz.prog 129 #[.agg #[.int .i64 W, .int .i64 T], .int .i64 x, .int .i64 n] w (JumpYes W T x n w) := by
 have hp : 2 ^ W ≤ 2 ^ 16 := Nat.pow_le_pow_right (by decide) hW
 have hj := jumpTo_lt (T := T) (n := n) hx
 have i1 := inR_yes (n := (n : Int)) (lo := 0) (hi := 1000000000000000000) (by omega)
 have HB := Lib.hid (bothR_yes hW hT hx)
 obtain ⟨W0, hW0⟩ : ∃ W0, W0 = w.alloc (.cells #[.int .i64 W, .int .i64 T] 25) := ⟨_, rfl⟩
 have hz0 : W0.heap.size = w.heap.size + 1 := by rw [hW0]; simp
 have c0 : W0.cell? ⟨w.heap.size, 0, none⟩ = some (.int .i64 W) := by rw [hW0]; go_simp
 have c1 : W0.cell? ⟨w.heap.size, 1, none⟩ = some (.int .i64 T) := by rw [hW0]; go_simp
 have B0 := Lib.hid (show Below w.heap.size w W0 by rw [hW0]; exact (Below.refl _ _).alloc (Nat.le_refl _) _)
 have HW0 := Lib.hid hW0
 clear hW0
 have HBoth := Lib.hid (Reg.l02Both_any w.heap.size 0 (W : Int) T x W0 c0 c1)
 rw [HB.out] at HBoth
 have HZ := Lib.hid hz0
 have hz0' : w.heap.size < W0.heap.size := by omega
 clear hz0
 go_enter Tryz.func129, Tryz.ntmps129
 go_wp2_with fail
 rw [← HW0.out]
 refine HBoth.out.mono ?_
 rintro e w1 ⟨rfl, k1, rfl⟩
 go_wp2_with (go_at_call 38; refine (l00In_any _ _ _ _).mono ?_; rintro e w' ⟨rfl, rfl⟩)
 go_loopw [8, 9] (fun o i wr => ∃ k : Nat, k ≤ W ∧ i = .int .i64 k ∧ o = .int .i64 (jumpTo W T x n % 2 ^ k : Nat) ∧ Below W0.heap.size W0 wr) (fun _ i _ => W - (intOf i).toNat)
 case atStart => exact ⟨0, by omega, rfl, by simp [Nat.mod_one], below_drewN (Below.refl _ _) _⟩
 case round =>
  obtain ⟨k, hk, rfl, rfl, hb⟩ := hrel
  have d0 := (hb.cell (p := ⟨w.heap.size, 0, none⟩) hz0').trans c0
  have d1 := (hb.cell (p := ⟨w.heap.size, 1, none⟩) hz0').trans c1
  have HBel := Lib.hid hb
  have C0 := Lib.hid c0
  have C1 := Lib.hid c1
  clear hb c0 c1
  by_cases hlt : k < W
  ·have HO := Lib.hid (l02Of_any w.heap.size W T wr d0 d1 hW hT)
   have HPw := Lib.hid (fun w => l02Power_any (n + k) (2 ^ W ||| T) W (by omega) hW (bl_poly hT) w)
   have HR := Lib.hid (fun R hR h => rep_bit (n := n) (i := k) (R := R) hW hT hx hlt hR h)
   have HJ := Lib.hid (jump_or (X := jumpTo W T x n) (i := k) (by omega) (by omega))
   go_wp2_with fail
   refine HO.out.mono ?_
   rintro e w2 ⟨rfl, k2, rfl⟩
   go_wp2_with fail
   rw [show (n : Int) + (k : Int) = ((n + k : Nat) : Int) by omega]
   refine (HPw.out _).mono ?_
   rintro e w2 ⟨R, rfl, hR, hrep, rfl⟩
   have HR2 := Lib.hid (HR.out R hR hrep)
   have HA := Lib.hid (i64_and_nat R x (by omega) (by omega))
   have hRx : R &&& x < 9223372036854775808 := Nat.lt_of_le_of_lt Nat.and_le_left (by omega)
   clear hrep
   go_wp2_with fail
   rw [HA.out]
   refine (l02Parity_any _ hRx _).mono ?_
   rintro e w2 ⟨rfl, rfl⟩
   rw [HR2.out]
   go_wp2_with fail
   go_roundw
   case rel => exact ⟨k + 1, hlt, by go_num, by rw [← HJ.out]; rfl, below_drewN HBel.out _⟩
   case measure => simp [intOf]; omega
  ·obtain rfl : k = W := by omega
   have HM := Lib.hid (Nat.mod_eq_of_lt hj)
   go_wp2
   go_ret2
   exact ⟨by rw [HM.out]; rfl, B0.out.trans (HBel.out.mono (Nat.le_of_lt hz0'))⟩
theorem iter_per {F : Nat → Nat} {x j n : Nat} (h : F x = F x) (hc : CycM.iter F x j = CycM.iter F x n) (hj : j < n) : ∀ q, CycM.iter F x (j + q * (n - j)) = CycM.iter F x j
 | 0 => by simp
 | q + 1 => by
  have e : j + (q + 1) * (n - j) = n + q * (n - j) := by rw [Nat.add_mul, Nat.one_mul]; omega
  rw [e, CycM.iter_add, ← hc, ← CycM.iter_add, iter_per h hc hj q]
theorem iter_red {F : Nat → Nat} {x j n m : Nat} (h : CycM.IsCyc F x j n) (hm : j ≤ m) : CycM.iter F x (j + (m - j) % (n - j)) = CycM.iter F x m := by
 obtain ⟨h1, h2, _⟩ := h
 have e : m = (j + (m - j) / (n - j) * (n - j)) + (m - j) % (n - j) := by
  have := Nat.div_add_mod' (m - j) (n - j)
  omega
 conv => rhs; rw [e]
 rw [CycM.iter_add F x (j + (m - j) / (n - j) * (n - j)), iter_per rfl h2 h1, ← CycM.iter_add]
set_option maxHeartbeats 1000000 in
theorem jumpR_any (W T x n : Nat) (w : World) (hW : W ≤ 16) (hT : T < 2 ^ W) (hx : x < 2 ^ W) (hn : n ≤ 1000000000000000000) :
  Calls Tryz.prog 71 #[.agg #[.int .i64 W, .int .i64 T], .int .i64 x, .int .i64 n] w fun e w' => e = .returned (.int .i64 (jumpTo W T x n : Nat)) ∧ Below w.heap.size w w' := by
 have hp : 2 ^ W ≤ 2 ^ 16 := Nat.pow_le_pow_right (by decide) hW
 obtain ⟨W0, hW0⟩ : ∃ W0, W0 = w.alloc (.cells #[.int .i64 W, .int .i64 T] 25) := ⟨_, rfl⟩
 have hz0 : W0.heap.size = w.heap.size + 1 := by rw [hW0]; simp
 have c0 : W0.cell? ⟨w.heap.size, 0, none⟩ = some (.int .i64 W) := by rw [hW0]; go_simp
 have c1 : W0.cell? ⟨w.heap.size, 1, none⟩ = some (.int .i64 T) := by rw [hW0]; go_simp
 have B0 := Lib.hid (show Below w.heap.size w W0 by rw [hW0]; exact (Below.refl _ _).alloc (Nat.le_refl _) _)
 have HW0 := Lib.hid hW0
 have HC := Lib.hid (Reg.cycleR_any W T x W0 hW hT hx)
 have HZ := Lib.hid hz0
 have hz0' : w.heap.size < W0.heap.size := by omega
 have hF := CycM.iter_lt (T := Reg.nextR W T) (M := 2 ^ W) (x := x) (fun s hs => Reg.nextR_lt hs) hx
 have HF := Lib.hid hF
 clear hW0 hz0 hF
 go_enter Tryz.func71, Tryz.ntmps71
 go_wp2_with fail
 rw [← HW0.out]
 refine HC.out.mono ?_
 rintro e w1 ⟨j, m, hc, rfl, hb⟩
 have hle := CycM.IsCyc.le (M := 2 ^ W) (fun s hs => Reg.nextR_lt hs) hx hc
 have hjm := hc.1
 have d0 := (hb.cell (p := ⟨w.heap.size, 0, none⟩) hz0').trans c0
 have d1 := (hb.cell (p := ⟨w.heap.size, 1, none⟩) hz0').trans c1
 have HCyc := Lib.hid hc
 have HB := Lib.hid hb
 clear hc hb
 obtain ⟨N, hN, hNi, hNx⟩ : ∃ N : Nat, N ≤ 1000000000000000000 ∧ (N : Int) = (if (j : Int) < n then (j : Int) + ((n : Int) - j) % ((m : Int) - j) else n) ∧ jumpTo W T x n = jumpTo W T x N := by
  by_cases hjn : j < n
  ·have h1 : (n - j) % (m - j) < m - j := Nat.mod_lt _ (by omega)
   refine ⟨j + (n - j) % (m - j), by omega, ?_, (iter_red HCyc.out (by omega)).symm⟩
   rw [if_pos (by omega)]
   have e1 : ((n : Int) - j) = ((n - j : Nat) : Int) := by omega
   have e2 : ((m : Int) - j) = ((m - j : Nat) : Int) := by omega
   rw [e1, e2]; simp
  ·exact ⟨n, hn, by rw [if_neg (by omega)], rfl⟩
 have HN := Lib.hid hNx
 have HI := Lib.hid hNi
 clear hNx hNi
 have hdec : decide (j < n) = true ∨ decide (j < n) = false := by cases decide (j < n) <;> simp
 rcases hdec with hd | hd
 all_goals
  first | (have hjn : (j : Int) < n := by (have := of_decide_eq_true hd; omega)) | (have hjn : ¬ (j : Int) < n := by (have := of_decide_eq_false hd; omega))
  have HK := Lib.hid (HI.out)
  first | rw [if_pos hjn] at HK | rw [if_neg hjn] at HK
  have g0 : (0 : Int) ≤ N := by omega
  have g1 : (N : Int) ≤ 1000000000000000000 := by omega
  rw [HK.out] at g0 g1
  go_wp2
  rw [← HK.out]
  go_loopw [1, 26] (fun s i wr => ∃ k : Nat, k ≤ N ∧ i = .int .i64 k ∧ s = .int .i64 (jumpTo W T x k : Nat) ∧ Below W0.heap.size W0 wr) (fun _ i _ => N - (intOf i).toNat)
  case atStart => exact ⟨0, by omega, rfl, rfl, HB.out⟩
  case round =>
   obtain ⟨k, hk, rfl, rfl, hb⟩ := hrel
   have e0 := (hb.cell (p := ⟨w.heap.size, 0, none⟩) hz0').trans c0
   have e1 := (hb.cell (p := ⟨w.heap.size, 1, none⟩) hz0').trans c1
   have HBel := Lib.hid hb
   clear hb
   by_cases hlt : k < N
   ·have HS := Lib.hid (Reg.implStep_any W T (jumpTo W T x k) wr hW hT (HF.out k))
    go_wp2_with fail
    refine HS.out.mono ?_
    rintro e w2 ⟨rfl, hb2⟩
    have HB2 := Lib.hid (Base.Below.nextA HBel.out hb2)
    clear hb2
    go_wp2_with fail
    go_roundw
    case rel => exact ⟨k + 1, hlt, by go_num, rfl, HB2.out⟩
    case measure => simp [intOf]; omega
   ·obtain rfl : k = N := by omega
    go_wp2
    go_ret
    exact ⟨ret_int (by rw [HN.out]), B0.out.trans (HBel.out.mono (Nat.le_of_lt hz0'))⟩
end Go.Proofs.YtgipnbeipfhekaaGreatDoor.Jump
namespace Go.Proofs.YtgipnbeipfhekaaGreatDoor.Src
open Go.RowKit Go.Proofs.YtgipnbeipfhekaaGreatDoor Go.Proofs.YtgipnbeipfhekaaGreatDoor.Base Go.Proofs.YtgipnbeipfhekaaGreatDoor.Mem
set_option linter.unusedVariables false
structure Src (w : World) (p K : Nat) : Prop where
 ex : ∃ (A : Option Addr) (c : Nat) (zs : List Int) (at_ : Nat) (sd : Int), w.cell? ⟨p, 0, none⟩ = some (.slice A zs.length c) ∧ w.cell? ⟨p, 1, none⟩ = some (.int .i64 (at_ : Int)) ∧ w.cell? ⟨p, 2, none⟩ = some (.int .u64 sd) ∧
  (∀ i, w.frozen? ⟨p, i, none⟩ = false) ∧ at_ ≤ K ∧ 0 ≤ sd ∧ sd ≤ 18446744073709551615 ∧ zs.length ≤ 9223372036854775807 ∧ (∀ z ∈ zs, 0 ≤ z ∧ z ≤ 255) ∧ RdB w p A zs
theorem Src.lt {w : World} {p K : Nat} (h : Src w p K) : p < w.heap.size := by
 obtain ⟨A, c, zs, a, sd, h0, _⟩ := h.ex
 exact block_lt_of_cell h0
theorem RdB.keep {w w' : World} {B p : Nat} {A : Option Addr} {zs : List Int} (h : RdB w B A zs) (hB : B ≤ p) (hw : ∀ g, g < B → w'.heap[g]? = w.heap[g]?) : RdB w' B A zs := fun h0 => by
 obtain ⟨b, off, e, hlt, hc⟩ := h h0
 exact ⟨b, off, e, hlt, fun i hi => (World.cell?_of_block (a := ⟨b, off + i, none⟩) (hw b hlt)).trans (hc i hi)⟩
theorem Src.below {w w' : World} {p K : Nat} (h : Src w p K) (hb : Below w.heap.size w w') : Src w' p K := by
 have hp := h.lt
 obtain ⟨A, c, zs, a, sd, h0, h1, h2, hf, h3, h4, h5, h6, h7, h8⟩ := h.ex
 exact ⟨A, c, zs, a, sd, (hb.cell (p := ⟨p, 0, none⟩) hp).trans h0, (hb.cell (p := ⟨p, 1, none⟩) hp).trans h1, (hb.cell (p := ⟨p, 2, none⟩) hp).trans h2, fun i => (hb.frozen (p := ⟨p, i, none⟩) hp).trans (hf i), h3, h4, h5, h6, h7, h8.below hb (by omega)⟩
theorem Src.kept {w w' : World} {p K : Nat} {row : Option Nat} (h : Src w p K) (hg : w.grownBy w' row) (hr : ∀ g, row = some g → p < g) : Src w' p K := by
 have hp := h.lt
 have hk : ∀ g, g ≤ p → w'.heap[g]? = w.heap[g]? := fun g hgp => hg.block g (by omega) fun e => by have := hr g e.symm; omega
 obtain ⟨A, c, zs, a, sd, h0, h1, h2, hf, h3, h4, h5, h6, h7, h8⟩ := h.ex
 have hc : ∀ i, w'.cell? ⟨p, i, none⟩ = w.cell? ⟨p, i, none⟩ := fun i => World.cell?_of_block (a := ⟨p, i, none⟩) (hk p (Nat.le_refl _))
 exact ⟨A, c, zs, a, sd, (hc 0).trans h0, (hc 1).trans h1, (hc 2).trans h2, fun i => (World.frozen?_of_block (a := ⟨p, i, none⟩) (hk p (Nat.le_refl _))).trans (hf i), h3, h4, h5, h6, h7, RdB.keep h8 (Nat.le_refl _) fun g hg => hk g (by omega)⟩
theorem Src.more {w : World} {p K L : Nat} (h : Src w p K) (hKL : K ≤ L) : Src w p L := by
 obtain ⟨A, c, zs, a, sd, h0, h1, h2, hf, h3, h4⟩ := h.ex
 exact ⟨A, c, zs, a, sd, h0, h1, h2, hf, by omega, h4⟩
theorem grown_setCell (w : World) (a : Addr) (v : Value) : w.grownBy (w.setCell a v) (some a.block) := by
 refine ⟨rfl, rfl, rfl, by simp, fun k hk hne => ?_⟩
 have : k ≠ a.block := fun e => hne (by rw [e])
 simp [World.setCell, Array.getElem?_modify, Ne.symm this]
theorem grown_drewN (w : World) (n : Nat) (row : Option Nat) : w.grownBy (w.drewN n) row := ⟨rfl, rfl, rfl, Nat.le_refl _, fun _ _ _ => rfl⟩
theorem and255 (x : Int) (h0 : 0 ≤ x) (h : x ≤ 18446744073709551615) : bits .and .u64 x 255 = x % 256 := by
 have := u64_and_nat x.toNat 255 (by omega) (by omega)
 rw [show (255 : Nat) = 2 ^ 8 - 1 from rfl, Nat.and_two_pow_sub_one_eq_mod] at this
 have e : (x.toNat : Int) = x := by omega
 rw [e, show ((2 ^ 8 - 1 : Nat) : Int) = 255 from rfl] at this
 rw [this]; omega
theorem u64_rng (x : Int) : 0 ≤ IntKind.u64.wrap x ∧ IntKind.u64.wrap x ≤ 18446744073709551615 := by
 rw [IntKind.wrap_u64]; omega
def NextRet (p K m : Nat) (w : World) (e : Ending) (w' : World) : Prop := ∃ r : Nat, e = .returned (.int .i64 r) ∧ r < m ∧ Src w' p K ∧ w.grownBy w' (some p)
theorem Src.set {w : World} {p K L a2 : Nat} {sd2 : Int} (h : Src w p K) (hL : a2 ≤ L) (hs : 0 ≤ sd2 ∧ sd2 ≤ 18446744073709551615) : Src ((w.setCell ⟨p, 1, none⟩ (.int .i64 (a2 : Int))).setCell ⟨p, 2, none⟩ (.int .u64 sd2)) p L ∧
  w.grownBy ((w.setCell ⟨p, 1, none⟩ (.int .i64 (a2 : Int))).setCell ⟨p, 2, none⟩ (.int .u64 sd2)) (some p) := by
 have hg := grown_trans (grown_setCell w ⟨p, 1, none⟩ (.int .i64 (a2 : Int))) (grown_setCell _ ⟨p, 2, none⟩ (.int .u64 sd2))
 refine ⟨?_, hg⟩
 obtain ⟨A, c, zs, a, sd, h0, h1, h2, hf, h3, h4, h5, h6, h7, h8⟩ := h.ex
 refine ⟨A, c, zs, a2, sd2, ?_, ?_, ?_, fun i => by simpa using hf i, hL, hs.1, hs.2, h6, h7, ?_⟩
 ·rw [World.cell?_setCell_other _ _ _ _ (by simp), World.cell?_setCell_other _ _ _ _ (by simp)]; exact h0
 ·rw [World.cell?_setCell_other _ _ _ _ (by simp)]; exact World.cell?_setCell_same _ _ _ h1
 ·refine World.cell?_setCell_same (u := .int .u64 sd) _ _ _ ?_
  rw [World.cell?_setCell_other _ _ _ _ (by simp)]; exact h2
 ·exact RdB.keep h8 (Nat.le_refl _) fun g hgp => hg.block g (by have := h.lt; omega) fun e => by
   have : g = p := Option.some.inj e
   omega
theorem Src.put {w : World} {p K L a a2 n : Nat} {sd2 : Int} {v : Value} (h : Src w p K) (hv : w.cell? ⟨p, 0, none⟩ = some v) (hL : a2 ≤ L) (hs : 0 ≤ sd2 ∧ sd2 ≤ 18446744073709551615) (w2 : World) (h2 : ((w.drewN n).setCell ⟨p, 1, none⟩ (.int .i64 (a2 : Int))).setCell ⟨p, 2, none⟩ (.int .u64 sd2) = w2) :
  Src w2 p L ∧ w.grownBy w2 (some p) ∧ w2.cell? ⟨p, 0, none⟩ = some v ∧ w2.cell? ⟨p, 1, none⟩ = some (.int .i64 (a2 : Int)) ∧ w2.cell? ⟨p, 2, none⟩ = some (.int .u64 sd2) := by
 have hd : Src (w.drewN n) p K := h.below (below_drewN (Below.refl _ _) n)
 obtain ⟨g1, g2⟩ := hd.set hL hs
 rw [h2] at g1 g2
 refine ⟨g1, grown_trans (grown_drewN w n _) g2, ?_, ?_, ?_⟩
 all_goals subst h2
 ·rw [World.cell?_setCell_other _ _ _ _ (by simp), World.cell?_setCell_other _ _ _ _ (by simp)]; simpa using hv
 ·obtain ⟨A, c, zs, a', sd, _, h1, _⟩ := hd.ex
  rw [World.cell?_setCell_other _ _ _ _ (by simp)]; exact World.cell?_setCell_same _ _ _ h1
 ·obtain ⟨A, c, zs, a', sd, _, _, h1, _⟩ := hd.ex
  refine World.cell?_setCell_same (u := .int .u64 sd) _ _ _ ?_
  rw [World.cell?_setCell_other _ _ _ _ (by simp)]; exact h1
set_option maxHeartbeats 1000000 in
set_option maxRecDepth 100000 in
theorem next_any (p K : Nat) (w : World) (h : Src w p K) (hK : K ≤ 1099511627776) :
  Calls Tryz.prog 112 #[.pointer (some ⟨p, 0, none⟩)] w (NextRet p (K + 1) 256 w) := by
 have HS := Lib.hid h
 obtain ⟨A, c, zs, a, sd, h0, h1, h2, hf, h3, h4, h5, h6, h7, h8⟩ := h.ex
 have f0 := hf 0
 have f1 := hf 1
 have f2 := hf 2
 have HP := Lib.hid (fun n sd2 w2 hs => h.put (L := K + 1) (a := 0) (a2 := a + 1) (n := n) (sd2 := sd2) h0 (by omega) hs w2)
 have HU := Lib.hid u64_rng
 have hal : (a : Int) + 1 ≤ 1099511627777 := by omega
 by_cases hlt : a < zs.length
 ·obtain ⟨b, off, rfl, hbp, hc⟩ := h8 (by omega)
  have g := hc a hlt
  have hz := h7 (zs.getD a 0) (by simp [List.getD, hlt])
  have hbne : b ≠ p := by omega
  clear hc h7 h8 hf h
  generalize zs.getD a 0 = z at *
  obtain ⟨z0, z1⟩ := hz
  go_enter Tryz.func112, Tryz.ntmps112
  go_wp2
  go_quiet (fail)
  go_wp2
  go_quiet (fail)
  go_wp2
  have HR := Lib.hid (HU.out (IntKind.u64.wrap (IntKind.u64.wrap (sd * 6364136223846793005) + z) + 1442695040888963407))
  generalize IntKind.u64.wrap (IntKind.u64.wrap (IntKind.u64.wrap (sd * 6364136223846793005) + z) + 1442695040888963407) = sd2 at *
  generalize IntKind.u64.wrap (IntKind.u64.wrap (sd * 6364136223846793005) + z) = sd3 at *
  generalize IntKind.u64.wrap (sd * 6364136223846793005) = sd4 at *
  rw [show (a : Int) + 1 = ((a + 1 : Nat) : Int) by omega]
  generalize hw2 : ((w.drewN _).setCell ⟨p, 1, none⟩ _).setCell ⟨p, 2, none⟩ _ = w2
  obtain ⟨s2, gr, q0, q1, q2⟩ := HP.out _ _ _ HR.out hw2
  have HS2 := Lib.hid s2
  have HG := Lib.hid gr
  clear s2 gr hw2 h0 h1 h2 f0 f1 f2 g
  have hle : a + 1 ≤ zs.length := by omega
  obtain ⟨a1, ha1⟩ : ∃ a1, a1 = a + 1 := ⟨_, rfl⟩
  rw [← ha1] at q1 hle ⊢
  have HA1 := Lib.hid ha1
  clear ha1
  go_quiet (fail)
  go_wp2
  go_ret
  obtain ⟨Z, rfl⟩ := Int.eq_ofNat_of_zero_le z0
  exact ⟨Z, rfl, by omega, HS2.out.below (below_drewN (Below.refl _ _) _), grown_trans HG.out (grown_drewN _ _ _)⟩
 ·clear h7 h8 hf h
  go_enter Tryz.func112, Tryz.ntmps112
  go_wp2
  go_quiet (fail)
  go_wp2
  have HR := Lib.hid (HU.out (IntKind.u64.wrap (IntKind.u64.wrap (sd * 6364136223846793005)) + 1442695040888963407))
  generalize IntKind.u64.wrap (IntKind.u64.wrap (IntKind.u64.wrap (sd * 6364136223846793005)) + 1442695040888963407) = sd2 at *
  generalize IntKind.u64.wrap (IntKind.u64.wrap (sd * 6364136223846793005)) = sd3 at *
  generalize IntKind.u64.wrap (sd * 6364136223846793005) = sd4 at *
  rw [show (a : Int) + 1 = ((a + 1 : Nat) : Int) by omega]
  generalize hw2 : ((w.drewN _).setCell ⟨p, 1, none⟩ _).setCell ⟨p, 2, none⟩ _ = w2
  obtain ⟨s2, gr, q0, q1, q2⟩ := HP.out _ _ _ HR.out hw2
  have HS2 := Lib.hid s2
  have HG := Lib.hid gr
  clear s2 gr hw2 h0 h1 h2 f0 f1 f2
  have hle : ¬ a + 1 ≤ zs.length := by omega
  obtain ⟨a1, ha1⟩ : ∃ a1, a1 = a + 1 := ⟨_, rfl⟩
  rw [← ha1] at q1 hle ⊢
  have HA1 := Lib.hid ha1
  clear ha1
  obtain ⟨r0, r1⟩ := HR.out
  have hq := and255 (sd2 / 1099511627776) (by omega) (by omega)
  have HQ := Lib.hid hq
  clear hq
  go_quiet (fail)
  go_wp2
  go_ret
  refine ⟨(sd2 / 1099511627776 % 256).toNat, ret_int ?_, by omega, HS2.out.below (below_drewN (Below.refl _ _) _), grown_trans HG.out (grown_drewN _ _ _)⟩
  rw [HQ.out]
  simp only [wrap64]; omega
def PickRet (p K : Nat) (n : Int) (w : World) (e : Ending) (w' : World) : Prop := ∃ r : Nat, e = .returned (.int .i64 r) ∧ (r = 0 ∨ (r : Int) < n) ∧ Src w' p K ∧ w.grownBy w' (some p)
set_option maxHeartbeats 1000000 in
theorem pick_any (p K : Nat) (n : Int) (w : World) (h : Src w p K) (hK : K ≤ 1000000000000) :
  Calls Tryz.prog 60 #[.pointer (some ⟨p, 0, none⟩), .int .i64 n] w (PickRet p (K + 2) n w) := by
 have HS := Lib.hid h
 have HN := Lib.hid (next_any p K w h (by omega))
 clear h
 by_cases h1 : n ≤ 1
 ·go_enter Tryz.func60, Tryz.ntmps60
  go_wp2
  go_ret
  exact ⟨0, rfl, .inl rfl, HS.out.more (by omega), World.grownBy.refl _ _⟩
 ·obtain ⟨N, rfl⟩ := Int.eq_ofNat_of_zero_le (show 0 ≤ n by omega)
  by_cases h2 : (N : Int) > 200
  ·go_enter Tryz.func60, Tryz.ntmps60
   go_wp2_with fail
   refine HN.out.mono ?_
   rintro e w1 ⟨x, rfl, hx, s1, g1⟩
   have HN2 := Lib.hid (next_any p (K + 1) w1 s1 (by omega))
   have G1 := Lib.hid g1
   clear s1 g1
   go_wp2_with fail
   refine HN2.out.mono ?_
   rintro e w2 ⟨y, rfl, hy, s2, g2⟩
   have S2 := Lib.hid s2
   have G2 := Lib.hid g2
   have hm := Nat.mod_lt (x * 256 + y) (show N > 0 by omega)
   have HM := Lib.hid hm
   clear s2 g2 hm
   go_wp2
   go_ret
   exact ⟨(x * 256 + y) % N, by simp, .inr (by have := HM.out; omega), S2.out, grown_trans G1.out G2.out⟩
  ·go_enter Tryz.func60, Tryz.ntmps60
   go_wp2_with fail
   refine HN.out.mono ?_
   rintro e w1 ⟨x, rfl, hx, s1, g1⟩
   have S1 := Lib.hid (s1.more (L := K + 2) (by omega))
   have G1 := Lib.hid g1
   have HM := Lib.hid (Nat.mod_lt x (show N > 0 by omega))
   clear s1 g1
   go_wp2
   go_ret
   exact ⟨x % N, by simp, .inr (by have := HM.out; omega), S1.out, G1.out⟩
def OneRet (p K : Nat) (w : World) (e : Ending) (w' : World) : Prop := ∃ r : Bool, e = .returned (.bool r) ∧ Src w' p K ∧ w.grownBy w' (some p)
theorem one_any (p K : Nat) (n : Int) (w : World) (h : Src w p K) (hK : K ≤ 1000000000000) :
  Calls Tryz.prog 63 #[.pointer (some ⟨p, 0, none⟩), .int .i64 n] w (OneRet p (K + 2) w) := by
 have HP := Lib.hid (pick_any p K n w h hK)
 clear h
 go_enter Tryz.func63, Tryz.ntmps63
 go_wp2_with fail
 refine HP.out.mono ?_
 rintro e w1 ⟨r, rfl, _, s1, g1⟩
 have S1 := Lib.hid s1
 have G1 := Lib.hid g1
 clear s1 g1
 go_wp2
 go_ret
 exact ⟨_, rfl, S1.out, G1.out⟩
theorem from_any (A : Option Addr) (c B : Nat) (zs : List Int) (w : World) (hx : RdB w B A zs) (hB : B ≤ w.heap.size) (hl : zs.length ≤ 9223372036854775807) (hz : ∀ z ∈ zs, 0 ≤ z ∧ z ≤ 255) :
  Calls Tryz.prog 27 #[.slice A zs.length c] w fun e w' => e = .returned (.pointer (some ⟨w.heap.size, 0, none⟩)) ∧ Src w' w.heap.size 0 ∧ Below w.heap.size w w' := by
 have hb : Below w.heap.size w (w.alloc (.cells #[.slice A zs.length c, .int .i64 0, .int .u64 0] 116)) := (Below.refl _ _).alloc (Nat.le_refl _) _
 have HF : Hid (Src (w.alloc (.cells #[.slice A zs.length c, .int .i64 0, .int .u64 0] 116)) w.heap.size 0) := Lib.hid
  ⟨A, c, zs, 0, 0, by go_simp, by go_simp, by go_simp, fun i => by go_simp, Nat.le_refl _, by decide, by decide, hl, hz, (hx.below hb hB).more hB⟩
 have HB := Lib.hid hb
 clear hx hz hb
 go_enter Tryz.func27, Tryz.ntmps27
 go_wp2
 go_ret
 exact ⟨rfl, HF.out, HB.out⟩
end Go.Proofs.YtgipnbeipfhekaaGreatDoor.Src
namespace Go.Proofs.YtgipnbeipfhekaaGreatDoor.Rev
open Go.RowKit Go.Proofs.YtgipnbeipfhekaaGreatDoor Go.Proofs.YtgipnbeipfhekaaGreatDoor.Base Go.Proofs.YtgipnbeipfhekaaGreatDoor.Mem
set_option linter.unusedVariables false
end Go.Proofs.YtgipnbeipfhekaaGreatDoor.Rev
namespace Go.Proofs.YtgipnbeipfhekaaGreatDoor.AllIn
open Go.RowKit Go.Proofs.YtgipnbeipfhekaaGreatDoor Go.Proofs.YtgipnbeipfhekaaGreatDoor.Base Go.Proofs.YtgipnbeipfhekaaGreatDoor.Mem
set_option linter.unusedVariables false
def allInB (xs : List Int) (lo hi : Int) : Bool := xs.all fun x => inR x lo hi
theorem allInB_true {xs : List Int} {lo hi : Int} (h : allInB xs lo hi = true) (i : Nat) (hi' : i < xs.length) : lo ≤ xs.getD i 0 ∧ xs.getD i 0 ≤ hi := by
 have := List.all_eq_true.1 h (xs.getD i 0) (by simp [List.getD, hi'])
 exact inR_true this
theorem allInB_of {xs : List Int} {lo hi : Int} (h : ∀ i, i < xs.length → inR (xs.getD i 0) lo hi = true) : allInB xs lo hi = true := by
 refine List.all_eq_true.2 fun x hx => ?_
 obtain ⟨i, hi', rfl⟩ := List.getElem_of_mem hx
 have := h i hi'
 simpa [List.getD, hi'] using this
theorem allInB_no {xs : List Int} {lo hi : Int} {i : Nat} (h : i < xs.length) (hx : inR (xs.getD i 0) lo hi = false) : allInB xs lo hi = false := by
 cases h' : allInB xs lo hi
 ·rfl
 ·have := List.all_eq_true.1 h' (xs.getD i 0) (by simp [List.getD, h])
  rw [hx] at this; exact this.symm
theorem lenI_any (A : Option Addr) (n c : Nat) (w : World) (h : n ≤ 9223372036854775807) :
  Calls Tryz.prog 54 #[.slice A n c] w fun e w' => e = .returned (.int .i64 (n : Int)) ∧ w = w' := by
 go_enter Tryz.func54, Tryz.ntmps54
 go_wp2
 go_ret
 exact ⟨rfl, rfl⟩
theorem closure_any (b0 b1 : Nat) (x lo hi : Int) (w : World) (h0 : w.cell? ⟨b0, 0, none⟩ = some (.int .i64 lo)) (h1 : w.cell? ⟨b1, 0, none⟩ = some (.int .i64 hi)) :
  Calls Tryz.prog 165 #[.int .i64 x, .pointer (some ⟨b0, 0, none⟩), .pointer (some ⟨b1, 0, none⟩)] w fun e w' => e = .returned (.bool (!inR x lo hi)) ∧ w = w' := by
 go_enter Tryz.func165, Tryz.ntmps165
 go_wp2_with (go_at_call 31; refine (inRange_any _ _ _ _).mono ?_; rintro e w' ⟨rfl, rfl⟩)
 go_ret
 exact ⟨rfl, rfl⟩
def IdxRet (b : Bool) (w : World) (e : Ending) (w' : World) : Prop := ∃ r : Int, e = .returned (.int .i64 r) ∧ ((r = -1 ∧ b = true) ∨ (0 ≤ r ∧ b = false)) ∧ w = w'
set_option maxHeartbeats 400000 in
theorem index_any (A : Option Addr) (c B b0 b1 : Nat) (xs : List Int) (lo hi : Int) (w : World) (hx : RdI w B A xs) (hm : xs.length ≤ 9223372036854775807) (h0 : w.cell? ⟨b0, 0, none⟩ = some (.int .i64 lo)) (h1 : w.cell? ⟨b1, 0, none⟩ = some (.int .i64 hi)) :
  Calls Tryz.prog 211 #[.slice A xs.length c, .func (Fn.func 165) #[] #[.pointer (some ⟨b0, 0, none⟩), .pointer (some ⟨b1, 0, none⟩)]] w (IdxRet (allInB xs lo hi) w) := by
 go_enter Tryz.func211, Tryz.ntmps211
 go_wp2
 go_loop [5, 8] (fun _ i => ∃ k : Nat, k ≤ xs.length ∧ i = .int .i64 (k : Int) ∧ Hid (∀ j, j < k → inR (xs.getD j 0) lo hi = true)) (fun _ i => xs.length - (intOf i).toNat)
 case atStart => exact ⟨0, Nat.zero_le _, rfl, Lib.hid fun j hj => absurd hj (Nat.not_lt_zero j)⟩
 case round =>
  obtain ⟨k, hk, rfl, hall⟩ := hrel
  by_cases hlt : k < xs.length
  ·obtain ⟨b, off, rfl, _, hc⟩ := hx (by omega)
   have g := hc k hlt
   clear hc hx
   cases hr : inR (xs.getD k 0) lo hi
   ·have hf := Lib.hid (allInB_no hlt hr)
    generalize xs.getD k 0 = x at *
    go_wp2_with (go_at_call 165; refine (closure_any _ _ _ _ _ _ h0 h1).mono ?_; rintro e w' ⟨rfl, rfl⟩)
    go_ret
    exact ⟨(k : Int), rfl, .inr ⟨by omega, hf.out⟩, rfl⟩
   ·have hn : Hid (∀ j, j < k + 1 → inR (xs.getD j 0) lo hi = true) := Lib.hid fun j hj => by
     rcases Nat.lt_or_ge j k with h | h
     ·exact hall.out j h
     ·obtain rfl : j = k := by omega
      exact hr
    clear hall
    generalize xs.getD k 0 = x at *
    go_wp2_with (go_at_call 165; refine (closure_any _ _ _ _ _ _ h0 h1).mono ?_; rintro e w' ⟨rfl, rfl⟩)
    go_round
    case rel => exact ⟨k + 1, by omega, by go_num, hn⟩
    case measure => simp [intOf]; omega
  ·obtain rfl : k = xs.length := by omega
   clear hx
   go_wp2
   go_ret
   exact ⟨-1, rfl, .inl ⟨rfl, allInB_of hall.out⟩, rfl⟩
theorem contains_any (A : Option Addr) (c B b0 b1 : Nat) (xs : List Int) (lo hi : Int) (w : World) (hx : RdI w B A xs) (hm : xs.length ≤ 9223372036854775807) (h0 : w.cell? ⟨b0, 0, none⟩ = some (.int .i64 lo)) (h1 : w.cell? ⟨b1, 0, none⟩ = some (.int .i64 hi)) :
  Calls Tryz.prog 164 #[.slice A xs.length c, .func (Fn.func 165) #[] #[.pointer (some ⟨b0, 0, none⟩), .pointer (some ⟨b1, 0, none⟩)]] w fun e w' => e = .returned (.bool (!allInB xs lo hi)) ∧ w = w' := by
 have hc := Lib.hid (index_any A c B b0 b1 xs lo hi w hx hm h0 h1)
 clear hx
 go_enter Tryz.func164, Tryz.ntmps164
 go_wp2_with fail
 refine hc.out.mono ?_
 rintro e w' ⟨r, rfl, ⟨rfl, hb⟩ | ⟨hr, hb⟩, rfl⟩
 ·go_wp2
  go_ret
  exact ⟨ret_bool (by simp [hb]), rfl⟩
 ·go_wp2
  go_ret
  exact ⟨ret_bool (by simp [hb]), rfl⟩
theorem allIn_any (A : Option Addr) (c B : Nat) (xs : List Int) (lo hi : Int) (w : World) (hx : RdI w B A xs) (hB : B ≤ w.heap.size) (hm : xs.length ≤ 9223372036854775807) :
  Calls Tryz.prog 104 #[.slice A xs.length c, .int .i64 lo, .int .i64 hi] w fun e w' => e = .returned (.bool (allInB xs lo hi)) ∧ Below w.heap.size w w' := by
 have hb : Below w.heap.size w ((w.alloc (.cells #[.int .i64 lo] 2)).alloc (.cells #[.int .i64 hi] 2)) := ((Below.refl _ _).alloc (Nat.le_refl _) _).alloc (by simp) _
 have hx2 := Lib.hid (hx.below hb hB)
 clear hx
 have HB := Lib.hid hb
 clear hb
 go_enter Tryz.func104, Tryz.ntmps104
 go_wp2_with (go_at_call 164; refine (contains_any A c B _ _ xs lo hi _ hx2.out hm (by simp) (by simp)).mono ?_; rintro e w' ⟨rfl, rfl⟩)
 go_ret
 exact ⟨ret_bool (by simp), HB.out⟩
end Go.Proofs.YtgipnbeipfhekaaGreatDoor.AllIn
namespace Go.Proofs.YtgipnbeipfhekaaGreatDoor.Pts
open Go.RowKit Go.Proofs.YtgipnbeipfhekaaGreatDoor Go.Proofs.YtgipnbeipfhekaaGreatDoor.Base Go.Proofs.YtgipnbeipfhekaaGreatDoor.Mem Go.Proofs.YtgipnbeipfhekaaGreatDoor.AllIn
set_option linter.unusedVariables false
def rowB (L b : Nat) (xs : List Int) : Bool := (xs.length == L) && allInB xs 0 ((2 : Int) ^ b - 1)
theorem all_at {α : Type} {xs : List α} {f : α → Bool} (d : α) {i : Nat} (h : i < xs.length) (ha : xs.all f = true) : f (xs.getD i d) = true :=
 List.all_eq_true.1 ha (xs.getD i d) (by simp [List.getD, h])
end Go.Proofs.YtgipnbeipfhekaaGreatDoor.Pts
namespace Go.Proofs.YtgipnbeipfhekaaGreatDoor.RevNet
open Go.RowKit Go.Proofs.YtgipnbeipfhekaaGreatDoor Go.Proofs.YtgipnbeipfhekaaGreatDoor.Base Go.Proofs.YtgipnbeipfhekaaGreatDoor.Mem Go.Proofs.YtgipnbeipfhekaaGreatDoor.Pts
set_option linter.unusedVariables false
theorem beside {wr w2 : World} {B : Nat} {v u : Value} {xs ys : List Int} {o : Obj} (hO : OwnI wr B v xs) (hu : OwnI wr B u ys) (ha : ∀ g, v.ownBlock = some g → u.ownBlock ≠ some g) (hg : (wr.alloc o).grownBy w2 v.ownBlock) : OwnI w2 B u ys := by
 refine World.ownsRow.kept (World.ownsRow.alloc hu o) hg ?_
 rcases hv : u.ownBlock with _ | g
 ·exact .inl rfl
 ·exact .inr fun e => ha g e.symm hv
end Go.Proofs.YtgipnbeipfhekaaGreatDoor.RevNet
namespace Go.Proofs.YtgipnbeipfhekaaGreatDoor.NetV
open Go.RowKit Go.Proofs.YtgipnbeipfhekaaGreatDoor Go.Proofs.YtgipnbeipfhekaaGreatDoor.Base Go.Proofs.YtgipnbeipfhekaaGreatDoor.Mem Go.Proofs.YtgipnbeipfhekaaGreatDoor.AllIn Go.Proofs.YtgipnbeipfhekaaGreatDoor.Pts
set_option linter.unusedVariables false
end Go.Proofs.YtgipnbeipfhekaaGreatDoor.NetV
namespace Go.Proofs.YtgipnbeipfhekaaGreatDoor.Cpy
open Go.RowKit Go.Proofs.YtgipnbeipfhekaaGreatDoor Go.Proofs.YtgipnbeipfhekaaGreatDoor.Base Go.Proofs.YtgipnbeipfhekaaGreatDoor.Mem
set_option linter.unusedVariables false
theorem us_set {us : List Value} {j n : Nat} (hj : us.length = j) (hn : j < n) (u z : Value) : (us ++ List.replicate (n - j) z).set j u = (us ++ [u]) ++ List.replicate (n - (j + 1)) z := by
 rw [List.set_append_right _ _ (Nat.le_of_eq hj), hj, Nat.sub_self, show n - j = (n - (j + 1)) + 1 by omega, List.replicate_succ, List.set_cons_zero, List.append_assoc]
 rfl
theorem us_get {us : List Value} {j n : Nat} (hj : us.length = j) (hn : j < n) (z : Value) : (us ++ List.replicate (n - j) z)[j]? = some z := by
 rw [List.getElem?_append_right (Nat.le_of_eq hj), hj, Nat.sub_self, List.getElem?_replicate, if_pos (by omega)]
end Go.Proofs.YtgipnbeipfhekaaGreatDoor.Cpy
namespace Go.Proofs.YtgipnbeipfhekaaGreatDoor.Open
open Go.ChangeShapes Go.WideShapes Go.ChangeAt Go.RowKit Go.Joins Go.Proofs.YtgipnbeipfhekaaGreatDoor
set_option linter.unusedVariables false
set_option maxRecDepth 100000
section
variable {H : Type} {enc : TypeId × Value → H} {w : World} {base b0 : Nat} {spare : Nat → Bool} {held : Bool} {v : Value} {d : DataW H} {p : List MemPlace}
theorem addr_add {a : Addr} (h : a.spot = none) (i : Nat) : a.add i = ⟨a.block, a.off + i, none⟩ := by
 obtain ⟨b, off, spot⟩ := a
 simp at h; subst h
 unfold Addr.add
 split <;> simp_all
theorem spot_of {a : Addr} {u : Value} (h : w.cell? (a.add 0) = some u) : a.spot = none ∧ a.block < w.heap.size := by
 have e : a.add 0 = a := by simp [Addr.add]
 rw [e] at h
 exact ⟨World.cell?_spot h, block_lt_of_cell h⟩
theorem cells8 : Tryz.prog.cellsOf 5 = 1 := by kernel_rfl
structure IsBytes (w : World) (v : Value) : Prop where
 ex : ∃ (A : Option Addr) (c : Nat) (zs : List Int), v = .slice A zs.length c ∧ zs.length ≤ 9223372036854775807 ∧ (∀ z ∈ zs, 0 ≤ z ∧ z ≤ 255) ∧ Mem.RdB w w.heap.size A zs
theorem bytes (hv : Value.okWide Tryz.prog w .any b0 22 v) (h : DataW.Trod enc Tryz.prog w base (fun _ => true) held 22 v d p) : IsBytes w v := by
 obtain ⟨a, len, cap, rfl⟩ := okWide_slice Tryz.underlying22 hv
 obtain ⟨fuel, hf⟩ := h
 rcases open_ints Tryz.underlying22 Tryz.underlying5 cells8 hf with ⟨hcs, _⟩ | ⟨x, l, c, zs, hcs, _, hl, hm, hz, _, hcell, hwz⟩
 ·simp [Value.cells] at hcs
  obtain ⟨rfl, rfl, rfl⟩ := hcs
  exact ⟨none, 0, [], rfl, by decide, by simp, fun h => absurd h (by simp)⟩
 ·simp [Value.cells] at hcs
  obtain ⟨rfl, rfl, rfl⟩ := hcs
  simp only [if_true] at hz
  have hlen : (zs.take len).length = len := by rw [List.length_take]; omega
  refine ⟨some x, cap, zs.take len, by rw [hlen], ?_, fun z hzm => ?_, fun h0 => ?_⟩
  ·rw [hlen]; unfold maxLen at hm; omega
  ·have := hwz z (List.mem_of_mem_take hzm)
   simp [Lit.wf, IntKind.min, IntKind.max, IntKind.signed, IntKind.bits] at this
   omega
  ·rw [hlen] at h0
   obtain ⟨hs, hb⟩ := spot_of (hcell 0 (by omega))
   refine ⟨x.block, x.off, by cases x; simp_all, hb, fun i hi => ?_⟩
   rw [hlen] at hi
   rw [← addr_add hs, hcell i (by omega)]
   simp [List.getD, hi]
theorem cellsI1 : Tryz.prog.cellsOf 2 = 1 := by kernel_rfl
structure IsInts (w : World) (v : Value) : Prop where
 ex : ∃ (A : Option Addr) (c : Nat) (zs : List Int), v = .slice A zs.length c ∧ zs.length ≤ 9223372036854775807 ∧ (∀ z ∈ zs, -9223372036854775808 ≤ z ∧ z ≤ 9223372036854775807) ∧ Mem.RdI w w.heap.size A zs
theorem ints (hv : Value.okWide Tryz.prog w .any b0 43 v) (h : DataW.Trod enc Tryz.prog w base (fun _ => true) held 43 v d p) : IsInts w v := by
 obtain ⟨a, len, cap, rfl⟩ := okWide_slice Tryz.underlying43 hv
 obtain ⟨fuel, hf⟩ := h
 rcases open_ints Tryz.underlying43 Tryz.underlying2 cellsI1 hf with ⟨hcs, _⟩ | ⟨x, l, c, zs, hcs, _, hl, hm, hz, _, hcell, hwz⟩
 ·simp [Value.cells] at hcs
  obtain ⟨rfl, rfl, rfl⟩ := hcs
  exact ⟨none, 0, [], rfl, by decide, by simp, fun h => absurd h (by simp)⟩
 ·simp [Value.cells] at hcs
  obtain ⟨rfl, rfl, rfl⟩ := hcs
  simp only [if_true] at hz
  have hlen : (zs.take len).length = len := by rw [List.length_take]; omega
  refine ⟨some x, cap, zs.take len, by rw [hlen], ?_, fun z hzm => ?_, fun h0 => ?_⟩
  ·rw [hlen]; unfold maxLen at hm; omega
  ·have := hwz z (List.mem_of_mem_take hzm)
   simp [Lit.wf, IntKind.min, IntKind.max, IntKind.signed, IntKind.bits] at this
   omega
  ·rw [hlen] at h0
   obtain ⟨hs, hb⟩ := spot_of (hcell 0 (by omega))
   refine ⟨x.block, x.off, by cases x; simp_all, hb, fun i hi => ?_⟩
   rw [hlen] at hi
   rw [← addr_add hs, hcell i (by omega)]
   simp [List.getD, hi]
end
end Go.Proofs.YtgipnbeipfhekaaGreatDoor.Open
namespace Go.Proofs.YtgipnbeipfhekaaGreatDoor.NetV
open Go.RowKit Go.Proofs.YtgipnbeipfhekaaGreatDoor Go.Proofs.YtgipnbeipfhekaaGreatDoor.Base Go.Proofs.YtgipnbeipfhekaaGreatDoor.Mem Go.Proofs.YtgipnbeipfhekaaGreatDoor.Cpy
set_option linter.unusedVariables false
end Go.Proofs.YtgipnbeipfhekaaGreatDoor.NetV
namespace Go.Proofs.YtgipnbeipfhekaaGreatDoor.RevNet
open Go.RowKit Go.Proofs.YtgipnbeipfhekaaGreatDoor Go.Proofs.YtgipnbeipfhekaaGreatDoor.Base Go.Proofs.YtgipnbeipfhekaaGreatDoor.Mem Go.Proofs.YtgipnbeipfhekaaGreatDoor.Pts Go.Proofs.YtgipnbeipfhekaaGreatDoor.NetV
set_option linter.unusedVariables false
theorem block_lt {w : World} {g : Nat} {o : Obj} (h : w.heap[g]? = some o) : g < w.heap.size := by
 rcases Nat.lt_or_ge g w.heap.size with hlt | hge
 ·exact hlt
 ·rw [Array.getElem?_eq_none hge] at h; cases h
end Go.Proofs.YtgipnbeipfhekaaGreatDoor.RevNet
