/- Plain mathematics: fractions given by a sign and two naturals, and the rationals that they are. No program in sight. -/
import Derived.Test.YtgipnbeipfhekaaGreatDoorMgFnT00
import Derived.Deep.RegionLaw
import Derived.Deep.AppendLies
import Derived.Test.YtgipnbeipfhekaaGreatDoorMgFnT06
import Derived.Test.YtgipnbeipfhekaaGreatDoorMgFnT01
import Derived.Test.YtgipnbeipfhekaaGreatDoorMgFnT05
import Derived.Test.YtgipnbeipfhekaaGreatDoorMgFnT04
set_option linter.unusedVariables false
namespace Go.Proofs.YtgipnbeipfhekaaGreatDoor.RatM
def qv (s : Bool) (n d : Nat) : Rat := if s then -((n : Rat) / (d : Rat)) else (n : Rat) / (d : Rat)
theorem natCast_ne {d : Nat} (h : d ≠ 0) : (d : Rat) ≠ 0 := by
 intro e
 exact h (Rat.natCast_eq_zero_iff.1 e)
theorem qv_mk (s : Bool) (n d : Nat) : qv s n d = if s then -(mkRat n d) else mkRat n d := by
 unfold qv
 rw [Rat.mkRat_eq_div]
 rfl
theorem qv_num (s : Bool) {n d : Nat} (h : d ≠ 0) : (qv s n d).num.natAbs = n / Nat.gcd n d ∧ (qv s n d).den = d / Nat.gcd n d := by
 have h1 : (mkRat (n : Int) d).num = (n : Int) / ((Nat.gcd n d : Nat) : Int) := by
  rw [Rat.num_mkRat, if_neg h, Int.natAbs_natCast, Nat.gcd_comm]
 have h2 : (mkRat (n : Int) d).den = d / Nat.gcd n d := by
  rw [Rat.den_mkRat, if_neg h, Int.natAbs_natCast, Nat.gcd_comm]
 have h3 : (mkRat (n : Int) d).num.natAbs = n / Nat.gcd n d := by
  rw [h1]
  exact congrArg Int.natAbs (Int.natCast_ediv n (Nat.gcd n d)).symm |>.trans (Int.natAbs_natCast _)
 rw [qv_mk]
 cases s
 ·exact ⟨h3, h2⟩
 ·simp only [if_true, Rat.neg_num, Rat.neg_den, Int.natAbs_neg]
  exact ⟨h3, h2⟩
theorem qv_zero (s : Bool) (d : Nat) : qv s 0 d = 0 := by
 unfold qv
 have : ((0 : Nat) : Rat) / (d : Rat) = 0 := by
  show (0 : Rat) / (d : Rat) = 0
  rw [Rat.div_def, Rat.zero_mul]
 rw [this]
 cases s <;> rfl
theorem qv_pos {n d : Nat} (hn : n ≠ 0) (hd : d ≠ 0) : 0 < (n : Rat) / (d : Rat) := by
 rw [Rat.div_def]
 exact Rat.mul_pos (Rat.natCast_pos.2 (Nat.pos_of_ne_zero hn)) (Rat.inv_pos.2 (Rat.natCast_pos.2 (Nat.pos_of_ne_zero hd)))
theorem qv_neg {s : Bool} {n d : Nat} (hn : n ≠ 0) (hd : d ≠ 0) : decide (qv s n d < 0) = s := by
 have h := qv_pos hn hd
 unfold qv
 cases s
 ·simp only [Bool.false_eq_true, if_false, decide_eq_false_iff_not]
  grind
 ·simp only [if_true, decide_eq_true_eq]
  grind
theorem qv_self (q : Rat) : qv (decide (q < 0)) q.num.natAbs q.den = q := by
 have hd := q.den_nz
 rw [qv_mk]
 have hs := Rat.mkRat_self q
 by_cases h : q < 0
 ·have hn : ¬ (0 ≤ q.num) := fun h2 => by
   have := Rat.num_nonneg.1 h2
   grind
  simp only [h, decide_true, if_true]
  rw [Rat.neg_mkRat]
  have : -((q.num.natAbs : Nat) : Int) = q.num := by omega
  rw [this, hs]
 ·have hn : 0 ≤ q.num := Rat.num_nonneg.2 (by grind)
  simp only [h, decide_false, Bool.false_eq_true, if_false]
  have : ((q.num.natAbs : Nat) : Int) = q.num := by omega
  rw [this, hs]
theorem qv_add_same (s : Bool) {n d n' d' : Nat} (h : d ≠ 0) (h' : d' ≠ 0) : qv s (n * d' + n' * d) (d * d') = qv s n d + qv s n' d' := by
 have g := natCast_ne h
 have g' := natCast_ne h'
 unfold qv
 simp only [Rat.natCast_add, Rat.natCast_mul]
 cases s <;> simp only [Bool.false_eq_true, if_false, if_true] <;> grind
theorem qv_add_diff (s : Bool) {n d n' d' : Nat} (h : d ≠ 0) (h' : d' ≠ 0) (hle : n' * d ≤ n * d') : qv s (n * d' - n' * d) (d * d') = qv s n d + qv (!s) n' d' := by
 have g := natCast_ne h
 have g' := natCast_ne h'
 obtain ⟨k, hk⟩ : ∃ k, n * d' = n' * d + k := ⟨n * d' - n' * d, by omega⟩
 have e : n * d' - n' * d = k := by omega
 have hk2 : (n : Rat) * (d' : Rat) = (n' : Rat) * (d : Rat) + (k : Rat) := by
  rw [← Rat.natCast_mul, ← Rat.natCast_mul, ← Rat.natCast_add, hk]
 rw [e]
 unfold qv
 simp only [Rat.natCast_mul]
 cases s <;> simp only [Bool.not_false, Bool.not_true, Bool.false_eq_true, if_false, if_true] <;> grind
theorem own_num {s : Bool} {n d : Nat} (hd : d ≠ 0) (hg : Nat.gcd n d = 1) : (qv s n d).num.natAbs = n ∧ (qv s n d).den = d := by
 obtain ⟨h1, h2⟩ := qv_num s (n := n) hd
 rw [h1, h2, hg, Nat.div_one, Nat.div_one]
 exact ⟨rfl, rfl⟩
def qf (n d : Int) : Rat := qv (decide (n < 0)) n.natAbs d.toNat
theorem qf_num {n d : Int} (hd : 0 < d) (hg : Nat.gcd n.natAbs d.toNat = 1) : (qf n d).num = n ∧ ((qf n d).den : Int) = d ∧ (decide (qf n d < 0) = decide (n < 0)) := by
 have hd' : d.toNat ≠ 0 := by omega
 obtain ⟨h1, h2⟩ := own_num (s := decide (n < 0)) hd' hg
 have h3 : decide (qf n d < 0) = decide (n < 0) := by
  by_cases hn : n = 0
  ·subst hn
   unfold qf
   rw [show (0 : Int).natAbs = 0 from rfl, qv_zero]
   rfl
  ·exact qv_neg (by omega) hd'
 refine ⟨?_, by unfold qf; rw [h2]; omega, h3⟩
 have h4 : (qf n d).num.natAbs = n.natAbs := h1
 have h5 : qf n d < 0 ↔ (qf n d).num < 0 := by
  constructor
  ·intro h
   refine Classical.byContradiction fun hc => ?_
   have := Rat.num_nonneg.1 (show 0 ≤ (qf n d).num by omega)
   grind
  ·intro h
   refine Classical.byContradiction fun hc => ?_
   have := Rat.num_nonneg.2 (show 0 ≤ qf n d by grind)
   omega
 have h6 : (qf n d < 0) ↔ n < 0 := by simpa using h3
 have h7 : (qf n d).num < 0 ↔ n < 0 := h5.symm.trans h6
 omega
theorem neg_iff (q : Rat) : q < 0 ↔ q.num < 0 := by
 constructor
 ·intro h
  refine Classical.byContradiction fun hc => ?_
  have := Rat.num_nonneg.1 (show 0 ≤ q.num by omega)
  grind
 ·intro h
  refine Classical.byContradiction fun hc => ?_
  have := Rat.num_nonneg.2 (show 0 ≤ q by grind)
  omega
theorem zero_iff (q : Rat) : q = 0 ↔ q.num.natAbs = 0 := by
 rw [Int.natAbs_eq_zero]
 exact Rat.num_eq_zero.symm
end Go.Proofs.YtgipnbeipfhekaaGreatDoor.RatM
set_option linter.unusedVariables false
namespace Go.Proofs.YtgipnbeipfhekaaGreatDoor.RatM
def smallQ (q : Rat) : Bool := decide (q.num.natAbs ≤ 1000000000000000000) && decide (q.den ≤ 1000000000000000000)
def numQ (q : Rat) : Int := if smallQ q then q.num else 0
def denQ (q : Rat) : Int := if smallQ q then (q.den : Int) else 0
theorem small_yes {q : Rat} (h1 : q.num.natAbs ≤ 1000000000000000000) (h2 : q.den ≤ 1000000000000000000) : smallQ q = true ∧ numQ q = q.num ∧ denQ q = (q.den : Int) := by
 have hs : smallQ q = true := by unfold smallQ; rw [decide_eq_true h1, decide_eq_true h2]; rfl
 exact ⟨hs, by unfold numQ; rw [hs]; rfl, by unfold denQ; rw [hs]; rfl⟩
theorem small_no {q : Rat} (h : ¬ q.num.natAbs ≤ 1000000000000000000 ∨ ¬ q.den ≤ 1000000000000000000) : smallQ q = false ∧ numQ q = 0 ∧ denQ q = 0 := by
 have hs : smallQ q = false := by
  unfold smallQ
  rcases h with h | h
  ·rw [decide_eq_false h]; rfl
  ·rw [decide_eq_false h, Bool.and_false]
 exact ⟨hs, by unfold numQ; rw [hs]; rfl, by unfold denQ; rw [hs]; rfl⟩
theorem small_true {q : Rat} (h : smallQ q = true) : q.num.natAbs ≤ 1000000000000000000 ∧ q.den ≤ 1000000000000000000 := by
 unfold smallQ at h
 rw [Bool.and_eq_true, decide_eq_true_eq, decide_eq_true_eq] at h
 exact h
def VF (n d : Int) : Prop := 1 ≤ d ∧ d ≤ 1000000000000000000 ∧ -1000000000000000000 ≤ n ∧ n ≤ 1000000000000000000 ∧ Nat.gcd n.natAbs d.toNat = 1
theorem VF.num {n d : Int} (h : VF n d) : (qf n d).num = n ∧ ((qf n d).den : Int) = d ∧ (decide (qf n d < 0) = decide (n < 0)) := qf_num (by have := h.1; omega) h.2.2.2.2
theorem VF.of (q : Rat) (h : smallQ q = true) : VF q.num (q.den : Int) := by
 obtain ⟨h1, h2⟩ := small_true h
 have := q.den_pos
 exact ⟨by omega, by omega, by omega, by omega, by rw [Int.toNat_natCast]; exact q.reduced⟩
theorem qf_self (q : Rat) : qf q.num (q.den : Int) = q := by
 have h := qv_self q
 unfold qf
 rw [Int.toNat_natCast]
 have e : decide (q.num < 0) = decide (q < 0) := by rw [Bool.eq_iff_iff, decide_eq_true_eq, decide_eq_true_eq]; exact (neg_iff q).symm
 rw [e]; exact h
theorem VF.small {n d : Int} (h : VF n d) : smallQ (qf n d) = true := by
 obtain ⟨h1, h2, _⟩ := h.num
 refine (small_yes ?_ ?_).1
 ·rw [h1]; have := h.2.2.1; have := h.2.2.2.1; omega
 ·have := h.2.1; omega
end Go.Proofs.YtgipnbeipfhekaaGreatDoor.RatM
namespace Go.Proofs.YtgipnbeipfhekaaGreatDoor.LvM
set_option linter.unusedVariables false
def sm : Nat → (Nat → Nat) → Nat
 | 0, _ => 0
 | n + 1, f => sm n f + f n
theorem sm_congr : ∀ {n : Nat} {f g : Nat → Nat}, (∀ i, i < n → f i = g i) → sm n f = sm n g
 | 0, _, _, _ => rfl
 | n + 1, f, g, h => by rw [sm, sm, sm_congr (fun i hi => h i (by omega)), h n (by omega)]
theorem sm_le : ∀ {n : Nat} {f g : Nat → Nat}, (∀ i, i < n → f i ≤ g i) → sm n f ≤ sm n g
 | 0, _, _, _ => Nat.le_refl _
 | n + 1, f, g, h => by
  have h1 := sm_le (n := n) (f := f) (g := g) (fun i hi => h i (by omega))
  have h2 := h n (by omega)
  rw [sm, sm]; omega
theorem sm_mono {f : Nat → Nat} : ∀ {n m : Nat}, n ≤ m → sm n f ≤ sm m f := by
 intro n m h
 induction m with
 | zero => rw [Nat.le_zero.1 h]; exact Nat.le_refl _
 | succ m ih =>
  rcases Nat.lt_or_ge n (m + 1) with h1 | h1
  ·rw [sm]; have := ih (by omega); omega
  ·rw [show n = m + 1 by omega]; exact Nat.le_refl _
theorem sm_mul (c : Nat) (f : Nat → Nat) : ∀ n, sm n (fun i => c * f i) = c * sm n f
 | 0 => rfl
 | n + 1 => by rw [sm, sm, sm_mul c f n, Nat.mul_add]
theorem sm_add (f g : Nat → Nat) : ∀ n, sm n (fun i => f i + g i) = sm n f + sm n g
 | 0 => rfl
 | n + 1 => by rw [sm, sm, sm, sm_add f g n]; omega
theorem sm_first (f : Nat → Nat) : ∀ n, sm (n + 1) f = f 0 + sm n (fun i => f (i + 1))
 | 0 => by simp [sm]
 | n + 1 => by rw [sm, sm_first f n, sm]; omega
theorem sm_one {f : Nat → Nat} {n i : Nat} (hi : i < n) : f i ≤ sm n f := by
 have h1 : sm (i + 1) f ≤ sm n f := sm_mono hi
 rw [sm] at h1; omega
def W (m : Nat) : Nat → Nat
 | 0 => 1
 | k + 1 => sm (min m (k + 1)) fun r => W m (k - r)
termination_by k => k
decreasing_by omega
theorem W_zero (m : Nat) : W m 0 = 1 := by rw [W]
theorem W_succ (m k : Nat) : W m (k + 1) = sm (min m (k + 1)) fun r => W m (k - r) := by rw [W]
theorem W_none (k : Nat) : W 0 (k + 1) = 0 := by rw [W_succ]; simp [sm]
theorem W_mono (m : Nat) : ∀ k, W m k ≤ W (m + 1) k := by
 intro k
 induction k using Nat.strongRecOn with
 | _ k ih =>
  cases k with
  | zero => rw [W_zero, W_zero]; exact Nat.le_refl _
  | succ k =>
   rw [W_succ, W_succ]
   refine Nat.le_trans (sm_le fun i hi => ih (k - i) (by omega)) (sm_mono ?_)
   omega
theorem W_le {m m' : Nat} (h : m ≤ m') (k : Nat) : W m k ≤ W m' k := by
 induction m' with
 | zero => rw [Nat.le_zero.1 h]; exact Nat.le_refl _
 | succ m' ih =>
  rcases Nat.lt_or_ge m (m' + 1) with h1 | h1
  ·exact Nat.le_trans (ih (by omega)) (W_mono m' k)
  ·rw [show m = m' + 1 by omega]; exact Nat.le_refl _
theorem sm_rev (f : Nat → Nat) : ∀ n, sm (n + 1) (fun r => f (n - r)) = sm (n + 1) f
 | 0 => rfl
 | n + 1 => by
  have h : sm (n + 1) (fun i => f (n + 1 - (i + 1))) = sm (n + 1) f := by
   rw [← sm_rev f n]; exact sm_congr fun i hi => by congr 1; omega
  rw [sm_first, h, Nat.sub_zero, sm]
  show _ = sm (n + 1) f + f (n + 1)
  rw [Nat.add_comm]; rfl
theorem W_all {m : Nat} : ∀ k, k + 1 ≤ m → W m (k + 1) = 2 ^ k := by
 intro k
 induction k using Nat.strongRecOn with
 | _ k ih =>
  intro hk
  rw [W_succ, show min m (k + 1) = k + 1 by omega, sm_rev (W m) k]
  have key : ∀ j, j ≤ k → sm (j + 1) (W m) = 2 ^ j := by
   intro j
   induction j with
   | zero => intro _; simp [sm, W_zero]
   | succ j ihj =>
    intro hj
    rw [sm, ihj (by omega), ih j (by omega) (by omega), Nat.pow_succ]; omega
  exact key k (Nat.le_refl _)
theorem W_bound (m k : Nat) : W m k ≤ 2 ^ k := by
 rcases Nat.lt_or_ge m k with h | h
 ·have h1 := W_le (Nat.le_of_lt h) k
  cases k with
  | zero => omega
  | succ k =>
   rw [W_all k (Nat.le_refl _)] at h1
   have : (2 : Nat) ^ k ≤ 2 ^ (k + 1) := Nat.pow_le_pow_right (by decide) (by omega)
   omega
 ·cases k with
  | zero => rw [W_zero]; decide
  | succ k =>
   rw [W_all k h]
   exact Nat.pow_le_pow_right (by decide) (by omega)
def U (m i j : Nat) : Nat := if 1 ≤ j ∧ j ≤ m ∧ j ≤ i then 2 * W m (i - j) else 0
def cL (n k : Nat) : Nat := 2 * W k n - 2 * W (k - 1) n
theorem cL_sum {n : Nat} (hn : 1 ≤ n) : ∀ k, sm k (fun i => cL n (i + 1)) = 2 * W k n
 | 0 => by obtain ⟨n, rfl⟩ : ∃ k, n = k + 1 := ⟨n - 1, by omega⟩; rw [W_none]; rfl
 | k + 1 => by
  rw [sm, cL_sum hn k]
  unfold cL
  have := W_mono k n
  rw [Nat.add_sub_cancel]; omega
theorem cL_all {n : Nat} (hn : 1 ≤ n) : sm n (fun i => cL n (i + 1)) = 2 ^ n := by
 rw [cL_sum hn]
 obtain ⟨n, rfl⟩ : ∃ k, n = k + 1 := ⟨n - 1, by omega⟩
 rw [W_all n (Nat.le_refl _), Nat.pow_succ]; omega
end Go.Proofs.YtgipnbeipfhekaaGreatDoor.LvM
namespace Go.Proofs.YtgipnbeipfhekaaGreatDoor.LvQ
open Go.Proofs.YtgipnbeipfhekaaGreatDoor.RatM Go.Proofs.YtgipnbeipfhekaaGreatDoor.LvM
set_option linter.unusedVariables false
def dy (n x : Nat) : Rat := qv false x (2 ^ n)
theorem p2 (n : Nat) : (2 : Nat) ^ n ≠ 0 := Nat.ne_of_gt (Nat.two_pow_pos n)
theorem dy_div (n x : Nat) : dy n x = (x : Rat) / ((2 ^ n : Nat) : Rat) := rfl
theorem dy_zero (n : Nat) : dy n 0 = 0 := qv_zero false _
theorem dy_add (n x y : Nat) : dy n x + dy n y = dy n (x + y) := by
 rw [dy_div, dy_div, dy_div, Rat.natCast_add]
 grind
theorem dy_pos {n x : Nat} (h : 0 < x) : 0 < dy n x := qv_pos (by omega) (p2 n)
theorem dy_lt {n x y : Nat} (h : x < y) : dy n x < dy n y := by
 have h1 := dy_add n x (y - x)
 have h2 := dy_pos (n := n) (show 0 < y - x by omega)
 rw [show x + (y - x) = y by omega] at h1
 grind
theorem dy_one (n : Nat) : dy n (2 ^ n) = 1 := by
 have h : ((2 ^ n : Nat) : Rat) ≠ 0 := natCast_ne (p2 n)
 rw [dy_div]
 grind
theorem dy_parts (n x : Nat) : (dy n x).num = ((x / Nat.gcd x (2 ^ n) : Nat) : Int) ∧ (dy n x).den = 2 ^ n / Nat.gcd x (2 ^ n) := by
 obtain ⟨h1, h2⟩ := qv_num false (n := x) (p2 n)
 refine ⟨?_, h2⟩
 have h3 : (0 : Rat) ≤ dy n x := by
  rcases Nat.eq_zero_or_pos x with h | h
  ·rw [h, dy_zero]; exact Rat.le_refl
  ·have := dy_pos (n := n) h; grind
 have h4 : 0 ≤ (dy n x).num := Rat.num_nonneg.2 h3
 have h5 : (dy n x).num.natAbs = x / Nat.gcd x (2 ^ n) := h1
 omega
theorem dy_small {n x : Nat} (hx : x ≤ 2 ^ n) (hn : n ≤ 50) : smallQ (dy n x) = true := by
 obtain ⟨h1, h2⟩ := dy_parts n x
 have h3 : (2 : Nat) ^ n ≤ 2 ^ 50 := Nat.pow_le_pow_right (by decide) hn
 have h4 : x / Nat.gcd x (2 ^ n) ≤ x := Nat.div_le_self _ _
 have h5 : 2 ^ n / Nat.gcd x (2 ^ n) ≤ 2 ^ n := Nat.div_le_self _ _
 exact (small_yes (by rw [h1, Int.natAbs_natCast]; omega) (by rw [h2]; omega)).1
theorem dy_vf {n x : Nat} (hx : x ≤ 2 ^ n) (hn : n ≤ 50) : VF (dy n x).num ((dy n x).den : Int) := VF.of _ (dy_small hx hn)
theorem dy_numQ {n x : Nat} (hx : x ≤ 2 ^ n) (hn : n ≤ 50) : numQ (dy n x) = (dy n x).num ∧ denQ (dy n x) = ((dy n x).den : Int) := by
 obtain ⟨h1, h2⟩ := small_true (dy_small hx hn)
 obtain ⟨_, h3, h4⟩ := small_yes h1 h2
 exact ⟨h3, h4⟩
structure Cnt where
 first : Nat
 many : Nat
 c : Nat → Nat
def Cnt.ok (C : Cnt) (n : Nat) : Prop := C.first ≤ 1 ∧ C.many ≤ n + 1 ∧ (∀ i, i < C.many → 0 < C.c i) ∧ sm C.many C.c = 2 ^ n
def upS (C : Cnt) (t k : Nat) : Nat := sm k fun i => if C.c i ≤ t then C.c i else 0
theorem upS_zero (C : Cnt) (t : Nat) : upS C t 0 = 0 := rfl
theorem upS_yes {C : Cnt} {t k : Nat} (h : C.c k ≤ t) : upS C t (k + 1) = upS C t k + C.c k := by rw [upS, sm, if_pos h]; rfl
theorem upS_no {C : Cnt} {t k : Nat} (h : ¬ C.c k ≤ t) : upS C t (k + 1) = upS C t k := by rw [upS, sm, if_neg h]; rfl
theorem upS_le {C : Cnt} {n : Nat} (h : C.ok n) (t : Nat) {k : Nat} (hk : k ≤ C.many) : upS C t k ≤ 2 ^ n := by
 rw [← h.2.2.2]
 refine Nat.le_trans (sm_le fun i hi => ?_) (sm_mono hk)
 split <;> omega
theorem Cnt.one_le {C : Cnt} {n : Nat} (h : C.ok n) {k : Nat} (hk : k < C.many) : C.c k ≤ 2 ^ n := by
 rw [← h.2.2.2]; exact sm_one hk
theorem Cnt.sum_le {C : Cnt} {n : Nat} (h : C.ok n) {k : Nat} (hk : k ≤ C.many) : sm k C.c ≤ 2 ^ n := by
 rw [← h.2.2.2]; exact sm_mono hk
def lenC (n : Nat) : Cnt := ⟨1, n, fun i => cL n (i + 1)⟩
theorem W_pos {m : Nat} (hm : 1 ≤ m) : ∀ k, 0 < W m k := by
 intro k
 induction k using Nat.strongRecOn with
 | _ k ih =>
  cases k with
  | zero => rw [W_zero]; decide
  | succ k =>
   rw [W_succ]
   have h : 0 < min m (k + 1) := by omega
   exact Nat.lt_of_lt_of_le (ih (k - 0) (by omega)) (sm_one (f := fun r => W m (k - r)) h)
theorem W_less {k n : Nat} (hk : k + 1 ≤ n) : W k n < W (k + 1) n := by
 obtain ⟨n, rfl⟩ : ∃ j, n = j + 1 := ⟨n - 1, by omega⟩
 rw [W_succ, W_succ, show min (k + 1) (n + 1) = k + 1 by omega, show min k (n + 1) = k by omega, sm]
 have h1 : sm k (fun r => W k (n - r)) ≤ sm k (fun r => W (k + 1) (n - r)) := sm_le fun i hi => W_mono k _
 have h2 := W_pos (m := k + 1) (by omega) (n - k)
 omega
theorem lenC_ok {n : Nat} (hn : 1 ≤ n) : (lenC n).ok n := by
 refine ⟨Nat.le_refl _, Nat.le_succ _, fun i hi => ?_, cL_all hn⟩
 show 0 < cL n (i + 1)
 have := W_less (k := i) (n := n) hi
 unfold cL
 rw [Nat.add_sub_cancel]; omega
end Go.Proofs.YtgipnbeipfhekaaGreatDoor.LvQ
namespace Go.Proofs.YtgipnbeipfhekaaGreatDoor.LvO
open Go.RowKit Go.Proofs.YtgipnbeipfhekaaGreatDoor Go.Proofs.YtgipnbeipfhekaaGreatDoor.Base Go.Proofs.YtgipnbeipfhekaaGreatDoor.Mem
set_option linter.unusedVariables false
def fl (n : Nat) (f : Nat → Nat) : List Int := (List.range n).map fun j => ((f j : Nat) : Int)
theorem fl_len (n : Nat) (f : Nat → Nat) : (fl n f).length = n := by simp [fl]
theorem fl_at {n i : Nat} (f : Nat → Nat) (h : i < n) : (fl n f).getD i 0 = ((f i : Nat) : Int) := by simp [fl, List.getD, h]
theorem fl_succ (n : Nat) (f : Nat → Nat) : fl (n + 1) f = fl n f ++ [((f n : Nat) : Int)] := by simp [fl, List.range_succ]
theorem pushI {wr w2 : World} {B : Nat} {v v' : Value} {xs : List Int} {x : Int} (hO : OwnI wr B v xs) (hB : B ≤ wr.heap.size)
  (hown : w2.ownsRow B 2 1 v' (xs.length + 1) (ints xs ++ [.int .i64 x])) : OwnI w2 B v' (xs ++ [x]) := by
 unfold OwnI
 rw [List.length_append, show ints (xs ++ [x]) = ints xs ++ [.int .i64 x] by simp [ints]]
 exact hown
theorem pushB {wr w1 w2 : World} {B n : Nat} {v : Value} {t : TypeId} {size : Nat} {xs : List Value} (hO : wr.ownsRow B t size v n xs) (hB : B ≤ wr.heap.size) (h1 : Below wr.heap.size wr w1) (hg : w1.grownBy w2 v.ownBlock) : Below B wr w2 :=
 (h1.mono hB).trans (grown_below hg (fun g e => (ownsRow_block hO e).choose_spec.2.1) (Nat.le_trans hB h1.size))
theorem storeI {w : World} {B n c0 g i : Nat} {l : List Int} (x : Int) (h : OwnI w B (.slice (some ⟨g, 0, none⟩) n c0) l) (hn : l.length = n) :
  OwnI (w.setCell ⟨g, i, none⟩ (.int .i64 x)) B (.slice (some ⟨g, 0, none⟩) n c0) (l.set i x) ∧ w.grownBy (w.setCell ⟨g, i, none⟩ (.int .i64 x)) (some g) := by
 subst hn
 unfold OwnI at *
 obtain ⟨h1, g1⟩ := h.stored i (.int .i64 x)
 rw [ints_set] at h1
 exact ⟨by rw [List.length_set]; exact h1, g1⟩
theorem nextI {w0 wr w1 w2 : World} {B n : Nat} {f : Nat → Nat} {v v' : Value} (hB : B ≤ wr.heap.size) (hO : OwnI wr B v (fl n f)) (hb : Below B w0 wr) (h1 : Below wr.heap.size wr w1)
  (hown : w2.ownsRow B 2 1 v' (n + 1) (ints (fl n f) ++ [.int .i64 ((f n : Nat) : Int)])) (hg : w1.grownBy w2 v.ownBlock) : OwnI w2 B v' (fl (n + 1) f) ∧ Below B w0 w2 := by
 refine ⟨?_, hb.trans (pushB hO hB h1 hg)⟩
 rw [fl_succ]
 exact pushI hO hB (by rw [fl_len]; exact hown)
theorem lit1 (w : World) {B : Nat} (hB : B ≤ w.heap.size) (f : Nat → Nat) {x : Int} (h : x = ((f 0 : Nat) : Int)) : OwnI (w.alloc (.cells #[.int .i64 x] 2)) B (.slice (some ⟨w.heap.size, 0, none⟩) 1 1) (fl 1 f) := by
 have h1 := own_lit w hB (fl 1 f) (by rw [fl_len]; decide)
 rw [show fl 1 f = [x] by rw [h]; rfl] at h1 ⊢
 exact h1
theorem lit0 (w : World) {B : Nat} (hB : B ≤ w.heap.size) (f : Nat → Nat) : OwnI (w.alloc (.cells #[] 2)) B (.slice (some ⟨w.heap.size, 0, none⟩) 0 0) (fl 0 f) := own_lit w hB [] (by decide)
theorem rdO {w : World} {B g n c : Nat} {f : Nat → Nat} (h : OwnI w B (.slice (some ⟨g, 0, none⟩) n c) (fl n f)) {i : Nat} (hi : i < n) : w.cell? ⟨g, i, none⟩ = some (.int .i64 ((f i : Nat) : Int)) ∧ w.frozen? ⟨g, i, none⟩ = false := by
 have h' : w.ownsRow B 2 1 (.slice (some ⟨g, 0, none⟩) (fl n f).length c) (fl n f).length (ints (fl n f)) := by
  have := h
  unfold OwnI at this
  rw [fl_len] at this ⊢
  exact this
 have e := World.ownsRow.cellAt h' i (by rw [fl_len]; omega)
 rw [ints_get _ i (by rw [fl_len]; exact hi), fl_at f hi] at e
 exact ⟨e, h'.frozenAt i⟩
end Go.Proofs.YtgipnbeipfhekaaGreatDoor.LvO
namespace Go.Proofs.YtgipnbeipfhekaaGreatDoor.Cuts
open Go.RowKit Go.Proofs.YtgipnbeipfhekaaGreatDoor Go.Proofs.YtgipnbeipfhekaaGreatDoor.Base Go.Proofs.YtgipnbeipfhekaaGreatDoor.Mem Go.Proofs.YtgipnbeipfhekaaGreatDoor.AllIn Go.Proofs.YtgipnbeipfhekaaGreatDoor.Pts Go.Proofs.YtgipnbeipfhekaaGreatDoor.RevNet Go.Proofs.YtgipnbeipfhekaaGreatDoor.Bits
set_option linter.unusedVariables false
end Go.Proofs.YtgipnbeipfhekaaGreatDoor.Cuts
namespace Go.Proofs.YtgipnbeipfhekaaGreatDoor.MemF
open Go.RowKit Go.Proofs.YtgipnbeipfhekaaGreatDoor Go.Proofs.YtgipnbeipfhekaaGreatDoor.Base Go.Proofs.YtgipnbeipfhekaaGreatDoor.Mem
set_option linter.unusedVariables false
def RdF (w : World) (B : Nat) (A : Option Addr) (n : Nat) (fs : List Int) : Prop :=
 0 < n → ∃ b off, A = some ⟨b, off, none⟩ ∧ b < B ∧ ∀ i, i < 2 * n → w.cell? ⟨b, off + i, none⟩ = some (.int .i64 (fs.getD i 0))
theorem RdF.below {w w' : World} {B C n : Nat} {A : Option Addr} {fs : List Int} (h : RdF w B A n fs) (hb : Below C w w') (hBC : B ≤ C) : RdF w' B A n fs := fun h0 => by
 obtain ⟨b, off, e, hlt, hc⟩ := h h0
 exact ⟨b, off, e, hlt, fun i hi => (hb.cell (p := ⟨b, off + i, none⟩) (by show b < C; omega)).trans (hc i hi)⟩
theorem RdF.more {w : World} {B C n : Nat} {A : Option Addr} {fs : List Int} (h : RdF w B A n fs) (hBC : B ≤ C) : RdF w C A n fs := fun h0 => by
 obtain ⟨b, off, e, hlt, hc⟩ := h h0
 exact ⟨b, off, e, by omega, hc⟩
def OwnF (w : World) (B : Nat) (v : Value) (n : Nat) (fs : List Int) : Prop := w.ownsRow B 49 2 v n (ints fs)
theorem OwnF.len {w : World} {B n : Nat} {v : Value} {fs : List Int} (h : OwnF w B v n fs) : fs.length = 2 * n := by
 have := h.1
 rw [ints_len] at this
 omega
theorem OwnF.form {w : World} {B n : Nat} {v : Value} {fs : List Int} (h : OwnF w B v n fs) : ∃ A c, v = .slice A n c ∧ (0 < n → ∃ g, A = some ⟨g, 0, none⟩ ∧ B ≤ g ∧ g < w.heap.size) := ownsRow_form h
theorem OwnF.rd {w : World} {B n m c : Nat} {A : Option Addr} {fs : List Int} (h : OwnF w B (.slice A m c) n fs) : RdF w w.heap.size A n fs := fun h0 => by
 obtain ⟨A', c', e, hf⟩ := ownsRow_form h
 injection e with e1 e2 e3
 subst e1 e2 e3
 obtain ⟨g, rfl, _, hlt⟩ := hf h0
 refine ⟨g, 0, rfl, hlt, fun i hi => ?_⟩
 have hl := h.len
 rw [Nat.zero_add, World.ownsRow.cellAt h i (by omega), ints_get fs i (by omega)]
theorem OwnF.below {w w' : World} {B n : Nat} {v : Value} {fs : List Int} (h : OwnF w B v n fs) (hb : Below w.heap.size w w') : OwnF w' B v n fs := ownsRow_below h hb
theorem RdF.at {w : World} {B n : Nat} {A : Option Addr} {fs : List Int} (h : RdF w B A n fs) {j : Nat} (hj : j < n) : ∃ b off, A = some ⟨b, off, none⟩ ∧ b < B ∧ w.cell? ⟨b, off + j * 2, none⟩ = some (.int .i64 (fs.getD (2 * j) 0)) ∧ w.cell? ⟨b, off + j * 2 + 1, none⟩ = some (.int .i64 (fs.getD (2 * j + 1) 0)) := by
 obtain ⟨b, off, e, hlt, hc⟩ := h (by omega)
 refine ⟨b, off, e, hlt, ?_, ?_⟩
 ·have := hc (2 * j) (by omega); rw [Nat.mul_comm j 2]; exact this
 ·have := hc (2 * j + 1) (by omega); rw [← Nat.add_assoc] at this; rw [Nat.mul_comm j 2]; exact this
theorem infoFr : (Tryz.prog.info? 49).map (fun i => (i.zero, i.size, i.bytes)) = some (some (.agg #[.int .i64 0, .int .i64 0]), 2, 16) := by kernel_rfl
theorem ones_two {a b : Int} : ∀ u ∈ [Value.int .i64 a, .int .i64 b], u.oneCell' = true := by
 intro u hu
 simp only [List.mem_cons, List.not_mem_nil, or_false] at hu
 rcases hu with rfl | rfl <;> rfl
def FsRet (N : Nat) (R : List Int) (ok : Bool) (w : World) (e : Ending) (w' : World) : Prop := ∃ A c, e = .returned (.tuple #[.slice A N c, .bool ok]) ∧ OwnF w' w.heap.size (.slice A N c) N R ∧ Below w.heap.size w w'
theorem FsRet.no {w w' : World} (h : Below w.heap.size w w') : FsRet 0 [] false w (.returned (.tuple #[.slice none 0 0, .bool false])) w' := ⟨none, 0, rfl, World.ownsRow_nil _ _ _ _, h⟩
end Go.Proofs.YtgipnbeipfhekaaGreatDoor.MemF
namespace Go.Proofs.YtgipnbeipfhekaaGreatDoor.GiveM
open Go.RowKit Go.Proofs.YtgipnbeipfhekaaGreatDoor Go.Proofs.YtgipnbeipfhekaaGreatDoor.Base Go.Proofs.YtgipnbeipfhekaaGreatDoor.Mem Go.Proofs.YtgipnbeipfhekaaGreatDoor.MemF Go.Proofs.YtgipnbeipfhekaaGreatDoor.RatM
set_option linter.unusedVariables false
def smallAll (f : Nat → Rat) (n : Nat) : Bool := (List.range n).all fun i => smallQ (f i)
def outF (f : Nat → Rat) : Nat → List Int
 | 0 => []
 | n + 1 => outF f n ++ [numQ (f n), denQ (f n)]
def gN (f : Nat → Rat) (n : Nat) : Nat := if smallAll f n then n else 0
def gR (f : Nat → Rat) (n : Nat) : List Int := if smallAll f n then outF f n else []
theorem small_no {f : Nat → Rat} {n i : Nat} (hi : i < n) (h : smallQ (f i) = false) : gN f n = 0 ∧ gR f n = [] ∧ smallAll f n = false := by
 have e : smallAll f n = false := by
  cases h' : smallAll f n with
  | false => rfl
  | true =>
   have := List.all_eq_true.1 h' i (List.mem_range.2 hi)
   rw [h] at this; cases this
 exact ⟨by rw [gN, e]; rfl, by rw [gR, e]; rfl, e⟩
end Go.Proofs.YtgipnbeipfhekaaGreatDoor.GiveM
set_option linter.unusedVariables false
namespace Go.Proofs.YtgipnbeipfhekaaGreatDoor.TwoM
end Go.Proofs.YtgipnbeipfhekaaGreatDoor.TwoM
namespace Go.Proofs.YtgipnbeipfhekaaGreatDoor.Two
open Go.RowKit Go.Proofs.YtgipnbeipfhekaaGreatDoor Go.Proofs.YtgipnbeipfhekaaGreatDoor.Base Go.Proofs.YtgipnbeipfhekaaGreatDoor.Mem Go.Proofs.YtgipnbeipfhekaaGreatDoor.TwoM Go.Proofs.YtgipnbeipfhekaaGreatDoor.Blk
set_option linter.unusedVariables false
def two (t : Nat) : Value := .agg #[.int .u64 ((t / 18446744073709551616 : Nat) : Int), .int .u64 ((t % 18446744073709551616 : Nat) : Int)]
theorem u64_or (a b : Nat) (ha : a < 18446744073709551616) (hb : b < 18446744073709551616) : bits .or .u64 (a : Int) (b : Int) = ((a ||| b : Nat) : Int) := by
 have hx : a ||| b < 2 ^ 64 := Nat.or_lt_two_pow (by omega) (by omega)
 have e : ∀ z : Nat, z < 18446744073709551616 → (BitVec.ofInt 64 (z : Int)).toNat = z := fun z hz => by
  rw [BitVec.ofInt_natCast, BitVec.toNat_ofNat]; exact Nat.mod_eq_of_lt (by omega)
 show IntKind.u64.wrap ((BitVec.ofInt 64 (a : Int) ||| BitVec.ofInt 64 (b : Int)).toNat : Int) = _
 rw [BitVec.toNat_or, e a ha, e b hb, IntKind.wrap_u64]
 omega
end Go.Proofs.YtgipnbeipfhekaaGreatDoor.Two
namespace Go.Proofs.YtgipnbeipfhekaaGreatDoor.Two
open Go.RowKit Go.Proofs.YtgipnbeipfhekaaGreatDoor Go.Proofs.YtgipnbeipfhekaaGreatDoor.Base Go.Proofs.YtgipnbeipfhekaaGreatDoor.Mem Go.Proofs.YtgipnbeipfhekaaGreatDoor.TwoM Go.Proofs.YtgipnbeipfhekaaGreatDoor.Blk
set_option linter.unusedVariables false
end Go.Proofs.YtgipnbeipfhekaaGreatDoor.Two
namespace Go.Proofs.YtgipnbeipfhekaaGreatDoor.Two
open Go.RowKit Go.Proofs.YtgipnbeipfhekaaGreatDoor Go.Proofs.YtgipnbeipfhekaaGreatDoor.Base Go.Proofs.YtgipnbeipfhekaaGreatDoor.Mem Go.Proofs.YtgipnbeipfhekaaGreatDoor.TwoM Go.Proofs.YtgipnbeipfhekaaGreatDoor.Blk
set_option linter.unusedVariables false
end Go.Proofs.YtgipnbeipfhekaaGreatDoor.Two
namespace Go.Proofs.YtgipnbeipfhekaaGreatDoor.Fine
open Go.RowKit Go.Proofs.YtgipnbeipfhekaaGreatDoor Go.Proofs.YtgipnbeipfhekaaGreatDoor.Base Go.Proofs.YtgipnbeipfhekaaGreatDoor.Mem Go.Proofs.YtgipnbeipfhekaaGreatDoor.RatM Go.Proofs.YtgipnbeipfhekaaGreatDoor.Two Go.Proofs.YtgipnbeipfhekaaGreatDoor.Blk
set_option linter.unusedVariables false
end Go.Proofs.YtgipnbeipfhekaaGreatDoor.Fine
namespace Go.Proofs.YtgipnbeipfhekaaGreatDoor.LvT
open Go.RowKit Go.Proofs.YtgipnbeipfhekaaGreatDoor Go.Proofs.YtgipnbeipfhekaaGreatDoor.Base Go.Proofs.YtgipnbeipfhekaaGreatDoor.Mem Go.Proofs.YtgipnbeipfhekaaGreatDoor.MemF Go.Proofs.YtgipnbeipfhekaaGreatDoor.GiveM Go.Proofs.YtgipnbeipfhekaaGreatDoor.RatM Go.Proofs.YtgipnbeipfhekaaGreatDoor.LvM Go.Proofs.YtgipnbeipfhekaaGreatDoor.LvQ Go.Proofs.YtgipnbeipfhekaaGreatDoor.LvO Go.Proofs.YtgipnbeipfhekaaGreatDoor.Blk
set_option linter.unusedVariables false
def fD (C : Cnt) (n : Nat) (i : Nat) : Rat := dy n (C.c i)
def vD (C : Cnt) (i : Nat) : Nat := C.first + i
def LawIs (C : Cnt) (n : Nat) (w : World) (v : Value) : Prop := ∃ A c A' c', v = .agg #[.slice A C.many c, .slice A' C.many c'] ∧ RdI w w.heap.size A (fl C.many (vD C)) ∧ RdF w w.heap.size A' C.many (outF (fD C n) C.many)
def LawOwn (C : Cnt) (n B : Nat) (w : World) (v : Value) : Prop := ∃ A c A' c', v = .agg #[.slice A C.many c, .slice A' C.many c'] ∧ OwnI w B (.slice A C.many c) (fl C.many (vD C)) ∧ OwnF w B (.slice A' C.many c') C.many (outF (fD C n) C.many)
theorem LawOwn.is {C : Cnt} {n B : Nat} {w : World} {v : Value} (h : LawOwn C n B w v) : LawIs C n w v := by
 obtain ⟨A, c, A', c', e, h1, h2⟩ := h
 exact ⟨A, c, A', c', e, h1.rd, h2.rd⟩
def LawRet (C : Cnt) (n : Nat) (w : World) (e : Ending) (w' : World) : Prop := ∃ v, e = .returned v ∧ LawOwn C n w.heap.size w' v ∧ Below w.heap.size w w'
theorem LawRet.put {C : Cnt} {n B : Nat} {w wp : World} {A1 A2 : Option Addr} {c1 c2 : Nat} (h1 : OwnI wp B (.slice A1 C.many c1) (fl C.many (vD C))) (h2 : OwnF wp B (.slice A2 C.many c2) C.many (outF (fD C n) C.many)) (hB : w.heap.size < B) (hb : Below w.heap.size w wp) :
  LawRet C n w (.returned (.agg #[.slice A1 C.many c1, .slice A2 C.many c2])) ((wp.setCell ⟨w.heap.size, 0, none⟩ (.slice A1 C.many c1)).setCell ⟨w.heap.size, 1, none⟩ (.slice A2 C.many c2)) := by
 refine ⟨_, rfl, ⟨A1, c1, A2, c2, rfl, ?_, ?_⟩, (hb.setCell (p := ⟨w.heap.size, 0, none⟩) (Nat.le_refl _) _).setCell (p := ⟨w.heap.size, 1, none⟩) (Nat.le_refl _) _⟩
 ·exact ownsRow_base (ownsRow_setCell_below (ownsRow_setCell_below h1 (a := ⟨w.heap.size, 0, none⟩) hB (.slice A1 C.many c1)) (a := ⟨w.heap.size, 1, none⟩) hB (.slice A2 C.many c2)) (by omega)
 ·exact ownsRow_base (ownsRow_setCell_below (ownsRow_setCell_below h2 (a := ⟨w.heap.size, 0, none⟩) hB (.slice A1 C.many c1)) (a := ⟨w.heap.size, 1, none⟩) hB (.slice A2 C.many c2)) (by omega)
theorem LawIs.below {C : Cnt} {n : Nat} {w w' : World} {v : Value} (h : LawIs C n w v) (hb : Below w.heap.size w w') : LawIs C n w' v := by
 obtain ⟨A, c, A', c', e, h1, h2⟩ := h
 exact ⟨A, c, A', c', e, (h1.below hb (Nat.le_refl _)).more hb.size, (h2.below hb (Nat.le_refl _)).more hb.size⟩
theorem rowKept {w w' : World} {B B' n n' size size' : Nat} {e e' : TypeId} {v v' : Value} {xs xs' : List Value} (h : w.ownsRow B e size v n xs) (h' : w.ownsRow B' e' size' v' n' xs') (he : e ≠ e') (hg : w.grownBy w' v'.ownBlock) : w'.ownsRow B e size v n xs := by
 refine World.ownsRow.kept h hg ?_
 cases hb : v.ownBlock with
 | none => exact .inl rfl
 | some g =>
  refine .inr fun hh => ?_
  obtain ⟨cur, h1, _⟩ := ownsRow_block h hb
  obtain ⟨cur', h2, _⟩ := ownsRow_block h' hh.symm
  rw [h1] at h2
  injection h2 with h2
  injection h2 with _ h3
  exact he h3
theorem pushFr {w2 : World} {B k : Nat} {v' : Value} {f : Nat → Rat} (hown : w2.ownsRow B 49 2 v' (k + 1) (ints (outF f k) ++ [.int .i64 (numQ (f k)), .int .i64 (denQ (f k))])) : OwnF w2 B v' (k + 1) (outF f (k + 1)) := by
 show w2.ownsRow B 49 2 v' (k + 1) (ints (outF f (k + 1)))
 rw [outF, show ints (outF f k ++ [numQ (f k), denQ (f k)]) = ints (outF f k) ++ [.int .i64 (numQ (f k)), .int .i64 (denQ (f k))] by simp [ints]]
 exact hown
end Go.Proofs.YtgipnbeipfhekaaGreatDoor.LvT
namespace Go.Proofs.YtgipnbeipfhekaaGreatDoor.BigM
set_option linter.unusedVariables false
def D30 : Nat := 1073741824
def val : List Nat → Nat
 | [] => 0
 | x :: xs => x + D30 * val xs
def okN (xs : List Nat) : Prop := ∀ x ∈ xs, x < D30
theorem val_append : ∀ (xs ys : List Nat), val (xs ++ ys) = val xs + D30 ^ xs.length * val ys
 | [], ys => by simp [val]
 | x :: xs, ys => by
  rw [List.cons_append, val, val, val_append xs ys, List.length_cons, Nat.pow_succ, Nat.mul_add, ← Nat.mul_assoc, Nat.mul_comm D30 (D30 ^ xs.length), Nat.add_assoc]
theorem val_lt : ∀ (xs : List Nat), okN xs → val xs < D30 ^ xs.length
 | [], _ => by simp [val]
 | x :: xs, h => by
  have h1 := val_lt xs fun y hy => h y (by simp [hy])
  have h2 := h x (by simp)
  rw [val, List.length_cons, Nat.pow_succ, Nat.mul_comm (D30 ^ xs.length)]
  have h3 : val xs + 1 ≤ D30 ^ xs.length := h1
  have h4 := Nat.mul_le_mul_left D30 h3
  rw [Nat.mul_add] at h4
  omega
def bigL (x : Nat) : List Nat := if h : x = 0 then [] else x % D30 :: bigL (x / D30)
termination_by x
decreasing_by exact Nat.div_lt_self (Nat.pos_of_ne_zero h) (by decide)
theorem bigL_zero : bigL 0 = [] := by rw [bigL]; simp
theorem bigL_pos {x : Nat} (h : x ≠ 0) : bigL x = x % D30 :: bigL (x / D30) := by
 conv => lhs; rw [bigL]
 simp [h]
theorem bigL_val (x : Nat) : val (bigL x) = x := by
 induction x using Nat.strongRecOn with
 | _ x ih =>
  by_cases h : x = 0
  ·subst h; rw [bigL_zero]; rfl
  ·rw [bigL_pos h, val, ih (x / D30) (Nat.div_lt_self (Nat.pos_of_ne_zero h) (by decide))]
   exact Nat.mod_add_div x D30
def canon (xs : List Nat) : Prop := okN xs ∧ ∀ n, xs.length = n + 1 → xs.getD n 0 ≠ 0
theorem okN_cons {x : Nat} {xs : List Nat} (h : okN (x :: xs)) : okN xs := fun y hy => h y (by simp [hy])
theorem canon_bigL : ∀ {xs : List Nat}, canon xs → bigL (val xs) = xs
 | [], _ => bigL_zero
 | x :: xs, h => by
  have hx := h.1 x (by simp)
  have hc : canon xs := ⟨okN_cons h.1, fun n hn => by have := h.2 (n + 1) (by simp [hn]); simpa [List.getD] using this⟩
  have hne : val (x :: xs) ≠ 0 := by
   intro h0
   rw [val] at h0
   rcases xs with _ | ⟨y, ys⟩
   ·have := h.2 0 rfl
    simp [List.getD] at this
    omega
   ·have hy : val (y :: ys) = 0 := by
     have : D30 * val (y :: ys) = 0 := by omega
     rcases Nat.mul_eq_zero.1 this with h1 | h1
     ·exact absurd h1 (by decide)
     ·exact h1
    have e := canon_bigL hc
    rw [hy, bigL_zero] at e
    cases e
  rw [bigL_pos hne]
  have hm : val (x :: xs) % D30 = x := by rw [val, Nat.add_mul_mod_self_left, Nat.mod_eq_of_lt hx]
  have hd : val (x :: xs) / D30 = val xs := by rw [val, Nat.add_mul_div_left _ _ (by decide : 0 < D30), Nat.div_eq_of_lt hx, Nat.zero_add]
  rw [hm, hd, canon_bigL hc]
theorem okN_take {xs : List Nat} (h : okN xs) (n : Nat) : okN (xs.take n) := fun y hy => h y (List.mem_of_mem_take hy)
theorem val_snoc (xs : List Nat) (y : Nat) : val (xs ++ [y]) = val xs + D30 ^ xs.length * y := by
 rw [val_append]; simp [val]
theorem val_take_succ (xs : List Nat) (k : Nat) (h : k < xs.length) : val (xs.take (k + 1)) = val (xs.take k) + D30 ^ k * xs.getD k 0 := by
 rw [List.take_succ_eq_append_getElem h, val_snoc, List.length_take, Nat.min_eq_left (Nat.le_of_lt h)]
 simp [List.getD, h]
theorem trim_done {xs : List Nat} {n : Nat} (hok : okN xs) (hn : n ≤ xs.length) (hv : val (xs.take n) = val xs) (hl : n = 0 ∨ xs.getD (n - 1) 0 ≠ 0) : xs.take n = bigL (val xs) := by
 rw [← hv]
 refine (canon_bigL ⟨okN_take hok n, fun m hm => ?_⟩).symm
 rw [List.length_take, Nat.min_eq_left hn] at hm
 rcases hl with h0 | h0
 ·omega
 ·have e : n - 1 = m := by omega
  rw [e] at h0
  have : (xs.take n).getD m 0 = xs.getD m 0 := by simp [List.getD, show m < n by omega]
  rw [this]; exact h0
theorem trim_step {xs : List Nat} {n : Nat} (hn : n + 1 ≤ xs.length) (hv : val (xs.take (n + 1)) = val xs) (h0 : xs.getD n 0 = 0) : val (xs.take n) = val xs := by
 rw [val_take_succ xs n (by omega), h0] at hv
 omega
theorem val_cmp {xs ys : List Nat} (hl : xs.length = ys.length) (hx : okN xs) (hy : okN ys) : ∀ (n : Nat), n ≤ xs.length → (∀ j, n ≤ j → j < xs.length → xs.getD j 0 = ys.getD j 0) → (val xs < val ys ↔ val (xs.take n) < val (ys.take n)) ∧ (val xs = val ys ↔ val (xs.take n) = val (ys.take n)) := by
 intro n hn
 obtain ⟨d, hd⟩ : ∃ d, xs.length = n + d := ⟨xs.length - n, by omega⟩
 induction d generalizing n with
 | zero =>
  intro _
  rw [List.take_of_length_le (by omega), List.take_of_length_le (by omega)]
  exact ⟨Iff.rfl, Iff.rfl⟩
 | succ d ih =>
  intro he
  have h1 := ih (n + 1) (by omega) (by omega) (fun j hj hj2 => he j (by omega) hj2)
  have e := he n (Nat.le_refl _) (by omega)
  rw [val_take_succ xs n (by omega), val_take_succ ys n (by omega), e] at h1
  refine ⟨h1.1.trans ?_, h1.2.trans ?_⟩ <;> omega
theorem cmp_lt {xs ys : List Nat} (hl : xs.length = ys.length) (hx : okN xs) (hy : okN ys) {n : Nat} (hn : n < xs.length) (he : ∀ j, n + 1 ≤ j → j < xs.length → xs.getD j 0 = ys.getD j 0) (h : xs.getD n 0 < ys.getD n 0) : val xs < val ys := by
 refine (val_cmp hl hx hy (n + 1) (by omega) he).1.2 ?_
 rw [val_take_succ xs n hn, val_take_succ ys n (by omega)]
 have h1 := val_lt _ (okN_take hx n)
 rw [List.length_take, Nat.min_eq_left (by omega)] at h1
 have h2 := Nat.mul_le_mul_left (D30 ^ n) (show xs.getD n 0 + 1 ≤ ys.getD n 0 from h)
 rw [Nat.mul_add, Nat.mul_one] at h2
 omega
theorem val_take_any (ys : List Nat) (i : Nat) : val (ys.take (i + 1)) = val (ys.take i) + D30 ^ i * ys.getD i 0 := by
 rcases Nat.lt_or_ge i ys.length with h | h
 ·exact val_take_succ ys i h
 ·rw [List.take_of_length_le (by omega), List.take_of_length_le h]
  have : ys.getD i 0 = 0 := by simp [List.getD, h]
  rw [this]; simp
theorem sub_step {i vo vy vx b b' D x y : Nat} (h : vo + vy = vx + D30 ^ i * b) (hD : D + y + b = x + D30 * b') :
  (vo + D30 ^ i * D) + (vy + D30 ^ i * y) = (vx + D30 ^ i * x) + D30 ^ (i + 1) * b' := by
 have e : D30 ^ i * D + D30 ^ i * y + D30 ^ i * b = D30 ^ i * x + D30 ^ (i + 1) * b' := by
  rw [← Nat.mul_add, ← Nat.mul_add, hD, Nat.mul_add, Nat.pow_succ, Nat.mul_assoc]
 omega
theorem val_setw : ∀ (l : List Nat) (j d : Nat), j < l.length → val (l.set j d) + D30 ^ j * l.getD j 0 = val l + D30 ^ j * d
 | [], j, d, h => by simp at h
 | x :: l, 0, d, _ => by simp [val]; omega
 | x :: l, j + 1, d, h => by
  have ih := val_setw l j d (by simpa using h)
  rw [List.set_cons_succ, val, val, show (x :: l).getD (j + 1) 0 = l.getD j 0 by simp [List.getD]]
  have e : D30 ^ (j + 1) = D30 * D30 ^ j := by rw [Nat.pow_succ, Nat.mul_comm]
  rw [e, Nat.mul_assoc, Nat.mul_assoc]
  have := congrArg (D30 * ·) ih
  simp only [Nat.mul_add] at this
  omega
theorem okN_setw {l : List Nat} {j d : Nat} (h : okN l) (hd : d < D30) : okN (l.set j d) := fun y hy => by
 rcases List.mem_or_eq_of_mem_set hy with hy | rfl
 ·exact h y hy
 ·exact hd
theorem getD_set_ne {l : List Nat} {i j d : Nat} (h : i ≠ j) : (l.set i d).getD j 0 = l.getD j 0 := by
 simp [List.getD, h]
theorem okN_at {l : List Nat} (h : okN l) (j : Nat) : l.getD j 0 < D30 := by
 rcases Nat.lt_or_ge j l.length with hl | hl
 ·exact h _ (by simp [List.getD, hl])
 ·rw [show l.getD j 0 = 0 by simp [List.getD, hl]]; decide
theorem mul_step {i k vz vz' C V0 x y o vy S : Nat} (h : vz + D30 ^ (i + k) * C = V0 + x * D30 ^ i * vy) (hS : S = C + (o + x * y)) (hset : vz' + D30 ^ (i + k) * o = vz + D30 ^ (i + k) * (S % D30)) :
  vz' + D30 ^ (i + (k + 1)) * (S / D30) = V0 + x * D30 ^ i * (vy + D30 ^ k * y) := by
 have h1 := Nat.mod_add_div S D30
 have e1 : D30 ^ (i + (k + 1)) = D30 ^ (i + k) * D30 := by rw [← Nat.add_assoc, Nat.pow_succ]
 have e2 : D30 ^ (i + k) * S = D30 ^ (i + k) * (S % D30) + D30 ^ (i + k) * D30 * (S / D30) := by rw [Nat.mul_assoc, ← Nat.mul_add, h1]
 have e3 : D30 ^ (i + k) * S = D30 ^ (i + k) * C + (D30 ^ (i + k) * o + D30 ^ (i + k) * (x * y)) := by rw [hS, Nat.mul_add, Nat.mul_add]
 have e4 : x * D30 ^ i * (D30 ^ k * y) = D30 ^ (i + k) * (x * y) := by
  rw [Nat.pow_add]
  simp only [Nat.mul_assoc, Nat.mul_left_comm, Nat.mul_comm]
 rw [e1, Nat.mul_add, e4]
 omega
theorem val_set (ys : List Nat) (i x : Nat) (h : i < ys.length) : val ((ys.set i x).take (i + 1)) = val (ys.take i) + D30 ^ i * x := by
 rw [val_take_succ _ i (by rw [List.length_set]; exact h)]
 have e1 : (ys.set i x).take i = ys.take i := by rw [List.take_set, List.set_eq_of_length_le (by rw [List.length_take]; omega)]
 rw [e1]
 simp [List.getD, h]
theorem okN_set {ys : List Nat} {i x : Nat} (h : i < ys.length) (ho : okN (ys.take i)) (hx : x < D30) : okN ((ys.set i x).take (i + 1)) := by
 have e : (ys.set i x).take (i + 1) = ys.take i ++ [x] := by
  rw [List.take_succ_eq_append_getElem (by rw [List.length_set]; exact h)]
  rw [List.take_set, List.set_eq_of_length_le (by rw [List.length_take]; omega)]
  simp
 rw [e]
 intro y hy
 rcases List.mem_append.1 hy with hy | hy
 ·exact ho y hy
 ·simp only [List.mem_singleton] at hy; rw [hy]; exact hx
theorem val_zeros : ∀ n : Nat, val (List.replicate n 0) = 0
 | 0 => rfl
 | n + 1 => by rw [List.replicate_succ, val, val_zeros n]; rfl
theorem okN_drop {xs : List Nat} (h : okN xs) (k : Nat) : okN (xs.drop k) := fun y hy => h y (List.mem_of_mem_drop hy)
theorem okN_zeros (n : Nat) : okN (List.replicate n 0) := fun y hy => by rw [(List.mem_replicate.1 hy).2]; decide
theorem okN_append {xs ys : List Nat} (h : okN xs) (h' : okN ys) : okN (xs ++ ys) := fun y hy => by
 rcases List.mem_append.1 hy with hy | hy
 ·exact h y hy
 ·exact h' y hy
theorem len_pos {q : Nat} (h : 0 < q) : 0 < (bigL q).length := by
 rcases Nat.eq_zero_or_pos (bigL q).length with h0 | h0
 ·have := bigL_val q
  rw [List.length_eq_zero_iff.1 h0, val] at this
  omega
 ·exact h0
end Go.Proofs.YtgipnbeipfhekaaGreatDoor.BigM
namespace Go.Proofs.YtgipnbeipfhekaaGreatDoor.Big
open Go.RowKit Go.Proofs.YtgipnbeipfhekaaGreatDoor Go.Proofs.YtgipnbeipfhekaaGreatDoor.Base Go.Proofs.YtgipnbeipfhekaaGreatDoor.Mem Go.Proofs.YtgipnbeipfhekaaGreatDoor.BigM
set_option linter.unusedVariables false
def zs (xs : List Nat) : List Int := xs.map Int.ofNat
theorem zs_len (xs : List Nat) : (zs xs).length = xs.length := by simp [zs]
theorem zs_get (xs : List Nat) (i : Nat) : (zs xs).getD i 0 = ((xs.getD i 0 : Nat) : Int) := by
 simp only [zs, List.getD_eq_getElem?_getD, List.getElem?_map]
 cases xs[i]? <;> rfl
theorem zs_snoc (xs : List Nat) (d : Nat) : ints (zs xs) ++ [.int .i64 (d : Int)] = ints (zs (xs ++ [d])) := by simp [zs, ints]
def Dig (w : World) (B : Nat) (v : Value) (xs : List Nat) : Prop := w.ownsRow B 2 1 v xs.length (ints (zs xs))
def IsB (w : World) (x : Nat) (v : Value) : Prop := Dig w 0 v (bigL x)
theorem Dig.form {w : World} {B : Nat} {v : Value} {xs : List Nat} (h : Dig w B v xs) : ∃ A c, v = .slice A xs.length c ∧ (0 < xs.length → ∃ g, A = some ⟨g, 0, none⟩ ∧ B ≤ g ∧ g < w.heap.size) := ownsRow_form h
theorem Dig.below {w w' : World} {B : Nat} {v : Value} {xs : List Nat} (h : Dig w B v xs) (hb : Below w.heap.size w w') : Dig w' B v xs := ownsRow_below h hb
theorem Dig.base {w : World} {B B' : Nat} {v : Value} {xs : List Nat} (h : Dig w B v xs) (hb : B' ≤ B) : Dig w B' v xs := ownsRow_base h hb
theorem Dig.cell {w : World} {B n c : Nat} {A : Option Addr} {xs : List Nat} (h : Dig w B (.slice A n c) xs) {i : Nat} (hi : i < xs.length) : ∃ g, A = some ⟨g, 0, none⟩ ∧ B ≤ g ∧ g < w.heap.size ∧ w.cell? ⟨g, i, none⟩ = some (.int .i64 ((xs.getD i 0 : Nat) : Int)) := by
 obtain ⟨A', c', e, hf⟩ := h.form
 injection e with e1 e2 e3
 subst e1 e2 e3
 obtain ⟨g, rfl, h1, h2⟩ := hf (by omega)
 refine ⟨g, rfl, h1, h2, ?_⟩
 rw [World.ownsRow.cellAt h i (by omega), ints_get _ i (by rw [zs_len]; exact hi), zs_get]
theorem Dig.take {w : World} {B n c : Nat} {A : Option Addr} {xs : List Nat} (h : Dig w B (.slice A n c) xs) {k : Nat} (hk : k ≤ xs.length) : Dig w B (.slice A k c) (xs.take k) := by
 obtain ⟨A', c', e, hf⟩ := h.form
 injection e with e1 e2 e3
 subst e1 e2 e3
 unfold Dig at h ⊢
 rw [List.length_take, Nat.min_eq_left hk]
 refine ⟨by rw [ints_len, zs_len, List.length_take, Nat.min_eq_left hk, Nat.mul_one], ?_⟩
 rcases h.2 with ⟨h0, h1⟩ | ⟨g, cap, cur, e, h1, hh, h2⟩
 ·injection h0 with e1 e2 e3
  subst e1 e3
  have : k = 0 := by omega
  subst this
  refine .inl ⟨rfl, ?_⟩
  first | rfl | omega
 ·injection e with e1 e2 e3
  subst e1 e3
  refine .inr ⟨g, c, cur, rfl, h1, hh, by omega, h2.2.1, h2.2.2.1, ?_⟩
  have h3 := h2.2.2.2
  simp only [Nat.mul_one] at h3 ⊢
  have h4 := congrArg (List.take k) h3
  rw [List.take_take, Nat.min_eq_left hk] at h4
  rw [h4]
  simp only [zs, ints, List.map_take]
theorem IsB.below {w w' : World} {x : Nat} {v : Value} (h : IsB w x v) (hb : Below w.heap.size w w') : IsB w' x v := Dig.below h hb
theorem Dig.push {w wr w3 : World} {v v' : Value} {ys : List Nat} {d : Nat} {cs : Array Value} {t : TypeId} (hO : Dig wr w.heap.size v ys) (hb : Below w.heap.size w wr)
  (hown : w3.ownsRow w.heap.size 2 1 v' (ys.length + 1) (ints (zs ys) ++ [.int .i64 (d : Int)])) (hg : (wr.alloc (.cells cs t)).grownBy w3 v.ownBlock) : Dig w3 w.heap.size v' (ys ++ [d]) ∧ Below w.heap.size w w3 := by
 refine ⟨?_, ?_⟩
 ·unfold Dig
  rw [List.length_append, List.length_singleton, ← zs_snoc]
  exact hown
 ·exact (hb.alloc hb.size _).trans (grown_below hg (fun g e => by
   obtain ⟨_, _, h1, _⟩ := ownsRow_block hO e
   exact h1) (by simp; have := hb.size; omega))
end Go.Proofs.YtgipnbeipfhekaaGreatDoor.Big
namespace Go.Proofs.YtgipnbeipfhekaaGreatDoor.Fine
open Go.RowKit Go.Proofs.YtgipnbeipfhekaaGreatDoor Go.Proofs.YtgipnbeipfhekaaGreatDoor.Base Go.Proofs.YtgipnbeipfhekaaGreatDoor.Mem Go.Proofs.YtgipnbeipfhekaaGreatDoor.RatM Go.Proofs.YtgipnbeipfhekaaGreatDoor.Two Go.Proofs.YtgipnbeipfhekaaGreatDoor.Blk
set_option linter.unusedVariables false
end Go.Proofs.YtgipnbeipfhekaaGreatDoor.Fine
