/- A register after many steps: the reference's powers of x. -/
import Derived.Test.YthagenodiofgnaaGreatDoorMgFnD07
namespace Go.Proofs.YthagenodiofgnaaGreatDoor.Jump
open Go.RowKit Go.Proofs.YthagenodiofgnaaGreatDoor Go.Proofs.YthagenodiofgnaaGreatDoor.Base Go.Proofs.YthagenodiofgnaaGreatDoor.Poly
set_option linter.unusedVariables false
theorem nextR_bit {W T x i : Nat} (hi : i + 1 < W) : (Reg.nextR W T x).testBit i = x.testBit (i + 1) := by
 unfold Reg.nextR
 rw [if_neg (by omega), Nat.testBit_or, Nat.testBit_mul_two_pow, Nat.testBit_succ]
 simp; omega
theorem nextR_top {W T x : Nat} (hx : x < 2 ^ W) (hW : 1 ≤ W) : (Reg.nextR W T x).testBit (W - 1) = (PopM.par (x &&& T) == 1) := by
 unfold Reg.nextR
 have h1 : (x / 2).testBit (W - 1) = false := by
  rw [← Nat.testBit_succ]; exact Nat.testBit_lt_two_pow (by rw [show (W - 1).succ = W by omega]; exact hx)
 rw [if_neg (by omega), Nat.testBit_or, Nat.testBit_mul_two_pow, h1]
 have := PopM.par_lt (x &&& T)
 generalize PopM.par (x &&& T) = b at *
 match b, this with
 | 0, _ => simp
 | 1, _ => simp
theorem bits_sq {W T x : Nat} : ∀ i n, i < W → (CycM.iter (Reg.nextR W T) x n).testBit i = sq (Reg.nextR W T) x (n + i)
 | 0, n, _ => rfl
 | i + 1, n, h => by
  rw [← nextR_bit (W := W) (T := T) h, ← CycM.iter_succ (Reg.nextR W T) x n, bits_sq i (n + 1) (by omega), show n + 1 + i = n + (i + 1) by omega]
theorem poly_split {W T : Nat} (hT : T < 2 ^ W) : 2 ^ W ||| T = T ^^^ (1 <<< W) := by
 apply Nat.eq_of_testBit_eq
 intro i
 rw [Nat.testBit_or, Nat.testBit_xor, Nat.testBit_shiftLeft, Nat.testBit_two_pow]
 by_cases h : W = i
 ·subst h
  simp [Nat.testBit_lt_two_pow hT]
 ·have : (decide (W ≤ i) && Nat.testBit 1 (i - W)) = false := by
   by_cases h2 : W ≤ i
   ·rw [show i - W = (i - W - 1) + 1 by omega, Nat.testBit_succ]; simp
   ·simp [h2]
  rw [this]; simp [h]
theorem lrs_sq {W T x : Nat} (hW : W ≤ 16) (hT : T < 2 ^ W) (hx : x < 2 ^ W) : Lrs (2 ^ W ||| T) (sq (Reg.nextR W T) x) := fun k => by
 have hlt := CycM.iter_lt (T := Reg.nextR W T) (M := 2 ^ W) (fun s hs => Reg.nextR_lt hs) hx k
 have e1 : ev (fun i => sq (Reg.nextR W T) x (k + i)) 64 (1 <<< W) = sq (Reg.nextR W T) x (k + W) := by
  have h1 : 1 <<< W < 2 ^ (W + 1) := by rw [Nat.shiftLeft_eq, Nat.pow_succ]; have := Nat.two_pow_pos W; omega
  rw [ev_fuel _ h1 (by omega), ev_shift]
  simp [ev]
 rw [poly_split hT, ev_xor, e1, ev_fuel _ hT (by omega)]
 by_cases h0 : W = 0
 ·subst h0
  have e2 : sq (Reg.nextR 0 T) x k = false := by
   unfold sq
   rw [show CycM.iter (Reg.nextR 0 T) x k = 0 by simpa using hlt]; rfl
  simp [ev, e2]
 ·rw [ev_congr (t := fun i => (CycM.iter (Reg.nextR W T) x k).testBit i) T W (fun i hi => (bits_sq i k hi).symm), ← par_and (by omega) hT, Nat.and_comm, ← nextR_top hlt (by omega), ← CycM.iter_succ (Reg.nextR W T) x k, bits_sq (W - 1) (k + 1) (by omega),
   show k + 1 + (W - 1) = k + W by omega]
  simp
theorem rep_bit {W T x n i R : Nat} (hW : W ≤ 16) (hT : T < 2 ^ W) (hx : x < 2 ^ W) (hi : i < W) (hR : R < 2 ^ W) (h : Rep (2 ^ W ||| T) R (n + i)) :
  PopM.par (R &&& x) = ((CycM.iter (Reg.nextR W T) x n).testBit i).toNat := by
 have h1 := par_and (x := x) (show W ≤ 63 by omega) hR
 rw [ev_congr (t := sq (Reg.nextR W T) x) R W (fun j hj => by have := bits_sq (W := W) (T := T) (x := x) j 0 hj; rw [Nat.zero_add] at this; exact this), ← ev_fuel _ hR (show W ≤ 64 by omega), h _ (lrs_sq hW hT hx), ← bits_sq i n hi] at h1
 have := PopM.par_lt (R &&& x)
 generalize PopM.par (R &&& x) = b at *
 rw [← h1]
 match b, this with
 | 0, _ => rfl
 | 1, _ => rfl
theorem low_succ (X i : Nat) : X % 2 ^ i ||| (X.testBit i).toNat * 2 ^ i = X % 2 ^ (i + 1) := by
 apply Nat.eq_of_testBit_eq
 intro j
 rw [Nat.testBit_or, Nat.testBit_mod_two_pow, Nat.testBit_mod_two_pow, Nat.testBit_mul_two_pow]
 rcases Nat.lt_trichotomy j i with h | h | h
 ·simp [h, show j < i + 1 by omega, show ¬ i ≤ j by omega]
 ·subst h
  cases X.testBit j <;> simp
 ·have : (X.testBit i).toNat.testBit (j - i) = false := by
   rw [show j - i = (j - i - 1) + 1 by omega, Nat.testBit_succ]
   cases X.testBit i <;> simp
  simp [this, show ¬ j < i by omega, show ¬ j < i + 1 by omega]
def bl (p : Nat) : Nat := if p = 0 then 0 else p.log2 + 1
theorem bl_lt (p : Nat) : p < 2 ^ bl p := by
 unfold bl
 split
 ·subst_vars; decide
 ·exact Nat.lt_log2_self
theorem bl_ge {p : Nat} (h : p ≠ 0) : 2 ^ (bl p - 1) ≤ p := by
 unfold bl
 rw [if_neg h]
 exact Nat.log2_self_le h
theorem bl_le {p k : Nat} (h : p < 2 ^ k) : bl p ≤ k := by
 by_cases h0 : p = 0
 ·subst h0; simp [bl]
 ·have := bl_ge h0
  have h2 : 2 ^ (bl p - 1) < 2 ^ k := by omega
  have := (Nat.pow_lt_pow_iff_right (by decide : 1 < 2)).1 h2
  omega
theorem bl_pos {p : Nat} (h : p ≠ 0) : 1 ≤ bl p := by unfold bl; rw [if_neg h]; omega
theorem bl_half {p : Nat} (h : p ≠ 0) : bl (p / 2) + 1 = bl p := by
 have h1 := bl_lt p
 have h2 := bl_ge h
 have h3 := bl_pos h
 have h4 := bl_lt (p / 2)
 have a1 : bl (p / 2) ≤ bl p - 1 := bl_le (by
  have : 2 ^ bl p = 2 ^ (bl p - 1) * 2 := by rw [← Nat.pow_succ]; congr 1; omega
  omega)
 have a2 : bl p ≤ bl (p / 2) + 1 := bl_le (by rw [Nat.pow_succ]; omega)
 omega
theorem div_step {a b : Nat} (hb : b ≠ 0) (h : bl b ≤ bl a) : a ^^^ (b <<< (bl a - bl b)) < 2 ^ (bl a - 1) := by
 have ha : a ≠ 0 := by
  intro e; subst e
  have := bl_pos hb
  simp [bl] at h
  omega
 have hb1 := bl_pos hb
 have h1 := bl_lt a
 have h3 : b <<< (bl a - bl b) < 2 ^ bl a := by
  have : 2 ^ bl a = 2 ^ bl b * 2 ^ (bl a - bl b) := by rw [← Nat.pow_add]; congr 1; omega
  rw [Nat.shiftLeft_eq, this]
  exact Nat.mul_lt_mul_of_pos_right (bl_lt b) (Nat.two_pow_pos _)
 have t1 : a.testBit (bl a - 1) = true := by
  have h2 := bl_ge ha
  rw [Nat.testBit_eq_decide_div_mod_eq]
  have e : 2 ^ bl a = 2 ^ (bl a - 1) * 2 := by rw [← Nat.pow_succ]; congr 1; omega
  have : a / 2 ^ (bl a - 1) = 1 := by
   refine Nat.div_eq_of_lt_le (by omega) (by omega)
  simp [this]
 have t2 : (b <<< (bl a - bl b)).testBit (bl a - 1) = true := by
  rw [Nat.testBit_shiftLeft]
  have h2 := bl_ge hb
  have : b.testBit (bl a - 1 - (bl a - bl b)) = true := by
   rw [show bl a - 1 - (bl a - bl b) = bl b - 1 by omega, Nat.testBit_eq_decide_div_mod_eq]
   have e : 2 ^ bl b = 2 ^ (bl b - 1) * 2 := by rw [← Nat.pow_succ]; congr 1; omega
   have := bl_lt b
   have : b / 2 ^ (bl b - 1) = 1 := by
    refine Nat.div_eq_of_lt_le (by omega) (by omega)
   simp [this]
  rw [this]
  simp; omega
 apply Nat.lt_pow_two_of_testBit
 intro i hi
 rcases Nat.lt_or_ge i (bl a) with h4 | h4
 ·obtain rfl : i = bl a - 1 := by omega
  rw [Nat.testBit_xor, t1, t2]; rfl
 ·have x1 := Nat.xor_lt_two_pow h1 h3
  exact Nat.testBit_lt_two_pow (Nat.lt_of_lt_of_le x1 (Nat.pow_le_pow_right (by decide) h4))
end Go.Proofs.YthagenodiofgnaaGreatDoor.Jump
namespace Go.Proofs.YthagenodiofgnaaGreatDoor.Jump
open Go.RowKit Go.Proofs.YthagenodiofgnaaGreatDoor Go.Proofs.YthagenodiofgnaaGreatDoor.Base Go.Proofs.YthagenodiofgnaaGreatDoor.Poly Go.Proofs.YthagenodiofgnaaGreatDoor.Bits
set_option linter.unusedVariables false
theorem bit_test (b k : Nat) (hb : b < 9223372036854775808) : (bits .and .i64 ((b : Int) / 2 ^ k) 1 == 1) = b.testBit k := by
 have e : (b : Int) / 2 ^ k = ((b / 2 ^ k : Nat) : Int) := by simp
 have h : b / 2 ^ k ≤ b := Nat.div_le_self _ _
 rw [e, and1 _ (by omega), Nat.testBit_eq_decide_div_mod_eq]
 rcases Nat.mod_two_eq_zero_or_one (b / 2 ^ k) with h | h <;> rw [h] <;> rfl
theorem xor_shift (m a k : Nat) (hm : m < 9223372036854775808) (ha : a * 2 ^ k < 9223372036854775808) : bits .xor .i64 (m : Int) (wrap64 ((a : Int) * 2 ^ k)) = ((m ^^^ (a <<< k) : Nat) : Int) := by
 have e : (a : Int) * 2 ^ k = ((a * 2 ^ k : Nat) : Int) := by simp
 have e2 : wrap64 (((a * 2 ^ k : Nat) : Int)) = ((a * 2 ^ k : Nat) : Int) := by simp only [wrap64]; omega
 rw [e, e2, i64_xor_nat _ _ hm ha, Nat.shiftLeft_eq]
theorem or_shift (q d : Nat) (hq : q < 9223372036854775808) (hd : d ≤ 62) : bits .or .i64 (q : Int) (wrap64 (2 ^ d)) = ((q ||| 2 ^ d : Nat) : Int) := by
 have h1 : 2 ^ d ≤ 2 ^ 62 := Nat.pow_le_pow_right (by decide) hd
 have e2 : wrap64 ((2 : Int) ^ d) = ((2 ^ d : Nat) : Int) := by
  rw [show (2 : Int) ^ d = ((2 ^ d : Nat) : Int) by simp]
  generalize 2 ^ d = m at *
  simp only [wrap64]; omega
 rw [e2, i64_or_nat _ _ hq (by omega)]
set_option maxHeartbeats 400000 in
theorem l02Degree_any (n : Nat) (hn : n < 9223372036854775808) (w : World) :
  Calls Tryz.prog 131 #[.int .i64 n] w fun e w' => e = .returned (.int .i64 ((bl n : Int) - 1)) ∧ w = w' := by
 have hb : bl n ≤ 63 := bl_le (by omega)
 go_enter Tryz.func131, Tryz.ntmps131
 go_wp2
 go_loop [0, 3] (fun x o => ∃ m j : Nat, m < 9223372036854775808 ∧ Hid (bl m + j = bl n) ∧ j ≤ 63 ∧ x = .int .i64 m ∧ o = .int .i64 ((j : Int) - 1)) (fun x _ => (intOf x).toNat)
 case atStart => exact ⟨n, 0, hn, Lib.hid rfl, by omega, rfl, rfl⟩
 case round =>
  obtain ⟨m, j, hm, HE, hj, rfl, rfl⟩ := hrel
  by_cases h0 : 0 < m
  ·have H1 : Hid (bl (m / 2) + (j + 1) = bl n) := Lib.hid (by have := bl_half (p := m) (by omega); have := HE.out; omega)
   have hj2 : j + 1 ≤ 63 := by have := H1.out; omega
   go_wp2
   go_round
   case rel => exact ⟨m / 2, j + 1, by omega, H1, hj2, by go_num, by congr 1; simp⟩
   case measure => simp [intOf]; omega
  ·obtain rfl : m = 0 := by omega
   have H : Hid (bl n = j) := Lib.hid (by have := HE.out; rw [show bl 0 = 0 from rfl] at this; omega)
   go_wp2
   go_ret
   exact ⟨ret_int (by rw [H.out]), rfl⟩
set_option maxHeartbeats 400000 in
theorem l02Mul_any (a b : Nat) (ha : a < 2 ^ 32) (hb : b < 2 ^ 32) (w : World) :
  Calls Tryz.prog 119 #[.int .i64 a, .int .i64 b] w fun e w' => e = .returned (.int .i64 (mulTo a b 32 : Nat)) ∧ w = w' := by
 go_enter Tryz.func119, Tryz.ntmps119
 go_wp2
 go_loop [5, 6] (fun o i => ∃ k : Nat, k ≤ 32 ∧ i = .int .i64 k ∧ o = .int .i64 (mulTo a b k : Nat)) (fun _ i => 32 - (intOf i).toNat)
 case atStart => exact ⟨0, by omega, rfl, rfl⟩
 case round =>
  obtain ⟨k, hk, rfl, rfl⟩ := hrel
  by_cases hlt : k < 32
  ·have HT := Lib.hid (bit_test b k (by omega))
   have hp : 2 ^ k ≤ 2 ^ 31 := Nat.pow_le_pow_right (by decide) (by omega)
   have hak : a * 2 ^ k < 9223372036854775808 := by
    have : a * 2 ^ k ≤ 4294967296 * 2147483648 := Nat.mul_le_mul (by omega) hp
    rcases Nat.lt_or_ge (a * 2 ^ k) 9223372036854775808 with h | h
    ·exact h
    ·have h1 : 4294967295 * 2 ^ k ≤ 4294967295 * 2147483648 := Nat.mul_le_mul_left _ hp
     have h2 : a * 2 ^ k ≤ 4294967295 * 2 ^ k := Nat.mul_le_mul_right _ (by omega)
     omega
   have hm1 := mulTo_lt (b := b) ha k
   have hm2 : 2 ^ (32 + k) ≤ 2 ^ 63 := Nat.pow_le_pow_right (by decide) (by omega)
   have HX := Lib.hid (xor_shift (mulTo a b k) a k (by omega) hak)
   have HM : Hid (mulTo a b (k + 1) = if b.testBit k then mulTo a b k ^^^ (a <<< k) else mulTo a b k) := Lib.hid rfl
   clear hm1 hm2 hak hp
   cases hbk : b.testBit k
   all_goals
    rw [hbk] at HT HM
    have ht := HT.out
    clear hbk
    go_wp2
    go_round
    case rel => exact ⟨k + 1, by omega, by go_num, by rw [HM.out]; first | rfl | (rw [HX.out]; rfl)⟩
    case measure => simp [intOf]; omega
  ·obtain rfl : k = 32 := by omega
   go_wp2
   go_ret
   exact ⟨rfl, rfl⟩
def DivRet (a b : Nat) (w : World) (e : Ending) (w' : World) : Prop := ∃ q r : Nat, e = .returned (.tuple #[.int .i64 q, .int .i64 r]) ∧ r < 2 ^ (bl b - 1) ∧ Con b r a ∧ w = w'
set_option maxHeartbeats 1000000 in
theorem l02Div_any (a b : Nat) (ha : a < 2 ^ 32) (hb : b < 2 ^ 32) (hb0 : b ≠ 0) (w : World) :
  Calls Tryz.prog 118 #[.int .i64 a, .int .i64 b] w (DivRet a b w) := by
 have hbb := bl_le hb
 have hbp := bl_pos hb0
 go_enter Tryz.func118, Tryz.ntmps118
 go_wp2
 go_loop [0, 6] (fun x y => ∃ r q : Nat, r < 2 ^ 32 ∧ q < 2 ^ 32 ∧ Hid (Con b r a) ∧ x = .int .i64 r ∧ y = .int .i64 q) (fun x _ => bl (intOf x).toNat)
 case atStart => exact ⟨a, 0, ha, by omega, Lib.hid (Con.refl _ _), rfl, rfl⟩
 case round =>
  obtain ⟨r, q, hr, hq, hc, rfl, rfl⟩ := hrel
  have hrb := bl_le hr
  by_cases h : bl b ≤ bl r
  ·have hs := div_step hb0 h
   obtain ⟨d, hd⟩ : ∃ d, d = bl r - 1 - (bl b - 1) := ⟨_, rfl⟩
   have hde : bl r - bl b = d := by omega
   have hd31 : d ≤ 31 := by omega
   have hc2 : Hid (Con b (r ^^^ (b <<< d)) a) := Lib.hid ((Con.step hb (by omega)).trans hc.out)
   rw [hde] at hs
   have hr1 := bl_pos hb0
   have hr2 : r ^^^ (b <<< d) < 2 ^ 32 := Nat.lt_of_lt_of_le hs (Nat.pow_le_pow_right (by decide) (by omega))
   have hb63 : b * 2 ^ d < 9223372036854775808 := by
    have h1 : 2 ^ d ≤ 2 ^ 31 := Nat.pow_le_pow_right (by decide) hd31
    have h2 : b * 2 ^ d ≤ 4294967295 * 2 ^ 31 := Nat.mul_le_mul (by omega) h1
    omega
   have HX := Lib.hid (xor_shift r b d (by omega) hb63)
   have HO := Lib.hid (or_shift q d (by omega) (by omega))
   have hq2 : q ||| 2 ^ d < 2 ^ 32 := Nat.or_lt_two_pow hq (Nat.pow_lt_pow_right (by decide) (by omega))
   have hm := Lib.hid (bl_le hs)
   have HD := Lib.hid hd
   clear hd hde hs hb63
   go_wp2_with (go_at_call 131; refine (l02Degree_any _ (by omega) _).mono ?_; rintro e w' ⟨rfl, rfl⟩)
   rw [← HD.out, HX.out, HO.out]
   go_round
   case rel => exact ⟨_, _, hr2, hq2, hc2, rfl, rfl⟩
   case measure =>
    have := hm.out
    show bl ((r ^^^ b <<< d : Nat) : Int).toNat < bl ((r : Nat) : Int).toNat
    rw [Int.toNat_natCast, Int.toNat_natCast]
    omega
  ·have hlt : r < 2 ^ (bl b - 1) := Nat.lt_of_lt_of_le (bl_lt r) (Nat.pow_le_pow_right (by decide) (by omega))
   go_wp2_with (go_at_call 131; refine (l02Degree_any _ (by omega) _).mono ?_; rintro e w' ⟨rfl, rfl⟩)
   go_ret2
   exact ⟨q, r, rfl, hlt, hc.out, rfl⟩
def PowRet (p W N : Nat) (w : World) (e : Ending) (w' : World) : Prop := ∃ r : Nat, e = .returned (.int .i64 r) ∧ r < 2 ^ W ∧ Rep p r N ∧ w = w'
def PowRel (p W N : Nat) (n o x : Value) : Prop := ∃ (r y k A B : Nat), n = .int .i64 k ∧ o = .int .i64 r ∧ x = .int .i64 y ∧ r < 2 ^ W ∧ y < 2 ^ W ∧ k ≤ N ∧ Rep p r A ∧ Rep p y B ∧ A + B * k = N
theorem PowRel.odd {p W N k A B r y r' y' : Nat} (hW : W ≤ 16) (h1 : r < 2 ^ W) (h2 : y < 2 ^ W) (h3 : Rep p r A) (h4 : Rep p y B) (h5 : A + B * k = N) (hk : k % 2 = 1)
  (q1 : r' < 2 ^ W) (q2 : Con p r' (mulTo r y 32)) (q3 : y' < 2 ^ W) (q4 : Con p y' (mulTo y y 32)) : Rep p r' (A + B) ∧ Rep p y' (B + B) ∧ A + B + (B + B) * (k / 2) = N := by
 have hp : 2 ^ W ≤ 2 ^ 16 := Nat.pow_le_pow_right (by decide) hW
 refine ⟨(h3.mul h4 (by omega) (by omega)).con q2, (h4.mul h4 (by omega) (by omega)).con q4, ?_⟩
 have e : k = 2 * (k / 2) + 1 := by omega
 rw [e, Nat.mul_add, ← Nat.mul_assoc, Nat.mul_one] at h5
 rw [← Nat.mul_two]
 omega
theorem PowRel.even {p W N k A B y y' : Nat} (hW : W ≤ 16) (h2 : y < 2 ^ W) (h4 : Rep p y B) (h5 : A + B * k = N) (hk : ¬ k % 2 = 1)
  (q3 : y' < 2 ^ W) (q4 : Con p y' (mulTo y y 32)) : Rep p y' (B + B) ∧ A + (B + B) * (k / 2) = N := by
 have hp : 2 ^ W ≤ 2 ^ 16 := Nat.pow_le_pow_right (by decide) hW
 refine ⟨(h4.mul h4 (by omega) (by omega)).con q4, ?_⟩
 have e : k = 2 * (k / 2) := by omega
 rw [e, ← Nat.mul_assoc] at h5
 rw [← Nat.mul_two]
 omega
set_option maxHeartbeats 1000000 in
theorem l02Power_any (N p W : Nat) (hN : N ≤ 2000000000000000000) (hW : W ≤ 16) (hp : bl p = W + 1) (w : World) :
  Calls Tryz.prog 96 #[.int .i64 N, .int .i64 p] w (PowRet p W N w) := by
 have hp0 : p ≠ 0 := by intro e; subst e; simp [bl] at hp
 have hp32 : p < 2 ^ 32 := Nat.lt_of_lt_of_le (bl_lt p) (Nat.pow_le_pow_right (by decide) (by omega))
 have hpw : 2 ^ W ≤ 2 ^ 16 := Nat.pow_le_pow_right (by decide) hW
 have hd : bl p - 1 = W := by omega
 have HD := Lib.hid hd
 have HDiv : Hid (∀ (a : Nat), a < 2 ^ 32 → Calls Tryz.prog 118 #[.int .i64 a, .int .i64 p] w fun e w' => ∃ q r : Nat, e = .returned (.tuple #[.int .i64 q, .int .i64 r]) ∧ r < 2 ^ W ∧ Con p r a ∧ w = w') := Lib.hid fun a ha => by
  have := l02Div_any a p ha hp32 hp0 w
  unfold DivRet at this
  rwa [hd] at this
 clear hp hd
 go_enter Tryz.func96, Tryz.ntmps96
 go_wp2_with fail
 refine (HDiv.out 1 (by omega)).mono ?_
 rintro e w' ⟨q1, r1, rfl, h1, c1, rfl⟩
 have R1 := Lib.hid ((Rep.one p).con c1)
 clear c1
 go_wp2_with fail
 refine (HDiv.out 2 (by omega)).mono ?_
 rintro e w' ⟨q2, r2, rfl, h2, c2, rfl⟩
 have R2 := Lib.hid ((Rep.two p).con c2)
 clear c2
 go_wp2_with fail
 go_loop [0, 6, 8] (fun n o x => PowRel p W N n o x) (fun n _ _ => (intOf n).toNat)
 case atStart => exact ⟨r1, r2, N, 0, 1, rfl, rfl, rfl, h1, h2, Nat.le_refl _, R1.out, R2.out, by omega⟩
 case round =>
  obtain ⟨r, y, k, A, B, rfl, rfl, rfl, g1, g2, hk, hA, hB, he⟩ := hrel
  have m1 := mulTo_16 hW g1 g2
  have m2 := mulTo_16 hW g2 g2
  by_cases hk0 : 0 < k
  ·by_cases hodd : k % 2 = 1
   ·have HN := Lib.hid (fun (r' y' : Nat) => PowRel.odd (r' := r') (y' := y') hW g1 g2 hA hB he hodd)
    clear hA hB he
    have ht : (((k : Int) % 2) == 1) = true := by simp; omega
    go_wp2_with fail
    refine (l02Mul_any r y (by omega) (by omega) _).mono ?_
    rintro e w' ⟨rfl, rfl⟩
    go_wp2_with fail
    refine (HDiv.out _ m1).mono ?_
    rintro e w' ⟨q3, r3, rfl, h3, c3, rfl⟩
    have C3 := Lib.hid c3
    clear c3
    go_wp2_with fail
    refine (l02Mul_any y y (by omega) (by omega) _).mono ?_
    rintro e w' ⟨rfl, rfl⟩
    go_wp2_with fail
    refine (HDiv.out _ m2).mono ?_
    rintro e w' ⟨q4, r4, rfl, h4, c4, rfl⟩
    have HF := Lib.hid (HN.out r3 r4 h3 C3.out h4 c4)
    clear c4
    go_wp2_with fail
    go_round
    case rel => exact ⟨r3, r4, k / 2, A + B, B + B, by go_num, rfl, rfl, h3, h4, by omega, HF.out.1, HF.out.2.1, HF.out.2.2⟩
    case measure => simp [intOf]; omega
   ·have HN := Lib.hid (fun (y' : Nat) => PowRel.even (y' := y') hW g2 hB he hodd)
    have HA := Lib.hid hA
    clear hA hB he
    have ht : (((k : Int) % 2) == 1) = false := by simp; omega
    go_wp2_with fail
    refine (l02Mul_any y y (by omega) (by omega) _).mono ?_
    rintro e w' ⟨rfl, rfl⟩
    go_wp2_with fail
    refine (HDiv.out _ m2).mono ?_
    rintro e w' ⟨q4, r4, rfl, h4, c4, rfl⟩
    have HF := Lib.hid (HN.out r4 h4 c4)
    clear c4
    go_wp2_with fail
    go_round
    case rel => exact ⟨r, r4, k / 2, A, B + B, by go_num, rfl, rfl, g1, h4, by omega, HA.out, HF.out.1, HF.out.2⟩
    case measure => simp [intOf]; omega
  ·obtain rfl : k = 0 := by omega
   have HA := Lib.hid hA
   have HE : Hid (A = N) := Lib.hid (by simpa using he)
   clear hA hB he
   go_wp2
   go_ret
   exact ⟨r, rfl, g1, by rw [← HE.out]; exact HA.out, rfl⟩
end Go.Proofs.YthagenodiofgnaaGreatDoor.Jump
