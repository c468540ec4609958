/- Binomials, of the program and of the reference. -/
import Derived.Test.YthaoopgkfhjoiaaBits
import Derived.Laws.BitsAllLaws
import Derived.IntWalk
namespace Go.Proofs.Ythaoopgkfhjoiaa.Choose
open Go.RowKit Go.Proofs.Ythaoopgkfhjoiaa Go.Proofs.Ythaoopgkfhjoiaa.Base Go.Proofs.Ythaoopgkfhjoiaa.Bits
set_option linter.unusedVariables false
def ch : Nat → Nat → Nat
  | _, 0 => 1
  | 0, _ + 1 => 0
  | n + 1, k + 1 => ch n k + ch n (k + 1)
theorem ch_zero (n : Nat) : ch n 0 = 1 := by cases n <;> rfl
theorem ch_over : ∀ n k, n < k → ch n k = 0
  | 0, k + 1, _ => rfl
  | n + 1, k + 1, h => by rw [ch, ch_over n k (by omega), ch_over n (k + 1) (by omega)]
theorem ch_self : ∀ n, ch n n = 1
  | 0 => rfl
  | n + 1 => by rw [ch, ch_self n, ch_over n (n + 1) (by omega)]
theorem ch_row : ∀ n k, (n + 1) * ch n k = (k + 1) * ch (n + 1) (k + 1)
  | n, 0 => by
    induction n with
    | zero => rfl
    | succ n ih =>
      rw [ch_zero] at *
      rw [ch, ch_zero]
      omega
  | 0, k + 1 => by rw [ch, ch, ch_over 0 (k + 1) (by omega), ch_over 0 (k + 2) (by omega)]; simp
  | n + 1, k + 1 => by
    have h1 := ch_row n k
    have h2 := ch_row n (k + 1)
    have e1 : ch (n + 1) (k + 1) = ch n k + ch n (k + 1) := rfl
    have e2 : ch (n + 2) (k + 2) = ch (n + 1) (k + 1) + ch (n + 1) (k + 2) := rfl
    have e3 : ch (n + 1) (k + 2) = ch n (k + 1) + ch n (k + 2) := rfl
    rw [show n + 1 + 1 = n + 2 from rfl, show k + 1 + 1 = k + 2 from rfl] at *
    generalize ch n k = a at *
    generalize ch n (k + 1) = b at *
    generalize ch n (k + 2) = c at *
    generalize ch (n + 1) (k + 1) = d at *
    generalize ch (n + 1) (k + 2) = e at *
    generalize ch (n + 2) (k + 2) = f at *
    subst e2
    have h3 : (n + 1) * (a + b) = (k + 1) * d + (k + 2) * e := by rw [Nat.mul_add, h1, h2]
    rw [← e1] at h3
    have h4 : (n + 2) * d = (n + 1) * d + d := by rw [show n + 2 = n + 1 + 1 from rfl, Nat.add_mul, Nat.one_mul]
    have h5 : (k + 2) * (d + e) = (k + 1) * d + d + (k + 2) * e := by rw [Nat.mul_add, show k + 2 = k + 1 + 1 from rfl, Nat.add_mul (k + 1) 1 d, Nat.one_mul]
    omega
theorem ch_next : ∀ n k, k ≤ n → ch n (k + 1) * (k + 1) = ch n k * (n - k)
  | 0, k, h => by
    obtain rfl : k = 0 := by omega
    rfl
  | n + 1, 0, _ => by
    have := ch_row n 0
    rw [ch_zero] at *
    omega
  | n + 1, k + 1, h => by
    have h1 := ch_row n (k + 1)
    have h2 := ch_row n k
    have h3 := ch_next n k (by omega)
    rw [show n + 1 - (k + 1) = n - k by omega, Nat.mul_comm, ← h1, Nat.mul_comm (ch (n + 1) (k + 1))]
    have e : (k + 1) * ((n - k) * ch (n + 1) (k + 1)) = (k + 1) * ((n + 1) * ch n (k + 1)) := by
      rw [Nat.mul_left_comm, ← h2, Nat.mul_left_comm (k + 1) (n + 1), Nat.mul_comm (k + 1) (ch n (k + 1)), h3, Nat.mul_left_comm, Nat.mul_comm (n - k)]
    exact (Nat.eq_of_mul_eq_mul_left (Nat.succ_pos k) e).symm
theorem ch_div {n k : Nat} (h : k ≤ n) : ch n k * (n - k) / (k + 1) = ch n (k + 1) := by
  rw [← ch_next n k h]
  exact Nat.mul_div_cancel _ (Nat.succ_pos k)
theorem ch_sym : ∀ n k, k ≤ n → ch n (n - k) = ch n k
  | 0, k, h => by
    obtain rfl : k = 0 := by omega
    rfl
  | n + 1, 0, _ => by rw [Nat.sub_zero, ch_self, ch_zero]
  | n + 1, k + 1, h => by
    rcases Nat.lt_or_ge k n with hlt | hge
    · rw [show n + 1 - (k + 1) = (n - (k + 1)) + 1 by omega, ch, ch, ch_sym n (k + 1) (by omega), show n - (k + 1) + 1 = n - k by omega, ch_sym n k (by omega), Nat.add_comm]
    · obtain rfl : k = n := by omega
      rw [Nat.sub_self, ch_zero, ch_self]
theorem ch_min {n k : Nat} (h : k ≤ n) : ch n (min k (n - k)) = ch n k := by
  rcases Nat.le_total k (n - k) with h1 | h1
  · rw [Nat.min_eq_left h1]
  · rw [Nat.min_eq_right h1, ch_sym n k h]
theorem ch_le2 : ∀ n k, ch n k ≤ 2 ^ n
  | 0, 0 => by decide
  | 0, k + 1 => by simp [ch]
  | n + 1, 0 => by rw [ch_zero]; exact Nat.two_pow_pos _
  | n + 1, k + 1 => by
    have h1 := ch_le2 n k
    have h2 := ch_le2 n (k + 1)
    rw [ch, Nat.pow_succ]; omega
def SRel (n k : Nat) (out i : Value) : Prop := ∃ j : Nat, j ≤ k ∧ i = .int .i64 j ∧ out = .int .i64 (ch n j : Nat)
set_option maxHeartbeats 400000 in
theorem l06Choose_any (n k : Nat) (w : World) (hn : n ≤ 50) (hk : k ≤ n) : Calls Try.prog 97 #[.int .i64 n, .int .i64 k] w fun e w' => e = .returned (.int .i64 (ch n k : Nat)) ∧ w = w' := by
  go_enter Try.func97, Try.ntmps97
  go_wp2
  go_loop [5, 6] (fun out i => SRel n k out i) (fun _ i => k - (intOf i).toNat)
  case atStart => exact ⟨0, by omega, rfl, by rw [ch_zero]; rfl⟩
  case round =>
    obtain ⟨j, hj, rfl, rfl⟩ := hrel
    by_cases hlt : j < k
    · have hd := Lib.hid (ch_div (n := n) (k := j) (by omega))
      have hle := ch_le2 n j
      have hp : 2 ^ n ≤ 2 ^ 50 := Nat.pow_le_pow_right (by decide) hn
      generalize ch n j = a at *
      have hm : a * (n - j) ≤ 2 ^ 50 * 50 := Nat.mul_le_mul (by omega) (by omega)
      have e : (a : Int) * ((n : Int) - j) = ((a * (n - j) : Nat) : Int) := by rw [show (n : Int) - j = ((n - j : Nat) : Int) by omega]; simp
      have h0 : (0 : Int) ≤ (a : Int) * ((n : Int) - j) := by rw [e]; omega
      have h1 : (a : Int) * ((n : Int) - j) ≤ 1125899906842624 * 50 := by rw [e]; omega
      have HE := Lib.hid e
      clear e hm hp hle
      go_wp2
      go_round
      case rel =>
        refine ⟨j + 1, by omega, by go_num, ?_⟩
        rw [HE.out, ← hd.out]
        simp
      case measure => simp [intOf]; omega
    · obtain rfl : j = k := by omega
      go_wp2
      go_ret
      exact ⟨rfl, rfl⟩
theorem and32 (x : Int) (h0 : 0 ≤ x) (h : x < 18446744073709551616) : bits .and .u64 x 4294967295 = x % 4294967296 := by
  have := u64_and_nat x.toNat 4294967295 (by omega) (by omega)
  rw [show (4294967295 : Nat) = 2 ^ 32 - 1 from rfl, Nat.and_two_pow_sub_one_eq_mod] at this
  have e : (x.toNat : Int) = x := by omega
  rw [e, show ((2 ^ 32 - 1 : Nat) : Int) = 4294967295 from rfl] at this
  rw [this]; omega
set_option maxHeartbeats 400000 in
theorem mul64_any (x y : Nat) (w : World) (hx : x < 18446744073709551616) (hy : y < 4294967296) (hxy : x * y < 18446744073709551616) :
    Calls Try.prog 138 #[.int .u64 x, .int .u64 y] w fun e w' => e = .returned (.tuple #[.int .u64 0, .int .u64 (x * y : Nat)]) ∧ w = w' := by
  have e1 := and32 y (by omega) (by omega)
  have e2 := and32 x (by omega) (by omega)
  have e3 : (y : Int) % 4294967296 = y := by omega
  have e4 : (y : Int) / 4294967296 = 0 := by omega
  rw [e3] at e1
  obtain ⟨a, ha⟩ : ∃ a, a = x / 4294967296 := ⟨_, rfl⟩
  obtain ⟨b, hb⟩ : ∃ b, b = x % 4294967296 := ⟨_, rfl⟩
  have hb2 : b < 4294967296 := by omega
  have hxe : x = a * 4294967296 + b := by omega
  have hp : x * y = a * y * 4294967296 + b * y := by rw [hxe, Nat.add_mul, Nat.mul_assoc, Nat.mul_comm 4294967296 y, ← Nat.mul_assoc]
  have hq : b * y < 4294967296 * 4294967296 := Nat.mul_lt_mul_of_lt_of_le hb2 (by omega) (by omega)
  have f1 : (x : Int) / 4294967296 = a := by omega
  have f2 : (x : Int) % 4294967296 = b := by omega
  have f3 : (x : Int) * y = ((x * y : Nat) : Int) := by simp
  rw [f2] at e2
  have g1 : (a : Int) * y = ((a * y : Nat) : Int) := by simp
  have g2 : (b : Int) * y = ((b * y : Nat) : Int) := by simp
  generalize x * y = m at *
  generalize a * y = p at *
  generalize b * y = q at *
  have e5 := and32 ((p : Int) + q / 4294967296) (by omega) (by omega)
  have e6 : ((p : Int) + q / 4294967296) % 4294967296 = (p : Int) + q / 4294967296 := by omega
  have e7 : ((p : Int) + q / 4294967296) / 4294967296 = 0 := by omega
  rw [e6] at e5
  clear e3 e6 ha hb hp hxe
  go_enter Try.func138, Try.ntmps138
  go_wp2
  go_ret2
  exact ⟨rfl, rfl⟩
set_option maxHeartbeats 400000 in
theorem div64_any (x y : Nat) (w : World) (hx : x < 18446744073709551616) (hy : y < 18446744073709551616) (hy0 : 0 < y) :
    Calls Try.prog 139 #[.int .u64 0, .int .u64 x, .int .u64 y] w fun e w' => e = .returned (.tuple #[.int .u64 (x / y : Nat), .int .u64 (x % y : Nat)]) ∧ ∃ n, w' = w.drewN n := by
  have h1 : ((y : Int) == 0) = false := by simp; omega
  have h2 : ¬ (y : Int) ≤ 0 := by omega
  have h3 : x / y ≤ x := Nat.div_le_self _ _
  have h4 : IntKind.u64.wrap ((x : Int) / y) = ((x / y : Nat) : Int) := by
    rw [show (x : Int) / y = ((x / y : Nat) : Int) by simp]
    generalize x / y = d at *
    exact IntWalk.u64_in _ (by omega)
  have H4 := Lib.hid h4
  clear h4
  go_enter Try.func139, Try.ntmps139
  go_wp2
  go_quiet (fail)
  go_wp2
  go_ret2
  exact ⟨by rw [← H4.out]; simp, _, rfl⟩
set_option maxHeartbeats 1000000 in
theorem choose_any (n k : Nat) (w : World) (hn : n ≤ 50) (hk : k ≤ n) : Calls Try.prog 99 #[.int .i64 n, .int .i64 k] w fun e w' => e = .returned (.int .i64 (ch n k : Nat)) ∧ ∃ m, w' = w.drewN m := by
  have i1 := inR_yes (n := (k : Int)) (lo := 0) (hi := n) (by omega)
  have hm := Lib.hid (ch_min hk)
  obtain ⟨t, ht⟩ : ∃ t : Nat, t = min k (n - k) := ⟨_, rfl⟩
  have htk : t ≤ k := by omega
  rw [← ht] at hm
  by_cases hmin : (n : Int) - (k : Int) < (k : Int)
  all_goals
    first | (have hmn : t = n - k := by omega) | (have hmn : t = k := by omega)
    have HT := Lib.hid hmn
    clear hmn ht
    go_enter Try.func99, Try.ntmps99
    go_wp2_with (go_at_call 71; refine (inRange_any _ _ _ _).mono ?_; rintro e w' ⟨rfl, rfl⟩)
    go_loopw [5, 6] (fun out i wr => ∃ j : Nat, j ≤ t ∧ i = .int .i64 ((j : Int) + 1) ∧ out = .int .i64 (ch n j : Nat) ∧ ∃ m, wr = w.drewN m) (fun _ i _ => n + 1 - (intOf i).toNat)
    case atStart => exact ⟨0, by omega, rfl, by rw [ch_zero]; rfl, 0, rfl⟩
    case round =>
      obtain ⟨j, hj, rfl, rfl, m, rfl⟩ := hrel
      by_cases hlt : j < t
      · have hd := Lib.hid (ch_div (n := n) (k := j) (by omega))
        have hle := ch_le2 n j
        have hp : 2 ^ n ≤ 2 ^ 50 := Nat.pow_le_pow_right (by decide) hn
        have hle2 : ch n (j + 1) ≤ 2 ^ 50 := Nat.le_trans (ch_le2 n (j + 1)) hp
        generalize ch n j = a at *
        have hm2 : a * (n - j) ≤ 2 ^ 50 * 50 := Nat.mul_le_mul (by omega) (by omega)
        have hte := HT.out
        have hlt1 : (j : Int) + 1 ≤ (n : Int) - k := by omega
        have hlt2 : (j : Int) + 1 ≤ k := by omega
        clear hte
        go_wp2_with fail
        rw [show (n : Int) - ((j : Int) + 1) + 1 = ((n - j : Nat) : Int) by omega]
        refine (mul64_any a (n - j) _ (by omega) (by omega) (by omega)).mono ?_
        rintro e w' ⟨rfl, rfl⟩
        generalize a * (n - j) = x at *
        go_wp2_with fail
        rw [show (j : Int) + 1 = ((j + 1 : Nat) : Int) by omega]
        refine (div64_any x (j + 1) _ (by omega) (by omega) (by omega)).mono ?_
        rintro e w' ⟨rfl, m2, rfl⟩
        rw [hd.out]
        generalize hy : ch n (j + 1) = y at *
        have HY := Lib.hid hy
        clear hy
        go_wp2_with fail
        go_roundw
        case rel => exact ⟨j + 1, by omega, by go_num, by rw [HY.out], m + m2, rfl⟩
        case measure => simp [intOf]; omega
      · obtain rfl : j = t := by omega
        have hte := HT.out
        have hlt1 : ¬ (j : Int) + 1 ≤ (n : Int) - k ∨ ¬ (j : Int) + 1 ≤ k := by omega
        first
          | (have hlt2 : ¬ (j : Int) + 1 ≤ (n : Int) - k := by omega
             clear hte
             go_wp2
             go_ret
             exact ⟨ret_int (by rw [hm.out]), m, rfl⟩)
          | (have hlt2 : ¬ (j : Int) + 1 ≤ k := by omega
             clear hte
             go_wp2
             go_ret
             exact ⟨ret_int (by rw [hm.out]), m, rfl⟩)
end Go.Proofs.Ythaoopgkfhjoiaa.Choose
