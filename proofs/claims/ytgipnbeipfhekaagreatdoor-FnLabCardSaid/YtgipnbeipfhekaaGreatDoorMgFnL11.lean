/- The ones and the runs of bits, of the reference. -/
import Derived.Test.YtgipnbeipfhekaaGreatDoorMgFnL10
import Derived.Test.YtgipnbeipfhekaaGreatDoorMgFnL07
import Derived.Test.YtgipnbeipfhekaaGreatDoorMgFnL06
import Derived.Test.YtgipnbeipfhekaaGreatDoorMgFnL01
import Derived.Laws.BitsAllLaws
import Derived.IntWalk
import Derived.Test.YtgipnbeipfhekaaGreatDoorMgFnL03
import Derived.Test.YtgipnbeipfhekaaGreatDoorMgFnL02
import Derived.Lib.Strings
import Derived.Lib.Join
import Derived.Shelf.Spec.SearchS
import Derived.Shelf.Lay
import Derived.Test.YtgipnbeipfhekaaGreatDoorMgFnL08
import Derived.Test.YtgipnbeipfhekaaGreatDoorMgFnL00
import Derived.Deep.Cut
import Derived.StillTail
import Derived.Deep.RegionHeld
set_option linter.unusedVariables false
set_option linter.unusedSimpArgs false
namespace Go.Proofs.YtgipnbeipfhekaaGreatDoor
namespace LvJ
open Go.RowKit Base Mem LvR LvO Dice
def byt (s : ByteArray) (i : Nat) : Nat := if h : i < s.size then s[i].toNat else 0
theorem byt_at {s : ByteArray} {i : Nat} (h : i < s.size) : byt s i = s[i].toNat := dif_pos h
theorem lastI {w : World} {B m : Nat} {v : Value} {xs : List Int} (h : OwnI w B v xs) (hl : xs.length = m + 1) :
  ∃ g c, v = .slice (some ⟨g, 0, none⟩) (m + 1) c ∧ B ≤ g ∧ w.cell? ⟨g, m, none⟩ = some (.int .i64 (xs.getD m 0)) ∧ w.frozen? ⟨g, m, none⟩ = false ∧ OwnI (w.setCell ⟨g, m, none⟩ (.int .i64 (xs.getD m 0 + 1))) B v (bump xs) := by
 obtain ⟨A, c, e, hA⟩ := h.form
 obtain ⟨g, rfl, hg, hlt⟩ := hA (by omega)
 rw [hl] at e
 subst e
 have h' : w.ownsRow B 2 1 (.slice (some ⟨g, 0, none⟩) xs.length c) xs.length (ints xs) := by
  have := h
  unfold OwnI at this
  rw [hl] at this ⊢
  exact this
 have e := World.ownsRow.cellAt h' m (by omega)
 rw [ints_get _ m (by omega)] at e
 refine ⟨g, c, rfl, hg, e, h'.frozenAt m, ?_⟩
 have := (storeI (i := m) (xs.getD m 0 + 1) h hl).1
 rw [bump, hl, Nat.add_sub_cancel]
 exact this
def RnRel (s : ByteArray) (w : World) (ov : Value) (i : Nat) (wr : World) : Prop := Hid (OwnI wr w.heap.size ov (runsTo (byt s) i)) ∧ Hid (Below w.heap.size w wr)
def RunRet (s : ByteArray) (w : World) (e : Ending) (w' : World) : Prop := ∃ A c, e = .returned (.slice A (runsTo (byt s) s.size).length c) ∧ OwnI w' w.heap.size (.slice A (runsTo (byt s) s.size).length c) (runsTo (byt s) s.size) ∧ Below w.heap.size w w'
end LvJ
namespace Choose
open Go.RowKit Base Bits
def ch : Nat → Nat → Nat
 | _, 0 => 1
 | 0, _ + 1 => 0
 | n + 1, k + 1 => ch n k + ch n (k + 1)
theorem ch_zero (n : Nat) : ch n 0 = 1 := by cases n <;> rfl
theorem ch_over : ∀ n k, n < k → ch n k = 0
 | 0, k + 1, _ => rfl
 | n + 1, k + 1, h => by rw [ch, ch_over n k (by omega), ch_over n (k + 1) (by omega)]
theorem ch_self : ∀ n, ch n n = 1
 | 0 => rfl
 | n + 1 => by rw [ch, ch_self n, ch_over n (n + 1) (by omega)]
theorem ch_row : ∀ n k, (n + 1) * ch n k = (k + 1) * ch (n + 1) (k + 1)
 | n, 0 => by
  induction n with
  | zero => rfl
  | succ n ih =>
   rw [ch_zero] at *
   rw [ch, ch_zero]
   omega
 | 0, k + 1 => by rw [ch, ch, ch_over 0 (k + 1) (by omega), ch_over 0 (k + 2) (by omega)]; simp
 | n + 1, k + 1 => by
  have h1 := ch_row n k
  have h2 := ch_row n (k + 1)
  have e1 : ch (n + 1) (k + 1) = ch n k + ch n (k + 1) := rfl
  have e2 : ch (n + 2) (k + 2) = ch (n + 1) (k + 1) + ch (n + 1) (k + 2) := rfl
  have e3 : ch (n + 1) (k + 2) = ch n (k + 1) + ch n (k + 2) := rfl
  rw [show n + 1 + 1 = n + 2 from rfl, show k + 1 + 1 = k + 2 from rfl] at *
  generalize ch n k = a at *
  generalize ch n (k + 1) = b at *
  generalize ch n (k + 2) = c at *
  generalize ch (n + 1) (k + 1) = d at *
  generalize ch (n + 1) (k + 2) = e at *
  generalize ch (n + 2) (k + 2) = f at *
  subst e2
  have h3 : (n + 1) * (a + b) = (k + 1) * d + (k + 2) * e := by rw [Nat.mul_add, h1, h2]
  rw [← e1] at h3
  have h4 : (n + 2) * d = (n + 1) * d + d := by rw [show n + 2 = n + 1 + 1 from rfl, Nat.add_mul, Nat.one_mul]
  have h5 : (k + 2) * (d + e) = (k + 1) * d + d + (k + 2) * e := by rw [Nat.mul_add, show k + 2 = k + 1 + 1 from rfl, Nat.add_mul (k + 1) 1 d, Nat.one_mul]
  omega
theorem ch_next : ∀ n k, k ≤ n → ch n (k + 1) * (k + 1) = ch n k * (n - k)
 | 0, k, h => by
  obtain rfl : k = 0 := by omega
  rfl
 | n + 1, 0, _ => by
  have := ch_row n 0
  rw [ch_zero] at *
  omega
 | n + 1, k + 1, h => by
  have h1 := ch_row n (k + 1)
  have h2 := ch_row n k
  have h3 := ch_next n k (by omega)
  rw [show n + 1 - (k + 1) = n - k by omega, Nat.mul_comm, ← h1, Nat.mul_comm (ch (n + 1) (k + 1))]
  have e : (k + 1) * ((n - k) * ch (n + 1) (k + 1)) = (k + 1) * ((n + 1) * ch n (k + 1)) := by
   rw [Nat.mul_left_comm, ← h2, Nat.mul_left_comm (k + 1) (n + 1), Nat.mul_comm (k + 1) (ch n (k + 1)), h3, Nat.mul_left_comm, Nat.mul_comm (n - k)]
  exact (Nat.eq_of_mul_eq_mul_left (Nat.succ_pos k) e).symm
theorem ch_div {n k : Nat} (h : k ≤ n) : ch n k * (n - k) / (k + 1) = ch n (k + 1) := by
 rw [← ch_next n k h]
 exact Nat.mul_div_cancel _ (Nat.succ_pos k)
theorem ch_sym : ∀ n k, k ≤ n → ch n (n - k) = ch n k
 | 0, k, h => by
  obtain rfl : k = 0 := by omega
  rfl
 | n + 1, 0, _ => by rw [Nat.sub_zero, ch_self, ch_zero]
 | n + 1, k + 1, h => by
  rcases Nat.lt_or_ge k n with hlt | hge
  ·rw [show n + 1 - (k + 1) = (n - (k + 1)) + 1 by omega, ch, ch, ch_sym n (k + 1) (by omega), show n - (k + 1) + 1 = n - k by omega, ch_sym n k (by omega), Nat.add_comm]
  ·obtain rfl : k = n := by omega
   rw [Nat.sub_self, ch_zero, ch_self]
theorem ch_min {n k : Nat} (h : k ≤ n) : ch n (min k (n - k)) = ch n k := by
 rcases Nat.le_total k (n - k) with h1 | h1
 ·rw [Nat.min_eq_left h1]
 ·rw [Nat.min_eq_right h1, ch_sym n k h]
theorem ch_le2 : ∀ n k, ch n k ≤ 2 ^ n
 | 0, 0 => by decide
 | 0, k + 1 => by simp [ch]
 | n + 1, 0 => by rw [ch_zero]; exact Nat.two_pow_pos _
 | n + 1, k + 1 => by
  have h1 := ch_le2 n k
  have h2 := ch_le2 n (k + 1)
  rw [ch, Nat.pow_succ]; omega
theorem and32 (x : Int) (h0 : 0 ≤ x) (h : x < 18446744073709551616) : bits .and .u64 x 4294967295 = x % 4294967296 := by
 have := u64_and_nat x.toNat 4294967295 (by omega) (by omega)
 rw [show (4294967295 : Nat) = 2 ^ 32 - 1 from rfl, Nat.and_two_pow_sub_one_eq_mod] at this
 have e : (x.toNat : Int) = x := by omega
 rw [e, show ((2 ^ 32 - 1 : Nat) : Int) = 4294967295 from rfl] at this
 rw [this]; omega
set_option maxHeartbeats 400000 in
theorem mul64_any (x y : Nat) (w : World) (hx : x < 18446744073709551616) (hy : y < 4294967296) (hxy : x * y < 18446744073709551616) :
  Calls Tryz.prog 153 #[.int .u64 x, .int .u64 y] w fun e w' => e = .returned (.tuple #[.int .u64 0, .int .u64 (x * y : Nat)]) ∧ w = w' := by
 have e1 := and32 y (by omega) (by omega)
 have e2 := and32 x (by omega) (by omega)
 have e3 : (y : Int) % 4294967296 = y := by omega
 have e4 : (y : Int) / 4294967296 = 0 := by omega
 rw [e3] at e1
 obtain ⟨a, ha⟩ : ∃ a, a = x / 4294967296 := ⟨_, rfl⟩
 obtain ⟨b, hb⟩ : ∃ b, b = x % 4294967296 := ⟨_, rfl⟩
 have hb2 : b < 4294967296 := by omega
 have hxe : x = a * 4294967296 + b := by omega
 have hp : x * y = a * y * 4294967296 + b * y := by rw [hxe, Nat.add_mul, Nat.mul_assoc, Nat.mul_comm 4294967296 y, ← Nat.mul_assoc]
 have hq : b * y < 4294967296 * 4294967296 := Nat.mul_lt_mul_of_lt_of_le hb2 (by omega) (by omega)
 have f1 : (x : Int) / 4294967296 = a := by omega
 have f2 : (x : Int) % 4294967296 = b := by omega
 have f3 : (x : Int) * y = ((x * y : Nat) : Int) := by simp
 rw [f2] at e2
 have g1 : (a : Int) * y = ((a * y : Nat) : Int) := by simp
 have g2 : (b : Int) * y = ((b * y : Nat) : Int) := by simp
 generalize x * y = m at *
 generalize a * y = p at *
 generalize b * y = q at *
 have e5 := and32 ((p : Int) + q / 4294967296) (by omega) (by omega)
 have e6 : ((p : Int) + q / 4294967296) % 4294967296 = (p : Int) + q / 4294967296 := by omega
 have e7 : ((p : Int) + q / 4294967296) / 4294967296 = 0 := by omega
 rw [e6] at e5
 clear e3 e6 ha hb hp hxe
 go_enter Tryz.func153, Tryz.ntmps153
 go_wp2
 go_ret2
 exact ⟨rfl, rfl⟩
set_option maxHeartbeats 400000 in
theorem div64_any (x y : Nat) (w : World) (hx : x < 18446744073709551616) (hy : y < 18446744073709551616) (hy0 : 0 < y) :
  Calls Tryz.prog 154 #[.int .u64 0, .int .u64 x, .int .u64 y] w fun e w' => e = .returned (.tuple #[.int .u64 (x / y : Nat), .int .u64 (x % y : Nat)]) ∧ ∃ n, w' = w.drewN n := by
 have h1 : ((y : Int) == 0) = false := by simp; omega
 have h2 : ¬ (y : Int) ≤ 0 := by omega
 have h3 : x / y ≤ x := Nat.div_le_self _ _
 have h4 : IntKind.u64.wrap ((x : Int) / y) = ((x / y : Nat) : Int) := by
  rw [show (x : Int) / y = ((x / y : Nat) : Int) by simp]
  generalize x / y = d at *
  exact IntWalk.u64_in _ (by omega)
 have H4 := J h4
 clear h4
 go_enter Tryz.func154, Tryz.ntmps154
 go_wp2
 go_quiet (fail)
 go_wp2
 go_ret2
 exact ⟨by rw [← H4.out]; simp, _, rfl⟩
set_option maxHeartbeats 1000000 in
theorem choose_any (n k : Nat) (w : World) (hn : n ≤ 50) (hk : k ≤ n) : Calls Tryz.prog 94 #[.int .i64 n, .int .i64 k] w fun e w' => e = .returned (.int .i64 (ch n k : Nat)) ∧ ∃ m, w' = w.drewN m := by
  have i1 := inR_yes (n := (k : Int)) (lo := 0) (hi := n) (by omega)
  have hm := J (ch_min hk)
  obtain ⟨t, ht⟩ : ∃ t : Nat, t = min k (n - k) := ⟨_, rfl⟩
  have htk : t ≤ k := by omega
  rw [← ht] at hm
  by_cases hmin : (n : Int) - (k : Int) < (k : Int)
  all_goals
    first | (have hmn : t = n - k := by omega) | (have hmn : t = k := by omega)
    have HT := J hmn
    clear hmn ht
    go_enter Tryz.func94, Tryz.ntmps94
    go_wp2_with (go_at_call 31; refine (inRange_any _ _ _ _).mono ?_; rintro e w' ⟨rfl, rfl⟩)
    go_loopw [5, 6] (fun out i wr => ∃ j : Nat, j ≤ t ∧ i = .int .i64 ((j : Int) + 1) ∧ out = .int .i64 (ch n j : Nat) ∧ ∃ m, wr = w.drewN m) (fun _ i _ => n + 1 - (intOf i).toNat)
    case atStart => exact ⟨0, by omega, rfl, by rw [ch_zero]; rfl, 0, rfl⟩
    case round =>
      obtain ⟨j, hj, rfl, rfl, m, rfl⟩ := hrel
      by_cases hlt : j < t
      · have hd := J (ch_div (n := n) (k := j) (by omega))
        have hle := ch_le2 n j
        have hp : 2 ^ n ≤ 2 ^ 50 := Nat.pow_le_pow_right (by decide) hn
        have hle2 : ch n (j + 1) ≤ 2 ^ 50 := Nat.le_trans (ch_le2 n (j + 1)) hp
        generalize ch n j = a at *
        have hm2 : a * (n - j) ≤ 2 ^ 50 * 50 := Nat.mul_le_mul (by omega) (by omega)
        have hte := HT.out
        have hlt1 : (j : Int) + 1 ≤ (n : Int) - k := by omega
        have hlt2 : (j : Int) + 1 ≤ k := by omega
        clear hte
        go_wp2_with fail
        rw [show (n : Int) - ((j : Int) + 1) + 1 = ((n - j : Nat) : Int) by omega]
        refine (mul64_any a (n - j) _ (by omega) (by omega) (by omega)).mono ?_
        rintro e w' ⟨rfl, rfl⟩
        generalize a * (n - j) = x at *
        go_wp2_with fail
        rw [show (j : Int) + 1 = ((j + 1 : Nat) : Int) by omega]
        refine (div64_any x (j + 1) _ (by omega) (by omega) (by omega)).mono ?_
        rintro e w' ⟨rfl, m2, rfl⟩
        rw [hd.out]
        generalize hy : ch n (j + 1) = y at *
        have HY := J hy
        clear hy
        go_wp2_with fail
        go_roundw
        case rel => exact ⟨j + 1, by omega, by go_num, by rw [HY.out], m + m2, rfl⟩
        case measure => simp [intOf]; omega
      · obtain rfl : j = t := by omega
        have hte := HT.out
        have hlt1 : ¬ (j : Int) + 1 ≤ (n : Int) - k ∨ ¬ (j : Int) + 1 ≤ k := by omega
        first
          | (have hlt2 : ¬ (j : Int) + 1 ≤ (n : Int) - k := by omega
             clear hte
             go_wp2
             go_ret
             exact ⟨ret_int (by rw [hm.out]), m, rfl⟩)
          | (have hlt2 : ¬ (j : Int) + 1 ≤ k := by omega
             clear hte
             go_wp2
             go_ret
             exact ⟨ret_int (by rw [hm.out]), m, rfl⟩)
end Choose
namespace LvQ
open Choose LvM
theorem ch_pos : ∀ n k, k ≤ n → 0 < ch n k
 | n, 0, _ => by rw [ch_zero]; decide
 | 0, k + 1, h => by omega
 | n + 1, k + 1, h => by
  have := ch_pos n k (by omega)
  rw [ch]; omega
theorem ch_sum : ∀ n, sm (n + 1) (ch n) = 2 ^ n
 | 0 => by simp [sm, ch]
 | n + 1 => by
  have h1 := ch_sum n
  have h2 : sm (n + 2) (ch n) = 2 ^ n := by rw [sm, h1, ch_over n (n + 1) (by omega)]; rfl
  rw [sm_first, ch_zero] at h2
  have h3 : sm (n + 1) (fun i => ch (n + 1) (i + 1)) = sm (n + 1) (fun i => ch n i + ch n (i + 1)) := sm_congr fun i _ => by rw [ch]
  have h4 : sm (n + 1) (fun i => ch n i) = 2 ^ n := h1
  rw [sm_first, ch_zero, h3, sm_add, Nat.pow_succ]
  omega
def onesC (n : Nat) : Cnt := ⟨0, n + 1, ch n⟩
def runsC (n : Nat) : Cnt := ⟨1, n, fun k => 2 * ch (n - 1) k⟩
theorem onesC_ok (n : Nat) : (onesC n).ok n := ⟨Nat.zero_le _, Nat.le_refl _, fun i hi => ch_pos n i (by have : i < n + 1 := hi; omega), ch_sum n⟩
theorem runsC_ok {n : Nat} (hn : 1 ≤ n) : (runsC n).ok n := by
 obtain ⟨n, rfl⟩ : ∃ j, n = j + 1 := ⟨n - 1, by omega⟩
 refine ⟨Nat.le_refl _, Nat.le_succ _, fun i hi => ?_, ?_⟩
 ·have h : i < n + 1 := hi
  have := ch_pos n i (by omega)
  show 0 < 2 * ch (n + 1 - 1) i
  rw [Nat.add_sub_cancel]; omega
 ·show sm (n + 1) (fun k => 2 * ch (n + 1 - 1) k) = _
  rw [sm_mul, Nat.add_sub_cancel, ch_sum, Nat.pow_succ]; omega
end LvQ
namespace LvC
open Go.RowKit Base Mem Choose LvO
end LvC
namespace LvU
open Go.RowKit Base Mem LvM LvO
end LvU
namespace LvL
open Go.RowKit Base Mem MemF GiveM RatM LvM LvQ LvO LvT Blk Choose
def LnRel (C : Cnt) (w : World) (ov : Value) (k : Nat) (wr : World) : Prop :=
 Hid (OwnI wr (w.heap.size + 1) ov (fl k (cz C))) ∧ Hid (Blk wr w.heap.size 60 #[.slice none 0 0, .slice none 0 0]) ∧ Hid (Below w.heap.size w wr)
theorem LnRel.lit {C : Cnt} {w : World} {x : Int} (hx : x = ((cz C 0 : Nat) : Int)) : LnRel C w (.slice (some ⟨w.heap.size + 1, 0, none⟩) 1 1) 1 ((w.alloc (.cells #[.slice none 0 0, .slice none 0 0] 60)).alloc (.cells #[.int .i64 x] 2)) := by
 refine ⟨J ?_, J ((Blk.new w _ _).alloc _), J (((Below.refl _ _).alloc (Nat.le_refl _) _).alloc (by simp) _)⟩
 have := lit1 (w.alloc (.cells #[.slice none 0 0, .slice none 0 0] 60)) (B := w.heap.size + 1) (by simp) (cz C) hx
 simpa using this
theorem LnRel.nil (C : Cnt) (w : World) : LnRel C w (.slice (some ⟨w.heap.size + 1, 0, none⟩) 0 0) 0 ((w.alloc (.cells #[.slice none 0 0, .slice none 0 0] 60)).alloc (.cells #[] 2)) := by
 refine ⟨J ?_, J ((Blk.new w _ _).alloc _), J (((Below.refl _ _).alloc (Nat.le_refl _) _).alloc (by simp) _)⟩
 have := lit0 (w.alloc (.cells #[.slice none 0 0, .slice none 0 0] 60)) (B := w.heap.size + 1) (by simp) (cz C)
 simpa using this
theorem LnRel.next {C : Cnt} {w wr w1 w2 : World} {k : Nat} {v v' : Value} (h : LnRel C w v k wr) (h1 : Below wr.heap.size wr w1)
  (hown : w2.ownsRow (w.heap.size + 1) 2 1 v' (k + 1) (ints (fl k (cz C)) ++ [.int .i64 ((cz C k : Nat) : Int)])) (hg : w1.grownBy w2 v.ownBlock) : LnRel C w v' (k + 1) w2 := by
 obtain ⟨hO, hK, hB⟩ := h
 obtain ⟨p1, p2⟩ := nextI (w0 := wr) hK.out.lt hO.out (Below.refl _ _) h1 hown hg
 exact ⟨J p1, J (hK.out.below p2 (Nat.lt_succ_self _)), J (hB.out.trans (p2.mono (Nat.le_succ _)))⟩
theorem LnRel.row {C : Cnt} {w wr w2 : World} {k : Nat} {v : Value} (h : LnRel C w v k wr) (hb : Below wr.heap.size wr w2) (x : Int) : (w2.alloc (.cells #[.int .i64 x] 2)).ownsRow (w.heap.size + 1) 2 1 v k (ints (fl k (cz C))) := by
 have := World.ownsRow.alloc (OwnI.below h.1.out hb) (.cells #[.int .i64 x] 2)
 rw [fl_len] at this
 exact this
theorem pw_int {n M : Nat} (hn : n ≤ 50) (hM : M = 2 ^ n) : wrap64 ((2 : Int) ^ n) = (M : Int) := by
 have h3 : (2 : Nat) ^ n ≤ 2 ^ 50 := Nat.pow_le_pow_right (by decide) hn
 rw [show (2 : Int) ^ n = ((2 ^ n : Nat) : Int) by simp, ← hM]
 unfold wrap64
 omega
end LvL
namespace LvK
open Go.RowKit Base Mem MemF Blk LvM LvQ LvO LvR LvT LvW LvJ Dice
def lvA (s : ByteArray) : Nat := upS (onesC s.size) ((onesC s.size).c (onesTo (byt s) s.size)) (onesC s.size).many
def lvB (s : ByteArray) : Nat := upS (runsC s.size) ((runsC s.size).c ((runsTo (byt s) s.size).length - 1)) (runsC s.size).many
def lvC (s : ByteArray) : Nat := upS (lenC s.size) ((lenC s.size).c ((mostR (byt s) s.size).toNat - 1)) (lenC s.size).many
def lvF (s : ByteArray) : List Int := [nD s.size (lvA s), dD s.size (lvA s), nD s.size (lvB s), dD s.size (lvB s), nD s.size (lvC s), dD s.size (lvC s)]
def FrRet (p q : Int) (w : World) (e : Ending) (w' : World) : Prop := e = .returned (.tuple #[.agg #[.int .i64 p, .int .i64 q], .bool true]) ∧ Below w.heap.size w w'
end LvK
namespace LvN
open Go.RowKit Base Mem MemF Blk LvK Str Take
def okL (K W T m f a s c : Int) : Bool := streamB K W T m f a s && inR c 1 50
def txtL (K W T m f a s c : Int) : ByteArray := ⟨(takeL K W T m f a s c).toArray⟩
def resL (K W T m f a s c : Int) : List Int := if okL K W T m f a s c = true then lvF (txtL K W T m f a s c) else []
def numL (K W T m f a s c : Int) : Nat := if okL K W T m f a s c = true then 3 else 0
def LvRet (K W T m f a s c : Int) (w : World) (e : Ending) (w' : World) : Prop := FsRet (numL K W T m f a s c) (resL K W T m f a s c) (okL K W T m f a s c) w e w'
theorem LvRet.no {K W T m f a s c : Int} {w w' : World} (h : okL K W T m f a s c = false) (hb : Below w.heap.size w w') : LvRet K W T m f a s c w (.returned (.tuple #[.slice none 0 0, .bool false])) w' := by
 unfold LvRet numL resL
 rw [h]
 exact FsRet.no hb
theorem LvRet.yes {K W T m f a s c : Int} {w w' : World} {A : Option Addr} {k : Nat} (h : okL K W T m f a s c = true) (ho : OwnF w' w.heap.size (.slice A 3 k) 3 (lvF (txtL K W T m f a s c))) (hb : Below w.heap.size w w') : LvRet K W T m f a s c w (.returned (.tuple #[.slice A 3 k, .bool true])) w' := by
 unfold LvRet numL resL
 rw [h]
 exact ⟨A, k, rfl, ho, hb⟩
end LvN
namespace CarM
open Dec LabV Str StM StTx Rd Skip Take Face Val CutP
abbrev Lb := List ByteArray × List St
def posS (ss : List ByteArray) (x : ByteArray) : Nat := Lib.bsGo (fun t => lessS (ss.getD t ByteArray.empty) x) ss.length 0 ss.length
def hasS (ss : List ByteArray) (x : ByteArray) : Bool := decide (posS ss x < ss.length ∧ ss.getD (posS ss x) ByteArray.empty = x)
def findR (L : Lb) (x : ByteArray) : Option St := if hasS L.1 x = true then some (L.2.getD (posS L.1 x) zeroSt) else none
def withR (L : Lb) (x : ByteArray) (r : St) : Lb := if hasS L.1 x = true then (L.1, L.2.set (posS L.1 x) r) else (L.1.take (posS L.1 x) ++ x :: L.1.drop (posS L.1 x), L.2.take (posS L.1 x) ++ r :: L.2.drop (posS L.1 x))
def goneR (L : Lb) (x : ByteArray) : Lb := (L.1.take (posS L.1 x) ++ L.1.drop (posS L.1 x + 1), L.2.take (posS L.1 x) ++ L.2.drop (posS L.1 x + 1))
def labR (L : Lb) : Bool := labB L.1 L.2.length (flat L.2)
def toSt (t : S7) : St := ⟨t.1, t.2.1, t.2.2.1, t.2.2.2.1, t.2.2.2.2.1, t.2.2.2.2.2.1, t.2.2.2.2.2.2⟩
abbrev Tx := List UInt8
def wSet : Tx := [115, 101, 116]
def wCopy : Tx := [99, 111, 112, 121]
def wBits : Tx := [98, 105, 116, 115]
def wSkip : Tx := [115, 107, 105, 112]
def wRoll : Tx := [114, 111, 108, 108]
def wCards : Tx := [99, 97, 114, 100, 115]
def wLevels : Tx := [108, 101, 118, 101, 108, 115]
def wDrop : Tx := [100, 114, 111, 112]
def wShow : Tx := [115, 104, 111, 119]
def wCycle : Tx := [99, 121, 99, 108, 101]
def tOk : Tx := [111, 107]
def tNo : Tx := [110, 111]
def tWhat : Tx := [119, 104, 97, 116]
def tNone : Tx := [110, 111, 110, 101]
def decI (x : Int) : Tx := Lib.decDigits x.toNat
def joinR (sep : Tx) (xs : List Tx) : Tx := Lib.join xs sep
def listR (xs : List Int) : Tx := if xs = [] then tNone else joinR [44] (xs.map decI)
def fracR (p q : Int) : Tx := if q = 1 then decI p else decI p ++ 47 :: decI q
def fracsR (xs : List Int) : Nat → List Tx
 | 0 => []
 | k + 1 => fracsR xs k ++ [fracR (xs.getD (2 * k) 0) (xs.getD (2 * k + 1) 0)]
noncomputable def giveR (L : Lb) (cmd name word : Tx) : Option Lb :=
 match (if cmd = wSet then (rdO word).map toSt else findR L (tx word)) with
 | none => none
 | some r => if labR (withR L (tx name) r) = true then some (withR L (tx name) r) else none
noncomputable def useR (L : Lb) (cmd name : Tx) : Option (Lb × Tx) :=
 match findR L (tx name) with
 | none => none
 | some r => if cmd = wDrop then some (goneR L (tx name), tOk) else if cmd = wShow then some (L, textS r.K r.W r.T r.m r.f r.a r.s) else some (L, decI (preS r.K r.W r.T r.m r.f r.a r.s) ++ 32 :: decI (perS r.K r.W r.T r.m r.f r.a r.s))
noncomputable def drawT (cmd : Tx) (r : St) (n : Int) : Option (St × Tx) :=
 if cmd = wBits then (if okB r.K r.W r.T r.m r.f r.a r.s n = true then some (r.to (takeX r.K r.W r.T r.m r.f r.a r.s n), if takeL r.K r.W r.T r.m r.f r.a r.s n = [] then tNone else takeL r.K r.W r.T r.m r.f r.a r.s n) else none)
 else if cmd = wSkip then (if okS r.K r.W r.T r.m r.f r.a r.s n = true then some (r.to (takeX r.K r.W r.T r.m r.f r.a r.s n), tOk) else none)
 else if cmd = wRoll then (facesR r.K r.W r.T r.m r.f r.a r.s n 1).map (fun q => (r.to q.2, listR q.1))
 else if cmd = wCards then (ordR r.K r.W r.T r.m r.f r.a r.s n).map (fun q => (r.to q.2, listR q.1))
 else if LvN.okL r.K r.W r.T r.m r.f r.a r.s n = true then some (r, joinR [32] (fracsR (LvN.resL r.K r.W r.T r.m r.f r.a r.s n) 3)) else none
noncomputable def drawR (L : Lb) (cmd name word : Tx) : Option (Lb × Tx) :=
 match findR L (tx name), valO word with
 | some r, some n => (drawT cmd r n).map fun q => (withR L (tx name) q.1, q.2)
 | _, _ => none
def wordsR (c : Tx) : Nat :=
 if c = wSet ∨ c = wCopy ∨ c = wBits ∨ c = wSkip ∨ c = wRoll ∨ c = wCards ∨ c = wLevels then 3 else if c = wDrop ∨ c = wShow ∨ c = wCycle then 2 else 0
noncomputable def doR (L : Lb) (c a b : Tx) : Option (Lb × Tx) :=
 if c = wSet ∨ c = wCopy then (giveR L c a b).map fun q => (q, tOk) else if c = wDrop ∨ c = wShow ∨ c = wCycle then useR L c a else drawR L c a b
noncomputable def lineR (L : Lb) (line : Tx) : Lb × Tx :=
 if wordsR ((cutR 32 line).getD 0 []) = (cutR 32 line).length then (doR L ((cutR 32 line).getD 0 []) ((cutR 32 line).getD 1 []) ((cutR 32 line).getD 2 [])).getD (L, tNo) else (L, tWhat)
noncomputable def runR (L : Lb) : List Tx → Lb × Tx
 | [] => (L, [])
 | x :: r => ((runR (lineR L x).1 r).1, (lineR L x).2 ++ 10 :: (runR (lineR L x).1 r).2)
end CarM
end Go.Proofs.YtgipnbeipfhekaaGreatDoor
namespace Go.Proofs
open Go.Shelf
def YtgipnbeipfhekaaGreatDoor.lcS26_ren : Go.Shelf.Ren := ⟨fun | 26 => 184 | 33 => 219 | 34 => 220 | 38 => 237 | n => n, fun | 24 => 50 | 9 => 9 | 3 => 3 | 4 => 4 | 40 => 118 | 0 => 0 | n => n, fun | n => n⟩
theorem YtgipnbeipfhekaaGreatDoor.lcS26 : Go.Proofs.Lays2.n26 Tryz.prog YtgipnbeipfhekaaGreatDoor.lcS26_ren := {
 mixed := by kernel_rfl
 f26 := Tryz.func184.trans (congrArg some (by kernel_rfl))
 f33 := Tryz.func219.trans (congrArg some (by kernel_rfl))
 f34 := Tryz.func220.trans (congrArg some (by kernel_rfl))
 f38 := Tryz.func237.trans (congrArg some (by kernel_rfl))
 t0 := Tryz.underlying0
 a0 := Tryz.isAgg0
 z0 := Tryz.sizeOf0
 v0 := Tryz.zeroValue0
 t3 := Tryz.underlying3
 a3 := Tryz.isAgg3
 z3 := Tryz.sizeOf3
 v3 := Tryz.zeroValue3
 t4 := Tryz.underlying4
 a4 := Tryz.isAgg4
 z4 := Tryz.sizeOf4
 v4 := Tryz.zeroValue4
 t9 := Tryz.underlying9
 a9 := Tryz.isAgg9
 z9 := Tryz.sizeOf9
 v9 := Tryz.zeroValue9
 t24 := Tryz.underlying50
 a24 := Tryz.isAgg50
 z24 := Tryz.sizeOf50
 v24 := Tryz.zeroValue50
 t40 := Tryz.underlying118
 a40 := Tryz.isAgg118
 z40 := Tryz.sizeOf118
 v40 := Tryz.zeroValue118 }
end Go.Proofs
namespace Go.Proofs.YtgipnbeipfhekaaGreatDoor
namespace LcA
open Go.RowKit Base Mem Take MemS LabM LabV StM Dec CarM
theorem search_any (A : Option Addr) (c B : Nat) (ss : List ByteArray) (x : ByteArray) (w : World) (hx : RdT w B A ss) (hn : ss.length ≤ 1000) :
  Calls Tryz.prog 184 #[.slice A ss.length c, .string x] w fun e w' => e = .returned (.tuple #[.int .i64 ((posS ss x : Nat) : Int), .bool (hasS ss x)]) ∧ Below w.heap.size w w' := by
 by_cases h0 : ss = []
 ·subst h0
  refine (Any2.slices_BinarySearch_string_empty YtgipnbeipfhekaaGreatDoor.lcS26 A c x w).mono ?_
  rintro e w' ⟨rfl, rfl⟩
  exact ⟨rfl, Below.refl _ _⟩
 ·have hpos : 0 < ss.length := List.length_pos_iff.2 h0
  obtain ⟨b, off, rfl, _, hc⟩ := hx hpos
  refine (Any2.slices_BinarySearch_string YtgipnbeipfhekaaGreatDoor.lcS26 b off ss.length c (fun t => ss.getD t ByteArray.empty) x w (by omega) hc).mono ?_
  rintro e w' ⟨rfl, q, rfl⟩
  exact ⟨rfl, below_drewN (Below.refl _ _) q⟩
def TyAt (w : World) (A : Option Addr) (t : TypeId) : Prop := ∀ b off sub, A = some ⟨b, off, sub⟩ → ∃ cs fr, w.heap[b]? = some (.cells cs t fr)
theorem heap_lt {w : World} {b : Nat} {o : Obj} (h : w.heap[b]? = some o) : b < w.heap.size := by
 rcases Nat.lt_or_ge b w.heap.size with hlt | hge
 ·exact hlt
 ·rw [Array.getElem?_eq_none hge] at h; cases h
theorem TyAt.below {w w' : World} {A : Option Addr} {t : TypeId} (h : TyAt w A t) (hb : Below w.heap.size w w') : TyAt w' A t := fun b off sub e => by
 obtain ⟨cs, fr, h1⟩ := h b off sub e
 exact ⟨cs, fr, (hb.block b (heap_lt h1)).trans h1⟩
theorem TyAt.put {w : World} {A : Option Addr} {t : TypeId} (h : TyAt w A t) (p : Addr) (x : Value) : TyAt (w.setCell p x) A t := fun b off sub e => by
 obtain ⟨cs, fr, h1⟩ := h b off sub e
 by_cases hp : p.block = b
 ·subst hp
  unfold World.setCell
  simp only [Array.getElem?_modify, if_true, h1, Option.map_some]
  exact ⟨_, _, rfl⟩
 ·refine ⟨cs, fr, ?_⟩
  unfold World.setCell
  simp only [Array.getElem?_modify, if_neg hp, h1]
theorem TyAt.own {w : World} {B sz n c : Nat} {A : Option Addr} {t : TypeId} {xs : List Value} (h : w.ownsRow B t sz (.slice A n c) n xs) : TyAt w A t := fun b off sub e => by
 subst e
 obtain ⟨cur, h2, _⟩ := ownsRow_block h (g := b) rfl
 exact ⟨cur, _, h2⟩
theorem TyAt.none (w : World) (t : TypeId) : TyAt w none t := by
 intro b off sub e
 cases e
def LabAt (w : World) (v : Value) (L : Lb) : Prop := ∃ A c A' c', v = .agg #[.slice A L.1.length c, .slice A' L.2.length c'] ∧ RdT w w.heap.size A L.1 ∧ RdS w w.heap.size A' L.2.length (flat L.2) ∧ TyAt w A 9 ∧ TyAt w A' 29
theorem LabAt.below {w w' : World} {v : Value} {L : Lb} (h : LabAt w v L) (hb : Below w.heap.size w w') : LabAt w' v L := by
 obtain ⟨A, c, A', c', e, h1, h2, h3, h4⟩ := h
 exact ⟨A, c, A', c', e, (h1.below hb (Nat.le_refl _)).more hb.size, (h2.below hb (Nat.le_refl _)).more hb.size, h3.below hb, h4.below hb⟩
theorem LabAt.nil (w : World) : LabAt w (.agg #[.slice none 0 0, .slice none 0 0]) ([], []) := ⟨none, 0, none, 0, rfl, fun h => absurd h (Nat.lt_irrefl 0), fun h => absurd h (Nat.lt_irrefl 0), TyAt.none w _, TyAt.none w _⟩
theorem RdS.st {w : World} {B : Nat} {A : Option Addr} {xs : List St} (h : RdS w B A xs.length (flat xs)) {j : Nat} (hj : j < xs.length) : ∃ b off, A = some ⟨b, off, none⟩ ∧ b < B ∧ At7 w b (off + j * 7) (fun i => (xs.getD j zeroSt).l.getD i 0) := by
 obtain ⟨b, off, e, hb, hc⟩ := RdS.at7 h hj
 refine ⟨b, off, e, hb, ?_⟩
 have k : ∀ i, i < 7 → (flat xs).getD (7 * j + i) 0 = (xs.getD j zeroSt).l.getD i 0 := fun i hi => flat_get xs j i hi
 exact ⟨(k 0 (by decide)) ▸ hc.c0, (k 1 (by decide)) ▸ hc.c1, (k 2 (by decide)) ▸ hc.c2, (k 3 (by decide)) ▸ hc.c3, (k 4 (by decide)) ▸ hc.c4, (k 5 (by decide)) ▸ hc.c5, (k 6 (by decide)) ▸ hc.c6⟩
set_option maxHeartbeats 2000000 in
theorem find_any (L : Lb) (A A' : Option Addr) (c c' : Nat) (x : ByteArray) (w : World) (hx : RdT w w.heap.size A L.1) (hy : RdS w w.heap.size A' L.2.length (flat L.2)) (hl : L.1.length = L.2.length) (hn : L.1.length ≤ 6) :
  Calls Tryz.prog 137 #[.agg #[.slice A L.1.length c, .slice A' L.2.length c'], .string x] w fun e w' => e = .returned (match findR L x with | some r => .tuple #[r.val, .bool true] | none => .tuple #[zeroSt.val, .bool false]) ∧ Below w.heap.size w w' := by
 have HX := J hx
 have HY := J hy
 obtain ⟨W1, hW1⟩ : ∃ W1, W1 = (w.alloc (.cells #[.slice A L.1.length c, .slice A' L.2.length c'] 53)).alloc (.cells #[.int .i64 0, .int .i64 0, .int .i64 0, .int .i64 0, .int .i64 0, .int .i64 0, .int .i64 0] 29) := ⟨_, rfl⟩
 have b1 : Below w.heap.size w W1 := by rw [hW1]; exact ((Below.refl _ _).alloc (Nat.le_refl _) _).alloc (by simp) _
 have KL : Blk.Blk W1 w.heap.size 53 #[.slice A L.1.length c, .slice A' L.2.length c'] := by rw [hW1]; exact (Blk.Blk.new w _ _).alloc _
 have KR : SBox W1 (w.heap.size + 1) 0 0 0 0 0 0 0 := by
  have := SBox.new (w.alloc (.cells #[.slice A L.1.length c, .slice A' L.2.length c'] 53)) 0 0 0 0 0 0 0
  rw [World.size_alloc] at this
  rw [hW1]; exact this
 have HR := J KR
 have HLL := J hl
 have HS := J (search_any A c W1.heap.size L.1 x W1 ((hx.below b1 (Nat.le_refl _)).more b1.size) (by omega))
 have HW := J hW1
 have HB := J b1
 have HK := J KL
 have d0 := KL.at 0 (v := .slice A L.1.length c) rfl
 have d1 := KL.at 1 (v := .slice A' L.2.length c') rfl
 clear hx hy hW1 b1 KL KR hl
 cases hh : hasS L.1 x with
 | false =>
  have HF : Hid (findR L x = none) := J (by unfold findR; rw [hh]; rfl)
  rw [hh] at HS
  rw [HF.out]
  clear hh
  generalize posS L.1 x = q at *
  go_enter Tryz.func137, Tryz.ntmps137
  go_wp2_with fail
  rw [← HW.out]
  refine HS.out.mono ?_
  rintro e w' ⟨rfl, hb⟩
  have HB2 := J (Base.Below.nextA HB.out hb)
  have KR2 := HR.out.below hb HR.out.lt
  have x0 := (KR2).c0; have x1 := (KR2).c1; have x2 := (KR2).c2; have x3 := (KR2).c3; have x4 := (KR2).c4; have x5 := (KR2).c5; have x6 := (KR2).c6
  have z0 := (KR2).frz 0; have z1 := (KR2).frz 1; have z2 := (KR2).frz 2; have z3 := (KR2).frz 3; have z4 := (KR2).frz 4; have z5 := (KR2).frz 5; have z6 := (KR2).frz 6
  have S8 := KR2.set7 0 0 0 0 0 0 0
  have p0 := (S8).c0; have p1 := (S8).c1; have p2 := (S8).c2; have p3 := (S8).c3; have p4 := (S8).c4; have p5 := (S8).c5; have p6 := (S8).c6
  simp only [set7] at p0 p1 p2 p3 p4 p5 p6
  clear hb KR2 S8
  go_wp2
  refine bodyPost_ret (v := .tuple #[zeroSt.val, .bool false]) (by simp [results, Tryz.results137, go_sem, zeroSt, St.val, p0, p1, p2, p3, p4, p5, p6]) rfl ?_
  exact ⟨rfl, (((((((HB2.out).setCell (Nat.le_succ _) _).setCell (Nat.le_succ _) _).setCell (Nat.le_succ _) _).setCell (Nat.le_succ _) _).setCell (Nat.le_succ _) _).setCell (Nat.le_succ _) _).setCell (Nat.le_succ _) _⟩
 | true =>
  have hp : posS L.1 x < L.1.length := (of_decide_eq_true hh).1
  obtain ⟨r, hr⟩ : ∃ r, r = L.2.getD (posS L.1 x) zeroSt := ⟨_, rfl⟩
  have HF : Hid (findR L x = some r) := J (by unfold findR; rw [hh, hr]; rfl)
  obtain ⟨b, off, rfl, hbb, hc⟩ := RdS.st HY.out (show posS L.1 x < L.2.length by have := HLL.out; omega)
  rw [← hr] at hc
  rw [hh] at HS
  rw [HF.out]
  have HC := J hc
  clear hh hr hc
  generalize posS L.1 x = q at *
  have hpl : (q : Int) < (L.2.length : Int) := by have := HLL.out; omega
  go_enter Tryz.func137, Tryz.ntmps137
  go_wp2_with fail
  rw [← HW.out]
  refine HS.out.mono ?_
  rintro e w' ⟨rfl, hb⟩
  have bb := Base.Below.nextA HB.out hb
  have K2 := HK.out.belowS hb
  have e0 := K2.at 0 (v := .slice A L.1.length c) rfl
  have e1 := K2.at 1 (v := .slice (some ⟨b, off, none⟩) L.2.length c') rfl
  have G := HC.out.below bb hbb
  have g0 := G.c0
  have g1 := G.c1
  have g2 := G.c2
  have g3 := G.c3
  have g4 := G.c4
  have g5 := G.c5
  have g6 := G.c6
  have HB2 := J bb
  have KR2 := HR.out.below hb HR.out.lt
  have x0 := (KR2).c0; have x1 := (KR2).c1; have x2 := (KR2).c2; have x3 := (KR2).c3; have x4 := (KR2).c4; have x5 := (KR2).c5; have x6 := (KR2).c6
  have z0 := (KR2).frz 0; have z1 := (KR2).frz 1; have z2 := (KR2).frz 2; have z3 := (KR2).frz 3; have z4 := (KR2).frz 4; have z5 := (KR2).frz 5; have z6 := (KR2).frz 6
  have S8 := KR2.set7 r.K r.W r.T r.m r.f r.a r.s
  have p0 := (S8).c0; have p1 := (S8).c1; have p2 := (S8).c2; have p3 := (S8).c3; have p4 := (S8).c4; have p5 := (S8).c5; have p6 := (S8).c6
  simp only [set7] at p0 p1 p2 p3 p4 p5 p6
  simp only [St.l, List.getD_cons_zero, List.getD_cons_succ] at g0 g1 g2 g3 g4 g5 g6
  clear hb bb K2 HC KR2 S8 G
  obtain ⟨K, W, T, m, f, a, s⟩ := r
  go_wp2
  refine bodyPost_ret (v := .tuple #[.agg #[.int .i64 K, .int .i64 W, .int .i64 T, .int .i64 m, .int .i64 f, .int .i64 a, .int .i64 s], .bool true]) (by simp [results, Tryz.results137, go_sem, p0, p1, p2, p3, p4, p5, p6]) rfl ?_
  exact ⟨rfl, (((((((HB2.out).setCell (Nat.le_succ _) _).setCell (Nat.le_succ _) _).setCell (Nat.le_succ _) _).setCell (Nat.le_succ _) _).setCell (Nat.le_succ _) _).setCell (Nat.le_succ _) _).setCell (Nat.le_succ _) _⟩
end LcA
namespace LcC
open Go.RowKit Base Mem MemS LabM LabV StM CarM LcA
theorem newsT {w : World} {B : Nat} {ad : Addr} {ss : List ByteArray} (h : RdT w B (some ad) ss) (hB : B ≤ w.heap.size) (o : Obj) : ∀ j u, (texts ss)[j]? = some u → (w.alloc o).cell? (ad.add j) = some u := fun j u hj => by
 have hl : j < ss.length := by
  have := (List.getElem?_eq_some_iff.1 hj).1
  simpa [texts] using this
 obtain ⟨b, off, e2, _, hc⟩ := (h.below ((Below.refl w.heap.size w).alloc (Nat.le_refl _) o) hB) (by omega)
 injection e2 with e2
 subst e2
 rw [Addr.add_lit, hc j hl]
 simp only [texts, List.getElem?_map, List.getElem?_eq_getElem hl, Option.map_some] at hj
 rw [← hj]
 simp [List.getD, hl]
theorem newsS {w : World} {B n : Nat} {ad : Addr} {fs : List Int} (h : RdS w B (some ad) n fs) (hf : fs.length = 7 * n) (hB : B ≤ w.heap.size) (o : Obj) : ∀ j u, (ints fs)[j]? = some u → (w.alloc o).cell? (ad.add j) = some u := fun j u hj => by
 have hl : j < fs.length := by
  have := (List.getElem?_eq_some_iff.1 hj).1
  rwa [ints_len] at this
 obtain ⟨b, off, e2, _, hc⟩ := (h.below ((Below.refl w.heap.size w).alloc (Nat.le_refl _) o) hB) (by omega)
 injection e2 with e2
 subst e2
 rw [Addr.add_lit, hc j (by omega)]
 rw [ints_get _ j hl] at hj
 rw [← hj]
set_option maxHeartbeats 1000000 in
theorem cloneT_any (A : Option Addr) (c B : Nat) (ss : List ByteArray) (w : World) (hx : RdT w B A ss) (hB : B ≤ w.heap.size) (hn : ss.length ≤ 1000) :
  Calls Tryz.prog 91 #[.slice A ss.length c] w fun e w' => ∃ A' c', e = .returned (.slice A' ss.length c') ∧ w'.ownsRow w.heap.size 9 1 (.slice A' ss.length c') ss.length (texts ss) ∧ Below w.heap.size w w' := by
 obtain ⟨i0, hi, hz0, hz1, hz2⟩ := info_parts infoT
 have q22 : ∀ (w : World) (a : Option Addr) (n c n' c' : Nat), (binOp .eql 50 (.slice a n c) (.slice none n' c')).run Tryz.prog w = .ok (.bool a.isNone) w := fun w a n c n' c' => Lib.run_eql_slice_nil w _ _ a n c n' c' Tryz.underlying50
 cases A with
 | none =>
  have h0 : ss = [] := by
   rcases ss with _ | ⟨x, xs⟩
   ·rfl
   ·obtain ⟨b, off, e, _⟩ := hx (by simp)
    cases e
  subst h0
  clear hx
  go_enter Tryz.func91, Tryz.ntmps91
  go_wp2
  go_ret
  exact ⟨none, 0, rfl, World.ownsRow_nil _ _ _ _, Below.refl _ _⟩
 | some ad =>
  have HN := J (newsT hx hB (.cells #[] 9))
  have HW := J (World.ownsRow_made (base := w.heap.size) (e := 9) (size := 1) w #[] 0 (Nat.le_refl _) (Nat.zero_le _) rfl)
  clear hx
  go_enter Tryz.func91, Tryz.ntmps91
  go_wp2_with (at_builtin; refine wpList_append_own_at _ rfl (.tmp 5) (.tmp 6) 50 rfl w.heap.size 9 i0 (.string ByteArray.empty) 1 16 Tryz.underlying50 hi hz0 hz1 hz2 rfl (by decide) _ _ _ rfl HW.out ad ss.length c (texts ss) rfl ?p1 ?p2 ?p3 ?p4 ?p5 ?p6 ?_)
  try case p1 => simp [texts]
  try case p2 => exact HN.out
  try case p3 => exact fun u hu => by obtain ⟨x, _, rfl⟩ := List.mem_map.1 hu; rfl
  try case p4 => first | (simp only [maxLen]; omega) | omega
  try case p5 => omega
  try case p6 => first | (simp only [World.size_alloc]; omega) | omega
  intro v' w2 hown' hgrow _ he
  have hown2 : w2.ownsRow w.heap.size 9 1 v' ss.length (texts ss) := by simpa using hown'
  obtain ⟨A2, c2, rfl, _⟩ := ownsRow_form hown2
  have HO := J hown2
  have HB2 := J (((Below.refl w.heap.size w).alloc (Nat.le_refl _) (.cells #[] 9)).trans (grown_below (show (w.alloc (.cells #[] 9)).grownBy w2 (some w.heap.size) from hgrow) (fun g e => by injection e with e; omega) (by simp)))
  clear hown' hown2 hgrow he
  go_wp2
  go_ret
  exact ⟨A2, c2, rfl, HO.out, HB2.out⟩
set_option maxHeartbeats 1000000 in
theorem cloneS_any (A : Option Addr) (c B : Nat) (n : Nat) (fs : List Int) (w : World) (hx : RdS w B A n fs) (hB : B ≤ w.heap.size) (hn : n ≤ 1000) (hf : fs.length = 7 * n) :
  Calls Tryz.prog 92 #[.slice A n c] w fun e w' => ∃ A' c', e = .returned (.slice A' n c') ∧ w'.ownsRow w.heap.size 29 7 (.slice A' n c') n (ints fs) ∧ Below w.heap.size w w' := by
 obtain ⟨i0, hi, hz0, hz1, hz2⟩ := info_parts infoSt7
 have q22 : ∀ (w : World) (a : Option Addr) (n c n' c' : Nat), (binOp .eql 51 (.slice a n c) (.slice none n' c')).run Tryz.prog w = .ok (.bool a.isNone) w := fun w a n c n' c' => Lib.run_eql_slice_nil w _ _ a n c n' c' Tryz.underlying51
 cases A with
 | none =>
  have h0 : n = 0 := by
   rcases n with _ | n
   ·rfl
   ·obtain ⟨b, off, e, _⟩ := hx (by omega)
    cases e
  subst h0
  obtain rfl : fs = [] := List.length_eq_zero_iff.1 (by omega)
  clear hx
  go_enter Tryz.func92, Tryz.ntmps92
  go_wp2
  go_ret
  exact ⟨none, 0, rfl, World.ownsRow_nil _ _ _ _, Below.refl _ _⟩
 | some ad =>
  have HN := J (newsS hx hf hB (.cells #[] 29))
  have HW := J (World.ownsRow_made (base := w.heap.size) (e := 29) (size := 7) w #[] 0 (Nat.le_refl _) (Nat.zero_le _) rfl)
  have HFL := J hf
  clear hf
  clear hx
  go_enter Tryz.func92, Tryz.ntmps92
  go_wp2_with (at_builtin; refine wpList_append_own_at _ rfl (.tmp 5) (.tmp 6) 51 rfl w.heap.size 29 i0 (.agg #[.int .i64 0, .int .i64 0, .int .i64 0, .int .i64 0, .int .i64 0, .int .i64 0, .int .i64 0]) 7 56 Tryz.underlying51 hi hz0 hz1 hz2 rfl (by decide) _ _ _ rfl HW.out ad n c (ints fs) rfl ?p1 ?p2 ?p3 ?p4 ?p5 ?p6 ?_)
  try case p1 => have := HFL.out; rw [ints_len]; omega
  try case p2 => exact HN.out
  try case p3 => exact ints_one fs
  try case p4 => first | (simp only [maxLen]; omega) | omega
  try case p5 => omega
  try case p6 => first | (simp only [World.size_alloc]; omega) | omega
  intro v' w2 hown' hgrow _ he
  have hown2 : w2.ownsRow w.heap.size 29 7 v' n (ints fs) := by simpa using hown'
  obtain ⟨A2, c2, rfl, _⟩ := ownsRow_form hown2
  have HO := J hown2
  have HB2 := J (((Below.refl w.heap.size w).alloc (Nat.le_refl _) (.cells #[] 29)).trans (grown_below (show (w.alloc (.cells #[] 29)).grownBy w2 (some w.heap.size) from hgrow) (fun g e => by injection e with e; omega) (by simp)))
  clear hown' hown2 hgrow he
  go_wp2
  go_ret
  exact ⟨A2, c2, rfl, HO.out, HB2.out⟩
end LcC
namespace LcC
open Go.RowKit Base Mem MemS LabM LabV StM CarM LcA
def TCl (B : Nat) (ss : List ByteArray) (w : World) (v : Value) : Prop := ∃ A c, v = .slice A ss.length c ∧ w.ownsRow B 9 1 (.slice A ss.length c) ss.length (texts ss)
theorem tclM (B : Nat) (ss : List ByteArray) : Rel.Mono (fun v w => TCl B ss w v) := fun v w w' ⟨A, c, e, h⟩ hb => ⟨A, c, e, ownsRow_below h hb⟩
def SCl (B n : Nat) (fs : List Int) (w : World) (v : Value) : Prop := ∃ A c, v = .slice A n c ∧ w.ownsRow B 29 7 (.slice A n c) n (ints fs)
theorem sclM (B n : Nat) (fs : List Int) : Rel.Mono (fun v w => SCl B n fs w v) := fun v w w' ⟨A, c, e, h⟩ hb => ⟨A, c, e, ownsRow_below h hb⟩
theorem ownsRow_setCell_below' {w : World} {B b : Nat} {e t : TypeId} {sz n : Nat} {v : Value} {xs : List Value} {cs : Array Value} (h : w.ownsRow B e sz v n xs) (hK : Blk.Blk w b t cs) (i : Nat) (x : Value) (j : Nat) (y : Value) (hne : e ≠ t := by decide) :
  ((w.setCell ⟨b, i, none⟩ x).setCell ⟨b, j, none⟩ y).ownsRow B e sz v n xs := by
 have h1 : v.ownBlock ≠ some b := fun he => by
  obtain ⟨cur, h2, _⟩ := ownsRow_block h he
  unfold Blk.Blk at hK
  rw [hK] at h2
  injection h2 with h2
  injection h2 with _ h3
  exact hne h3.symm
 exact World.ownsRow.kept (World.ownsRow.kept h (Src.grown_setCell _ _ _) (.inr h1)) (Src.grown_setCell _ _ _) (.inr h1)
def LCl (B : Nat) (ss : List ByteArray) (M : Nat) (fs : List Int) (w : World) (v : Value) : Prop := ∃ A1 c1 A2 c2, v = .agg #[.slice A1 ss.length c1, .slice A2 M c2] ∧ w.ownsRow B 9 1 (.slice A1 ss.length c1) ss.length (texts ss) ∧ w.ownsRow B 29 7 (.slice A2 M c2) M (ints fs)
theorem lclM (B : Nat) (ss : List ByteArray) (M : Nat) (fs : List Int) : Rel.Mono (fun v w => LCl B ss M fs w v) := fun v w w' ⟨A1, c1, A2, c2, e, h1, h2⟩ hb => ⟨A1, c1, A2, c2, e, ownsRow_below h1 hb, ownsRow_below h2 hb⟩
def LabOwn (B : Nat) (w : World) (v : Value) (L : Lb) : Prop := ∃ A c A' c', v = .agg #[.slice A L.1.length c, .slice A' L.2.length c'] ∧ w.ownsRow B 9 1 (.slice A L.1.length c) L.1.length (texts L.1) ∧ w.ownsRow B 29 7 (.slice A' L.2.length c') L.2.length (ints (flat L.2))
theorem LabOwn.below {B : Nat} {w w' : World} {v : Value} {L : Lb} (h : LabOwn B w v L) (hb : Below w.heap.size w w') : LabOwn B w' v L := by
 obtain ⟨A, c, A', c', e, h1, h2⟩ := h
 exact ⟨A, c, A', c', e, ownsRow_below h1 hb, ownsRow_below h2 hb⟩
theorem LabOwn.at {B : Nat} {w : World} {v : Value} {L : Lb} (h : LabOwn B w v L) : LabAt w v L := by
 obtain ⟨A, c, A', c', e, h1, h2⟩ := h
 exact ⟨A, c, A', c', e, OwnT.rd h1, OwnS.rd h2, TyAt.own h1, TyAt.own h2⟩
set_option maxHeartbeats 2000000 in
theorem labClone_rd (A A' : Option Addr) (c c' M : Nat) (ss : List ByteArray) (fs : List Int) (w : World) (hx : RdT w w.heap.size A ss) (hy : RdS w w.heap.size A' M fs) (hn : ss.length ≤ 1000) (hn2 : M ≤ 1000) (hf : fs.length = 7 * M) :
  Calls Tryz.prog 47 #[.agg #[.slice A ss.length c, .slice A' M c']] w fun e w' => ∃ v', e = .returned v' ∧ (∃ A1 c1 A2 c2, v' = .agg #[.slice A1 ss.length c1, .slice A2 M c2] ∧ w'.ownsRow w.heap.size 9 1 (.slice A1 ss.length c1) ss.length (texts ss) ∧ w'.ownsRow w.heap.size 29 7 (.slice A2 M c2) M (ints fs)) ∧ Below w.heap.size w w' := by
 obtain ⟨W2, hW2⟩ : ∃ W2, W2 = (w.alloc (.cells #[.slice A ss.length c, .slice A' M c'] 53)).alloc (.cells #[.slice none 0 0, .slice none 0 0] 53) := ⟨_, rfl⟩
 have b2 : Below w.heap.size w W2 := by rw [hW2]; exact ((Below.refl _ _).alloc (Nat.le_refl _) _).alloc (by simp) _
 have KL : Hid (Blk.Blk W2 w.heap.size 53 #[.slice A ss.length c, .slice A' M c']) := J (by rw [hW2]; exact (Blk.Blk.new w _ _).alloc _)
 have KR : Hid (Blk.Blk W2 (w.heap.size + 1) 53 #[.slice none 0 0, .slice none 0 0]) := J (by rw [hW2]; exact Blk.Blk.newAt _ _ (by simp))
 have hx2 := (hx.below b2 (Nat.le_refl _)).more b2.size
 have hy2 := (hy.below b2 (Nat.le_refl _)).more b2.size
 have HT := J (fun W (hW : Below W2.heap.size W2 W) => cloneT_any A c W.heap.size ss W ((hx2.below hW (Nat.le_refl _)).more hW.size) (Nat.le_refl _) hn)
 have HS := J (fun W (hW : Below W2.heap.size W2 W) => cloneS_any A' c' W.heap.size M fs W ((hy2.below hW (Nat.le_refl _)).more hW.size) (Nat.le_refl _) hn2 hf)
 have HB := J b2
 have HBW := J b2.size
 have HW := J hW2
 clear hW2 b2 hx hy hx2 hy2 hf
 go_enter Tryz.func47, Tryz.ntmps47
 go_wp2_with fail
 rw [← HW.out]
 refine Rel.wp_region_rel 7 (by kernel_rfl) (by kernel_rfl) (fun F hF => ?_)
 simp only [List.take_succ_cons, List.take_zero, List.drop_succ_cons, List.drop_zero, Rel.putL] at hF ⊢
 have HF := J hF
 clear hF
 have uv := @Rel.upon_value Tryz.prog
 have ue := @Rel.upon_enter Tryz.prog
 apply Rel.rel_pure
 apply Exists.intro
 refine ⟨fun vs wq hq hdp R hR => ?_, ?_⟩
 ·(rw [HF.out, Rel.stepAt_eq]; clear hdp; skip; go_simp; exact hR)
 apply Rel.rel_pure
 apply Exists.intro
 refine ⟨fun vs wq hq hdp R hR => ?_, ?_⟩
 ·(rw [HF.out, Rel.stepAt_eq]; have qd0 : vs 0 = _ := Rel.dep hdp 0 (by kernel_rfl); clear hdp; have x0 := (KL.out.belowS hq).at 0 (v := .slice A ss.length c) rfl; go_simp; exact hR)
 refine Rel.rel_law (S := fun v w' => TCl w.heap.size ss w' v) (tclM w.heap.size ss) (fun vs wq hq hdp => ?_) ?_
 ·(rw [HF.out, Rel.stepAt_eq]; have qd1 : vs 1 = _ := Rel.dep hdp 1 (by kernel_rfl); clear hdp; skip; go_simp; refine (HT.out wq hq).mono ?_; rintro e w7 ⟨A9, c9, rfl, ho, hb⟩; exact ⟨_, rfl, ⟨A9, c9, rfl, ownsRow_base ho (Nat.le_trans HBW.out hq.size)⟩, hb⟩)
 apply Rel.rel_pure
 apply Exists.intro
 refine ⟨fun vs wq hq hdp R hR => ?_, ?_⟩
 ·(rw [HF.out, Rel.stepAt_eq]; clear hdp; skip; go_simp; exact hR)
 apply Rel.rel_pure
 apply Exists.intro
 refine ⟨fun vs wq hq hdp R hR => ?_, ?_⟩
 ·(rw [HF.out, Rel.stepAt_eq]; have qd3 : vs 3 = _ := Rel.dep hdp 3 (by kernel_rfl); clear hdp; have x1 := (KL.out.belowS hq).at 1 (v := .slice A' M c') rfl; go_simp; exact hR)
 refine Rel.rel_law (S := fun v w' => SCl w.heap.size M fs w' v) (sclM w.heap.size M fs) (fun vs wq hq hdp => ?_) ?_
 ·(rw [HF.out, Rel.stepAt_eq]; have qd4 : vs 4 = _ := Rel.dep hdp 4 (by kernel_rfl); clear hdp; skip; go_simp; refine (HS.out wq hq).mono ?_; rintro e w7 ⟨A9, c9, rfl, ho, hb⟩; exact ⟨_, rfl, ⟨A9, c9, rfl, ownsRow_base ho (Nat.le_trans HBW.out hq.size)⟩, hb⟩)
 refine Rel.rel_law (S := fun v w' => LCl w.heap.size ss M fs w' v) (lclM w.heap.size ss M fs) (fun vs wq hq hdp => ?_) ?_
 ·(rw [HF.out, Rel.stepAt_eq]; have qd2 : TCl _ _ wq (vs 2) := Rel.dep hdp 2 (by kernel_rfl); have qd5 : SCl _ _ _ wq (vs 5) := Rel.dep hdp 5 (by kernel_rfl); clear hdp; obtain ⟨A1, c1, ev1, ho1⟩ := qd2; obtain ⟨A2, c2, ev2, ho2⟩ := qd5; have HPP : Hid (LCl w.heap.size ss M fs wq (.agg #[.slice A1 ss.length c1, .slice A2 M c2]) ∧ Below wq.heap.size wq wq) := J ⟨⟨A1, c1, A2, c2, rfl, ho1, ho2⟩, Below.refl _ _⟩; clear ho1 ho2; go_simp; exact HPP.out)
 refine Rel.rel_end (fun vs wq hq hall => ?_)
 rw [HF.out]
 have qe0 : vs 0 = _ := Rel.fin hall 0 (by decide)
 have qe1 : vs 1 = _ := Rel.fin hall 1 (by decide)
 have qe2 : TCl _ _ wq (vs 2) := Rel.fin hall 2 (by decide)
 have qe3 : vs 3 = _ := Rel.fin hall 3 (by decide)
 have qe4 : vs 4 = _ := Rel.fin hall 4 (by decide)
 have qe5 : SCl _ _ _ wq (vs 5) := Rel.fin hall 5 (by decide)
 have qe6 : LCl _ _ _ _ wq (vs 6) := Rel.fin hall 6 (by decide)
 clear hall HF uv ue
 obtain ⟨A1, c1, A2, c2, ev, ho1, ho2⟩ := qe6
 have KR2 := KR.out.belowS hq
 have HB2 := Base.Below.nextA HB.out hq
 have r0 := KR2.at 0 (v := .slice none 0 0) rfl
 have r1 := KR2.at 1 (v := .slice none 0 0) rfl
 have f0 := KR2.frz 0
 have f1 := KR2.frz 1
 have KK := (KR2.setTo 0 (.slice A1 ss.length c1) rfl).setTo 1 (.slice A2 M c2) rfl
 have k0 := KK.at 0 (v := .slice A1 ss.length c1) rfl
 have k1 := KK.at 1 (v := .slice A2 M c2) rfl
 have HFIN := J (And.intro (ownsRow_setCell_below' ho1 KR2 0 (.slice A1 ss.length c1) 1 (.slice A2 M c2)) (And.intro (ownsRow_setCell_below' ho2 KR2 0 (.slice A1 ss.length c1) 1 (.slice A2 M c2)) ((HB2.setCell (p := ⟨w.heap.size + 1, 0, none⟩) (Nat.le_succ _) (.slice A1 ss.length c1)).setCell (p := ⟨w.heap.size + 1, 1, none⟩) (Nat.le_succ _) (.slice A2 M c2))))
 clear KK KR2 HB2 ho1 ho2 hq qe0 qe1 qe2 qe3 qe4 qe5
 go_wp2
 refine bodyPost_ret (v := .agg #[.slice A1 ss.length c1, .slice A2 M c2]) (by simp [results, Tryz.results47, go_sem, k0, k1]) rfl ?_
 exact ⟨_, rfl, ⟨A1, c1, A2, c2, rfl, HFIN.out.1, HFIN.out.2.1⟩, HFIN.out.2.2⟩
theorem labClone_any (L : Lb) (v : Value) (w : World) (h : LabAt w v L) (hn : L.1.length ≤ 1000) (hn2 : L.2.length ≤ 1000) :
  Calls Tryz.prog 47 #[v] w fun e w' => ∃ v', e = .returned v' ∧ LabOwn w.heap.size w' v' L ∧ Below w.heap.size w w' := by
 obtain ⟨A, c, A', c', rfl, hx, hy, _⟩ := h
 exact labClone_rd A A' c c' L.2.length L.1 (flat L.2) w hx hy hn hn2 (flat_len _)
end LcC
namespace LcI
open Go.RowKit Base Mem MemS LabM LabV StM CarM LcA
theorem news_add {w : World} {vb : Nat} {xs : List Value} (h : ∀ j u, xs[j]? = some u → w.cell? ⟨vb, j, none⟩ = some u) : ∀ j u, xs[j]? = some u → w.cell? ((⟨vb, 0, none⟩ : Addr).add j) = some u := fun j u hj => by
 rw [Addr.add_lit, Nat.zero_add]; exact h j u hj
set_option maxHeartbeats 4000000 in
set_option maxRecDepth 100000 in
theorem insT_end (A : Option Addr) (n c B vb : Nat) (xs news : List Value) (w : World) (hO : w.ownsRow B 9 1 (.slice A n c) n xs) (hB : B ≤ w.heap.size) (hn : n ≤ 1000) (hl : news.length = 1) (h1 : ∀ u ∈ news, u.oneCell' = true)
  (hv : ∀ j u, news[j]? = some u → w.cell? ⟨vb, j, none⟩ = some u) :
  Calls Tryz.prog 185 #[.slice A n c, .int .i64 (n : Int), .slice (some ⟨vb, 0, none⟩) 1 1] w fun e w' => ∃ A' c', e = .returned (.slice A' (n + 1) c') ∧ w'.ownsRow B 9 1 (.slice A' (n + 1) c') (n + 1) (xs ++ news) ∧ w.grownBy w' (Value.slice A n c).ownBlock := by
 obtain ⟨i0, hi, hz0, hz1, hz2⟩ := info_parts infoT
 have HN := J (news_add hv)
 have H1 := J h1
 have HO := J hO
 have hform : (A = none ∧ n = 0) ∨ ∃ g, A = some ⟨g, 0, none⟩ ∧ (n = c ∨ (n < c ∧ ¬ c = n)) := by
  rcases hO.2 with ⟨hv, h0⟩ | ⟨g, cap, cur, hv, _, _, h3, _⟩
  ·injection hv with e1 e2 e3
   exact .inl ⟨e1, h0⟩
  ·injection hv with e1 e2 e3
   exact .inr ⟨g, e1, by omega⟩
 clear hO hv h1
 have hc63 : 0 ≤ c := Nat.zero_le _
 rcases hform with ⟨rfl, rfl⟩ | ⟨g, rfl, rfl | ⟨hnc, hcn⟩⟩
 all_goals
  go_enter Tryz.func185, Tryz.ntmps185
  go_wp2_with (at_builtin; refine wpList_append_own_at _ rfl (.tmp 23) (.tmp 24) 50 rfl B 9 i0 (.string ByteArray.empty) 1 16 Tryz.underlying50 hi hz0 hz1 hz2 rfl (by decide) _ _ _ rfl HO.out ⟨vb, 0, none⟩ 1 1 news rfl ?p1 ?p2 ?p3 ?p4 ?p5 ?p6 ?_)
  try case p1 => omega
  try case p2 => exact HN.out
  try case p3 => exact H1.out
  try case p4 => first | (simp only [maxLen]; omega) | omega
  try case p5 => omega
  try case p6 => first | omega | (simp only [World.size_alloc]; omega)
  intro v' w2 hown' hgrow _ he
  have hown2 : w2.ownsRow B 9 1 v' (_ + 1) (xs ++ news) := hown'
  obtain ⟨A2, c2, rfl, _⟩ := ownsRow_form hown2
  have HFO := J hown2
  have HG := J hgrow
  clear hown' hown2 hgrow he
  go_wp2
  go_ret
  exact ⟨A2, c2, rfl, HFO.out, HG.out⟩
set_option maxHeartbeats 4000000 in
set_option maxRecDepth 100000 in
theorem insS_end (A : Option Addr) (n c B vb : Nat) (xs news : List Value) (w : World) (hO : w.ownsRow B 29 7 (.slice A n c) n xs) (hB : B ≤ w.heap.size) (hn : n ≤ 1000) (hl : news.length = 7) (h1 : ∀ u ∈ news, u.oneCell' = true)
  (hv : ∀ j u, news[j]? = some u → w.cell? ⟨vb, j, none⟩ = some u) :
  Calls Tryz.prog 186 #[.slice A n c, .int .i64 (n : Int), .slice (some ⟨vb, 0, none⟩) 1 1] w fun e w' => ∃ A' c', e = .returned (.slice A' (n + 1) c') ∧ w'.ownsRow B 29 7 (.slice A' (n + 1) c') (n + 1) (xs ++ news) ∧ w.grownBy w' (Value.slice A n c).ownBlock := by
 obtain ⟨i0, hi, hz0, hz1, hz2⟩ := info_parts infoSt7
 have HN := J (news_add hv)
 have H1 := J h1
 have HO := J hO
 have hform : (A = none ∧ n = 0) ∨ ∃ g, A = some ⟨g, 0, none⟩ ∧ (n = c ∨ (n < c ∧ ¬ c = n)) := by
  rcases hO.2 with ⟨hv, h0⟩ | ⟨g, cap, cur, hv, _, _, h3, _⟩
  ·injection hv with e1 e2 e3
   exact .inl ⟨e1, h0⟩
  ·injection hv with e1 e2 e3
   exact .inr ⟨g, e1, by omega⟩
 clear hO hv h1
 have hc63 : 0 ≤ c := Nat.zero_le _
 rcases hform with ⟨rfl, rfl⟩ | ⟨g, rfl, rfl | ⟨hnc, hcn⟩⟩
 all_goals
  go_enter Tryz.func186, Tryz.ntmps186
  go_wp2_with (at_builtin; refine wpList_append_own_at _ rfl (.tmp 23) (.tmp 24) 51 rfl B 29 i0 (.agg #[.int .i64 0, .int .i64 0, .int .i64 0, .int .i64 0, .int .i64 0, .int .i64 0, .int .i64 0]) 7 56 Tryz.underlying51 hi hz0 hz1 hz2 rfl (by decide) _ _ _ rfl HO.out ⟨vb, 0, none⟩ 1 1 news rfl ?p1 ?p2 ?p3 ?p4 ?p5 ?p6 ?_)
  try case p1 => omega
  try case p2 => exact HN.out
  try case p3 => exact H1.out
  try case p4 => first | (simp only [maxLen]; omega) | omega
  try case p5 => omega
  try case p6 => first | omega | (simp only [World.size_alloc]; omega)
  intro v' w2 hown' hgrow _ he
  have hown2 : w2.ownsRow B 29 7 v' (_ + 1) (xs ++ news) := hown'
  obtain ⟨A2, c2, rfl, _⟩ := ownsRow_form hown2
  have HFO := J hown2
  have HG := J hgrow
  clear hown' hown2 hgrow he
  go_wp2
  go_ret
  exact ⟨A2, c2, rfl, HFO.out, HG.out⟩
end LcI
namespace Late
open Go.RowKit Base
section
variable {P : Program} {ops : Array Oper} {Q : Exit → Act → World → Prop} {md : Region.Mode} {S : World → Prop} {late : List Nat}
def wpT (P : Program) (md : Region.Mode) (ops : Array Oper) (Q : Exit → Act → World → Prop) (S : World → Prop) (late : List Nat) : Nat → Array Bool → Act → World → Prop
 | 0, listed, a, w => Region.ready md ops listed = [] ∧ Q .normal a w
 | fuel + 1, listed, a, w =>
  (Region.ready md ops listed = [] → Q .normal a w) ∧
  ∀ i ∈ Region.ready md ops listed, wpOp P ops Q i (fun a' w' => (late.contains i = false → S w') ∧ wpT P md ops Q S late fuel (listed.setIfInBounds i true) a' w') a w
theorem wpAny_of : ∀ (fuel : Nat) (listed : Array Bool) (a : Act) (w : World), wpT P md ops Q S late fuel listed a w → wpAny P md ops Q fuel listed a w
 | 0, _, _, _, h => h
 | fuel + 1, _, _, _, h => ⟨h.1, fun i hi => wpOp_mono (fun a' w' h' => wpAny_of fuel _ a' w' h'.2) (h.2 i hi)⟩
def reach (md : Region.Mode) (ops : Array Oper) (i : Nat) : Nat → Nat → Bool
 | 0, _ => false
 | f + 1, j => Region.waitsFor md ops j i || (List.range ops.size).any fun m => Region.waitsFor md ops j m && reach md ops i f m
def waitB (md : Region.Mode) (ops : Array Oper) (late : List Nat) (i : Nat) : Bool := late.all fun j => reach md ops i 7 j
def Closed (md : Region.Mode) (ops : Array Oper) (listed : Array Bool) : Prop := ∀ j oj, ops[j]? = some oj → listed.getD j false = true → ∀ e ∈ oj.after, Region.binds md e = true → listed.getD e.on false = true
def closedB (md : Region.Mode) (ops : Array Oper) (listed : Array Bool) : Bool := (List.range ops.size).all fun j => !listed.getD j false || match ops[j]? with
 | some oj => oj.after.all fun e => !Region.binds md e || listed.getD e.on false
 | none => true
theorem closed_spec {listed : Array Bool} (h : closedB md ops listed = true) : Closed md ops listed := fun j oj hj hl e he hb => by
 have h1 := List.all_eq_true.1 h j (List.mem_range.2 (Array.getElem?_eq_some_iff.1 hj).1)
 simp only [hj, hl, Bool.not_true, Bool.false_or] at h1
 have h2 := Array.all_eq_true_iff_forall_mem.1 h1 e he
 simpa [hb] using h2
theorem Closed.set {listed : Array Bool} {i : Nat} (h : Closed md ops listed) (hi : i ∈ Region.ready md ops listed) : Closed md ops (listed.setIfInBounds i true) := fun j oj hj hl e he hb => by
 obtain ⟨_, oi, hoi, hall⟩ := mem_ready.1 hi
 by_cases hij : i = j
 ·subst hij
  obtain rfl : oj = oi := Option.some.inj (hj.symm.trans hoi)
  exact getD_set_true (hall e he hb)
 ·rw [getD_set_ne false hij] at hl
  exact getD_set_true (h j oj hj hl e he hb)
theorem reach_listed {listed : Array Bool} {i : Nat} (hc : Closed md ops listed) : ∀ (f j : Nat) (oj : Oper), ops[j]? = some oj → reach md ops i f j = true → (∀ e ∈ oj.after, Region.binds md e = true → listed.getD e.on false = true) → listed.getD i false = true
 | 0, _, _, _, h, _ => by cases h
 | f + 1, j, oj, hj, h, hall => by
  have use : ∀ m, Region.waitsFor md ops j m = true → listed.getD m false = true := fun m hm => by
   obtain ⟨oj', hoj', e, he, hb, hon⟩ := Region.waitsFor_spec hm
   obtain rfl : oj' = oj := Option.some.inj (hoj'.symm.trans hj)
   rw [← hon]; exact hall e he hb
  simp only [reach, Bool.or_eq_true] at h
  rcases h with h | h
  ·exact use i h
  ·obtain ⟨m, hm, h2⟩ := List.any_eq_true.1 h
   simp only [Bool.and_eq_true] at h2
   have hlt := List.mem_range.1 hm
   have hmo : ops[m]? = some ops[m] := by simp [hlt]
   exact reach_listed hc f m _ hmo h2.2 (hc m _ hmo (use m h2.1))
theorem first {i : Nat} {oi : Oper} {v : Value} (hi : ops[i]? = some oi) (hsel : ∀ (j : Nat) (o : Oper) cs b, ops[j]? = some o → o.op ≠ .select cs b)
  (hQ : ∀ c a w, Q (.panic c) (a.put oi.dst v) w → Q (.panic c) a w) (hl : waitB md ops late i = true) :
  ∀ (fuel : Nat) (listed : Array Bool) (a : Act) (w : World),
   (∀ j oj, ops[j]? = some oj → j ≠ i → listed.getD j true = false → (∀ e ∈ oj.after, Region.binds md e = true → e.on ≠ i) → oi.apart ops oj = true) →
   i ∈ Region.ready md ops listed → Closed md ops listed → YieldsIf P ops S oi v a → S w →
   wpT P md ops Q S late fuel (listed.setIfInBounds i true) (a.put oi.dst v) w → wpT P md ops Q S late (fuel + 1) listed a w := by
 intro fuel
 induction fuel with
 | zero =>
  intro listed a w _ hr _ hy hS H
  refine ⟨fun h => (by rw [h] at hr; cases hr), fun j hj => ?_⟩
  by_cases hji : j = i
  ·subst hji; exact hy.wpOp hi hS ⟨fun _ => hS, H⟩
  ·have := ready_mono hj hji
   rw [H.1] at this
   cases this
 | succ fuel ih =>
  intro listed a w hfree hr hcl hy hS H
  refine ⟨fun h => (by rw [h] at hr; cases hr), fun j hj => ?_⟩
  by_cases hji : j = i
  ·subst hji; exact hy.wpOp hi hS ⟨fun _ => hS, H⟩
  ·have h1 := H.2 j (ready_mono hj hji)
   obtain ⟨hjun, oj, hoj, hall⟩ := mem_ready.1 hj
   have hun := getD_both (mem_ready.1 hr).1
   have hnot : ∀ e ∈ oj.after, Region.binds md e = true → e.on ≠ i := fun e he hb heq => by
    have h2 := hall e he hb
    rw [heq, hun] at h2
    cases h2
   have hjl : late.contains j = false := by
    cases hc : late.contains j with
    | false => rfl
    | true =>
     have h3 := List.all_eq_true.1 hl j (by simpa using hc)
     have h4 := reach_listed hcl 7 j oj hoj h3 hall
     rw [hun] at h4
     cases h4
   have h2 := wpOp_putIf hoj (hfree j oj hoj hji hjun hnot) (fun cs b => hsel i oi cs b hi) (fun cs b => hsel j oj cs b hoj) hQ hy h1
   have hfree' : ∀ k ok, ops[k]? = some ok → k ≠ i → (listed.setIfInBounds j true).getD k true = false →
     (∀ e ∈ ok.after, Region.binds md e = true → e.on ≠ i) → oi.apart ops ok = true := fun k ok hk hki hu hno => by
    refine hfree k ok hk hki ?_ hno
    by_cases hjk : j = k
    ·subst hjk; exact hjun
    ·rw [getD_set_ne true hjk] at hu; exact hu
   refine wpOp_mono (fun a' w' h3 => ⟨fun _ => h3.2.1 hjl, ih (listed.setIfInBounds j true) a' w' hfree' (ready_mono hr (Ne.symm hji)) (hcl.set hj) h3.1 (h3.2.1 hjl) ?_⟩) h2
   rw [Array.setIfInBounds_comm _ _ hji]
   exact h3.2.2
theorem firstP {i : Nat} {oi : Oper} {v : Value} (hi : ops[i]? = some oi) (hsel : ∀ (j : Nat) (o : Oper) cs b, ops[j]? = some o → o.op ≠ .select cs b)
  (hQ : ∀ c a w, Q (.panic c) (a.put oi.dst v) w → Q (.panic c) a w) (hl : late.contains i = true) :
  ∀ (fuel : Nat) (listed : Array Bool) (a : Act) (w : World),
   (∀ j oj, ops[j]? = some oj → j ≠ i → listed.getD j true = false → (∀ e ∈ oj.after, Region.binds md e = true → e.on ≠ i) → oi.apart ops oj = true) →
   i ∈ Region.ready md ops listed → Yields P ops oi v a →
   wpT P md ops Q S late fuel (listed.setIfInBounds i true) (a.put oi.dst v) w → wpT P md ops Q S late (fuel + 1) listed a w := by
 intro fuel
 induction fuel with
 | zero =>
  intro listed a w _ hr hy H
  refine ⟨fun h => (by rw [h] at hr; cases hr), fun j hj => ?_⟩
  by_cases hji : j = i
  ·subst hji; exact hy.wpOp hi ⟨fun h => (by rw [hl] at h; cases h), H⟩
  ·have := ready_mono hj hji
   rw [H.1] at this
   cases this
 | succ fuel ih =>
  intro listed a w hfree hr hy H
  refine ⟨fun h => (by rw [h] at hr; cases hr), fun j hj => ?_⟩
  by_cases hji : j = i
  ·subst hji; exact hy.wpOp hi ⟨fun h => (by rw [hl] at h; cases h), H⟩
  ·have h1 := H.2 j (ready_mono hj hji)
   obtain ⟨hjun, oj, hoj, hall⟩ := mem_ready.1 hj
   have hun := getD_both (mem_ready.1 hr).1
   have hnot : ∀ e ∈ oj.after, Region.binds md e = true → e.on ≠ i := fun e he hb heq => by
    have h2 := hall e he hb
    rw [heq, hun] at h2
    cases h2
   have h2 := wpOp_put hoj (hfree j oj hoj hji hjun hnot) (fun cs b => hsel i oi cs b hi) (fun cs b => hsel j oj cs b hoj) hQ hy h1
   have hfree' : ∀ k ok, ops[k]? = some ok → k ≠ i → (listed.setIfInBounds j true).getD k true = false →
     (∀ e ∈ ok.after, Region.binds md e = true → e.on ≠ i) → oi.apart ops ok = true := fun k ok hk hki hu hno => by
    refine hfree k ok hk hki ?_ hno
    by_cases hjk : j = k
    ·subst hjk; exact hjun
    ·rw [getD_set_ne true hjk] at hu; exact hu
   refine wpOp_mono (fun a' w' h3 => ⟨h3.2.1, ih (listed.setIfInBounds j true) a' w' hfree' (ready_mono hr (Ne.symm hji)) h3.1 ?_⟩) h2
   rw [Array.setIfInBounds_comm _ _ hji]
   exact h3.2.2
end
section
variable {P : Program} {l : List Oper} {Q : Exit → Act → World → Prop} {md : Region.Mode} {S : World → Prop} {late : List Nat}
theorem take {i : Nat} {oi : Oper} {v : Value} {fuel : Nat} {listed : Array Bool} {a : Act} {w : World} (hi : l[i]? = some oi)
  (hs : Region.noSelect l.toArray = true) (hf : Region.free md l.toArray listed i = true) (hr : (Region.ready md l.toArray listed).contains i = true)
  (hQ : ∀ c a w, Q (.panic c) (a.put oi.dst v) w → Q (.panic c) a w) (hl : waitB md l.toArray late i = true) (hc : closedB md l.toArray listed = true) (hy : YieldsIf P l.toArray S oi v a) (hS : S w)
  (h : wpT P md l.toArray Q S late fuel (listed.setIfInBounds i true) (a.put oi.dst v) w) : wpT P md l.toArray Q S late (fuel + 1) listed a w :=
 first (by simpa using hi) (Region.noSelect_spec hs) hQ hl fuel listed a w (Region.free_spec (by simpa using hi) hf) (by simpa using hr) (closed_spec hc) hy hS h
theorem takeP {i : Nat} {oi : Oper} {v : Value} {fuel : Nat} {listed : Array Bool} {a : Act} {w : World} (hi : l[i]? = some oi)
  (hs : Region.noSelect l.toArray = true) (hf : Region.free md l.toArray listed i = true) (hr : (Region.ready md l.toArray listed).contains i = true)
  (hQ : ∀ c a w, Q (.panic c) (a.put oi.dst v) w → Q (.panic c) a w) (hl : late.contains i = true) (hy : Yields P l.toArray oi v a)
  (h : wpT P md l.toArray Q S late fuel (listed.setIfInBounds i true) (a.put oi.dst v) w) : wpT P md l.toArray Q S late (fuel + 1) listed a w :=
 firstP (by simpa using hi) (Region.noSelect_spec hs) hQ hl fuel listed a w (Region.free_spec (by simpa using hi) hf) (by simpa using hr) hy h
def Step (P : Program) (md : Region.Mode) (l : List Oper) (Q : Exit → Act → World → Prop) (S : World → Prop) (late : List Nat) (fuel : Nat) (listed : Array Bool) (a : Act) (w : World) (i : Nat) (o : Oper) : Prop :=
 ∀ K' : Act → World → Prop, Shut (∀ a w, (late.contains i = false → S w) → ((late.contains i = false → S w) → wpT P md l.toArray Q S late fuel (listed.setIfInBounds i true) a w) → K' a w) →
  if Region.wanted o (yielded l.toArray a.tmps) = true then Oper.wp P o a w K' Q else K' (a.put o.dst undef) w
theorem Step.op {fuel : Nat} {listed : Array Bool} {a : Act} {w : World} {i : Nat} {o : Oper} (ho : l[i]? = some o) (h : Step P md l Q S late fuel listed a w i o) :
  wpOp P l.toArray Q i (fun a' w' => (late.contains i = false → S w') ∧ wpT P md l.toArray Q S late fuel (listed.setIfInBounds i true) a' w') a w :=
 wpOp_step (by simpa using ho) fun K' hK => h K' fun a w hS hW => hK a w ⟨hS, hW hS⟩
theorem one {i : Nat} {o : Oper} {fuel : Nat} {listed : Array Bool} {a : Act} {w : World} (hr : Region.ready md l.toArray listed = [i]) (ho : l[i]? = some o)
  (h : Step P md l Q S late fuel listed a w i o) : wpT P md l.toArray Q S late (fuel + 1) listed a w :=
 ⟨fun h0 => (by rw [h0] at hr; cases hr), fun j hj => by
  rw [hr] at hj
  obtain rfl : j = i := by simpa using hj
  exact h.op ho⟩
theorem two {i i' : Nat} {o o' : Oper} {fuel : Nat} {listed : Array Bool} {a : Act} {w : World} (hr : Region.ready md l.toArray listed = [i, i']) (ho : l[i]? = some o) (ho' : l[i']? = some o')
  (h : Step P md l Q S late fuel listed a w i o) (h' : Step P md l Q S late fuel listed a w i' o') : wpT P md l.toArray Q S late (fuel + 1) listed a w :=
 ⟨fun h0 => (by rw [h0] at hr; cases hr), fun j hj => by
  rw [hr] at hj
  have hj' : j = i ∨ j = i' := by simpa using hj
  rcases hj' with rfl | rfl
  ·exact h.op ho
  ·exact h'.op ho'⟩
theorem done {listed : Array Bool} {a : Act} {w : World} (hr : Region.ready md l.toArray listed = []) (h : Q .normal a w) : ∀ fuel, wpT P md l.toArray Q S late fuel listed a w
 | 0 => ⟨hr, h⟩
 | _ + 1 => ⟨fun _ => h, by rw [hr]; simp⟩
theorem start {id : Nat} {a : Act} {w : World} (S : World → Prop) (late : List Nat) (n : Nat) (hm : P.follows .mixedOrders = true) (hS : S w.drew) (hn : l.length = n)
  (h : S w.drew → wpT P .any l.toArray Q S late n (Array.replicate n false) a w.drew) : (Code.region id l.toArray true).wp P Q a w :=
 wp_region_any hm (by
  have := wpAny_of _ _ _ _ (h hS)
  rw [List.size_toArray, hn]
  exact this)
end
end Late
end Go.Proofs.YtgipnbeipfhekaaGreatDoor
