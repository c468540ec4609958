/- Fractions over a power of two: all valid, their sum, of the reference. -/
import Derived.Test.YtgipnbeipfhekaaGreatDoorMgFnT08
import Derived.Test.YtgipnbeipfhekaaGreatDoorMgFnT10
import Derived.Laws.StructEq
import Derived.Deep.Cut
import Derived.Test.YtgipnbeipfhekaaGreatDoorMgFnT07
import Derived.Test.YtgipnbeipfhekaaGreatDoorMgFnT06
import Derived.Test.YtgipnbeipfhekaaGreatDoorMgFnT00
import Derived.Laws.BitsAllLaws
import Derived.IntWalk
import Derived.Test.YtgipnbeipfhekaaGreatDoorMgFnT04
import Derived.Test.YtgipnbeipfhekaaGreatDoorMgFnT05
import Derived.Test.YtgipnbeipfhekaaGreatDoorMgFnT03
import Derived.Test.YtgipnbeipfhekaaGreatDoorMgFnT02
import Derived.Lib.Strings
import Derived.Lib.Join
import Derived.Shelf.Spec.SearchS
import Derived.Shelf.Lay
import Derived.Test.YtgipnbeipfhekaaGreatDoorMgFnT01
namespace Go.Proofs.YtgipnbeipfhekaaGreatDoor.LvF
open Go.RowKit Go.Proofs.YtgipnbeipfhekaaGreatDoor Go.Proofs.YtgipnbeipfhekaaGreatDoor.Base Go.Proofs.YtgipnbeipfhekaaGreatDoor.Mem Go.Proofs.YtgipnbeipfhekaaGreatDoor.MemF Go.Proofs.YtgipnbeipfhekaaGreatDoor.GiveM Go.Proofs.YtgipnbeipfhekaaGreatDoor.RatM Go.Proofs.YtgipnbeipfhekaaGreatDoor.Fine Go.Proofs.YtgipnbeipfhekaaGreatDoor.Blk Go.Proofs.YtgipnbeipfhekaaGreatDoor.LvM Go.Proofs.YtgipnbeipfhekaaGreatDoor.LvQ Go.Proofs.YtgipnbeipfhekaaGreatDoor.LvO Go.Proofs.YtgipnbeipfhekaaGreatDoor.LvT Go.Proofs.YtgipnbeipfhekaaGreatDoor.LvW Go.Proofs.YtgipnbeipfhekaaGreatDoor.ValF
set_option linter.unusedVariables false
theorem out_len (f : Nat → Rat) : ∀ n, (outF f n).length = 2 * n
 | 0 => rfl
 | n + 1 => by rw [outF, List.length_append, out_len f n]; simp; omega
theorem out_at (f : Nat → Rat) : ∀ {n i : Nat}, i < n → (outF f n).getD (2 * i) 0 = numQ (f i) ∧ (outF f n).getD (2 * i + 1) 0 = denQ (f i)
 | 0, i, h => absurd h (Nat.not_lt_zero i)
 | n + 1, i, h => by
  have hl := out_len f n
  rw [outF]
  rcases Nat.lt_or_ge i n with g | g
  ·obtain ⟨h1, h2⟩ := out_at f g
   simp only [List.getD] at h1 h2 ⊢
   rw [List.getElem?_append_left (by omega), List.getElem?_append_left (by omega)]
   exact ⟨h1, h2⟩
  ·obtain rfl : i = n := by omega
   simp only [List.getD]
   rw [List.getElem?_append_right (by omega), List.getElem?_append_right (by omega), hl]
   simp
theorem nD_vf {n x : Nat} (hx : x ≤ 2 ^ n) (hn : n ≤ 50) : VF (nD n x) (dD n x) := by
 obtain ⟨h1, h2⟩ := dy_numQ hx hn
 unfold nD dD
 rw [h1, h2]
 exact dy_vf hx hn
theorem rdD {w : World} {B n N : Nat} {A : Option Addr} {C : Cnt} (h : RdF w B A N (outF (fD C n) N)) {j : Nat} (hj : j < N) : ∃ b off, A = some ⟨b, off, none⟩ ∧ b < B ∧ w.cell? ⟨b, off + j * 2, none⟩ = some (.int .i64 (nD n (C.c j))) ∧ w.cell? ⟨b, off + j * 2 + 1, none⟩ = some (.int .i64 (dD n (C.c j))) := by
 obtain ⟨b, off, e, hb, h1, h2⟩ := h.at hj
 obtain ⟨e1, e2⟩ := out_at (fD C n) hj
 rw [e1] at h1
 rw [e2] at h2
 exact ⟨b, off, e, hb, h1, h2⟩
def FsRel (C : Cnt) (n b N : Nat) (w : World) (iv : Value) (wr : World) : Prop :=
 ∃ i : Nat, i ≤ N ∧ iv = .int .i64 (i : Int) ∧ Hid (Blk wr b 49 #[.int .i64 (nD n (sm i C.c)), .int .i64 (dD n (sm i C.c))]) ∧ Hid (Blk wr w.heap.size 49 #[.int .i64 0, .int .i64 0]) ∧ Hid (Below w.heap.size w wr)
end Go.Proofs.YtgipnbeipfhekaaGreatDoor.LvF
namespace Go.Proofs.YtgipnbeipfhekaaGreatDoor.LvG
open Go.RowKit Go.Proofs.YtgipnbeipfhekaaGreatDoor Go.Proofs.YtgipnbeipfhekaaGreatDoor.Base Go.Proofs.YtgipnbeipfhekaaGreatDoor.Mem Go.Proofs.YtgipnbeipfhekaaGreatDoor.MemF Go.Proofs.YtgipnbeipfhekaaGreatDoor.GiveM Go.Proofs.YtgipnbeipfhekaaGreatDoor.RatM Go.Proofs.YtgipnbeipfhekaaGreatDoor.Blk Go.Proofs.YtgipnbeipfhekaaGreatDoor.LvM Go.Proofs.YtgipnbeipfhekaaGreatDoor.LvQ Go.Proofs.YtgipnbeipfhekaaGreatDoor.LvO Go.Proofs.YtgipnbeipfhekaaGreatDoor.LvT Go.Proofs.YtgipnbeipfhekaaGreatDoor.LvW Go.Proofs.YtgipnbeipfhekaaGreatDoor.LvF
set_option linter.unusedVariables false
theorem nD_pos {n x : Nat} (hx : 0 < x) (hx2 : x ≤ 2 ^ n) (hn : n ≤ 50) : 0 < nD n x := by
 obtain ⟨h1, _⟩ := dy_numQ hx2 hn
 obtain ⟨h2, _⟩ := dy_parts n x
 unfold nD
 rw [h1, h2]
 have h3 : 0 < x / Nat.gcd x (2 ^ n) := Nat.div_pos (Nat.gcd_le_left _ hx) (Nat.gcd_pos_of_pos_left _ hx)
 omega
theorem rdV {w : World} {B N : Nat} {A : Option Addr} {C : Cnt} (h : RdI w B A (fl N (vD C))) {j : Nat} (hj : j < N) : ∃ b off, A = some ⟨b, off, none⟩ ∧ b < B ∧ ∀ i, i < N → w.cell? ⟨b, off + i, none⟩ = some (.int .i64 ((C.first + i : Nat) : Int)) := by
 obtain ⟨b, off, e, hb, hc⟩ := h (by rw [fl_len]; omega)
 refine ⟨b, off, e, hb, fun i hi => ?_⟩
 have := hc i (by rw [fl_len]; exact hi)
 rw [fl_at _ hi] at this
 exact this
end Go.Proofs.YtgipnbeipfhekaaGreatDoor.LvG
namespace Go.Proofs.YtgipnbeipfhekaaGreatDoor.LvH
open Go.RowKit Go.Proofs.YtgipnbeipfhekaaGreatDoor Go.Proofs.YtgipnbeipfhekaaGreatDoor.Base Go.Proofs.YtgipnbeipfhekaaGreatDoor.Mem Go.Proofs.YtgipnbeipfhekaaGreatDoor.MemF Go.Proofs.YtgipnbeipfhekaaGreatDoor.GiveM Go.Proofs.YtgipnbeipfhekaaGreatDoor.RatM Go.Proofs.YtgipnbeipfhekaaGreatDoor.Blk Go.Proofs.YtgipnbeipfhekaaGreatDoor.LvM Go.Proofs.YtgipnbeipfhekaaGreatDoor.LvQ Go.Proofs.YtgipnbeipfhekaaGreatDoor.LvO Go.Proofs.YtgipnbeipfhekaaGreatDoor.LvT Go.Proofs.YtgipnbeipfhekaaGreatDoor.LvW Go.Proofs.YtgipnbeipfhekaaGreatDoor.LvF Go.Proofs.YtgipnbeipfhekaaGreatDoor.LvG
set_option linter.unusedVariables false
end Go.Proofs.YtgipnbeipfhekaaGreatDoor.LvH
namespace Go.Proofs.YtgipnbeipfhekaaGreatDoor.LvI
open Go.RowKit Go.Proofs.YtgipnbeipfhekaaGreatDoor Go.Proofs.YtgipnbeipfhekaaGreatDoor.Base Go.Proofs.YtgipnbeipfhekaaGreatDoor.Mem Go.Proofs.YtgipnbeipfhekaaGreatDoor.MemF Go.Proofs.YtgipnbeipfhekaaGreatDoor.GiveM Go.Proofs.YtgipnbeipfhekaaGreatDoor.RatM Go.Proofs.YtgipnbeipfhekaaGreatDoor.Blk Go.Proofs.YtgipnbeipfhekaaGreatDoor.LvM Go.Proofs.YtgipnbeipfhekaaGreatDoor.LvQ Go.Proofs.YtgipnbeipfhekaaGreatDoor.LvO Go.Proofs.YtgipnbeipfhekaaGreatDoor.LvT Go.Proofs.YtgipnbeipfhekaaGreatDoor.LvW Go.Proofs.YtgipnbeipfhekaaGreatDoor.LvF Go.Proofs.YtgipnbeipfhekaaGreatDoor.LvG Go.Proofs.YtgipnbeipfhekaaGreatDoor.LvX
set_option linter.unusedVariables false
end Go.Proofs.YtgipnbeipfhekaaGreatDoor.LvI
namespace Go.Proofs.YtgipnbeipfhekaaGreatDoor.LvR
set_option linter.unusedVariables false
def bump (xs : List Int) : List Int := xs.set (xs.length - 1) (xs.getD (xs.length - 1) 0 + 1)
def newRun (f : Nat → Nat) (i : Nat) : Bool := decide (i = 0) || decide (f i ≠ f (i - 1))
def runsTo (f : Nat → Nat) : Nat → List Int
 | 0 => []
 | i + 1 => bump (if newRun f i then runsTo f i ++ [0] else runsTo f i)
theorem bump_len (xs : List Int) : (bump xs).length = xs.length := by simp [bump]
theorem bump_snoc (xs : List Int) : bump (xs ++ [0]) = xs ++ [1] := by simp [bump, List.getD]
theorem bump_mem {xs : List Int} {lo hi : Int} (h : ∀ k, k < xs.length → lo ≤ xs.getD k 0 ∧ xs.getD k 0 ≤ hi) : ∀ k, k < xs.length → lo ≤ (bump xs).getD k 0 ∧ (bump xs).getD k 0 ≤ hi + 1 := by
 intro k hk
 have h1 := h k hk
 have h2 := h (xs.length - 1) (by omega)
 unfold bump
 by_cases e : xs.length - 1 = k
 ·rw [← e] at hk ⊢
  simp only [List.getD, List.getElem?_set_self hk, Option.getD_some] at h2 ⊢
  omega
 ·simp only [List.getD, List.getElem?_set_ne e] at h1 ⊢
  omega
theorem runs_in (f : Nat → Nat) : ∀ i, (runsTo f i).length ≤ i ∧ (1 ≤ i → 1 ≤ (runsTo f i).length) ∧ ∀ k, k < (runsTo f i).length → 1 ≤ (runsTo f i).getD k 0 ∧ (runsTo f i).getD k 0 ≤ (i : Int)
 | 0 => ⟨Nat.le_refl _, fun h => by omega, fun k h => absurd h (Nat.not_lt_zero k)⟩
 | i + 1 => by
  obtain ⟨h1, h2, h3⟩ := runs_in f i
  rw [runsTo]
  by_cases hn : newRun f i = true
  ·rw [if_pos hn, bump_snoc]
   refine ⟨by simp; omega, fun _ => by simp, fun k hk => ?_⟩
   simp at hk
   by_cases e : k < (runsTo f i).length
   ·have := h3 k e
    simp only [List.getD, List.getElem?_append_left e] at this ⊢
    omega
   ·obtain rfl : k = (runsTo f i).length := by omega
    simp [List.getD]
    omega
  ·rw [if_neg hn]
   have hi : 1 ≤ i := by
    rcases Nat.eq_zero_or_pos i with h | h
    ·exact absurd (by simp [newRun, h]) hn
    ·exact h
   refine ⟨by rw [bump_len]; omega, fun _ => by rw [bump_len]; exact h2 hi, fun k hk => ?_⟩
   rw [bump_len] at hk
   have := bump_mem h3 k hk
   omega
def maxTo (xs : List Int) : Nat → Int
 | 0 => 0
 | k + 1 => max (maxTo xs k) (xs.getD k 0)
theorem maxTo_le {xs : List Int} {hi : Int} (h0 : 0 ≤ hi) (h : ∀ k, k < xs.length → xs.getD k 0 ≤ hi) : ∀ k, k ≤ xs.length → 0 ≤ maxTo xs k ∧ maxTo xs k ≤ hi
 | 0, _ => ⟨Int.le_refl _, h0⟩
 | k + 1, hk => by
  have := maxTo_le h0 h k (by omega)
  have := h k (by omega)
  rw [maxTo]; omega
theorem maxTo_ge {xs : List Int} : ∀ k, 1 ≤ k → xs.getD 0 0 ≤ maxTo xs k
 | 0, h => by omega
 | 1, _ => by rw [maxTo, maxTo]; omega
 | k + 2, _ => by
  have := maxTo_ge (xs := xs) (k + 1) (by omega)
  rw [maxTo]; omega
def mostR (f : Nat → Nat) (n : Nat) : Int := maxTo (runsTo f n) (runsTo f n).length
theorem mostR_in (f : Nat → Nat) {n : Nat} (hn : 1 ≤ n) : 1 ≤ mostR f n ∧ mostR f n ≤ (n : Int) := by
 obtain ⟨h1, h2, h3⟩ := runs_in f n
 have h4 := maxTo_le (xs := runsTo f n) (hi := (n : Int)) (by omega) (fun k hk => (h3 k hk).2) _ (Nat.le_refl _)
 have h5 := maxTo_ge (xs := runsTo f n) (runsTo f n).length (h2 hn)
 have h6 := h3 0 (h2 hn)
 unfold mostR
 omega
def onesTo (f : Nat → Nat) : Nat → Nat
 | 0 => 0
 | i + 1 => onesTo f i + (if f i = 49 then 1 else 0)
theorem ones_le (f : Nat → Nat) : ∀ i, onesTo f i ≤ i
 | 0 => Nat.le_refl _
 | i + 1 => by have := ones_le f i; rw [onesTo]; split <;> omega
end Go.Proofs.YtgipnbeipfhekaaGreatDoor.LvR
namespace Go.Proofs.YtgipnbeipfhekaaGreatDoor.LvJ
open Go.RowKit Go.Proofs.YtgipnbeipfhekaaGreatDoor Go.Proofs.YtgipnbeipfhekaaGreatDoor.Base Go.Proofs.YtgipnbeipfhekaaGreatDoor.Mem Go.Proofs.YtgipnbeipfhekaaGreatDoor.LvR Go.Proofs.YtgipnbeipfhekaaGreatDoor.LvO Go.Proofs.YtgipnbeipfhekaaGreatDoor.Dice
set_option linter.unusedVariables false
def byt (s : ByteArray) (i : Nat) : Nat := if h : i < s.size then s[i].toNat else 0
theorem byt_at {s : ByteArray} {i : Nat} (h : i < s.size) : byt s i = s[i].toNat := dif_pos h
theorem lastI {w : World} {B m : Nat} {v : Value} {xs : List Int} (h : OwnI w B v xs) (hl : xs.length = m + 1) :
  ∃ g c, v = .slice (some ⟨g, 0, none⟩) (m + 1) c ∧ B ≤ g ∧ w.cell? ⟨g, m, none⟩ = some (.int .i64 (xs.getD m 0)) ∧ w.frozen? ⟨g, m, none⟩ = false ∧ OwnI (w.setCell ⟨g, m, none⟩ (.int .i64 (xs.getD m 0 + 1))) B v (bump xs) := by
 obtain ⟨A, c, e, hA⟩ := h.form
 obtain ⟨g, rfl, hg, hlt⟩ := hA (by omega)
 rw [hl] at e
 subst e
 have h' : w.ownsRow B 2 1 (.slice (some ⟨g, 0, none⟩) xs.length c) xs.length (ints xs) := by
  have := h
  unfold OwnI at this
  rw [hl] at this ⊢
  exact this
 have e := World.ownsRow.cellAt h' m (by omega)
 rw [ints_get _ m (by omega)] at e
 refine ⟨g, c, rfl, hg, e, h'.frozenAt m, ?_⟩
 have := (storeI (i := m) (xs.getD m 0 + 1) h hl).1
 rw [bump, hl, Nat.add_sub_cancel]
 exact this
def RnRel (s : ByteArray) (w : World) (ov : Value) (i : Nat) (wr : World) : Prop := Hid (OwnI wr w.heap.size ov (runsTo (byt s) i)) ∧ Hid (Below w.heap.size w wr)
def RunRet (s : ByteArray) (w : World) (e : Ending) (w' : World) : Prop := ∃ A c, e = .returned (.slice A (runsTo (byt s) s.size).length c) ∧ OwnI w' w.heap.size (.slice A (runsTo (byt s) s.size).length c) (runsTo (byt s) s.size) ∧ Below w.heap.size w w'
end Go.Proofs.YtgipnbeipfhekaaGreatDoor.LvJ
namespace Go.Proofs.YtgipnbeipfhekaaGreatDoor.Choose
open Go.RowKit Go.Proofs.YtgipnbeipfhekaaGreatDoor Go.Proofs.YtgipnbeipfhekaaGreatDoor.Base Go.Proofs.YtgipnbeipfhekaaGreatDoor.Bits
set_option linter.unusedVariables false
def ch : Nat → Nat → Nat
 | _, 0 => 1
 | 0, _ + 1 => 0
 | n + 1, k + 1 => ch n k + ch n (k + 1)
theorem ch_zero (n : Nat) : ch n 0 = 1 := by cases n <;> rfl
theorem ch_over : ∀ n k, n < k → ch n k = 0
 | 0, k + 1, _ => rfl
 | n + 1, k + 1, h => by rw [ch, ch_over n k (by omega), ch_over n (k + 1) (by omega)]
theorem ch_self : ∀ n, ch n n = 1
 | 0 => rfl
 | n + 1 => by rw [ch, ch_self n, ch_over n (n + 1) (by omega)]
theorem ch_row : ∀ n k, (n + 1) * ch n k = (k + 1) * ch (n + 1) (k + 1)
 | n, 0 => by
  induction n with
  | zero => rfl
  | succ n ih =>
   rw [ch_zero] at *
   rw [ch, ch_zero]
   omega
 | 0, k + 1 => by rw [ch, ch, ch_over 0 (k + 1) (by omega), ch_over 0 (k + 2) (by omega)]; simp
 | n + 1, k + 1 => by
  have h1 := ch_row n k
  have h2 := ch_row n (k + 1)
  have e1 : ch (n + 1) (k + 1) = ch n k + ch n (k + 1) := rfl
  have e2 : ch (n + 2) (k + 2) = ch (n + 1) (k + 1) + ch (n + 1) (k + 2) := rfl
  have e3 : ch (n + 1) (k + 2) = ch n (k + 1) + ch n (k + 2) := rfl
  rw [show n + 1 + 1 = n + 2 from rfl, show k + 1 + 1 = k + 2 from rfl] at *
  generalize ch n k = a at *
  generalize ch n (k + 1) = b at *
  generalize ch n (k + 2) = c at *
  generalize ch (n + 1) (k + 1) = d at *
  generalize ch (n + 1) (k + 2) = e at *
  generalize ch (n + 2) (k + 2) = f at *
  subst e2
  have h3 : (n + 1) * (a + b) = (k + 1) * d + (k + 2) * e := by rw [Nat.mul_add, h1, h2]
  rw [← e1] at h3
  have h4 : (n + 2) * d = (n + 1) * d + d := by rw [show n + 2 = n + 1 + 1 from rfl, Nat.add_mul, Nat.one_mul]
  have h5 : (k + 2) * (d + e) = (k + 1) * d + d + (k + 2) * e := by rw [Nat.mul_add, show k + 2 = k + 1 + 1 from rfl, Nat.add_mul (k + 1) 1 d, Nat.one_mul]
  omega
theorem ch_next : ∀ n k, k ≤ n → ch n (k + 1) * (k + 1) = ch n k * (n - k)
 | 0, k, h => by
  obtain rfl : k = 0 := by omega
  rfl
 | n + 1, 0, _ => by
  have := ch_row n 0
  rw [ch_zero] at *
  omega
 | n + 1, k + 1, h => by
  have h1 := ch_row n (k + 1)
  have h2 := ch_row n k
  have h3 := ch_next n k (by omega)
  rw [show n + 1 - (k + 1) = n - k by omega, Nat.mul_comm, ← h1, Nat.mul_comm (ch (n + 1) (k + 1))]
  have e : (k + 1) * ((n - k) * ch (n + 1) (k + 1)) = (k + 1) * ((n + 1) * ch n (k + 1)) := by
   rw [Nat.mul_left_comm, ← h2, Nat.mul_left_comm (k + 1) (n + 1), Nat.mul_comm (k + 1) (ch n (k + 1)), h3, Nat.mul_left_comm, Nat.mul_comm (n - k)]
  exact (Nat.eq_of_mul_eq_mul_left (Nat.succ_pos k) e).symm
theorem ch_div {n k : Nat} (h : k ≤ n) : ch n k * (n - k) / (k + 1) = ch n (k + 1) := by
 rw [← ch_next n k h]
 exact Nat.mul_div_cancel _ (Nat.succ_pos k)
theorem ch_sym : ∀ n k, k ≤ n → ch n (n - k) = ch n k
 | 0, k, h => by
  obtain rfl : k = 0 := by omega
  rfl
 | n + 1, 0, _ => by rw [Nat.sub_zero, ch_self, ch_zero]
 | n + 1, k + 1, h => by
  rcases Nat.lt_or_ge k n with hlt | hge
  ·rw [show n + 1 - (k + 1) = (n - (k + 1)) + 1 by omega, ch, ch, ch_sym n (k + 1) (by omega), show n - (k + 1) + 1 = n - k by omega, ch_sym n k (by omega), Nat.add_comm]
  ·obtain rfl : k = n := by omega
   rw [Nat.sub_self, ch_zero, ch_self]
theorem ch_min {n k : Nat} (h : k ≤ n) : ch n (min k (n - k)) = ch n k := by
 rcases Nat.le_total k (n - k) with h1 | h1
 ·rw [Nat.min_eq_left h1]
 ·rw [Nat.min_eq_right h1, ch_sym n k h]
theorem ch_le2 : ∀ n k, ch n k ≤ 2 ^ n
 | 0, 0 => by decide
 | 0, k + 1 => by simp [ch]
 | n + 1, 0 => by rw [ch_zero]; exact Nat.two_pow_pos _
 | n + 1, k + 1 => by
  have h1 := ch_le2 n k
  have h2 := ch_le2 n (k + 1)
  rw [ch, Nat.pow_succ]; omega
theorem and32 (x : Int) (h0 : 0 ≤ x) (h : x < 18446744073709551616) : bits .and .u64 x 4294967295 = x % 4294967296 := by
 have := u64_and_nat x.toNat 4294967295 (by omega) (by omega)
 rw [show (4294967295 : Nat) = 2 ^ 32 - 1 from rfl, Nat.and_two_pow_sub_one_eq_mod] at this
 have e : (x.toNat : Int) = x := by omega
 rw [e, show ((2 ^ 32 - 1 : Nat) : Int) = 4294967295 from rfl] at this
 rw [this]; omega
set_option maxHeartbeats 400000 in
theorem mul64_any (x y : Nat) (w : World) (hx : x < 18446744073709551616) (hy : y < 4294967296) (hxy : x * y < 18446744073709551616) :
  Calls Tryz.prog 153 #[.int .u64 x, .int .u64 y] w fun e w' => e = .returned (.tuple #[.int .u64 0, .int .u64 (x * y : Nat)]) ∧ w = w' := by
 have e1 := and32 y (by omega) (by omega)
 have e2 := and32 x (by omega) (by omega)
 have e3 : (y : Int) % 4294967296 = y := by omega
 have e4 : (y : Int) / 4294967296 = 0 := by omega
 rw [e3] at e1
 obtain ⟨a, ha⟩ : ∃ a, a = x / 4294967296 := ⟨_, rfl⟩
 obtain ⟨b, hb⟩ : ∃ b, b = x % 4294967296 := ⟨_, rfl⟩
 have hb2 : b < 4294967296 := by omega
 have hxe : x = a * 4294967296 + b := by omega
 have hp : x * y = a * y * 4294967296 + b * y := by rw [hxe, Nat.add_mul, Nat.mul_assoc, Nat.mul_comm 4294967296 y, ← Nat.mul_assoc]
 have hq : b * y < 4294967296 * 4294967296 := Nat.mul_lt_mul_of_lt_of_le hb2 (by omega) (by omega)
 have f1 : (x : Int) / 4294967296 = a := by omega
 have f2 : (x : Int) % 4294967296 = b := by omega
 have f3 : (x : Int) * y = ((x * y : Nat) : Int) := by simp
 rw [f2] at e2
 have g1 : (a : Int) * y = ((a * y : Nat) : Int) := by simp
 have g2 : (b : Int) * y = ((b * y : Nat) : Int) := by simp
 generalize x * y = m at *
 generalize a * y = p at *
 generalize b * y = q at *
 have e5 := and32 ((p : Int) + q / 4294967296) (by omega) (by omega)
 have e6 : ((p : Int) + q / 4294967296) % 4294967296 = (p : Int) + q / 4294967296 := by omega
 have e7 : ((p : Int) + q / 4294967296) / 4294967296 = 0 := by omega
 rw [e6] at e5
 clear e3 e6 ha hb hp hxe
 go_enter Tryz.func153, Tryz.ntmps153
 go_wp2
 go_ret2
 exact ⟨rfl, rfl⟩
set_option maxHeartbeats 400000 in
theorem div64_any (x y : Nat) (w : World) (hx : x < 18446744073709551616) (hy : y < 18446744073709551616) (hy0 : 0 < y) :
  Calls Tryz.prog 154 #[.int .u64 0, .int .u64 x, .int .u64 y] w fun e w' => e = .returned (.tuple #[.int .u64 (x / y : Nat), .int .u64 (x % y : Nat)]) ∧ ∃ n, w' = w.drewN n := by
 have h1 : ((y : Int) == 0) = false := by simp; omega
 have h2 : ¬ (y : Int) ≤ 0 := by omega
 have h3 : x / y ≤ x := Nat.div_le_self _ _
 have h4 : IntKind.u64.wrap ((x : Int) / y) = ((x / y : Nat) : Int) := by
  rw [show (x : Int) / y = ((x / y : Nat) : Int) by simp]
  generalize x / y = d at *
  exact IntWalk.u64_in _ (by omega)
 have H4 := Lib.hid h4
 clear h4
 go_enter Tryz.func154, Tryz.ntmps154
 go_wp2
 go_quiet (fail)
 go_wp2
 go_ret2
 exact ⟨by rw [← H4.out]; simp, _, rfl⟩
set_option maxHeartbeats 1000000 in
theorem choose_any (n k : Nat) (w : World) (hn : n ≤ 50) (hk : k ≤ n) : Calls Tryz.prog 94 #[.int .i64 n, .int .i64 k] w fun e w' => e = .returned (.int .i64 (ch n k : Nat)) ∧ ∃ m, w' = w.drewN m := by
  have i1 := inR_yes (n := (k : Int)) (lo := 0) (hi := n) (by omega)
  have hm := Lib.hid (ch_min hk)
  obtain ⟨t, ht⟩ : ∃ t : Nat, t = min k (n - k) := ⟨_, rfl⟩
  have htk : t ≤ k := by omega
  rw [← ht] at hm
  by_cases hmin : (n : Int) - (k : Int) < (k : Int)
  all_goals
    first | (have hmn : t = n - k := by omega) | (have hmn : t = k := by omega)
    have HT := Lib.hid hmn
    clear hmn ht
    go_enter Tryz.func94, Tryz.ntmps94
    go_wp2_with (go_at_call 31; refine (inRange_any _ _ _ _).mono ?_; rintro e w' ⟨rfl, rfl⟩)
    go_loopw [5, 6] (fun out i wr => ∃ j : Nat, j ≤ t ∧ i = .int .i64 ((j : Int) + 1) ∧ out = .int .i64 (ch n j : Nat) ∧ ∃ m, wr = w.drewN m) (fun _ i _ => n + 1 - (intOf i).toNat)
    case atStart => exact ⟨0, by omega, rfl, by rw [ch_zero]; rfl, 0, rfl⟩
    case round =>
      obtain ⟨j, hj, rfl, rfl, m, rfl⟩ := hrel
      by_cases hlt : j < t
      · have hd := Lib.hid (ch_div (n := n) (k := j) (by omega))
        have hle := ch_le2 n j
        have hp : 2 ^ n ≤ 2 ^ 50 := Nat.pow_le_pow_right (by decide) hn
        have hle2 : ch n (j + 1) ≤ 2 ^ 50 := Nat.le_trans (ch_le2 n (j + 1)) hp
        generalize ch n j = a at *
        have hm2 : a * (n - j) ≤ 2 ^ 50 * 50 := Nat.mul_le_mul (by omega) (by omega)
        have hte := HT.out
        have hlt1 : (j : Int) + 1 ≤ (n : Int) - k := by omega
        have hlt2 : (j : Int) + 1 ≤ k := by omega
        clear hte
        go_wp2_with fail
        rw [show (n : Int) - ((j : Int) + 1) + 1 = ((n - j : Nat) : Int) by omega]
        refine (mul64_any a (n - j) _ (by omega) (by omega) (by omega)).mono ?_
        rintro e w' ⟨rfl, rfl⟩
        generalize a * (n - j) = x at *
        go_wp2_with fail
        rw [show (j : Int) + 1 = ((j + 1 : Nat) : Int) by omega]
        refine (div64_any x (j + 1) _ (by omega) (by omega) (by omega)).mono ?_
        rintro e w' ⟨rfl, m2, rfl⟩
        rw [hd.out]
        generalize hy : ch n (j + 1) = y at *
        have HY := Lib.hid hy
        clear hy
        go_wp2_with fail
        go_roundw
        case rel => exact ⟨j + 1, by omega, by go_num, by rw [HY.out], m + m2, rfl⟩
        case measure => simp [intOf]; omega
      · obtain rfl : j = t := by omega
        have hte := HT.out
        have hlt1 : ¬ (j : Int) + 1 ≤ (n : Int) - k ∨ ¬ (j : Int) + 1 ≤ k := by omega
        first
          | (have hlt2 : ¬ (j : Int) + 1 ≤ (n : Int) - k := by omega
             clear hte
             go_wp2
             go_ret
             exact ⟨ret_int (by rw [hm.out]), m, rfl⟩)
          | (have hlt2 : ¬ (j : Int) + 1 ≤ k := by omega
             clear hte
             go_wp2
             go_ret
             exact ⟨ret_int (by rw [hm.out]), m, rfl⟩)
end Go.Proofs.YtgipnbeipfhekaaGreatDoor.Choose
namespace Go.Proofs.YtgipnbeipfhekaaGreatDoor.LvQ
open Go.Proofs.YtgipnbeipfhekaaGreatDoor.Choose Go.Proofs.YtgipnbeipfhekaaGreatDoor.LvM
set_option linter.unusedVariables false
theorem ch_pos : ∀ n k, k ≤ n → 0 < ch n k
 | n, 0, _ => by rw [ch_zero]; decide
 | 0, k + 1, h => by omega
 | n + 1, k + 1, h => by
  have := ch_pos n k (by omega)
  rw [ch]; omega
theorem ch_sum : ∀ n, sm (n + 1) (ch n) = 2 ^ n
 | 0 => by simp [sm, ch]
 | n + 1 => by
  have h1 := ch_sum n
  have h2 : sm (n + 2) (ch n) = 2 ^ n := by rw [sm, h1, ch_over n (n + 1) (by omega)]; rfl
  rw [sm_first, ch_zero] at h2
  have h3 : sm (n + 1) (fun i => ch (n + 1) (i + 1)) = sm (n + 1) (fun i => ch n i + ch n (i + 1)) := sm_congr fun i _ => by rw [ch]
  have h4 : sm (n + 1) (fun i => ch n i) = 2 ^ n := h1
  rw [sm_first, ch_zero, h3, sm_add, Nat.pow_succ]
  omega
def onesC (n : Nat) : Cnt := ⟨0, n + 1, ch n⟩
def runsC (n : Nat) : Cnt := ⟨1, n, fun k => 2 * ch (n - 1) k⟩
theorem onesC_ok (n : Nat) : (onesC n).ok n := ⟨Nat.zero_le _, Nat.le_refl _, fun i hi => ch_pos n i (by have : i < n + 1 := hi; omega), ch_sum n⟩
theorem runsC_ok {n : Nat} (hn : 1 ≤ n) : (runsC n).ok n := by
 obtain ⟨n, rfl⟩ : ∃ j, n = j + 1 := ⟨n - 1, by omega⟩
 refine ⟨Nat.le_refl _, Nat.le_succ _, fun i hi => ?_, ?_⟩
 ·have h : i < n + 1 := hi
  have := ch_pos n i (by omega)
  show 0 < 2 * ch (n + 1 - 1) i
  rw [Nat.add_sub_cancel]; omega
 ·show sm (n + 1) (fun k => 2 * ch (n + 1 - 1) k) = _
  rw [sm_mul, Nat.add_sub_cancel, ch_sum, Nat.pow_succ]; omega
end Go.Proofs.YtgipnbeipfhekaaGreatDoor.LvQ
namespace Go.Proofs.YtgipnbeipfhekaaGreatDoor.LvC
open Go.RowKit Go.Proofs.YtgipnbeipfhekaaGreatDoor Go.Proofs.YtgipnbeipfhekaaGreatDoor.Base Go.Proofs.YtgipnbeipfhekaaGreatDoor.Mem Go.Proofs.YtgipnbeipfhekaaGreatDoor.Choose Go.Proofs.YtgipnbeipfhekaaGreatDoor.LvO
set_option linter.unusedVariables false
end Go.Proofs.YtgipnbeipfhekaaGreatDoor.LvC
namespace Go.Proofs.YtgipnbeipfhekaaGreatDoor.LvU
open Go.RowKit Go.Proofs.YtgipnbeipfhekaaGreatDoor Go.Proofs.YtgipnbeipfhekaaGreatDoor.Base Go.Proofs.YtgipnbeipfhekaaGreatDoor.Mem Go.Proofs.YtgipnbeipfhekaaGreatDoor.LvM Go.Proofs.YtgipnbeipfhekaaGreatDoor.LvO
set_option linter.unusedVariables false
end Go.Proofs.YtgipnbeipfhekaaGreatDoor.LvU
namespace Go.Proofs.YtgipnbeipfhekaaGreatDoor.LvL
open Go.RowKit Go.Proofs.YtgipnbeipfhekaaGreatDoor Go.Proofs.YtgipnbeipfhekaaGreatDoor.Base Go.Proofs.YtgipnbeipfhekaaGreatDoor.Mem Go.Proofs.YtgipnbeipfhekaaGreatDoor.MemF Go.Proofs.YtgipnbeipfhekaaGreatDoor.GiveM Go.Proofs.YtgipnbeipfhekaaGreatDoor.RatM Go.Proofs.YtgipnbeipfhekaaGreatDoor.LvM Go.Proofs.YtgipnbeipfhekaaGreatDoor.LvQ Go.Proofs.YtgipnbeipfhekaaGreatDoor.LvO Go.Proofs.YtgipnbeipfhekaaGreatDoor.LvT Go.Proofs.YtgipnbeipfhekaaGreatDoor.Blk Go.Proofs.YtgipnbeipfhekaaGreatDoor.Choose
set_option linter.unusedVariables false
theorem pw_int {n M : Nat} (hn : n ≤ 50) (hM : M = 2 ^ n) : wrap64 ((2 : Int) ^ n) = (M : Int) := by
 have h3 : (2 : Nat) ^ n ≤ 2 ^ 50 := Nat.pow_le_pow_right (by decide) hn
 rw [show (2 : Int) ^ n = ((2 ^ n : Nat) : Int) by simp, ← hM]
 unfold wrap64
 omega
end Go.Proofs.YtgipnbeipfhekaaGreatDoor.LvL
namespace Go.Proofs.YtgipnbeipfhekaaGreatDoor.LvK
open Go.RowKit Go.Proofs.YtgipnbeipfhekaaGreatDoor Go.Proofs.YtgipnbeipfhekaaGreatDoor.Base Go.Proofs.YtgipnbeipfhekaaGreatDoor.Mem Go.Proofs.YtgipnbeipfhekaaGreatDoor.MemF Go.Proofs.YtgipnbeipfhekaaGreatDoor.Blk Go.Proofs.YtgipnbeipfhekaaGreatDoor.LvM Go.Proofs.YtgipnbeipfhekaaGreatDoor.LvQ Go.Proofs.YtgipnbeipfhekaaGreatDoor.LvO Go.Proofs.YtgipnbeipfhekaaGreatDoor.LvR Go.Proofs.YtgipnbeipfhekaaGreatDoor.LvT Go.Proofs.YtgipnbeipfhekaaGreatDoor.LvW Go.Proofs.YtgipnbeipfhekaaGreatDoor.LvJ Go.Proofs.YtgipnbeipfhekaaGreatDoor.Dice
set_option linter.unusedVariables false
def lvA (s : ByteArray) : Nat := upS (onesC s.size) ((onesC s.size).c (onesTo (byt s) s.size)) (onesC s.size).many
def lvB (s : ByteArray) : Nat := upS (runsC s.size) ((runsC s.size).c ((runsTo (byt s) s.size).length - 1)) (runsC s.size).many
def lvC (s : ByteArray) : Nat := upS (lenC s.size) ((lenC s.size).c ((mostR (byt s) s.size).toNat - 1)) (lenC s.size).many
def lvF (s : ByteArray) : List Int := [nD s.size (lvA s), dD s.size (lvA s), nD s.size (lvB s), dD s.size (lvB s), nD s.size (lvC s), dD s.size (lvC s)]
def FrRet (p q : Int) (w : World) (e : Ending) (w' : World) : Prop := e = .returned (.tuple #[.agg #[.int .i64 p, .int .i64 q], .bool true]) ∧ Below w.heap.size w w'
end Go.Proofs.YtgipnbeipfhekaaGreatDoor.LvK
namespace Go.Proofs.YtgipnbeipfhekaaGreatDoor.LvN
open Go.RowKit Go.Proofs.YtgipnbeipfhekaaGreatDoor Go.Proofs.YtgipnbeipfhekaaGreatDoor.Base Go.Proofs.YtgipnbeipfhekaaGreatDoor.Mem Go.Proofs.YtgipnbeipfhekaaGreatDoor.MemF Go.Proofs.YtgipnbeipfhekaaGreatDoor.Blk Go.Proofs.YtgipnbeipfhekaaGreatDoor.LvK Go.Proofs.YtgipnbeipfhekaaGreatDoor.Str Go.Proofs.YtgipnbeipfhekaaGreatDoor.Take
set_option linter.unusedVariables false
def okL (K W T m f a s c : Int) : Bool := streamB K W T m f a s && inR c 1 50
def txtL (K W T m f a s c : Int) : ByteArray := ⟨(takeL K W T m f a s c).toArray⟩
def resL (K W T m f a s c : Int) : List Int := if okL K W T m f a s c = true then lvF (txtL K W T m f a s c) else []
def numL (K W T m f a s c : Int) : Nat := if okL K W T m f a s c = true then 3 else 0
def LvRet (K W T m f a s c : Int) (w : World) (e : Ending) (w' : World) : Prop := FsRet (numL K W T m f a s c) (resL K W T m f a s c) (okL K W T m f a s c) w e w'
theorem LvRet.no {K W T m f a s c : Int} {w w' : World} (h : okL K W T m f a s c = false) (hb : Below w.heap.size w w') : LvRet K W T m f a s c w (.returned (.tuple #[.slice none 0 0, .bool false])) w' := by
 unfold LvRet numL resL
 rw [h]
 exact FsRet.no hb
theorem LvRet.yes {K W T m f a s c : Int} {w w' : World} {A : Option Addr} {k : Nat} (h : okL K W T m f a s c = true) (ho : OwnF w' w.heap.size (.slice A 3 k) 3 (lvF (txtL K W T m f a s c))) (hb : Below w.heap.size w w') : LvRet K W T m f a s c w (.returned (.tuple #[.slice A 3 k, .bool true])) w' := by
 unfold LvRet numL resL
 rw [h]
 exact ⟨A, k, rfl, ho, hb⟩
end Go.Proofs.YtgipnbeipfhekaaGreatDoor.LvN
namespace Go.Proofs.YtgipnbeipfhekaaGreatDoor.CarM
open Go.Proofs.YtgipnbeipfhekaaGreatDoor Go.Proofs.YtgipnbeipfhekaaGreatDoor.Dec Go.Proofs.YtgipnbeipfhekaaGreatDoor.LabV Go.Proofs.YtgipnbeipfhekaaGreatDoor.Str Go.Proofs.YtgipnbeipfhekaaGreatDoor.StM Go.Proofs.YtgipnbeipfhekaaGreatDoor.StTx Go.Proofs.YtgipnbeipfhekaaGreatDoor.Rd Go.Proofs.YtgipnbeipfhekaaGreatDoor.Skip Go.Proofs.YtgipnbeipfhekaaGreatDoor.Take Go.Proofs.YtgipnbeipfhekaaGreatDoor.Face Go.Proofs.YtgipnbeipfhekaaGreatDoor.Val Go.Proofs.YtgipnbeipfhekaaGreatDoor.CutP
set_option linter.unusedVariables false
abbrev Lb := List ByteArray × List St
def posS (ss : List ByteArray) (x : ByteArray) : Nat := Lib.bsGo (fun t => lessS (ss.getD t ByteArray.empty) x) ss.length 0 ss.length
def hasS (ss : List ByteArray) (x : ByteArray) : Bool := decide (posS ss x < ss.length ∧ ss.getD (posS ss x) ByteArray.empty = x)
def findR (L : Lb) (x : ByteArray) : Option St := if hasS L.1 x = true then some (L.2.getD (posS L.1 x) zeroSt) else none
def withR (L : Lb) (x : ByteArray) (r : St) : Lb := if hasS L.1 x = true then (L.1, L.2.set (posS L.1 x) r) else (L.1.take (posS L.1 x) ++ x :: L.1.drop (posS L.1 x), L.2.take (posS L.1 x) ++ r :: L.2.drop (posS L.1 x))
def goneR (L : Lb) (x : ByteArray) : Lb := (L.1.take (posS L.1 x) ++ L.1.drop (posS L.1 x + 1), L.2.take (posS L.1 x) ++ L.2.drop (posS L.1 x + 1))
def labR (L : Lb) : Bool := labB L.1 L.2.length (flat L.2)
def toSt (t : S7) : St := ⟨t.1, t.2.1, t.2.2.1, t.2.2.2.1, t.2.2.2.2.1, t.2.2.2.2.2.1, t.2.2.2.2.2.2⟩
abbrev Tx := List UInt8
def wSet : Tx := [115, 101, 116]
def wCopy : Tx := [99, 111, 112, 121]
def wBits : Tx := [98, 105, 116, 115]
def wSkip : Tx := [115, 107, 105, 112]
def wRoll : Tx := [114, 111, 108, 108]
def wCards : Tx := [99, 97, 114, 100, 115]
def wLevels : Tx := [108, 101, 118, 101, 108, 115]
def wDrop : Tx := [100, 114, 111, 112]
def wShow : Tx := [115, 104, 111, 119]
def wCycle : Tx := [99, 121, 99, 108, 101]
def tOk : Tx := [111, 107]
def tNo : Tx := [110, 111]
def tWhat : Tx := [119, 104, 97, 116]
def tNone : Tx := [110, 111, 110, 101]
def decI (x : Int) : Tx := Lib.decDigits x.toNat
def joinR (sep : Tx) (xs : List Tx) : Tx := Lib.join xs sep
def listR (xs : List Int) : Tx := if xs = [] then tNone else joinR [44] (xs.map decI)
def fracR (p q : Int) : Tx := if q = 1 then decI p else decI p ++ 47 :: decI q
def fracsR (xs : List Int) : Nat → List Tx
 | 0 => []
 | k + 1 => fracsR xs k ++ [fracR (xs.getD (2 * k) 0) (xs.getD (2 * k + 1) 0)]
noncomputable def giveR (L : Lb) (cmd name word : Tx) : Option Lb :=
 match (if cmd = wSet then (rdO word).map toSt else findR L (tx word)) with
 | none => none
 | some r => if labR (withR L (tx name) r) = true then some (withR L (tx name) r) else none
noncomputable def useR (L : Lb) (cmd name : Tx) : Option (Lb × Tx) :=
 match findR L (tx name) with
 | none => none
 | some r => if cmd = wDrop then some (goneR L (tx name), tOk) else if cmd = wShow then some (L, textS r.K r.W r.T r.m r.f r.a r.s) else some (L, decI (preS r.K r.W r.T r.m r.f r.a r.s) ++ 32 :: decI (perS r.K r.W r.T r.m r.f r.a r.s))
noncomputable def drawT (cmd : Tx) (r : St) (n : Int) : Option (St × Tx) :=
 if cmd = wBits then (if okB r.K r.W r.T r.m r.f r.a r.s n = true then some (r.to (takeX r.K r.W r.T r.m r.f r.a r.s n), if takeL r.K r.W r.T r.m r.f r.a r.s n = [] then tNone else takeL r.K r.W r.T r.m r.f r.a r.s n) else none)
 else if cmd = wSkip then (if okS r.K r.W r.T r.m r.f r.a r.s n = true then some (r.to (takeX r.K r.W r.T r.m r.f r.a r.s n), tOk) else none)
 else if cmd = wRoll then (facesR r.K r.W r.T r.m r.f r.a r.s n 1).map (fun q => (r.to q.2, listR q.1))
 else if cmd = wCards then (ordR r.K r.W r.T r.m r.f r.a r.s n).map (fun q => (r.to q.2, listR q.1))
 else if LvN.okL r.K r.W r.T r.m r.f r.a r.s n = true then some (r, joinR [32] (fracsR (LvN.resL r.K r.W r.T r.m r.f r.a r.s n) 3)) else none
noncomputable def drawR (L : Lb) (cmd name word : Tx) : Option (Lb × Tx) :=
 match findR L (tx name), valO word with
 | some r, some n => (drawT cmd r n).map fun q => (withR L (tx name) q.1, q.2)
 | _, _ => none
def wordsR (c : Tx) : Nat :=
 if c = wSet ∨ c = wCopy ∨ c = wBits ∨ c = wSkip ∨ c = wRoll ∨ c = wCards ∨ c = wLevels then 3 else if c = wDrop ∨ c = wShow ∨ c = wCycle then 2 else 0
noncomputable def doR (L : Lb) (c a b : Tx) : Option (Lb × Tx) :=
 if c = wSet ∨ c = wCopy then (giveR L c a b).map fun q => (q, tOk) else if c = wDrop ∨ c = wShow ∨ c = wCycle then useR L c a else drawR L c a b
noncomputable def lineR (L : Lb) (line : Tx) : Lb × Tx :=
 if wordsR ((cutR 32 line).getD 0 []) = (cutR 32 line).length then (doR L ((cutR 32 line).getD 0 []) ((cutR 32 line).getD 1 []) ((cutR 32 line).getD 2 [])).getD (L, tNo) else (L, tWhat)
noncomputable def runR (L : Lb) : List Tx → Lb × Tx
 | [] => (L, [])
 | x :: r => ((runR (lineR L x).1 r).1, (lineR L x).2 ++ 10 :: (runR (lineR L x).1 r).2)
end Go.Proofs.YtgipnbeipfhekaaGreatDoor.CarM
namespace Go.Proofs
open Go.Shelf
def YtgipnbeipfhekaaGreatDoor.lcS26_ren : Go.Shelf.Ren := ⟨fun | 26 => 184 | 33 => 219 | 34 => 220 | 38 => 237 | n => n, fun | 24 => 50 | 9 => 9 | 3 => 3 | 4 => 4 | 40 => 118 | 0 => 0 | n => n, fun | n => n⟩
theorem YtgipnbeipfhekaaGreatDoor.lcS26 : Go.Proofs.Lays2.n26 Tryz.prog YtgipnbeipfhekaaGreatDoor.lcS26_ren := {
 mixed := by kernel_rfl
 f26 := Tryz.func184.trans (congrArg some (by kernel_rfl))
 f33 := Tryz.func219.trans (congrArg some (by kernel_rfl))
 f34 := Tryz.func220.trans (congrArg some (by kernel_rfl))
 f38 := Tryz.func237.trans (congrArg some (by kernel_rfl))
 t0 := Tryz.underlying0
 a0 := Tryz.isAgg0
 z0 := Tryz.sizeOf0
 v0 := Tryz.zeroValue0
 t3 := Tryz.underlying3
 a3 := Tryz.isAgg3
 z3 := Tryz.sizeOf3
 v3 := Tryz.zeroValue3
 t4 := Tryz.underlying4
 a4 := Tryz.isAgg4
 z4 := Tryz.sizeOf4
 v4 := Tryz.zeroValue4
 t9 := Tryz.underlying9
 a9 := Tryz.isAgg9
 z9 := Tryz.sizeOf9
 v9 := Tryz.zeroValue9
 t24 := Tryz.underlying50
 a24 := Tryz.isAgg50
 z24 := Tryz.sizeOf50
 v24 := Tryz.zeroValue50
 t40 := Tryz.underlying118
 a40 := Tryz.isAgg118
 z40 := Tryz.sizeOf118
 v40 := Tryz.zeroValue118 }
end Go.Proofs
namespace Go.Proofs.YtgipnbeipfhekaaGreatDoor.LcA
open Go.RowKit Go.Proofs.YtgipnbeipfhekaaGreatDoor Go.Proofs.YtgipnbeipfhekaaGreatDoor.Base Go.Proofs.YtgipnbeipfhekaaGreatDoor.Mem Go.Proofs.YtgipnbeipfhekaaGreatDoor.Take Go.Proofs.YtgipnbeipfhekaaGreatDoor.MemS Go.Proofs.YtgipnbeipfhekaaGreatDoor.LabM Go.Proofs.YtgipnbeipfhekaaGreatDoor.LabV Go.Proofs.YtgipnbeipfhekaaGreatDoor.StM Go.Proofs.YtgipnbeipfhekaaGreatDoor.Dec Go.Proofs.YtgipnbeipfhekaaGreatDoor.CarM
set_option linter.unusedVariables false
theorem search_any (A : Option Addr) (c B : Nat) (ss : List ByteArray) (x : ByteArray) (w : World) (hx : RdT w B A ss) (hn : ss.length ≤ 1000) :
  Calls Tryz.prog 184 #[.slice A ss.length c, .string x] w fun e w' => e = .returned (.tuple #[.int .i64 ((posS ss x : Nat) : Int), .bool (hasS ss x)]) ∧ Below w.heap.size w w' := by
 by_cases h0 : ss = []
 ·subst h0
  refine (Any2.slices_BinarySearch_string_empty YtgipnbeipfhekaaGreatDoor.lcS26 A c x w).mono ?_
  rintro e w' ⟨rfl, rfl⟩
  exact ⟨rfl, Below.refl _ _⟩
 ·have hpos : 0 < ss.length := List.length_pos_iff.2 h0
  obtain ⟨b, off, rfl, _, hc⟩ := hx hpos
  refine (Any2.slices_BinarySearch_string YtgipnbeipfhekaaGreatDoor.lcS26 b off ss.length c (fun t => ss.getD t ByteArray.empty) x w (by omega) hc).mono ?_
  rintro e w' ⟨rfl, q, rfl⟩
  exact ⟨rfl, below_drewN (Below.refl _ _) q⟩
def TyAt (w : World) (A : Option Addr) (t : TypeId) : Prop := ∀ b off sub, A = some ⟨b, off, sub⟩ → ∃ cs fr, w.heap[b]? = some (.cells cs t fr)
theorem heap_lt {w : World} {b : Nat} {o : Obj} (h : w.heap[b]? = some o) : b < w.heap.size := by
 rcases Nat.lt_or_ge b w.heap.size with hlt | hge
 ·exact hlt
 ·rw [Array.getElem?_eq_none hge] at h; cases h
theorem TyAt.below {w w' : World} {A : Option Addr} {t : TypeId} (h : TyAt w A t) (hb : Below w.heap.size w w') : TyAt w' A t := fun b off sub e => by
 obtain ⟨cs, fr, h1⟩ := h b off sub e
 exact ⟨cs, fr, (hb.block b (heap_lt h1)).trans h1⟩
theorem TyAt.put {w : World} {A : Option Addr} {t : TypeId} (h : TyAt w A t) (p : Addr) (x : Value) : TyAt (w.setCell p x) A t := fun b off sub e => by
 obtain ⟨cs, fr, h1⟩ := h b off sub e
 by_cases hp : p.block = b
 ·subst hp
  unfold World.setCell
  simp only [Array.getElem?_modify, if_true, h1, Option.map_some]
  exact ⟨_, _, rfl⟩
 ·refine ⟨cs, fr, ?_⟩
  unfold World.setCell
  simp only [Array.getElem?_modify, if_neg hp, h1]
theorem TyAt.own {w : World} {B sz n c : Nat} {A : Option Addr} {t : TypeId} {xs : List Value} (h : w.ownsRow B t sz (.slice A n c) n xs) : TyAt w A t := fun b off sub e => by
 subst e
 obtain ⟨cur, h2, _⟩ := ownsRow_block h (g := b) rfl
 exact ⟨cur, _, h2⟩
theorem TyAt.none (w : World) (t : TypeId) : TyAt w none t := by
 intro b off sub e
 cases e
def LabAt (w : World) (v : Value) (L : Lb) : Prop := ∃ A c A' c', v = .agg #[.slice A L.1.length c, .slice A' L.2.length c'] ∧ RdT w w.heap.size A L.1 ∧ RdS w w.heap.size A' L.2.length (flat L.2) ∧ TyAt w A 9 ∧ TyAt w A' 29
theorem LabAt.below {w w' : World} {v : Value} {L : Lb} (h : LabAt w v L) (hb : Below w.heap.size w w') : LabAt w' v L := by
 obtain ⟨A, c, A', c', e, h1, h2, h3, h4⟩ := h
 exact ⟨A, c, A', c', e, (h1.below hb (Nat.le_refl _)).more hb.size, (h2.below hb (Nat.le_refl _)).more hb.size, h3.below hb, h4.below hb⟩
theorem LabAt.nil (w : World) : LabAt w (.agg #[.slice none 0 0, .slice none 0 0]) ([], []) := ⟨none, 0, none, 0, rfl, fun h => absurd h (Nat.lt_irrefl 0), fun h => absurd h (Nat.lt_irrefl 0), TyAt.none w _, TyAt.none w _⟩
theorem RdS.st {w : World} {B : Nat} {A : Option Addr} {xs : List St} (h : RdS w B A xs.length (flat xs)) {j : Nat} (hj : j < xs.length) : ∃ b off, A = some ⟨b, off, none⟩ ∧ b < B ∧ At7 w b (off + j * 7) (fun i => (xs.getD j zeroSt).l.getD i 0) := by
 obtain ⟨b, off, e, hb, hc⟩ := RdS.at7 h hj
 refine ⟨b, off, e, hb, ?_⟩
 have k : ∀ i, i < 7 → (flat xs).getD (7 * j + i) 0 = (xs.getD j zeroSt).l.getD i 0 := fun i hi => flat_get xs j i hi
 exact ⟨(k 0 (by decide)) ▸ hc.c0, (k 1 (by decide)) ▸ hc.c1, (k 2 (by decide)) ▸ hc.c2, (k 3 (by decide)) ▸ hc.c3, (k 4 (by decide)) ▸ hc.c4, (k 5 (by decide)) ▸ hc.c5, (k 6 (by decide)) ▸ hc.c6⟩
set_option maxHeartbeats 2000000 in
theorem find_any (L : Lb) (A A' : Option Addr) (c c' : Nat) (x : ByteArray) (w : World) (hx : RdT w w.heap.size A L.1) (hy : RdS w w.heap.size A' L.2.length (flat L.2)) (hl : L.1.length = L.2.length) (hn : L.1.length ≤ 6) :
  Calls Tryz.prog 137 #[.agg #[.slice A L.1.length c, .slice A' L.2.length c'], .string x] w fun e w' => e = .returned (match findR L x with | some r => .tuple #[r.val, .bool true] | none => .tuple #[zeroSt.val, .bool false]) ∧ Below w.heap.size w w' := by
 have HX := Lib.hid hx
 have HY := Lib.hid hy
 obtain ⟨W1, hW1⟩ : ∃ W1, W1 = (w.alloc (.cells #[.slice A L.1.length c, .slice A' L.2.length c'] 53)).alloc (.cells #[.int .i64 0, .int .i64 0, .int .i64 0, .int .i64 0, .int .i64 0, .int .i64 0, .int .i64 0] 29) := ⟨_, rfl⟩
 have b1 : Below w.heap.size w W1 := by rw [hW1]; exact ((Below.refl _ _).alloc (Nat.le_refl _) _).alloc (by simp) _
 have KL : Blk.Blk W1 w.heap.size 53 #[.slice A L.1.length c, .slice A' L.2.length c'] := by rw [hW1]; exact (Blk.Blk.new w _ _).alloc _
 have KR : SBox W1 (w.heap.size + 1) 0 0 0 0 0 0 0 := by
  have := SBox.new (w.alloc (.cells #[.slice A L.1.length c, .slice A' L.2.length c'] 53)) 0 0 0 0 0 0 0
  rw [World.size_alloc] at this
  rw [hW1]; exact this
 have HR := Lib.hid KR
 have HLL := Lib.hid hl
 have HS := Lib.hid (search_any A c W1.heap.size L.1 x W1 ((hx.below b1 (Nat.le_refl _)).more b1.size) (by omega))
 have HW := Lib.hid hW1
 have HB := Lib.hid b1
 have HK := Lib.hid KL
 have d0 := KL.at 0 (v := .slice A L.1.length c) rfl
 have d1 := KL.at 1 (v := .slice A' L.2.length c') rfl
 clear hx hy hW1 b1 KL KR hl
 cases hh : hasS L.1 x with
 | false =>
  have HF : Hid (findR L x = none) := Lib.hid (by unfold findR; rw [hh]; rfl)
  rw [hh] at HS
  rw [HF.out]
  clear hh
  generalize posS L.1 x = q at *
  go_enter Tryz.func137, Tryz.ntmps137
  go_wp2_with fail
  rw [← HW.out]
  refine HS.out.mono ?_
  rintro e w' ⟨rfl, hb⟩
  have HB2 := Lib.hid (Base.Below.nextA HB.out hb)
  have KR2 := HR.out.below hb HR.out.lt
  have x0 := (KR2).c0; have x1 := (KR2).c1; have x2 := (KR2).c2; have x3 := (KR2).c3; have x4 := (KR2).c4; have x5 := (KR2).c5; have x6 := (KR2).c6
  have z0 := (KR2).frz 0; have z1 := (KR2).frz 1; have z2 := (KR2).frz 2; have z3 := (KR2).frz 3; have z4 := (KR2).frz 4; have z5 := (KR2).frz 5; have z6 := (KR2).frz 6
  have S8 := KR2.set7 0 0 0 0 0 0 0
  have p0 := (S8).c0; have p1 := (S8).c1; have p2 := (S8).c2; have p3 := (S8).c3; have p4 := (S8).c4; have p5 := (S8).c5; have p6 := (S8).c6
  simp only [set7] at p0 p1 p2 p3 p4 p5 p6
  clear hb KR2 S8
  go_wp2
  refine bodyPost_ret (v := .tuple #[zeroSt.val, .bool false]) (by simp [results, Tryz.results137, go_sem, zeroSt, St.val, p0, p1, p2, p3, p4, p5, p6]) rfl ?_
  exact ⟨rfl, (((((((HB2.out).setCell (Nat.le_succ _) _).setCell (Nat.le_succ _) _).setCell (Nat.le_succ _) _).setCell (Nat.le_succ _) _).setCell (Nat.le_succ _) _).setCell (Nat.le_succ _) _).setCell (Nat.le_succ _) _⟩
 | true =>
  have hp : posS L.1 x < L.1.length := (of_decide_eq_true hh).1
  obtain ⟨r, hr⟩ : ∃ r, r = L.2.getD (posS L.1 x) zeroSt := ⟨_, rfl⟩
  have HF : Hid (findR L x = some r) := Lib.hid (by unfold findR; rw [hh, hr]; rfl)
  obtain ⟨b, off, rfl, hbb, hc⟩ := RdS.st HY.out (show posS L.1 x < L.2.length by have := HLL.out; omega)
  rw [← hr] at hc
  rw [hh] at HS
  rw [HF.out]
  have HC := Lib.hid hc
  clear hh hr hc
  generalize posS L.1 x = q at *
  have hpl : (q : Int) < (L.2.length : Int) := by have := HLL.out; omega
  go_enter Tryz.func137, Tryz.ntmps137
  go_wp2_with fail
  rw [← HW.out]
  refine HS.out.mono ?_
  rintro e w' ⟨rfl, hb⟩
  have bb := Base.Below.nextA HB.out hb
  have K2 := HK.out.belowS hb
  have e0 := K2.at 0 (v := .slice A L.1.length c) rfl
  have e1 := K2.at 1 (v := .slice (some ⟨b, off, none⟩) L.2.length c') rfl
  have G := HC.out.below bb hbb
  have g0 := G.c0
  have g1 := G.c1
  have g2 := G.c2
  have g3 := G.c3
  have g4 := G.c4
  have g5 := G.c5
  have g6 := G.c6
  have HB2 := Lib.hid bb
  have KR2 := HR.out.below hb HR.out.lt
  have x0 := (KR2).c0; have x1 := (KR2).c1; have x2 := (KR2).c2; have x3 := (KR2).c3; have x4 := (KR2).c4; have x5 := (KR2).c5; have x6 := (KR2).c6
  have z0 := (KR2).frz 0; have z1 := (KR2).frz 1; have z2 := (KR2).frz 2; have z3 := (KR2).frz 3; have z4 := (KR2).frz 4; have z5 := (KR2).frz 5; have z6 := (KR2).frz 6
  have S8 := KR2.set7 r.K r.W r.T r.m r.f r.a r.s
  have p0 := (S8).c0; have p1 := (S8).c1; have p2 := (S8).c2; have p3 := (S8).c3; have p4 := (S8).c4; have p5 := (S8).c5; have p6 := (S8).c6
  simp only [set7] at p0 p1 p2 p3 p4 p5 p6
  simp only [St.l, List.getD_cons_zero, List.getD_cons_succ] at g0 g1 g2 g3 g4 g5 g6
  clear hb bb K2 HC KR2 S8 G
  obtain ⟨K, W, T, m, f, a, s⟩ := r
  go_wp2
  refine bodyPost_ret (v := .tuple #[.agg #[.int .i64 K, .int .i64 W, .int .i64 T, .int .i64 m, .int .i64 f, .int .i64 a, .int .i64 s], .bool true]) (by simp [results, Tryz.results137, go_sem, p0, p1, p2, p3, p4, p5, p6]) rfl ?_
  exact ⟨rfl, (((((((HB2.out).setCell (Nat.le_succ _) _).setCell (Nat.le_succ _) _).setCell (Nat.le_succ _) _).setCell (Nat.le_succ _) _).setCell (Nat.le_succ _) _).setCell (Nat.le_succ _) _).setCell (Nat.le_succ _) _⟩
end Go.Proofs.YtgipnbeipfhekaaGreatDoor.LcA
namespace Go.Proofs.YtgipnbeipfhekaaGreatDoor.LcC
open Go.RowKit Go.Proofs.YtgipnbeipfhekaaGreatDoor Go.Proofs.YtgipnbeipfhekaaGreatDoor.Base Go.Proofs.YtgipnbeipfhekaaGreatDoor.Mem Go.Proofs.YtgipnbeipfhekaaGreatDoor.MemS Go.Proofs.YtgipnbeipfhekaaGreatDoor.LabM Go.Proofs.YtgipnbeipfhekaaGreatDoor.LabV Go.Proofs.YtgipnbeipfhekaaGreatDoor.StM Go.Proofs.YtgipnbeipfhekaaGreatDoor.CarM Go.Proofs.YtgipnbeipfhekaaGreatDoor.LcA
set_option linter.unusedVariables false
theorem newsT {w : World} {B : Nat} {ad : Addr} {ss : List ByteArray} (h : RdT w B (some ad) ss) (hB : B ≤ w.heap.size) (o : Obj) : ∀ j u, (texts ss)[j]? = some u → (w.alloc o).cell? (ad.add j) = some u := fun j u hj => by
 have hl : j < ss.length := by
  have := (List.getElem?_eq_some_iff.1 hj).1
  simpa [texts] using this
 obtain ⟨b, off, e2, _, hc⟩ := (h.below ((Below.refl w.heap.size w).alloc (Nat.le_refl _) o) hB) (by omega)
 injection e2 with e2
 subst e2
 rw [Addr.add_lit, hc j hl]
 simp only [texts, List.getElem?_map, List.getElem?_eq_getElem hl, Option.map_some] at hj
 rw [← hj]
 simp [List.getD, hl]
theorem newsS {w : World} {B n : Nat} {ad : Addr} {fs : List Int} (h : RdS w B (some ad) n fs) (hf : fs.length = 7 * n) (hB : B ≤ w.heap.size) (o : Obj) : ∀ j u, (ints fs)[j]? = some u → (w.alloc o).cell? (ad.add j) = some u := fun j u hj => by
 have hl : j < fs.length := by
  have := (List.getElem?_eq_some_iff.1 hj).1
  rwa [ints_len] at this
 obtain ⟨b, off, e2, _, hc⟩ := (h.below ((Below.refl w.heap.size w).alloc (Nat.le_refl _) o) hB) (by omega)
 injection e2 with e2
 subst e2
 rw [Addr.add_lit, hc j (by omega)]
 rw [ints_get _ j hl] at hj
 rw [← hj]
set_option maxHeartbeats 1000000 in
theorem cloneT_any (A : Option Addr) (c B : Nat) (ss : List ByteArray) (w : World) (hx : RdT w B A ss) (hB : B ≤ w.heap.size) (hn : ss.length ≤ 1000) :
  Calls Tryz.prog 91 #[.slice A ss.length c] w fun e w' => ∃ A' c', e = .returned (.slice A' ss.length c') ∧ w'.ownsRow w.heap.size 9 1 (.slice A' ss.length c') ss.length (texts ss) ∧ Below w.heap.size w w' := by
 obtain ⟨i0, hi, hz0, hz1, hz2⟩ := info_parts infoT
 have q22 : ∀ (w : World) (a : Option Addr) (n c n' c' : Nat), (binOp .eql 50 (.slice a n c) (.slice none n' c')).run Tryz.prog w = .ok (.bool a.isNone) w := fun w a n c n' c' => Lib.run_eql_slice_nil w _ _ a n c n' c' Tryz.underlying50
 cases A with
 | none =>
  have h0 : ss = [] := by
   rcases ss with _ | ⟨x, xs⟩
   ·rfl
   ·obtain ⟨b, off, e, _⟩ := hx (by simp)
    cases e
  subst h0
  clear hx
  go_enter Tryz.func91, Tryz.ntmps91
  go_wp2
  go_ret
  exact ⟨none, 0, rfl, World.ownsRow_nil _ _ _ _, Below.refl _ _⟩
 | some ad =>
  have HN := Lib.hid (newsT hx hB (.cells #[] 9))
  have HW := Lib.hid (World.ownsRow_made (base := w.heap.size) (e := 9) (size := 1) w #[] 0 (Nat.le_refl _) (Nat.zero_le _) rfl)
  clear hx
  go_enter Tryz.func91, Tryz.ntmps91
  go_wp2_with (at_builtin; refine wpList_append_own_at _ rfl (.tmp 5) (.tmp 6) 50 rfl w.heap.size 9 i0 (.string ByteArray.empty) 1 16 Tryz.underlying50 hi hz0 hz1 hz2 rfl (by decide) _ _ _ rfl HW.out ad ss.length c (texts ss) rfl ?p1 ?p2 ?p3 ?p4 ?p5 ?p6 ?_)
  try case p1 => simp [texts]
  try case p2 => exact HN.out
  try case p3 => exact fun u hu => by obtain ⟨x, _, rfl⟩ := List.mem_map.1 hu; rfl
  try case p4 => first | (simp only [maxLen]; omega) | omega
  try case p5 => omega
  try case p6 => first | (simp only [World.size_alloc]; omega) | omega
  intro v' w2 hown' hgrow _ he
  have hown2 : w2.ownsRow w.heap.size 9 1 v' ss.length (texts ss) := by simpa using hown'
  obtain ⟨A2, c2, rfl, _⟩ := ownsRow_form hown2
  have HO := Lib.hid hown2
  have HB2 := Lib.hid (((Below.refl w.heap.size w).alloc (Nat.le_refl _) (.cells #[] 9)).trans (grown_below (show (w.alloc (.cells #[] 9)).grownBy w2 (some w.heap.size) from hgrow) (fun g e => by injection e with e; omega) (by simp)))
  clear hown' hown2 hgrow he
  go_wp2
  go_ret
  exact ⟨A2, c2, rfl, HO.out, HB2.out⟩
set_option maxHeartbeats 1000000 in
theorem cloneS_any (A : Option Addr) (c B : Nat) (n : Nat) (fs : List Int) (w : World) (hx : RdS w B A n fs) (hB : B ≤ w.heap.size) (hn : n ≤ 1000) (hf : fs.length = 7 * n) :
  Calls Tryz.prog 92 #[.slice A n c] w fun e w' => ∃ A' c', e = .returned (.slice A' n c') ∧ w'.ownsRow w.heap.size 29 7 (.slice A' n c') n (ints fs) ∧ Below w.heap.size w w' := by
 obtain ⟨i0, hi, hz0, hz1, hz2⟩ := info_parts infoSt7
 have q22 : ∀ (w : World) (a : Option Addr) (n c n' c' : Nat), (binOp .eql 51 (.slice a n c) (.slice none n' c')).run Tryz.prog w = .ok (.bool a.isNone) w := fun w a n c n' c' => Lib.run_eql_slice_nil w _ _ a n c n' c' Tryz.underlying51
 cases A with
 | none =>
  have h0 : n = 0 := by
   rcases n with _ | n
   ·rfl
   ·obtain ⟨b, off, e, _⟩ := hx (by omega)
    cases e
  subst h0
  obtain rfl : fs = [] := List.length_eq_zero_iff.1 (by omega)
  clear hx
  go_enter Tryz.func92, Tryz.ntmps92
  go_wp2
  go_ret
  exact ⟨none, 0, rfl, World.ownsRow_nil _ _ _ _, Below.refl _ _⟩
 | some ad =>
  have HN := Lib.hid (newsS hx hf hB (.cells #[] 29))
  have HW := Lib.hid (World.ownsRow_made (base := w.heap.size) (e := 29) (size := 7) w #[] 0 (Nat.le_refl _) (Nat.zero_le _) rfl)
  have HFL := Lib.hid hf
  clear hf
  clear hx
  go_enter Tryz.func92, Tryz.ntmps92
  go_wp2_with (at_builtin; refine wpList_append_own_at _ rfl (.tmp 5) (.tmp 6) 51 rfl w.heap.size 29 i0 (.agg #[.int .i64 0, .int .i64 0, .int .i64 0, .int .i64 0, .int .i64 0, .int .i64 0, .int .i64 0]) 7 56 Tryz.underlying51 hi hz0 hz1 hz2 rfl (by decide) _ _ _ rfl HW.out ad n c (ints fs) rfl ?p1 ?p2 ?p3 ?p4 ?p5 ?p6 ?_)
  try case p1 => have := HFL.out; rw [ints_len]; omega
  try case p2 => exact HN.out
  try case p3 => exact ints_one fs
  try case p4 => first | (simp only [maxLen]; omega) | omega
  try case p5 => omega
  try case p6 => first | (simp only [World.size_alloc]; omega) | omega
  intro v' w2 hown' hgrow _ he
  have hown2 : w2.ownsRow w.heap.size 29 7 v' n (ints fs) := by simpa using hown'
  obtain ⟨A2, c2, rfl, _⟩ := ownsRow_form hown2
  have HO := Lib.hid hown2
  have HB2 := Lib.hid (((Below.refl w.heap.size w).alloc (Nat.le_refl _) (.cells #[] 29)).trans (grown_below (show (w.alloc (.cells #[] 29)).grownBy w2 (some w.heap.size) from hgrow) (fun g e => by injection e with e; omega) (by simp)))
  clear hown' hown2 hgrow he
  go_wp2
  go_ret
  exact ⟨A2, c2, rfl, HO.out, HB2.out⟩
end Go.Proofs.YtgipnbeipfhekaaGreatDoor.LcC
namespace Go.Proofs.YtgipnbeipfhekaaGreatDoor.LcC
open Go.RowKit Go.Proofs.YtgipnbeipfhekaaGreatDoor Go.Proofs.YtgipnbeipfhekaaGreatDoor.Base Go.Proofs.YtgipnbeipfhekaaGreatDoor.Mem Go.Proofs.YtgipnbeipfhekaaGreatDoor.MemS Go.Proofs.YtgipnbeipfhekaaGreatDoor.LabM Go.Proofs.YtgipnbeipfhekaaGreatDoor.LabV Go.Proofs.YtgipnbeipfhekaaGreatDoor.StM Go.Proofs.YtgipnbeipfhekaaGreatDoor.CarM Go.Proofs.YtgipnbeipfhekaaGreatDoor.LcA
set_option linter.unusedVariables false
def TCl (B : Nat) (ss : List ByteArray) (w : World) (v : Value) : Prop := ∃ A c, v = .slice A ss.length c ∧ w.ownsRow B 9 1 (.slice A ss.length c) ss.length (texts ss)
theorem tclM (B : Nat) (ss : List ByteArray) : Rel.Mono (fun v w => TCl B ss w v) := fun v w w' ⟨A, c, e, h⟩ hb => ⟨A, c, e, ownsRow_below h hb⟩
def SCl (B n : Nat) (fs : List Int) (w : World) (v : Value) : Prop := ∃ A c, v = .slice A n c ∧ w.ownsRow B 29 7 (.slice A n c) n (ints fs)
theorem sclM (B n : Nat) (fs : List Int) : Rel.Mono (fun v w => SCl B n fs w v) := fun v w w' ⟨A, c, e, h⟩ hb => ⟨A, c, e, ownsRow_below h hb⟩
theorem ownsRow_setCell_below' {w : World} {B b : Nat} {e t : TypeId} {sz n : Nat} {v : Value} {xs : List Value} {cs : Array Value} (h : w.ownsRow B e sz v n xs) (hK : Blk.Blk w b t cs) (i : Nat) (x : Value) (j : Nat) (y : Value) (hne : e ≠ t := by decide) :
  ((w.setCell ⟨b, i, none⟩ x).setCell ⟨b, j, none⟩ y).ownsRow B e sz v n xs := by
 have h1 : v.ownBlock ≠ some b := fun he => by
  obtain ⟨cur, h2, _⟩ := ownsRow_block h he
  unfold Blk.Blk at hK
  rw [hK] at h2
  injection h2 with h2
  injection h2 with _ h3
  exact hne h3.symm
 exact World.ownsRow.kept (World.ownsRow.kept h (Src.grown_setCell _ _ _) (.inr h1)) (Src.grown_setCell _ _ _) (.inr h1)
def LCl (B : Nat) (ss : List ByteArray) (M : Nat) (fs : List Int) (w : World) (v : Value) : Prop := ∃ A1 c1 A2 c2, v = .agg #[.slice A1 ss.length c1, .slice A2 M c2] ∧ w.ownsRow B 9 1 (.slice A1 ss.length c1) ss.length (texts ss) ∧ w.ownsRow B 29 7 (.slice A2 M c2) M (ints fs)
theorem lclM (B : Nat) (ss : List ByteArray) (M : Nat) (fs : List Int) : Rel.Mono (fun v w => LCl B ss M fs w v) := fun v w w' ⟨A1, c1, A2, c2, e, h1, h2⟩ hb => ⟨A1, c1, A2, c2, e, ownsRow_below h1 hb, ownsRow_below h2 hb⟩
def LabOwn (B : Nat) (w : World) (v : Value) (L : Lb) : Prop := ∃ A c A' c', v = .agg #[.slice A L.1.length c, .slice A' L.2.length c'] ∧ w.ownsRow B 9 1 (.slice A L.1.length c) L.1.length (texts L.1) ∧ w.ownsRow B 29 7 (.slice A' L.2.length c') L.2.length (ints (flat L.2))
theorem LabOwn.below {B : Nat} {w w' : World} {v : Value} {L : Lb} (h : LabOwn B w v L) (hb : Below w.heap.size w w') : LabOwn B w' v L := by
 obtain ⟨A, c, A', c', e, h1, h2⟩ := h
 exact ⟨A, c, A', c', e, ownsRow_below h1 hb, ownsRow_below h2 hb⟩
theorem LabOwn.at {B : Nat} {w : World} {v : Value} {L : Lb} (h : LabOwn B w v L) : LabAt w v L := by
 obtain ⟨A, c, A', c', e, h1, h2⟩ := h
 exact ⟨A, c, A', c', e, OwnT.rd h1, OwnS.rd h2, TyAt.own h1, TyAt.own h2⟩
set_option maxHeartbeats 2000000 in
theorem labClone_rd (A A' : Option Addr) (c c' M : Nat) (ss : List ByteArray) (fs : List Int) (w : World) (hx : RdT w w.heap.size A ss) (hy : RdS w w.heap.size A' M fs) (hn : ss.length ≤ 1000) (hn2 : M ≤ 1000) (hf : fs.length = 7 * M) :
  Calls Tryz.prog 47 #[.agg #[.slice A ss.length c, .slice A' M c']] w fun e w' => ∃ v', e = .returned v' ∧ (∃ A1 c1 A2 c2, v' = .agg #[.slice A1 ss.length c1, .slice A2 M c2] ∧ w'.ownsRow w.heap.size 9 1 (.slice A1 ss.length c1) ss.length (texts ss) ∧ w'.ownsRow w.heap.size 29 7 (.slice A2 M c2) M (ints fs)) ∧ Below w.heap.size w w' := by
 obtain ⟨W2, hW2⟩ : ∃ W2, W2 = (w.alloc (.cells #[.slice A ss.length c, .slice A' M c'] 53)).alloc (.cells #[.slice none 0 0, .slice none 0 0] 53) := ⟨_, rfl⟩
 have b2 : Below w.heap.size w W2 := by rw [hW2]; exact ((Below.refl _ _).alloc (Nat.le_refl _) _).alloc (by simp) _
 have KL : Hid (Blk.Blk W2 w.heap.size 53 #[.slice A ss.length c, .slice A' M c']) := Lib.hid (by rw [hW2]; exact (Blk.Blk.new w _ _).alloc _)
 have KR : Hid (Blk.Blk W2 (w.heap.size + 1) 53 #[.slice none 0 0, .slice none 0 0]) := Lib.hid (by rw [hW2]; exact Blk.Blk.newAt _ _ (by simp))
 have hx2 := (hx.below b2 (Nat.le_refl _)).more b2.size
 have hy2 := (hy.below b2 (Nat.le_refl _)).more b2.size
 have HT := Lib.hid (fun W (hW : Below W2.heap.size W2 W) => cloneT_any A c W.heap.size ss W ((hx2.below hW (Nat.le_refl _)).more hW.size) (Nat.le_refl _) hn)
 have HS := Lib.hid (fun W (hW : Below W2.heap.size W2 W) => cloneS_any A' c' W.heap.size M fs W ((hy2.below hW (Nat.le_refl _)).more hW.size) (Nat.le_refl _) hn2 hf)
 have HB := Lib.hid b2
 have HBW := Lib.hid b2.size
 have HW := Lib.hid hW2
 clear hW2 b2 hx hy hx2 hy2 hf
 go_enter Tryz.func47, Tryz.ntmps47
 go_wp2_with fail
 rw [← HW.out]
 refine Rel.wp_region_rel 7 (by kernel_rfl) (by kernel_rfl) (fun F hF => ?_)
 simp only [List.take_succ_cons, List.take_zero, List.drop_succ_cons, List.drop_zero, Rel.putL] at hF ⊢
 have HF := Lib.hid hF
 clear hF
 have uv := @Rel.upon_value Tryz.prog
 have ue := @Rel.upon_enter Tryz.prog
 apply Rel.rel_pure
 apply Exists.intro
 refine ⟨fun vs wq hq hdp R hR => ?_, ?_⟩
 ·(rw [HF.out, Rel.stepAt_eq]; clear hdp; skip; go_simp; exact hR)
 apply Rel.rel_pure
 apply Exists.intro
 refine ⟨fun vs wq hq hdp R hR => ?_, ?_⟩
 ·(rw [HF.out, Rel.stepAt_eq]; have qd0 : vs 0 = _ := Rel.dep hdp 0 (by kernel_rfl); clear hdp; have x0 := (KL.out.belowS hq).at 0 (v := .slice A ss.length c) rfl; go_simp; exact hR)
 refine Rel.rel_law (S := fun v w' => TCl w.heap.size ss w' v) (tclM w.heap.size ss) (fun vs wq hq hdp => ?_) ?_
 ·(rw [HF.out, Rel.stepAt_eq]; have qd1 : vs 1 = _ := Rel.dep hdp 1 (by kernel_rfl); clear hdp; skip; go_simp; refine (HT.out wq hq).mono ?_; rintro e w7 ⟨A9, c9, rfl, ho, hb⟩; exact ⟨_, rfl, ⟨A9, c9, rfl, ownsRow_base ho (Nat.le_trans HBW.out hq.size)⟩, hb⟩)
 apply Rel.rel_pure
 apply Exists.intro
 refine ⟨fun vs wq hq hdp R hR => ?_, ?_⟩
 ·(rw [HF.out, Rel.stepAt_eq]; clear hdp; skip; go_simp; exact hR)
 apply Rel.rel_pure
 apply Exists.intro
 refine ⟨fun vs wq hq hdp R hR => ?_, ?_⟩
 ·(rw [HF.out, Rel.stepAt_eq]; have qd3 : vs 3 = _ := Rel.dep hdp 3 (by kernel_rfl); clear hdp; have x1 := (KL.out.belowS hq).at 1 (v := .slice A' M c') rfl; go_simp; exact hR)
 refine Rel.rel_law (S := fun v w' => SCl w.heap.size M fs w' v) (sclM w.heap.size M fs) (fun vs wq hq hdp => ?_) ?_
 ·(rw [HF.out, Rel.stepAt_eq]; have qd4 : vs 4 = _ := Rel.dep hdp 4 (by kernel_rfl); clear hdp; skip; go_simp; refine (HS.out wq hq).mono ?_; rintro e w7 ⟨A9, c9, rfl, ho, hb⟩; exact ⟨_, rfl, ⟨A9, c9, rfl, ownsRow_base ho (Nat.le_trans HBW.out hq.size)⟩, hb⟩)
 refine Rel.rel_law (S := fun v w' => LCl w.heap.size ss M fs w' v) (lclM w.heap.size ss M fs) (fun vs wq hq hdp => ?_) ?_
 ·(rw [HF.out, Rel.stepAt_eq]; have qd2 : TCl _ _ wq (vs 2) := Rel.dep hdp 2 (by kernel_rfl); have qd5 : SCl _ _ _ wq (vs 5) := Rel.dep hdp 5 (by kernel_rfl); clear hdp; obtain ⟨A1, c1, ev1, ho1⟩ := qd2; obtain ⟨A2, c2, ev2, ho2⟩ := qd5; have HPP : Hid (LCl w.heap.size ss M fs wq (.agg #[.slice A1 ss.length c1, .slice A2 M c2]) ∧ Below wq.heap.size wq wq) := Lib.hid ⟨⟨A1, c1, A2, c2, rfl, ho1, ho2⟩, Below.refl _ _⟩; clear ho1 ho2; go_simp; exact HPP.out)
 refine Rel.rel_end (fun vs wq hq hall => ?_)
 rw [HF.out]
 have qe0 : vs 0 = _ := Rel.fin hall 0 (by decide)
 have qe1 : vs 1 = _ := Rel.fin hall 1 (by decide)
 have qe2 : TCl _ _ wq (vs 2) := Rel.fin hall 2 (by decide)
 have qe3 : vs 3 = _ := Rel.fin hall 3 (by decide)
 have qe4 : vs 4 = _ := Rel.fin hall 4 (by decide)
 have qe5 : SCl _ _ _ wq (vs 5) := Rel.fin hall 5 (by decide)
 have qe6 : LCl _ _ _ _ wq (vs 6) := Rel.fin hall 6 (by decide)
 clear hall HF uv ue
 obtain ⟨A1, c1, A2, c2, ev, ho1, ho2⟩ := qe6
 have KR2 := KR.out.belowS hq
 have HB2 := Base.Below.nextA HB.out hq
 have r0 := KR2.at 0 (v := .slice none 0 0) rfl
 have r1 := KR2.at 1 (v := .slice none 0 0) rfl
 have f0 := KR2.frz 0
 have f1 := KR2.frz 1
 have KK := (KR2.setTo 0 (.slice A1 ss.length c1) rfl).setTo 1 (.slice A2 M c2) rfl
 have k0 := KK.at 0 (v := .slice A1 ss.length c1) rfl
 have k1 := KK.at 1 (v := .slice A2 M c2) rfl
 have HFIN := Lib.hid (And.intro (ownsRow_setCell_below' ho1 KR2 0 (.slice A1 ss.length c1) 1 (.slice A2 M c2)) (And.intro (ownsRow_setCell_below' ho2 KR2 0 (.slice A1 ss.length c1) 1 (.slice A2 M c2)) ((HB2.setCell (p := ⟨w.heap.size + 1, 0, none⟩) (Nat.le_succ _) (.slice A1 ss.length c1)).setCell (p := ⟨w.heap.size + 1, 1, none⟩) (Nat.le_succ _) (.slice A2 M c2))))
 clear KK KR2 HB2 ho1 ho2 hq qe0 qe1 qe2 qe3 qe4 qe5
 go_wp2
 refine bodyPost_ret (v := .agg #[.slice A1 ss.length c1, .slice A2 M c2]) (by simp [results, Tryz.results47, go_sem, k0, k1]) rfl ?_
 exact ⟨_, rfl, ⟨A1, c1, A2, c2, rfl, HFIN.out.1, HFIN.out.2.1⟩, HFIN.out.2.2⟩
theorem labClone_any (L : Lb) (v : Value) (w : World) (h : LabAt w v L) (hn : L.1.length ≤ 1000) (hn2 : L.2.length ≤ 1000) :
  Calls Tryz.prog 47 #[v] w fun e w' => ∃ v', e = .returned v' ∧ LabOwn w.heap.size w' v' L ∧ Below w.heap.size w w' := by
 obtain ⟨A, c, A', c', rfl, hx, hy, _⟩ := h
 exact labClone_rd A A' c c' L.2.length L.1 (flat L.2) w hx hy hn hn2 (flat_len _)
end Go.Proofs.YtgipnbeipfhekaaGreatDoor.LcC
namespace Go.Proofs.YtgipnbeipfhekaaGreatDoor.LcI
open Go.RowKit Go.Proofs.YtgipnbeipfhekaaGreatDoor Go.Proofs.YtgipnbeipfhekaaGreatDoor.Base Go.Proofs.YtgipnbeipfhekaaGreatDoor.Mem Go.Proofs.YtgipnbeipfhekaaGreatDoor.MemS Go.Proofs.YtgipnbeipfhekaaGreatDoor.LabM Go.Proofs.YtgipnbeipfhekaaGreatDoor.LabV Go.Proofs.YtgipnbeipfhekaaGreatDoor.StM Go.Proofs.YtgipnbeipfhekaaGreatDoor.CarM Go.Proofs.YtgipnbeipfhekaaGreatDoor.LcA
set_option linter.unusedVariables false
theorem news_add {w : World} {vb : Nat} {xs : List Value} (h : ∀ j u, xs[j]? = some u → w.cell? ⟨vb, j, none⟩ = some u) : ∀ j u, xs[j]? = some u → w.cell? ((⟨vb, 0, none⟩ : Addr).add j) = some u := fun j u hj => by
 rw [Addr.add_lit, Nat.zero_add]; exact h j u hj
set_option maxHeartbeats 4000000 in
set_option maxRecDepth 100000 in
theorem insT_end (A : Option Addr) (n c B vb : Nat) (xs news : List Value) (w : World) (hO : w.ownsRow B 9 1 (.slice A n c) n xs) (hB : B ≤ w.heap.size) (hn : n ≤ 1000) (hl : news.length = 1) (h1 : ∀ u ∈ news, u.oneCell' = true)
  (hv : ∀ j u, news[j]? = some u → w.cell? ⟨vb, j, none⟩ = some u) :
  Calls Tryz.prog 185 #[.slice A n c, .int .i64 (n : Int), .slice (some ⟨vb, 0, none⟩) 1 1] w fun e w' => ∃ A' c', e = .returned (.slice A' (n + 1) c') ∧ w'.ownsRow B 9 1 (.slice A' (n + 1) c') (n + 1) (xs ++ news) ∧ w.grownBy w' (Value.slice A n c).ownBlock := by
 obtain ⟨i0, hi, hz0, hz1, hz2⟩ := info_parts infoT
 have HN := Lib.hid (news_add hv)
 have H1 := Lib.hid h1
 have HO := Lib.hid hO
 have hform : (A = none ∧ n = 0) ∨ ∃ g, A = some ⟨g, 0, none⟩ ∧ (n = c ∨ (n < c ∧ ¬ c = n)) := by
  rcases hO.2 with ⟨hv, h0⟩ | ⟨g, cap, cur, hv, _, _, h3, _⟩
  ·injection hv with e1 e2 e3
   exact .inl ⟨e1, h0⟩
  ·injection hv with e1 e2 e3
   exact .inr ⟨g, e1, by omega⟩
 clear hO hv h1
 have hc63 : 0 ≤ c := Nat.zero_le _
 rcases hform with ⟨rfl, rfl⟩ | ⟨g, rfl, rfl | ⟨hnc, hcn⟩⟩
 all_goals
  go_enter Tryz.func185, Tryz.ntmps185
  go_wp2_with (at_builtin; refine wpList_append_own_at _ rfl (.tmp 23) (.tmp 24) 50 rfl B 9 i0 (.string ByteArray.empty) 1 16 Tryz.underlying50 hi hz0 hz1 hz2 rfl (by decide) _ _ _ rfl HO.out ⟨vb, 0, none⟩ 1 1 news rfl ?p1 ?p2 ?p3 ?p4 ?p5 ?p6 ?_)
  try case p1 => omega
  try case p2 => exact HN.out
  try case p3 => exact H1.out
  try case p4 => first | (simp only [maxLen]; omega) | omega
  try case p5 => omega
  try case p6 => first | omega | (simp only [World.size_alloc]; omega)
  intro v' w2 hown' hgrow _ he
  have hown2 : w2.ownsRow B 9 1 v' (_ + 1) (xs ++ news) := hown'
  obtain ⟨A2, c2, rfl, _⟩ := ownsRow_form hown2
  have HFO := Lib.hid hown2
  have HG := Lib.hid hgrow
  clear hown' hown2 hgrow he
  go_wp2
  go_ret
  exact ⟨A2, c2, rfl, HFO.out, HG.out⟩
set_option maxHeartbeats 4000000 in
set_option maxRecDepth 100000 in
theorem insS_end (A : Option Addr) (n c B vb : Nat) (xs news : List Value) (w : World) (hO : w.ownsRow B 29 7 (.slice A n c) n xs) (hB : B ≤ w.heap.size) (hn : n ≤ 1000) (hl : news.length = 7) (h1 : ∀ u ∈ news, u.oneCell' = true)
  (hv : ∀ j u, news[j]? = some u → w.cell? ⟨vb, j, none⟩ = some u) :
  Calls Tryz.prog 186 #[.slice A n c, .int .i64 (n : Int), .slice (some ⟨vb, 0, none⟩) 1 1] w fun e w' => ∃ A' c', e = .returned (.slice A' (n + 1) c') ∧ w'.ownsRow B 29 7 (.slice A' (n + 1) c') (n + 1) (xs ++ news) ∧ w.grownBy w' (Value.slice A n c).ownBlock := by
 obtain ⟨i0, hi, hz0, hz1, hz2⟩ := info_parts infoSt7
 have HN := Lib.hid (news_add hv)
 have H1 := Lib.hid h1
 have HO := Lib.hid hO
 have hform : (A = none ∧ n = 0) ∨ ∃ g, A = some ⟨g, 0, none⟩ ∧ (n = c ∨ (n < c ∧ ¬ c = n)) := by
  rcases hO.2 with ⟨hv, h0⟩ | ⟨g, cap, cur, hv, _, _, h3, _⟩
  ·injection hv with e1 e2 e3
   exact .inl ⟨e1, h0⟩
  ·injection hv with e1 e2 e3
   exact .inr ⟨g, e1, by omega⟩
 clear hO hv h1
 have hc63 : 0 ≤ c := Nat.zero_le _
 rcases hform with ⟨rfl, rfl⟩ | ⟨g, rfl, rfl | ⟨hnc, hcn⟩⟩
 all_goals
  go_enter Tryz.func186, Tryz.ntmps186
  go_wp2_with (at_builtin; refine wpList_append_own_at _ rfl (.tmp 23) (.tmp 24) 51 rfl B 29 i0 (.agg #[.int .i64 0, .int .i64 0, .int .i64 0, .int .i64 0, .int .i64 0, .int .i64 0, .int .i64 0]) 7 56 Tryz.underlying51 hi hz0 hz1 hz2 rfl (by decide) _ _ _ rfl HO.out ⟨vb, 0, none⟩ 1 1 news rfl ?p1 ?p2 ?p3 ?p4 ?p5 ?p6 ?_)
  try case p1 => omega
  try case p2 => exact HN.out
  try case p3 => exact H1.out
  try case p4 => first | (simp only [maxLen]; omega) | omega
  try case p5 => omega
  try case p6 => first | omega | (simp only [World.size_alloc]; omega)
  intro v' w2 hown' hgrow _ he
  have hown2 : w2.ownsRow B 29 7 v' (_ + 1) (xs ++ news) := hown'
  obtain ⟨A2, c2, rfl, _⟩ := ownsRow_form hown2
  have HFO := Lib.hid hown2
  have HG := Lib.hid hgrow
  clear hown' hown2 hgrow he
  go_wp2
  go_ret
  exact ⟨A2, c2, rfl, HFO.out, HG.out⟩
end Go.Proofs.YtgipnbeipfhekaaGreatDoor.LcI
