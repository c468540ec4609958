/- A register after many steps: the reference, the program, the law. -/
import Derived.Test.YthagenodiofgnaaGreatDoorMgFnD08
import Derived.Test.YthagenodiofgnaaGreatDoorMgFnD00
import Derived.BigRegion
import Derived.Test.YthagenodiofgnaaGreatDoorMgFnD07
import Derived.Maps.AppendAt
import Derived.Deep.RegionHeld3
import Derived.Test.YthagenodiofgnaaGreatDoorRows
import Derived.Deep.Matrix
import Derived.ProofKit
import Derived.OpenShut
import Derived.Lib.SmallJoins
import Derived.Deep.RegionWith
namespace Go.Proofs.YthagenodiofgnaaGreatDoor.Jump
open Go.RowKit Go.Proofs.YthagenodiofgnaaGreatDoor Go.Proofs.YthagenodiofgnaaGreatDoor.Base Go.Proofs.YthagenodiofgnaaGreatDoor.Poly Go.Proofs.YthagenodiofgnaaGreatDoor.Bits
set_option linter.unusedVariables false
theorem bl_poly {W T : Nat} (hT : T < 2 ^ W) : bl (2 ^ W ||| T) = W + 1 := by
 have h1 : bl (2 ^ W ||| T) ≤ W + 1 := bl_le (Nat.or_lt_two_pow (Nat.pow_lt_pow_right (by decide) (by omega)) (Nat.lt_of_lt_of_le hT (Nat.pow_le_pow_right (by decide) (by omega))))
 have h2 := bl_lt (2 ^ W ||| T)
 have h3 : 2 ^ W ≤ 2 ^ W ||| T := Nat.left_le_or
 have h4 : 2 ^ W < 2 ^ bl (2 ^ W ||| T) := by omega
 have := (Nat.pow_lt_pow_iff_right (by decide : 1 < 2)).1 h4
 omega
theorem poly_int {W T : Nat} (hW : W ≤ 16) (hT : T < 2 ^ W) : bits .or .i64 (wrap64 ((2 : Int) ^ W)) (T : Int) = ((2 ^ W ||| T : Nat) : Int) := by
 have h1 : 2 ^ W ≤ 2 ^ 16 := Nat.pow_le_pow_right (by decide) hW
 have e2 : wrap64 ((2 : Int) ^ W) = ((2 ^ W : Nat) : Int) := by
  rw [show (2 : Int) ^ W = ((2 ^ W : Nat) : Int) by simp]
  generalize 2 ^ W = m at *
  simp only [wrap64]; omega
 rw [e2, i64_or_nat _ _ (by omega) (by omega)]
theorem poly_int' {W T : Nat} (hW : W ≤ 16) (hT : T < 2 ^ W) : bits .or .i64 ((2 : Int) ^ W) (T : Int) = ((2 ^ W ||| T : Nat) : Int) := by
 have h1 : 2 ^ W ≤ 2 ^ 16 := Nat.pow_le_pow_right (by decide) hW
 rw [show (2 : Int) ^ W = ((2 ^ W : Nat) : Int) by simp, i64_or_nat _ _ (by omega) (by omega)]
theorem l02Of_any (b W T : Nat) (w : World) (h0 : w.cell? ⟨b, 0, none⟩ = some (.int .i64 W)) (h1 : w.cell? ⟨b, 1, none⟩ = some (.int .i64 T)) (hW : W ≤ 16) (hT : T < 2 ^ W) :
  Calls Tryz.prog 97 #[.pointer (some ⟨b, 0, none⟩)] w fun e w' => e = .returned (.int .i64 (2 ^ W ||| T : Nat)) ∧ ∃ n, w' = w.drewN n := by
 have HP := Lib.hid (poly_int hW hT)
 have HP' := Lib.hid (poly_int' hW hT)
 go_enter Tryz.func97, Tryz.ntmps97
 go_wp2
 go_quiet (fail)
 go_wp2
 go_ret
 exact ⟨ret_int (by first | exact HP.out | exact HP'.out), _, rfl⟩
def jumpTo (W T x n : Nat) : Nat := CycM.iter (Reg.nextR W T) x n
def JumpYes (W T x n : Nat) (w : World) (e : Ending) (w' : World) : Prop := e = .returned (.tuple #[.int .i64 (jumpTo W T x n : Nat), .bool true]) ∧ Below w.heap.size w w'
theorem jumpTo_lt {W T x n : Nat} (hx : x < 2 ^ W) : jumpTo W T x n < 2 ^ W := CycM.iter_lt (fun s hs => Reg.nextR_lt hs) hx n
theorem bothR_yes {W T x : Nat} (hW : W ≤ 16) (hT : T < 2 ^ W) (hx : x < 2 ^ W) : Reg.bothR W T x = true := by
 have e : ((2 ^ W : Nat) : Int) = (2 : Int) ^ W := by simp
 have h1 := inR_yes (n := (W : Int)) (lo := 0) (hi := 16) (by omega)
 have h2 := inR_yes (n := (T : Int)) (lo := 0) (hi := (2 : Int) ^ W - 1) (by omega)
 have h3 := inR_yes (n := (x : Int)) (lo := 0) (hi := (2 : Int) ^ W - 1) (by omega)
 simp [Reg.bothR, Reg.regB, Reg.stB, h1, h2, h3]
theorem jump_or {X i : Nat} (hX : X < 2 ^ 16) (hi : i < 16) : bits .or .i64 ((X % 2 ^ i : Nat) : Int) (wrap64 ((((X.testBit i).toNat : Nat) : Int) * 2 ^ i)) = ((X % 2 ^ (i + 1) : Nat) : Int) := by
 have hp : 2 ^ i ≤ 2 ^ 15 := Nat.pow_le_pow_right (by decide) (by omega)
 have h1 : (X.testBit i).toNat ≤ 1 := by cases X.testBit i <;> decide
 have h2 : (X.testBit i).toNat * 2 ^ i ≤ 1 * 2 ^ 15 := Nat.mul_le_mul h1 hp
 have h3 : X % 2 ^ i ≤ X := Nat.mod_le _ _
 have e : (((X.testBit i).toNat : Nat) : Int) * 2 ^ i = (((X.testBit i).toNat * 2 ^ i : Nat) : Int) := by simp
 rw [e, ← low_succ X i]
 generalize (X.testBit i).toNat * 2 ^ i = m at *
 have e2 : wrap64 ((m : Nat) : Int) = ((m : Nat) : Int) := by simp only [wrap64]; omega
 rw [e2, i64_or_nat _ _ (by omega) (by omega)]
set_option maxHeartbeats 1000000 in
theorem specJump_yes (W T x n : Nat) (w : World) (hW : W ≤ 16) (hT : T < 2 ^ W) (hx : x < 2 ^ W) (hn : n ≤ 1000000000000000000) :
  Calls Tryz.prog 75 #[.agg #[.int .i64 W, .int .i64 T], .int .i64 x, .int .i64 n] w (JumpYes W T x n w) := by
 have hp : 2 ^ W ≤ 2 ^ 16 := Nat.pow_le_pow_right (by decide) hW
 have hj := jumpTo_lt (T := T) (n := n) hx
 have i1 := inR_yes (n := (n : Int)) (lo := 0) (hi := 1000000000000000000) (by omega)
 have HB := Lib.hid (bothR_yes hW hT hx)
 obtain ⟨W0, hW0⟩ : ∃ W0, W0 = w.alloc (.cells #[.int .i64 W, .int .i64 T] 25) := ⟨_, rfl⟩
 have hz0 : W0.heap.size = w.heap.size + 1 := by rw [hW0]; simp
 have c0 : W0.cell? ⟨w.heap.size, 0, none⟩ = some (.int .i64 W) := by rw [hW0]; go_simp
 have c1 : W0.cell? ⟨w.heap.size, 1, none⟩ = some (.int .i64 T) := by rw [hW0]; go_simp
 have B0 := Lib.hid (show Below w.heap.size w W0 by rw [hW0]; exact (Below.refl _ _).alloc (Nat.le_refl _) _)
 have HW0 := Lib.hid hW0
 clear hW0
 have HBoth := Lib.hid (Reg.l02Both_any w.heap.size 0 (W : Int) T x W0 c0 c1)
 rw [HB.out] at HBoth
 have HZ := Lib.hid hz0
 have hz0' : w.heap.size < W0.heap.size := by omega
 clear hz0
 go_enter Tryz.func75, Tryz.ntmps75
 go_wp2_with fail
 rw [← HW0.out]
 refine HBoth.out.mono ?_
 rintro e w1 ⟨rfl, k1, rfl⟩
 go_wp2_with (go_at_call 22; refine (l00In_any _ _ _ _).mono ?_; rintro e w' ⟨rfl, rfl⟩)
 go_loopw [8, 9] (fun o i wr => ∃ k : Nat, k ≤ W ∧ i = .int .i64 k ∧ o = .int .i64 (jumpTo W T x n % 2 ^ k : Nat) ∧ Below W0.heap.size W0 wr) (fun _ i _ => W - (intOf i).toNat)
 case atStart => exact ⟨0, by omega, rfl, by simp [Nat.mod_one], below_drewN (Below.refl _ _) _⟩
 case round =>
  obtain ⟨k, hk, rfl, rfl, hb⟩ := hrel
  have d0 := (hb.cell (p := ⟨w.heap.size, 0, none⟩) hz0').trans c0
  have d1 := (hb.cell (p := ⟨w.heap.size, 1, none⟩) hz0').trans c1
  have HBel := Lib.hid hb
  have C0 := Lib.hid c0
  have C1 := Lib.hid c1
  clear hb c0 c1
  by_cases hlt : k < W
  ·have HO := Lib.hid (l02Of_any w.heap.size W T wr d0 d1 hW hT)
   have HPw := Lib.hid (fun w => l02Power_any (n + k) (2 ^ W ||| T) W (by omega) hW (bl_poly hT) w)
   have HR := Lib.hid (fun R hR h => rep_bit (n := n) (i := k) (R := R) hW hT hx hlt hR h)
   have HJ := Lib.hid (jump_or (X := jumpTo W T x n) (i := k) (by omega) (by omega))
   go_wp2_with fail
   refine HO.out.mono ?_
   rintro e w2 ⟨rfl, k2, rfl⟩
   go_wp2_with fail
   rw [show (n : Int) + (k : Int) = ((n + k : Nat) : Int) by omega]
   refine (HPw.out _).mono ?_
   rintro e w2 ⟨R, rfl, hR, hrep, rfl⟩
   have HR2 := Lib.hid (HR.out R hR hrep)
   have HA := Lib.hid (i64_and_nat R x (by omega) (by omega))
   have hRx : R &&& x < 9223372036854775808 := Nat.lt_of_le_of_lt Nat.and_le_left (by omega)
   clear hrep
   go_wp2_with fail
   rw [HA.out]
   refine (l02Parity_any _ hRx _).mono ?_
   rintro e w2 ⟨rfl, rfl⟩
   rw [HR2.out]
   go_wp2_with fail
   go_roundw
   case rel => exact ⟨k + 1, hlt, by go_num, by rw [← HJ.out]; rfl, below_drewN HBel.out _⟩
   case measure => simp [intOf]; omega
  ·obtain rfl : k = W := by omega
   have HM := Lib.hid (Nat.mod_eq_of_lt hj)
   go_wp2
   go_ret2
   exact ⟨by rw [HM.out]; rfl, B0.out.trans (HBel.out.mono (Nat.le_of_lt hz0'))⟩
theorem iter_per {F : Nat → Nat} {x j n : Nat} (h : F x = F x) (hc : CycM.iter F x j = CycM.iter F x n) (hj : j < n) : ∀ q, CycM.iter F x (j + q * (n - j)) = CycM.iter F x j
 | 0 => by simp
 | q + 1 => by
  have e : j + (q + 1) * (n - j) = n + q * (n - j) := by rw [Nat.add_mul, Nat.one_mul]; omega
  rw [e, CycM.iter_add, ← hc, ← CycM.iter_add, iter_per h hc hj q]
theorem iter_red {F : Nat → Nat} {x j n m : Nat} (h : CycM.IsCyc F x j n) (hm : j ≤ m) : CycM.iter F x (j + (m - j) % (n - j)) = CycM.iter F x m := by
 obtain ⟨h1, h2, _⟩ := h
 have e : m = (j + (m - j) / (n - j) * (n - j)) + (m - j) % (n - j) := by
  have := Nat.div_add_mod' (m - j) (n - j)
  omega
 conv => rhs; rw [e]
 rw [CycM.iter_add F x (j + (m - j) / (n - j) * (n - j)), iter_per rfl h2 h1, ← CycM.iter_add]
set_option maxHeartbeats 1000000 in
theorem jumpR_any (W T x n : Nat) (w : World) (hW : W ≤ 16) (hT : T < 2 ^ W) (hx : x < 2 ^ W) (hn : n ≤ 1000000000000000000) :
  Calls Tryz.prog 55 #[.agg #[.int .i64 W, .int .i64 T], .int .i64 x, .int .i64 n] w fun e w' => e = .returned (.int .i64 (jumpTo W T x n : Nat)) ∧ Below w.heap.size w w' := by
 have hp : 2 ^ W ≤ 2 ^ 16 := Nat.pow_le_pow_right (by decide) hW
 obtain ⟨W0, hW0⟩ : ∃ W0, W0 = w.alloc (.cells #[.int .i64 W, .int .i64 T] 25) := ⟨_, rfl⟩
 have hz0 : W0.heap.size = w.heap.size + 1 := by rw [hW0]; simp
 have c0 : W0.cell? ⟨w.heap.size, 0, none⟩ = some (.int .i64 W) := by rw [hW0]; go_simp
 have c1 : W0.cell? ⟨w.heap.size, 1, none⟩ = some (.int .i64 T) := by rw [hW0]; go_simp
 have B0 := Lib.hid (show Below w.heap.size w W0 by rw [hW0]; exact (Below.refl _ _).alloc (Nat.le_refl _) _)
 have HW0 := Lib.hid hW0
 have HC := Lib.hid (Reg.cycleR_any W T x W0 hW hT hx)
 have HZ := Lib.hid hz0
 have hz0' : w.heap.size < W0.heap.size := by omega
 have hF := CycM.iter_lt (T := Reg.nextR W T) (M := 2 ^ W) (x := x) (fun s hs => Reg.nextR_lt hs) hx
 have HF := Lib.hid hF
 clear hW0 hz0 hF
 go_enter Tryz.func55, Tryz.ntmps55
 go_wp2_with fail
 rw [← HW0.out]
 refine HC.out.mono ?_
 rintro e w1 ⟨j, m, hc, rfl, hb⟩
 have hle := CycM.IsCyc.le (M := 2 ^ W) (fun s hs => Reg.nextR_lt hs) hx hc
 have hjm := hc.1
 have d0 := (hb.cell (p := ⟨w.heap.size, 0, none⟩) hz0').trans c0
 have d1 := (hb.cell (p := ⟨w.heap.size, 1, none⟩) hz0').trans c1
 have HCyc := Lib.hid hc
 have HB := Lib.hid hb
 clear hc hb
 obtain ⟨N, hN, hNi, hNx⟩ : ∃ N : Nat, N ≤ 1000000000000000000 ∧ (N : Int) = (if (j : Int) < n then (j : Int) + ((n : Int) - j) % ((m : Int) - j) else n) ∧ jumpTo W T x n = jumpTo W T x N := by
  by_cases hjn : j < n
  ·have h1 : (n - j) % (m - j) < m - j := Nat.mod_lt _ (by omega)
   refine ⟨j + (n - j) % (m - j), by omega, ?_, (iter_red HCyc.out (by omega)).symm⟩
   rw [if_pos (by omega)]
   have e1 : ((n : Int) - j) = ((n - j : Nat) : Int) := by omega
   have e2 : ((m : Int) - j) = ((m - j : Nat) : Int) := by omega
   rw [e1, e2]; simp
  ·exact ⟨n, hn, by rw [if_neg (by omega)], rfl⟩
 have HN := Lib.hid hNx
 have HI := Lib.hid hNi
 clear hNx hNi
 have hdec : decide (j < n) = true ∨ decide (j < n) = false := by cases decide (j < n) <;> simp
 rcases hdec with hd | hd
 all_goals
  first | (have hjn : (j : Int) < n := by (have := of_decide_eq_true hd; omega)) | (have hjn : ¬ (j : Int) < n := by (have := of_decide_eq_false hd; omega))
  have HK := Lib.hid (HI.out)
  first | rw [if_pos hjn] at HK | rw [if_neg hjn] at HK
  have g0 : (0 : Int) ≤ N := by omega
  have g1 : (N : Int) ≤ 1000000000000000000 := by omega
  rw [HK.out] at g0 g1
  go_wp2
  rw [← HK.out]
  go_loopw [1, 26] (fun s i wr => ∃ k : Nat, k ≤ N ∧ i = .int .i64 k ∧ s = .int .i64 (jumpTo W T x k : Nat) ∧ Below W0.heap.size W0 wr) (fun _ i _ => N - (intOf i).toNat)
  case atStart => exact ⟨0, by omega, rfl, rfl, HB.out⟩
  case round =>
   obtain ⟨k, hk, rfl, rfl, hb⟩ := hrel
   have e0 := (hb.cell (p := ⟨w.heap.size, 0, none⟩) hz0').trans c0
   have e1 := (hb.cell (p := ⟨w.heap.size, 1, none⟩) hz0').trans c1
   have HBel := Lib.hid hb
   clear hb
   by_cases hlt : k < N
   ·have HS := Lib.hid (Reg.implStep_any W T (jumpTo W T x k) wr hW hT (HF.out k))
    go_wp2_with fail
    refine HS.out.mono ?_
    rintro e w2 ⟨rfl, hb2⟩
    have HB2 := Lib.hid (Base.Below.nextA HBel.out hb2)
    clear hb2
    go_wp2_with fail
    go_roundw
    case rel => exact ⟨k + 1, hlt, by go_num, rfl, HB2.out⟩
    case measure => simp [intOf]; omega
   ·obtain rfl : k = N := by omega
    go_wp2
    go_ret
    exact ⟨ret_int (by rw [HN.out]), B0.out.trans (HBel.out.mono (Nat.le_of_lt hz0'))⟩
end Go.Proofs.YthagenodiofgnaaGreatDoor.Jump
namespace Go.Proofs.YthagenodiofgnaaGreatDoor.Rev
open Go.RowKit Go.Proofs.YthagenodiofgnaaGreatDoor Go.Proofs.YthagenodiofgnaaGreatDoor.Base Go.Proofs.YthagenodiofgnaaGreatDoor.Mem
set_option linter.unusedVariables false
end Go.Proofs.YthagenodiofgnaaGreatDoor.Rev
namespace Go.Proofs.YthagenodiofgnaaGreatDoor.AllIn
open Go.RowKit Go.Proofs.YthagenodiofgnaaGreatDoor Go.Proofs.YthagenodiofgnaaGreatDoor.Base Go.Proofs.YthagenodiofgnaaGreatDoor.Mem
set_option linter.unusedVariables false
def allInB (xs : List Int) (lo hi : Int) : Bool := xs.all fun x => inR x lo hi
theorem allInB_of {xs : List Int} {lo hi : Int} (h : ∀ i, i < xs.length → inR (xs.getD i 0) lo hi = true) : allInB xs lo hi = true := by
 refine List.all_eq_true.2 fun x hx => ?_
 obtain ⟨i, hi', rfl⟩ := List.getElem_of_mem hx
 have := h i hi'
 simpa [List.getD, hi'] using this
theorem allInB_no {xs : List Int} {lo hi : Int} {i : Nat} (h : i < xs.length) (hx : inR (xs.getD i 0) lo hi = false) : allInB xs lo hi = false := by
 cases h' : allInB xs lo hi
 ·rfl
 ·have := List.all_eq_true.1 h' (xs.getD i 0) (by simp [List.getD, h])
  rw [hx] at this; exact this.symm
theorem lenI_any (A : Option Addr) (n c : Nat) (w : World) (h : n ≤ 9223372036854775807) :
  Calls Tryz.prog 34 #[.slice A n c] w fun e w' => e = .returned (.int .i64 (n : Int)) ∧ w = w' := by
 go_enter Tryz.func34, Tryz.ntmps34
 go_wp2
 go_ret
 exact ⟨rfl, rfl⟩
theorem closure_any (b0 b1 : Nat) (x lo hi : Int) (w : World) (h0 : w.cell? ⟨b0, 0, none⟩ = some (.int .i64 lo)) (h1 : w.cell? ⟨b1, 0, none⟩ = some (.int .i64 hi)) :
  Calls Tryz.prog 61 #[.int .i64 x, .pointer (some ⟨b0, 0, none⟩), .pointer (some ⟨b1, 0, none⟩)] w fun e w' => e = .returned (.bool (!inR x lo hi)) ∧ w = w' := by
 go_enter Tryz.func61, Tryz.ntmps61
 go_wp2_with (go_at_call 19; refine (inRange_any _ _ _ _).mono ?_; rintro e w' ⟨rfl, rfl⟩)
 go_ret
 exact ⟨rfl, rfl⟩
def IdxRet (b : Bool) (w : World) (e : Ending) (w' : World) : Prop := ∃ r : Int, e = .returned (.int .i64 r) ∧ ((r = -1 ∧ b = true) ∨ (0 ≤ r ∧ b = false)) ∧ w = w'
set_option maxHeartbeats 400000 in
theorem index_any (A : Option Addr) (c B b0 b1 : Nat) (xs : List Int) (lo hi : Int) (w : World) (hx : RdI w B A xs) (hm : xs.length ≤ 9223372036854775807) (h0 : w.cell? ⟨b0, 0, none⟩ = some (.int .i64 lo)) (h1 : w.cell? ⟨b1, 0, none⟩ = some (.int .i64 hi)) :
  Calls Tryz.prog 90 #[.slice A xs.length c, .func (Fn.func 61) #[] #[.pointer (some ⟨b0, 0, none⟩), .pointer (some ⟨b1, 0, none⟩)]] w (IdxRet (allInB xs lo hi) w) := by
 go_enter Tryz.func90, Tryz.ntmps90
 go_wp2
 go_loop [5, 8] (fun _ i => ∃ k : Nat, k ≤ xs.length ∧ i = .int .i64 (k : Int) ∧ Hid (∀ j, j < k → inR (xs.getD j 0) lo hi = true)) (fun _ i => xs.length - (intOf i).toNat)
 case atStart => exact ⟨0, Nat.zero_le _, rfl, Lib.hid fun j hj => absurd hj (Nat.not_lt_zero j)⟩
 case round =>
  obtain ⟨k, hk, rfl, hall⟩ := hrel
  by_cases hlt : k < xs.length
  ·obtain ⟨b, off, rfl, _, hc⟩ := hx (by omega)
   have g := hc k hlt
   clear hc hx
   cases hr : inR (xs.getD k 0) lo hi
   ·have hf := Lib.hid (allInB_no hlt hr)
    generalize xs.getD k 0 = x at *
    go_wp2_with (go_at_call 61; refine (closure_any _ _ _ _ _ _ h0 h1).mono ?_; rintro e w' ⟨rfl, rfl⟩)
    go_ret
    exact ⟨(k : Int), rfl, .inr ⟨by omega, hf.out⟩, rfl⟩
   ·have hn : Hid (∀ j, j < k + 1 → inR (xs.getD j 0) lo hi = true) := Lib.hid fun j hj => by
     rcases Nat.lt_or_ge j k with h | h
     ·exact hall.out j h
     ·obtain rfl : j = k := by omega
      exact hr
    clear hall
    generalize xs.getD k 0 = x at *
    go_wp2_with (go_at_call 61; refine (closure_any _ _ _ _ _ _ h0 h1).mono ?_; rintro e w' ⟨rfl, rfl⟩)
    go_round
    case rel => exact ⟨k + 1, by omega, by go_num, hn⟩
    case measure => simp [intOf]; omega
  ·obtain rfl : k = xs.length := by omega
   clear hx
   go_wp2
   go_ret
   exact ⟨-1, rfl, .inl ⟨rfl, allInB_of hall.out⟩, rfl⟩
theorem contains_any (A : Option Addr) (c B b0 b1 : Nat) (xs : List Int) (lo hi : Int) (w : World) (hx : RdI w B A xs) (hm : xs.length ≤ 9223372036854775807) (h0 : w.cell? ⟨b0, 0, none⟩ = some (.int .i64 lo)) (h1 : w.cell? ⟨b1, 0, none⟩ = some (.int .i64 hi)) :
  Calls Tryz.prog 60 #[.slice A xs.length c, .func (Fn.func 61) #[] #[.pointer (some ⟨b0, 0, none⟩), .pointer (some ⟨b1, 0, none⟩)]] w fun e w' => e = .returned (.bool (!allInB xs lo hi)) ∧ w = w' := by
 have hc := Lib.hid (index_any A c B b0 b1 xs lo hi w hx hm h0 h1)
 clear hx
 go_enter Tryz.func60, Tryz.ntmps60
 go_wp2_with fail
 refine hc.out.mono ?_
 rintro e w' ⟨r, rfl, ⟨rfl, hb⟩ | ⟨hr, hb⟩, rfl⟩
 ·go_wp2
  go_ret
  exact ⟨ret_bool (by simp [hb]), rfl⟩
 ·go_wp2
  go_ret
  exact ⟨ret_bool (by simp [hb]), rfl⟩
theorem allIn_any (A : Option Addr) (c B : Nat) (xs : List Int) (lo hi : Int) (w : World) (hx : RdI w B A xs) (hB : B ≤ w.heap.size) (hm : xs.length ≤ 9223372036854775807) :
  Calls Tryz.prog 36 #[.slice A xs.length c, .int .i64 lo, .int .i64 hi] w fun e w' => e = .returned (.bool (allInB xs lo hi)) ∧ Below w.heap.size w w' := by
 have hb : Below w.heap.size w ((w.alloc (.cells #[.int .i64 lo] 2)).alloc (.cells #[.int .i64 hi] 2)) := ((Below.refl _ _).alloc (Nat.le_refl _) _).alloc (by simp) _
 have hx2 := Lib.hid (hx.below hb hB)
 clear hx
 have HB := Lib.hid hb
 clear hb
 go_enter Tryz.func36, Tryz.ntmps36
 go_wp2_with (go_at_call 60; refine (contains_any A c B _ _ xs lo hi _ hx2.out hm (by simp) (by simp)).mono ?_; rintro e w' ⟨rfl, rfl⟩)
 go_ret
 exact ⟨ret_bool (by simp), HB.out⟩
end Go.Proofs.YthagenodiofgnaaGreatDoor.AllIn
namespace Go.Proofs.YthagenodiofgnaaGreatDoor.Pts
open Go.RowKit Go.Proofs.YthagenodiofgnaaGreatDoor Go.Proofs.YthagenodiofgnaaGreatDoor.Base Go.Proofs.YthagenodiofgnaaGreatDoor.Mem Go.Proofs.YthagenodiofgnaaGreatDoor.AllIn
set_option linter.unusedVariables false
end Go.Proofs.YthagenodiofgnaaGreatDoor.Pts
namespace Go.Proofs.YthagenodiofgnaaGreatDoor.RevNet
open Go.RowKit Go.Proofs.YthagenodiofgnaaGreatDoor Go.Proofs.YthagenodiofgnaaGreatDoor.Base Go.Proofs.YthagenodiofgnaaGreatDoor.Mem Go.Proofs.YthagenodiofgnaaGreatDoor.Pts
set_option linter.unusedVariables false
theorem OwnI_push {wr w2 : World} {B : Nat} {v v' : Value} {xs : List Int} {x : Int} (hO : OwnI wr B v xs) (hB : B ≤ wr.heap.size)
  (hown : w2.ownsRow B 2 1 v' (xs.length + 1) (ints xs ++ [.int .i64 x])) : OwnI w2 B v' (xs ++ [x]) := by
 unfold OwnI
 rw [List.length_append, show ints (xs ++ [x]) = ints xs ++ [.int .i64 x] by simp [ints]]
 exact hown
theorem beside {wr w2 : World} {B : Nat} {v u : Value} {xs ys : List Int} {o : Obj} (hO : OwnI wr B v xs) (hu : OwnI wr B u ys) (ha : ∀ g, v.ownBlock = some g → u.ownBlock ≠ some g) (hg : (wr.alloc o).grownBy w2 v.ownBlock) : OwnI w2 B u ys := by
 refine World.ownsRow.kept (World.ownsRow.alloc hu o) hg ?_
 rcases hv : u.ownBlock with _ | g
 ·exact .inl rfl
 ·exact .inr fun e => ha g e.symm hv
end Go.Proofs.YthagenodiofgnaaGreatDoor.RevNet
namespace Go.Proofs.YthagenodiofgnaaGreatDoor.NetV
open Go.RowKit Go.Proofs.YthagenodiofgnaaGreatDoor Go.Proofs.YthagenodiofgnaaGreatDoor.Base Go.Proofs.YthagenodiofgnaaGreatDoor.Mem Go.Proofs.YthagenodiofgnaaGreatDoor.AllIn Go.Proofs.YthagenodiofgnaaGreatDoor.Pts
set_option linter.unusedVariables false
end Go.Proofs.YthagenodiofgnaaGreatDoor.NetV
namespace Go.Proofs.YthagenodiofgnaaGreatDoor.Cpy
open Go.RowKit Go.Proofs.YthagenodiofgnaaGreatDoor Go.Proofs.YthagenodiofgnaaGreatDoor.Base Go.Proofs.YthagenodiofgnaaGreatDoor.Mem
set_option linter.unusedVariables false
end Go.Proofs.YthagenodiofgnaaGreatDoor.Cpy
namespace Go.Proofs.YthagenodiofgnaaGreatDoor.Open
open Go.ChangeShapes Go.WideShapes Go.ChangeAt Go.RowKit Go.Joins Go.Proofs.YthagenodiofgnaaGreatDoor
set_option linter.unusedVariables false
set_option maxRecDepth 100000
section
variable {H : Type} {enc : TypeId × Value → H} {w : World} {base b0 : Nat} {spare : Nat → Bool} {held : Bool} {v : Value} {d : DataW H} {p : List MemPlace}
theorem addr_add {a : Addr} (h : a.spot = none) (i : Nat) : a.add i = ⟨a.block, a.off + i, none⟩ := by
 obtain ⟨b, off, spot⟩ := a
 simp at h; subst h
 unfold Addr.add
 split <;> simp_all
theorem spot_of {a : Addr} {u : Value} (h : w.cell? (a.add 0) = some u) : a.spot = none ∧ a.block < w.heap.size := by
 have e : a.add 0 = a := by simp [Addr.add]
 rw [e] at h
 exact ⟨World.cell?_spot h, block_lt_of_cell h⟩
theorem cells8 : Tryz.prog.cellsOf 5 = 1 := by kernel_rfl
structure IsBytes (w : World) (v : Value) : Prop where
 ex : ∃ (A : Option Addr) (c : Nat) (zs : List Int), v = .slice A zs.length c ∧ zs.length ≤ 9223372036854775807 ∧ (∀ z ∈ zs, 0 ≤ z ∧ z ≤ 255) ∧ Mem.RdB w w.heap.size A zs
theorem bytes (hv : Value.okWide Tryz.prog w .any b0 22 v) (h : DataW.Trod enc Tryz.prog w base (fun _ => true) held 22 v d p) : IsBytes w v := by
 obtain ⟨a, len, cap, rfl⟩ := okWide_slice Tryz.underlying22 hv
 obtain ⟨fuel, hf⟩ := h
 rcases open_ints Tryz.underlying22 Tryz.underlying5 cells8 hf with ⟨hcs, _⟩ | ⟨x, l, c, zs, hcs, _, hl, hm, hz, _, hcell, hwz⟩
 ·simp [Value.cells] at hcs
  obtain ⟨rfl, rfl, rfl⟩ := hcs
  exact ⟨none, 0, [], rfl, by decide, by simp, fun h => absurd h (by simp)⟩
 ·simp [Value.cells] at hcs
  obtain ⟨rfl, rfl, rfl⟩ := hcs
  simp only [if_true] at hz
  have hlen : (zs.take len).length = len := by rw [List.length_take]; omega
  refine ⟨some x, cap, zs.take len, by rw [hlen], ?_, fun z hzm => ?_, fun h0 => ?_⟩
  ·rw [hlen]; unfold maxLen at hm; omega
  ·have := hwz z (List.mem_of_mem_take hzm)
   simp [Lit.wf, IntKind.min, IntKind.max, IntKind.signed, IntKind.bits] at this
   omega
  ·rw [hlen] at h0
   obtain ⟨hs, hb⟩ := spot_of (hcell 0 (by omega))
   refine ⟨x.block, x.off, by cases x; simp_all, hb, fun i hi => ?_⟩
   rw [hlen] at hi
   rw [← addr_add hs, hcell i (by omega)]
   simp [List.getD, hi]
theorem cellsI1 : Tryz.prog.cellsOf 2 = 1 := by kernel_rfl
structure IsInts (w : World) (v : Value) : Prop where
 ex : ∃ (A : Option Addr) (c : Nat) (zs : List Int), v = .slice A zs.length c ∧ zs.length ≤ 9223372036854775807 ∧ (∀ z ∈ zs, -9223372036854775808 ≤ z ∧ z ≤ 9223372036854775807) ∧ Mem.RdI w w.heap.size A zs
theorem ints (hv : Value.okWide Tryz.prog w .any b0 32 v) (h : DataW.Trod enc Tryz.prog w base (fun _ => true) held 32 v d p) : IsInts w v := by
 obtain ⟨a, len, cap, rfl⟩ := okWide_slice Tryz.underlying32 hv
 obtain ⟨fuel, hf⟩ := h
 rcases open_ints Tryz.underlying32 Tryz.underlying2 cellsI1 hf with ⟨hcs, _⟩ | ⟨x, l, c, zs, hcs, _, hl, hm, hz, _, hcell, hwz⟩
 ·simp [Value.cells] at hcs
  obtain ⟨rfl, rfl, rfl⟩ := hcs
  exact ⟨none, 0, [], rfl, by decide, by simp, fun h => absurd h (by simp)⟩
 ·simp [Value.cells] at hcs
  obtain ⟨rfl, rfl, rfl⟩ := hcs
  simp only [if_true] at hz
  have hlen : (zs.take len).length = len := by rw [List.length_take]; omega
  refine ⟨some x, cap, zs.take len, by rw [hlen], ?_, fun z hzm => ?_, fun h0 => ?_⟩
  ·rw [hlen]; unfold maxLen at hm; omega
  ·have := hwz z (List.mem_of_mem_take hzm)
   simp [Lit.wf, IntKind.min, IntKind.max, IntKind.signed, IntKind.bits] at this
   omega
  ·rw [hlen] at h0
   obtain ⟨hs, hb⟩ := spot_of (hcell 0 (by omega))
   refine ⟨x.block, x.off, by cases x; simp_all, hb, fun i hi => ?_⟩
   rw [hlen] at hi
   rw [← addr_add hs, hcell i (by omega)]
   simp [List.getD, hi]
end
end Go.Proofs.YthagenodiofgnaaGreatDoor.Open
namespace Go.Proofs.YthagenodiofgnaaGreatDoor.NetV
open Go.RowKit Go.Proofs.YthagenodiofgnaaGreatDoor Go.Proofs.YthagenodiofgnaaGreatDoor.Base Go.Proofs.YthagenodiofgnaaGreatDoor.Mem Go.Proofs.YthagenodiofgnaaGreatDoor.Cpy
set_option linter.unusedVariables false
end Go.Proofs.YthagenodiofgnaaGreatDoor.NetV
namespace Go.Proofs.YthagenodiofgnaaGreatDoor.RevNet
open Go.RowKit Go.Proofs.YthagenodiofgnaaGreatDoor Go.Proofs.YthagenodiofgnaaGreatDoor.Base Go.Proofs.YthagenodiofgnaaGreatDoor.Mem Go.Proofs.YthagenodiofgnaaGreatDoor.Pts Go.Proofs.YthagenodiofgnaaGreatDoor.NetV
set_option linter.unusedVariables false
theorem block_lt {w : World} {g : Nat} {o : Obj} (h : w.heap[g]? = some o) : g < w.heap.size := by
 rcases Nat.lt_or_ge g w.heap.size with hlt | hge
 ·exact hlt
 ·rw [Array.getElem?_eq_none hge] at h; cases h
end Go.Proofs.YthagenodiofgnaaGreatDoor.RevNet
