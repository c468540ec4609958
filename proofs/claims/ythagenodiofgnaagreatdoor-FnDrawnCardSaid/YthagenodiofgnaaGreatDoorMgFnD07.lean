/- The reference's register: validity, a step, the cycle of states. -/
import Derived.Test.YthagenodiofgnaaGreatDoorMgFnD05
import Derived.Test.YthagenodiofgnaaGreatDoorMgFnD01
namespace Go.Proofs.YthagenodiofgnaaGreatDoor.Reg
open Go.RowKit Go.Proofs.YthagenodiofgnaaGreatDoor Go.Proofs.YthagenodiofgnaaGreatDoor.Base Go.Proofs.YthagenodiofgnaaGreatDoor.Bits
set_option linter.unusedVariables false
theorem pw_bd {W : Nat} (h : W ≤ 16) : 1 ≤ (2 : Int) ^ W ∧ (2 : Int) ^ W ≤ 65536 := by
 have h1 : 2 ^ W ≤ 2 ^ 16 := Nat.pow_le_pow_right (by decide) h
 have h2 : 0 < 2 ^ W := Nat.two_pow_pos W
 have e : ((2 ^ W : Nat) : Int) = (2 : Int) ^ W := by simp
 rw [← e]; omega
def stB (W : Nat) (x : Int) : Bool := inR x 0 ((2 : Int) ^ W - 1)
def regB (W T : Int) : Bool := inR W 0 16 && stB W.toNat T
theorem regB_true {W T : Int} (h : regB W T = true) : 0 ≤ W ∧ W ≤ 16 ∧ 0 ≤ T ∧ T < (2 : Int) ^ W.toNat := by
 simp only [regB, Bool.and_eq_true, stB] at h
 have h1 := inR_true h.1
 have h2 := inR_true h.2
 omega
theorem l02State_any (W : Nat) (x : Int) (hn : W ≤ 16) (w : World) :
  Calls Tryz.prog 70 #[.int .i64 W, .int .i64 x] w fun e w' => e = .returned (.bool (stB W x)) ∧ w = w' := by
 obtain ⟨p1, p2⟩ := pw_bd hn
 go_enter Tryz.func70, Tryz.ntmps70
 go_wp2_with (go_at_call 22; refine (l00In_any _ _ _ _).mono ?_; rintro e w' ⟨rfl, rfl⟩)
 go_ret
 exact ⟨rfl, rfl⟩
theorem l02State_qb {W : Nat} {x : Int} {r : Bool} (h : stB W x = r) (hn : W ≤ 16) (w : World) :
  Calls Tryz.prog 70 #[.int .i64 W, .int .i64 x] w fun e w' => e = .returned (.bool r) ∧ w' = w := by
 subst h; exact (l02State_any W x hn w).mono fun _ _ h => ⟨h.1, h.2.symm⟩
theorem l02Is_any (b o : Nat) (W T : Int) (w : World) (h0 : w.cell? ⟨b, o, none⟩ = some (.int .i64 W)) (h1 : w.cell? ⟨b, o + 1, none⟩ = some (.int .i64 T)) :
  Calls Tryz.prog 69 #[.pointer (some ⟨b, o, none⟩)] w fun e w' => e = .returned (.bool (regB W T)) ∧ ∃ n, w' = w.drewN n := by
 cases hm : inR W 0 16
 ·go_enter Tryz.func69, Tryz.ntmps69
  go_wp2
  go_quiet ((go_at_call 22; exact Calls.quiet_of_same (l00In_qb hm _)))
  go_wp2
  go_ret
  exact ⟨ret_bool (by simp [regB, hm]), _, rfl⟩
 ·obtain ⟨b1, b2⟩ := inR_true hm
  obtain ⟨V, rfl⟩ := Int.eq_ofNat_of_zero_le b1
  cases hf : stB V T
  all_goals
   go_enter Tryz.func69, Tryz.ntmps69
   go_wp2
   go_quiet ((first | (go_at_call 22; exact Calls.quiet_of_same (l00In_qb hm _)) | (go_at_call 70; exact Calls.quiet_of_same (l02State_qb hf (by omega) _))))
   go_wp2
   go_ret
   exact ⟨ret_bool (by simp [regB, hm, hf]), _, rfl⟩
def bothR (W T x : Int) : Bool := regB W T && stB W.toNat x
theorem bothR_true {W T x : Int} (h : bothR W T x = true) : 0 ≤ W ∧ W ≤ 16 ∧ 0 ≤ T ∧ T < (2 : Int) ^ W.toNat ∧ 0 ≤ x ∧ x < (2 : Int) ^ W.toNat := by
 simp only [bothR, Bool.and_eq_true, stB] at h
 have h1 := regB_true h.1
 have h2 := inR_true h.2
 omega
theorem l02Both_any (b o : Nat) (W T x : Int) (w : World) (h0 : w.cell? ⟨b, o, none⟩ = some (.int .i64 W)) (h1 : w.cell? ⟨b, o + 1, none⟩ = some (.int .i64 T)) :
  Calls Tryz.prog 46 #[.pointer (some ⟨b, o, none⟩), .int .i64 x] w fun e w' => e = .returned (.bool (bothR W T x)) ∧ ∃ n, w' = w.drewN n := by
 cases hB : regB W T
 ·go_enter Tryz.func46, Tryz.ntmps46
  go_wp2_with (go_at_call 69; refine (l02Is_any _ _ W T _ h0 h1).mono ?_; rintro e w1 ⟨rfl, k, rfl⟩)
  go_ret
  exact ⟨ret_bool (by simp [bothR, hB]), _, rfl⟩
 ·obtain ⟨g1, g2, _⟩ := regB_true hB
  obtain ⟨V, rfl⟩ := Int.eq_ofNat_of_zero_le g1
  go_enter Tryz.func46, Tryz.ntmps46
  go_wp2_with (first | (go_at_call 69; refine (l02Is_any _ _ (V : Int) T _ h0 h1).mono ?_; rintro e w1 ⟨rfl, k, rfl⟩) | (go_at_call 70; refine (l02State_any V _ (by omega) _).mono ?_; rintro e w' ⟨rfl, rfl⟩))
  go_ret
  exact ⟨ret_bool (by simp [bothR, hB]), _, rfl⟩
def nextR (W T x : Nat) : Nat := if W = 0 then 0 else x / 2 ||| PopM.par (x &&& T) * 2 ^ (W - 1)
theorem nextR_lt {W T x : Nat} (hx : x < 2 ^ W) : nextR W T x < 2 ^ W := by
 unfold nextR
 by_cases h : W = 0
 ·rw [if_pos h]; exact Nat.two_pow_pos W
 ·rw [if_neg h]
  obtain ⟨V, rfl⟩ : ∃ V, W = V + 1 := ⟨W - 1, by omega⟩
  have hp := PopM.par_lt (x &&& T)
  rw [Nat.pow_succ] at hx
  have h1 : PopM.par (x &&& T) * 2 ^ (V + 1 - 1) < 2 ^ (V + 1) := by
   rw [Nat.add_sub_cancel, Nat.pow_succ]
   have : PopM.par (x &&& T) * 2 ^ V ≤ 1 * 2 ^ V := Nat.mul_le_mul_right _ (by omega)
   have := Nat.two_pow_pos V
   omega
  exact Nat.or_lt_two_pow (by rw [Nat.pow_succ]; omega) h1
theorem nextR_int {W T x : Nat} (hW : 1 ≤ W) (hW2 : W ≤ 16) (hx : x < 2 ^ W) : bits .or .i64 ((x : Int) / 2) (wrap64 ((PopM.par (x &&& T) : Int) * (2 : Int) ^ (W - 1))) = ((nextR W T x : Nat) : Int) := by
 have hp := PopM.par_lt (x &&& T)
 have hW3 : 2 ^ W ≤ 65536 := Nat.pow_le_pow_right (by decide) hW2
 have h1 : 2 ^ (W - 1) ≤ 65536 := Nat.le_trans (Nat.pow_le_pow_right (by decide) (by omega)) hW3
 have h2 : PopM.par (x &&& T) * 2 ^ (W - 1) ≤ 1 * 65536 := Nat.mul_le_mul (by omega) h1
 have e : (PopM.par (x &&& T) : Int) * (2 : Int) ^ (W - 1) = ((PopM.par (x &&& T) * 2 ^ (W - 1) : Nat) : Int) := by simp
 have e2 : wrap64 (((PopM.par (x &&& T) * 2 ^ (W - 1) : Nat) : Int)) = ((PopM.par (x &&& T) * 2 ^ (W - 1) : Nat) : Int) := by simp only [wrap64]; omega
 rw [e, e2, show ((x : Int) / 2) = ((x / 2 : Nat) : Int) by omega, i64_or_nat _ _ (by omega) (by omega)]
 unfold nextR
 rw [if_neg (by omega)]
theorem ret_two {k : IntKind} {a b c d : Int} (h : a = b) (h' : c = d) : Ending.returned (.tuple #[.int k a, .int k c]) = .returned (.tuple #[.int k b, .int k d]) := by rw [h, h']
theorem l02Step_pos (b o W T x : Nat) (w : World) (h0 : w.cell? ⟨b, o, none⟩ = some (.int .i64 W)) (h1 : w.cell? ⟨b, o + 1, none⟩ = some (.int .i64 T)) (hW : 1 ≤ W) (hW2 : W ≤ 16) (hT : T < 2 ^ W) (hx : x < 2 ^ W) :
  Calls Tryz.prog 94 #[.pointer (some ⟨b, o, none⟩), .int .i64 x] w fun e w' => e = .returned (.tuple #[.int .i64 (nextR W T x : Nat), .int .i64 (x % 2 : Nat)]) ∧ ∃ n, w' = w.drewN n := by
 have hp : 2 ^ W ≤ 65536 := Nat.pow_le_pow_right (by decide) hW2
 have HA := Lib.hid (i64_and_nat x T (by omega) (by omega))
 have HB := Lib.hid (nextR_int (T := T) hW hW2 hx)
 have HC := Lib.hid (and1 x (by omega))
 have hand : x &&& T ≤ x := Nat.and_le_left
 have hW0 : ((W : Int) == 0) = false := by simp; omega
 go_enter Tryz.func94, Tryz.ntmps94
 go_wp2
 go_quiet ((go_at_call 95; rw [HA.out]; exact Calls.quiet_of_same (l02Parity_q (x &&& T) (by omega) _)))
 go_wp2
 go_ret2
 exact ⟨ret_two HB.out HC.out, _, rfl⟩
def StepRet (W T x : Nat) (w : World) (e : Ending) (w' : World) : Prop := e = .returned (.tuple #[.int .i64 (nextR W T x : Nat), .int .i64 (x % 2 : Nat)]) ∧ ∃ n, w' = w.drewN n
theorem l02Step_any (b o W T x : Nat) (w : World) (h0 : w.cell? ⟨b, o, none⟩ = some (.int .i64 W)) (h1 : w.cell? ⟨b, o + 1, none⟩ = some (.int .i64 T)) (hW2 : W ≤ 16) (hT : T < 2 ^ W) (hx : x < 2 ^ W) :
  Calls Tryz.prog 94 #[.pointer (some ⟨b, o, none⟩), .int .i64 x] w (StepRet W T x w) := by
 by_cases hW : W = 0
 ·subst hW
  obtain rfl : x = 0 := by simpa using hx
  go_enter Tryz.func94, Tryz.ntmps94
  go_wp2
  go_ret2
  exact ⟨rfl, 0, rfl⟩
 ·exact l02Step_pos b o W T x w h0 h1 (by omega) hW2 hT hx
end Go.Proofs.YthagenodiofgnaaGreatDoor.Reg
namespace Go.Proofs.YthagenodiofgnaaGreatDoor.Reg
open Go.RowKit Go.Proofs.YthagenodiofgnaaGreatDoor Go.Proofs.YthagenodiofgnaaGreatDoor.Base Go.Proofs.YthagenodiofgnaaGreatDoor.Bits
set_option linter.unusedVariables false
theorem validReg_any (W T : Int) (w : World) :
  Calls Tryz.prog 67 #[.agg #[.int .i64 W, .int .i64 T]] w fun e w' => e = .returned (.bool (regB W T)) ∧ Below w.heap.size w w' := by
 cases hm : inR W 0 16
 ·go_enter Tryz.func67, Tryz.ntmps67
  go_wp2
  go_quiet ((go_at_call 19; exact Calls.quiet_of_same (inRange_qb hm _)))
  go_wp2
  go_ret
  exact ⟨ret_bool (by simp [regB, hm]), below_drewN ((Below.refl _ _).alloc (Nat.le_refl _) _) _⟩
 ·obtain ⟨b1, b2⟩ := inR_true hm
  obtain ⟨V, rfl⟩ := Int.eq_ofNat_of_zero_le b1
  obtain ⟨p1, p2⟩ := pw_bd (W := V) (by omega)
  cases hf : stB V T
  all_goals
   have hg := Lib.hid hf
   unfold stB at hf
   go_enter Tryz.func67, Tryz.ntmps67
   go_wp2
   go_quiet ((go_at_call 19; first | (with_reducible exact Calls.quiet_of_same (inRange_qb hm _)) | (with_reducible exact Calls.quiet_of_same (inRange_qb hf _))))
   go_wp2
   go_ret
   exact ⟨ret_bool (by simp [regB, hm, hg.out]), below_drewN ((Below.refl _ _).alloc (Nat.le_refl _) _) _⟩
theorem isRegState_any (W T x : Int) (w : World) :
  Calls Tryz.prog 44 #[.agg #[.int .i64 W, .int .i64 T], .int .i64 x] w fun e w' => e = .returned (.bool (bothR W T x)) ∧ Below w.heap.size w w' := by
 cases hB : regB W T
 ·go_enter Tryz.func44, Tryz.ntmps44
  go_wp2_with (go_at_call 67; refine (validReg_any W T _).mono ?_; rintro e w1 ⟨rfl, hb1⟩)
  go_ret
  exact ⟨ret_bool (by simp [bothR, hB]), Base.Below.boxed hb1⟩
 ·obtain ⟨g1, g2, _⟩ := regB_true hB
  obtain ⟨V, rfl⟩ := Int.eq_ofNat_of_zero_le g1
  obtain ⟨p1, p2⟩ := pw_bd (W := V) (by omega)
  go_enter Tryz.func44, Tryz.ntmps44
  go_wp2_with (first | (go_at_call 67; refine (validReg_any (V : Int) T _).mono ?_; rintro e w1 ⟨rfl, hb1⟩; have d0 : w1.cell? ⟨w.heap.size, 0, none⟩ = some (.int .i64 (V : Int)) := box_cells hb1 0) | (go_at_call 19; refine (inRange_any _ _ _ _).mono ?_; rintro e w' ⟨rfl, rfl⟩))
  go_ret
  exact ⟨ret_bool (by simp [bothR, hB, stB]), Base.Below.boxed hb1⟩
theorem nextR_int' {W T x : Nat} (hW : 1 ≤ W) (hW2 : W ≤ 16) (hx : x < 2 ^ W) : bits .or .i64 ((x : Int) / 2) (wrap64 ((PopM.par (T &&& x) : Int) * (2 : Int) ^ (W - 1))) = ((nextR W T x : Nat) : Int) := by
 rw [Nat.and_comm]; exact nextR_int hW hW2 hx
def StepRetI (W T x : Nat) (w : World) (e : Ending) (w' : World) : Prop := e = .returned (.tuple #[.int .i64 (nextR W T x : Nat), .int .i64 (x % 2 : Nat)]) ∧ Below w.heap.size w w'
theorem implStep_any (W T x : Nat) (w : World) (hW2 : W ≤ 16) (hT : T < 2 ^ W) (hx : x < 2 ^ W) :
  Calls Tryz.prog 78 #[.agg #[.int .i64 W, .int .i64 T], .int .i64 x] w (StepRetI W T x w) := by
 by_cases hW : W = 0
 ·subst hW
  obtain rfl : x = 0 := by simpa using hx
  go_enter Tryz.func78, Tryz.ntmps78
  go_wp2
  go_ret2
  exact ⟨rfl, (Below.refl _ _).alloc (Nat.le_refl _) _⟩
 ·have hp : 2 ^ W ≤ 65536 := Nat.pow_le_pow_right (by decide) hW2
  have HA := Lib.hid (i64_and_nat T x (by omega) (by omega))
  have HB := Lib.hid (nextR_int' (T := T) (by omega) hW2 hx)
  have HC := Lib.hid (and1 x (by omega))
  have hand : T &&& x ≤ x := Nat.and_le_right
  have hW0 : ((W : Int) == 0) = false := by simp; omega
  go_enter Tryz.func78, Tryz.ntmps78
  go_wp2
  go_quiet ((go_at_call 99; rw [HA.out]; exact Calls.quiet_of_same (parity_q (T &&& x) (by omega) _)))
  go_wp2
  go_ret2
  exact ⟨ret_two HB.out HC.out, below_drewN ((Below.refl _ _).alloc (Nat.le_refl _) _) _⟩
theorem closure_any (b W T x : Nat) (w : World) (h0 : w.cell? ⟨b, 0, none⟩ = some (.int .i64 W)) (h1 : w.cell? ⟨b, 1, none⟩ = some (.int .i64 T)) (hW2 : W ≤ 16) (hT : T < 2 ^ W) (hx : x < 2 ^ W) :
  Calls Tryz.prog 106 #[.int .i64 x, .pointer (some ⟨b, 0, none⟩)] w fun e w' => e = .returned (.int .i64 (nextR W T x : Nat)) ∧ Below w.heap.size w w' := by
 go_enter Tryz.func106, Tryz.ntmps106
 go_wp2_with (go_at_call 78; refine (implStep_any W T x _ hW2 hT hx).mono ?_; rintro e w1 ⟨rfl, hb1⟩)
 go_ret
 exact ⟨rfl, hb1⟩
set_option maxHeartbeats 1000000 in
theorem cycleFromR_any (b W T x : Nat) (w : World) (h0 : w.cell? ⟨b, 0, none⟩ = some (.int .i64 W)) (h1 : w.cell? ⟨b, 1, none⟩ = some (.int .i64 T)) (hb : b < w.heap.size) (hW2 : W ≤ 16) (hT : T < 2 ^ W) (hx : x < 2 ^ W) :
  Calls Tryz.prog 105 #[.int .i64 ((2 : Int) ^ W), .int .i64 x, .func (Fn.func 106) #[] #[.pointer (some ⟨b, 0, none⟩)]] w (Cong.CycRet (nextR W T) x w) := by
 have hp : 2 ^ W ≤ 65536 := Nat.pow_le_pow_right (by decide) hW2
 have hmk := run_make_row' (P := Tryz.prog) 32 2 (.int .i64 0) 8 Tryz.underlying32 Cong.info64 rfl .i64 .i64 (2 ^ W) (by omega) (by omega)
 have ep : ((2 ^ W : Nat) : Int) = (2 : Int) ^ W := by simp
 rw [ep] at hmk
 have hTT : ∀ s, s < 2 ^ W → nextR W T s < 2 ^ W := fun s hs => nextR_lt hs
 clear ep
 go_enter Tryz.func105, Tryz.ntmps105
 go_wp2
 clear hmk
 go_loopw [1, 9] (fun xv nv wr => Cong.CycRel (nextR W T) x (2 ^ W) 2 w xv nv wr) (fun _ nv _ => 2 ^ W + 2 - (intOf nv).toNat)
 case atStart => exact Cong.CycRel.start _ _ _ _ _
 case round =>
  obtain ⟨n, F, hn, hS, hrow, hbel, rfl, rfl⟩ := hrel
  have hlt := CycM.iter_lt hTT hx n
  have HS := Lib.hid (hS.done hTT hx)
  have hpos : F (CycM.iter (nextR W T) x n) ≠ 0 → F (CycM.iter (nextR W T) x n) ≤ n := fun h => (hS.pos _ hlt h).1
  have HF := Lib.hid (Cong.CycRel.next2 (t := 2) (w := w) hTT hx hS hrow hbel)
  have hz : w.heap.size < wr.heap.size := hrow.lt
  have ef := hrow.frozen (CycM.iter (nextR W T) x n)
  have ec := hrow.cell hlt
  obtain ⟨hc, hfz⟩ := bcell hbel
  have e0 := (hc b 0 hb).trans h0
  have e1 := (hc b 1 hb).trans h1
  clear hS hrow hc hfz h0 h1
  generalize CycM.iter (nextR W T) x n = s at *
  by_cases hz0 : F s = 0
  ·rw [hz0] at ec
   have g0 := Cong.setOther (w := wr) (B := w.heap.size) (s := s) hb e0
   have g1 := Cong.setOther (w := wr) (B := w.heap.size) (s := s) hb e1
   clear e0 e1 hpos
   go_wp2_with (go_at_call 106; refine (closure_any b W T s _ (g0 _) (g1 _) hW2 hT hlt).mono ?_; rintro e w1 ⟨rfl, hb1⟩)
   go_roundw
   case rel => exact HF.out hz0 _ (hb1.mono (by simp))
   case measure => simp [intOf]; omega
  ·have hF1 : 1 ≤ F s := by omega
   have hF2 := hpos hz0
   clear hpos
   go_wp2
   go_ret2
   exact Cong.CycRet.mk (HS.out hz0) hF1 (by omega) rfl hbel
theorem cycleR_any (W T x : Nat) (w : World) (hW2 : W ≤ 16) (hT : T < 2 ^ W) (hx : x < 2 ^ W) :
  Calls Tryz.prog 88 #[.agg #[.int .i64 W, .int .i64 T], .int .i64 x] w (Cong.CycRet (nextR W T) x w) := by
 obtain ⟨p1, p2⟩ := pw_bd hW2
 go_enter Tryz.func88, Tryz.ntmps88
 go_wp2_with (go_at_call 105; refine (cycleFromR_any _ W T x _ (by simp) (by simp) (by simp) hW2 hT hx).mono ?_; rintro e w1 ⟨j, n, hc, rfl, hb1⟩; have HC := Lib.hid hc; clear hc)
 go_ret2
 exact ⟨j, n, HC.out, rfl, Base.Below.boxed hb1⟩
end Go.Proofs.YthagenodiofgnaaGreatDoor.Reg
namespace Go.Proofs.YthagenodiofgnaaGreatDoor.Poly
open Go.Proofs.YthagenodiofgnaaGreatDoor
set_option linter.unusedVariables false
def ev (s : Nat → Bool) : Nat → Nat → Bool
 | 0, _ => false
 | k + 1, q => (ev s k q) ^^ (q.testBit k && s k)
theorem ev_xor (s : Nat → Bool) (a b : Nat) : ∀ k, ev s k (a ^^^ b) = ((ev s k a) ^^ (ev s k b))
 | 0 => rfl
 | k + 1 => by
  simp only [ev, ev_xor s a b k, Nat.testBit_xor]
  cases ev s k a <;> cases ev s k b <;> cases a.testBit k <;> cases b.testBit k <;> cases s k <;> rfl
theorem ev_zero (s : Nat → Bool) : ∀ k, ev s k 0 = false
 | 0 => rfl
 | k + 1 => by simp [ev, ev_zero s k]
theorem ev_low (s : Nat → Bool) (q : Nat) : ∀ k, (∀ i, i < k → q.testBit i = false) → ev s k q = false
 | 0, _ => rfl
 | k + 1, h => by simp [ev, ev_low s q k (fun i hi => h i (by omega)), h k (by omega)]
theorem ev_more (s : Nat → Bool) {q k : Nat} (h : q < 2 ^ k) : ∀ m, ev s (k + m) q = ev s k q
 | 0 => rfl
 | m + 1 => by
  have h1 : q.testBit (k + m) = false := Nat.testBit_lt_two_pow (Nat.lt_of_lt_of_le h (Nat.pow_le_pow_right (by decide) (by omega)))
  rw [← Nat.add_assoc]
  simp only [ev, ev_more s h m, h1]
  simp
theorem ev_fuel (s : Nat → Bool) {q k l : Nat} (h : q < 2 ^ k) (hkl : k ≤ l) : ev s l q = ev s k q := by
 obtain ⟨m, rfl⟩ : ∃ m, l = k + m := ⟨l - k, by omega⟩
 exact ev_more s h m
theorem ev_shift (s : Nat → Bool) (a i : Nat) : ∀ k, ev s (i + k) (a <<< i) = ev (fun j => s (i + j)) k a
 | 0 => ev_low s _ i fun j hj => by rw [Nat.testBit_shiftLeft]; simp; omega
 | k + 1 => by
  rw [← Nat.add_assoc]
  simp only [ev, ev_shift s a i k, Nat.testBit_shiftLeft]
  congr 1
  simp [Nat.le_add_right]
theorem ev_congr {s t : Nat → Bool} (q : Nat) : ∀ k, (∀ i, i < k → s i = t i) → ev s k q = ev t k q
 | 0, _ => rfl
 | k + 1, h => by simp only [ev, ev_congr q k (fun i hi => h i (by omega)), h k (by omega)]
theorem ev_half (s : Nat → Bool) (q : Nat) : ∀ k, ev s (k + 1) q = ((q.testBit 0 && s 0) ^^ (ev (fun i => s (i + 1)) k (q / 2)))
 | 0 => by simp [ev]
 | k + 1 => by
  rw [ev, ev_half s q k]
  simp only [ev, Nat.testBit_succ]
  cases ((q.testBit 0) && s 0) <;> cases ev (fun i => s (i + 1)) k (q / 2) <;> cases ((q / 2).testBit k && s (k + 1)) <;> rfl
theorem par_ev : ∀ (k : Nat), k ≤ 63 → ∀ n, n < 2 ^ k → ((PopM.par n == 1) = ev (fun _ => true) k n)
 | 0, _, n, h => by
  obtain rfl : n = 0 := by simpa using h
  simp [PopM.par, PopM.pop_zero, ev]
 | k + 1, hk, n, h => by
  have h2 : n < 18446744073709551616 := Nat.lt_of_lt_of_le h (by have := Nat.pow_le_pow_right (n := 2) (by decide) hk; omega)
  rw [ev_half, ← par_ev k (by omega) (n / 2) (by rw [Nat.pow_succ] at h; omega)]
  have e := PopM.pop_half h2
  have hb : n.testBit 0 = (n % 2 == 1) := by rw [Nat.testBit_zero]; cases h : decide (n % 2 = 1) <;> simp_all
  have h3 : PopM.par (n / 2) = PopM.pop (n / 2) % 2 := rfl
  rw [hb, PopM.par, e, h3]
  rcases Nat.mod_two_eq_zero_or_one n with h4 | h4 <;> rcases Nat.mod_two_eq_zero_or_one (PopM.pop (n / 2)) with h5 | h5
  all_goals
   rw [h4, h5]
   first
    | (rw [show (0 + PopM.pop (n / 2)) % 2 = 0 by omega]; rfl)
    | (rw [show (0 + PopM.pop (n / 2)) % 2 = 1 by omega]; rfl)
    | (rw [show (1 + PopM.pop (n / 2)) % 2 = 1 by omega]; rfl)
    | (rw [show (1 + PopM.pop (n / 2)) % 2 = 0 by omega]; rfl)
theorem ev_and (x q : Nat) : ∀ k, ev (fun _ => true) k (q &&& x) = ev (fun i => x.testBit i) k q
 | 0 => rfl
 | k + 1 => by simp [ev, ev_and x q k]
theorem par_and {k x q : Nat} (hk : k ≤ 63) (hq : q < 2 ^ k) : (PopM.par (q &&& x) == 1) = ev (fun i => x.testBit i) k q := by
 rw [par_ev k hk (q &&& x) (Nat.lt_of_le_of_lt Nat.and_le_left hq), ev_and]
def Lrs (p : Nat) (s : Nat → Bool) : Prop := ∀ k, ev (fun i => s (k + i)) 64 p = false
theorem Lrs.shift {p : Nat} {s : Nat → Bool} (h : Lrs p s) (m : Nat) : Lrs p fun i => s (m + i) := fun k => by
 have := h (m + k)
 simpa [Nat.add_assoc] using this
def Con (p a b : Nat) : Prop := ∀ s, Lrs p s → ev s 64 a = ev s 64 b
theorem Con.refl (p a : Nat) : Con p a a := fun _ _ => rfl
theorem Con.trans {p a b c : Nat} (h : Con p a b) (k : Con p b c) : Con p a c := fun s hs => (h s hs).trans (k s hs)
theorem Con.step {p a i : Nat} (hp : p < 2 ^ 32) (hi : i ≤ 32) : Con p (a ^^^ (p <<< i)) a := fun s hs => by
 rw [ev_xor]
 have e : ev s 64 (p <<< i) = ev (fun j => s (i + j)) 32 p := by
  have h1 : p <<< i < 2 ^ (i + 32) := by rw [Nat.shiftLeft_eq, Nat.pow_add, Nat.mul_comm]; exact Nat.mul_lt_mul_of_pos_left hp (Nat.two_pow_pos i)
  rw [ev_fuel s h1 (by omega), ev_shift]
 have e2 := hs i
 rw [ev_fuel _ hp (by omega)] at e2
 rw [e, e2]; simp
def Rep (p a N : Nat) : Prop := ∀ s, Lrs p s → ev s 64 a = s N
theorem Rep.con {p a b N : Nat} (h : Rep p a N) (c : Con p b a) : Rep p b N := fun s hs => (c s hs).trans (h s hs)
theorem Rep.one (p : Nat) : Rep p 1 0 := fun s _ => by
 rw [ev_fuel s (k := 1) (by decide) (by decide)]; simp [ev]
theorem Rep.two (p : Nat) : Rep p 2 1 := fun s _ => by
 rw [ev_fuel s (k := 2) (by decide) (by decide)]; simp [ev, Nat.testBit]
def mulTo (a b : Nat) : Nat → Nat
 | 0 => 0
 | k + 1 => if b.testBit k then mulTo a b k ^^^ (a <<< k) else mulTo a b k
theorem mulTo_lt {a b : Nat} {m : Nat} (ha : a < 2 ^ m) : ∀ k, mulTo a b k < 2 ^ (m + k)
 | 0 => by simp [mulTo]; exact Nat.two_pow_pos m
 | k + 1 => by
  have h1 := mulTo_lt (b := b) ha k
  have h2 : 2 ^ (m + k) < 2 ^ (m + (k + 1)) := Nat.pow_lt_pow_right (by decide) (by omega)
  have h3 : a <<< k < 2 ^ (m + k) := by rw [Nat.shiftLeft_eq, Nat.pow_add]; exact Nat.mul_lt_mul_of_pos_right ha (Nat.two_pow_pos k)
  unfold mulTo
  split
  ·exact Nat.lt_of_lt_of_le (Nat.xor_lt_two_pow h1 h3) (Nat.le_of_lt h2)
  ·omega
theorem mulTo_more {a b m : Nat} (hb : b < 2 ^ m) : ∀ j, mulTo a b (m + j) = mulTo a b m
 | 0 => rfl
 | j + 1 => by
  rw [← Nat.add_assoc, mulTo, Nat.testBit_lt_two_pow (Nat.lt_of_lt_of_le hb (Nat.pow_le_pow_right (by decide) (by omega))), mulTo_more hb j]
  simp
theorem mulTo_16 {a b W : Nat} (hW : W ≤ 16) (ha : a < 2 ^ W) (hb : b < 2 ^ W) : mulTo a b 32 < 2 ^ 32 := by
 have hp : 2 ^ W ≤ 2 ^ 16 := Nat.pow_le_pow_right (by decide) hW
 have := mulTo_more (a := a) (b := b) (m := 16) (by omega) 16
 rw [show 16 + 16 = 32 from rfl] at this
 rw [this]
 exact mulTo_lt (m := 16) (by omega) 16
theorem ev_mulTo {a b m : Nat} (s : Nat → Bool) (ha : a < 2 ^ m) (hm : m ≤ 32) : ∀ k, k ≤ 32 → ev s 64 (mulTo a b k) = ev (fun i => ev (fun j => s (i + j)) 64 a) k b
 | 0, _ => ev_zero s 64
 | k + 1, hk => by
  have ih := ev_mulTo (b := b) s ha hm k (by omega)
  have e : ev s 64 (a <<< k) = ev (fun j => s (k + j)) 64 a := by
   have h3 : a <<< k < 2 ^ (k + m) := by rw [Nat.shiftLeft_eq, Nat.add_comm, Nat.pow_add]; exact Nat.mul_lt_mul_of_pos_right ha (Nat.two_pow_pos k)
   rw [ev_fuel s h3 (by omega), ev_shift, ← ev_fuel (fun j => s (k + j)) ha (show m ≤ 64 by omega)]
  have e3 : ev (fun i => ev (fun j => s (i + j)) 64 a) (k + 1) b = ((ev (fun i => ev (fun j => s (i + j)) 64 a) k b) ^^ (b.testBit k && ev (fun j => s (k + j)) 64 a)) := rfl
  rw [e3, ← ih, ← e]
  cases hb : b.testBit k
  ·rw [mulTo, hb]; simp only [Bool.false_eq_true, if_false, Bool.false_and, Bool.xor_false]
  ·rw [mulTo, hb, if_pos rfl, ev_xor, Bool.true_and]
theorem ev_lin (s : Nat → Bool) (a : Nat) (p : Nat) : ∀ k, ev (fun i => ev (fun j => s (i + j)) k a) 64 p = ev (fun j => ev (fun i => s (i + j)) 64 p) k a
 | 0 => by
  simp only [ev]
  have : ∀ l q, ev (fun _ => false) l q = false := fun l q => by
   induction l with
   | zero => rfl
   | succ l ih => simp [ev, ih]
  exact this 64 p
 | k + 1 => by
  rw [show ev (fun j => ev (fun i => s (i + j)) 64 p) (k + 1) a = ((ev (fun j => ev (fun i => s (i + j)) 64 p) k a) ^^ (a.testBit k && ev (fun i => s (i + k)) 64 p)) from rfl, ← ev_lin s a p k]
  have : ∀ l (f g : Nat → Bool) (c : Bool) q, ev (fun i => (f i) ^^ (c && g i)) l q = ((ev f l q) ^^ (c && ev g l q)) := fun l f g c q => by
   induction l with
   | zero => cases c <;> rfl
   | succ l ih =>
    simp only [ev, ih]
    cases ev f l q <;> cases ev g l q <;> cases q.testBit l <;> cases f l <;> cases g l <;> cases c <;> rfl
  exact this 64 (fun i => ev (fun j => s (i + j)) k a) (fun i => s (i + k)) (a.testBit k) p
theorem Lrs.sum {p : Nat} {s : Nat → Bool} (hs : Lrs p s) (a : Nat) : Lrs p fun i => ev (fun j => s (i + j)) 64 a := fun k => by
 have h := ev_lin (fun i => s (k + i)) a p 64
 have e : (fun i => ev (fun j => s (k + i + j)) 64 a) = fun i => ev (fun j => s (k + (i + j))) 64 a := by simp only [Nat.add_assoc]
 have h' : ev (fun i => ev (fun j => s (k + (i + j))) 64 a) 64 p = ev (fun j => ev (fun i => s (k + (i + j))) 64 p) 64 a := h
 rw [e, h']
 have : ∀ j, ev (fun i => s (k + (i + j))) 64 p = false := fun j => by
  have e : (fun i => s (k + j + i)) = fun i => s (k + (i + j)) := funext fun i => congrArg s (by omega)
  exact (congrArg (fun f => ev f 64 p) e).symm.trans (hs (k + j))
 rw [ev_congr (t := fun _ => false) a 64 (fun i _ => this i)]
 have h0 : ∀ l q, ev (fun _ => false) l q = false := fun l q => by
  induction l with
  | zero => rfl
  | succ l ih => simp [ev, ih]
 exact h0 64 a
theorem Rep.mul {p a b N M : Nat} (ha : Rep p a N) (hb : Rep p b M) (ha2 : a < 2 ^ 32) (hb2 : b < 2 ^ 32) : Rep p (mulTo a b 32) (N + M) := fun s hs => by
 rw [ev_mulTo s ha2 (by decide) 32 (by decide), ← ev_fuel _ hb2 (show 32 ≤ 64 by decide)]
 have h1 := hb _ (hs.sum a)
 rw [h1]
 have := ha _ (hs.shift M)
 rw [this, Nat.add_comm]
def sq (F : Nat → Nat) (x : Nat) (m : Nat) : Bool := (CycM.iter F x m).testBit 0
end Go.Proofs.YthagenodiofgnaaGreatDoor.Poly
