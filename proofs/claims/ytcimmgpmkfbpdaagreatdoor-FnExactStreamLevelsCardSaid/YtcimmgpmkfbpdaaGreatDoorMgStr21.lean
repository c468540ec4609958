/- The program's register: validity, a step, the cycle of states; the law of RegisterCycle. -/
import Derived.Test.YtcimmgpmkfbpdaaGreatDoorMgStr01
import Derived.Test.YtcimmgpmkfbpdaaGreatDoorMgStr00
import Derived.Test.YtcimmgpmkfbpdaaGreatDoorMgStr09
import Derived.Test.YtcimmgpmkfbpdaaGreatDoorMgStr20
import Derived.Laws.StructEq
namespace Go.Proofs.YtcimmgpmkfbpdaaGreatDoor.Reg
open Go.RowKit Go.Proofs.YtcimmgpmkfbpdaaGreatDoor Go.Proofs.YtcimmgpmkfbpdaaGreatDoor.Base Go.Proofs.YtcimmgpmkfbpdaaGreatDoor.Bits
set_option linter.unusedVariables false
theorem validReg_any (W T : Int) (w : World) :
  Calls Tryz.prog 62 #[.agg #[.int .i64 W, .int .i64 T]] w fun e w' => e = .returned (.bool (regB W T)) ∧ Below w.heap.size w w' := by
 cases hm : inR W 0 16
 ·go_enter Tryz.func62, Tryz.ntmps62
  go_wp2
  go_quiet ((go_at_call 34; exact Calls.quiet_of_same (inRange_qb hm _)))
  go_wp2
  go_ret
  exact ⟨ret_bool (by simp [regB, hm]), below_drewN ((Below.refl _ _).alloc (Nat.le_refl _) _) _⟩
 ·obtain ⟨b1, b2⟩ := inR_true hm
  obtain ⟨V, rfl⟩ := Int.eq_ofNat_of_zero_le b1
  obtain ⟨p1, p2⟩ := pw_bd (W := V) (by omega)
  cases hf : stB V T
  all_goals
   have hg := Lib.hid hf
   unfold stB at hf
   go_enter Tryz.func62, Tryz.ntmps62
   go_wp2
   go_quiet ((go_at_call 34; first | (with_reducible exact Calls.quiet_of_same (inRange_qb hm _)) | (with_reducible exact Calls.quiet_of_same (inRange_qb hf _))))
   go_wp2
   go_ret
   exact ⟨ret_bool (by simp [regB, hm, hg.out]), below_drewN ((Below.refl _ _).alloc (Nat.le_refl _) _) _⟩
theorem isRegState_any (W T x : Int) (w : World) :
  Calls Tryz.prog 32 #[.agg #[.int .i64 W, .int .i64 T], .int .i64 x] w fun e w' => e = .returned (.bool (bothR W T x)) ∧ Below w.heap.size w w' := by
 cases hB : regB W T
 ·go_enter Tryz.func32, Tryz.ntmps32
  go_wp2_with (go_at_call 62; refine (validReg_any W T _).mono ?_; rintro e w1 ⟨rfl, hb1⟩)
  go_ret
  exact ⟨ret_bool (by simp [bothR, hB]), Base.Below.boxed hb1⟩
 ·obtain ⟨g1, g2, _⟩ := regB_true hB
  obtain ⟨V, rfl⟩ := Int.eq_ofNat_of_zero_le g1
  obtain ⟨p1, p2⟩ := pw_bd (W := V) (by omega)
  go_enter Tryz.func32, Tryz.ntmps32
  go_wp2_with (first | (go_at_call 62; refine (validReg_any (V : Int) T _).mono ?_; rintro e w1 ⟨rfl, hb1⟩; have d0 : w1.cell? ⟨w.heap.size, 0, none⟩ = some (.int .i64 (V : Int)) := box_cells hb1 0) | (go_at_call 34; refine (inRange_any _ _ _ _).mono ?_; rintro e w' ⟨rfl, rfl⟩))
  go_ret
  exact ⟨ret_bool (by simp [bothR, hB, stB]), Base.Below.boxed hb1⟩
theorem nextR_int' {W T x : Nat} (hW : 1 ≤ W) (hW2 : W ≤ 16) (hx : x < 2 ^ W) : bits .or .i64 ((x : Int) / 2) (wrap64 ((PopM.par (T &&& x) : Int) * (2 : Int) ^ (W - 1))) = ((nextR W T x : Nat) : Int) := by
 rw [Nat.and_comm]; exact nextR_int hW hW2 hx
def StepRetI (W T x : Nat) (w : World) (e : Ending) (w' : World) : Prop := e = .returned (.tuple #[.int .i64 (nextR W T x : Nat), .int .i64 (x % 2 : Nat)]) ∧ Below w.heap.size w w'
theorem implStep_any (W T x : Nat) (w : World) (hW2 : W ≤ 16) (hT : T < 2 ^ W) (hx : x < 2 ^ W) :
  Calls Tryz.prog 64 #[.agg #[.int .i64 W, .int .i64 T], .int .i64 x] w (StepRetI W T x w) := by
 by_cases hW : W = 0
 ·subst hW
  obtain rfl : x = 0 := by simpa using hx
  go_enter Tryz.func64, Tryz.ntmps64
  go_wp2
  go_ret2
  exact ⟨rfl, (Below.refl _ _).alloc (Nat.le_refl _) _⟩
 ·have hp : 2 ^ W ≤ 65536 := Nat.pow_le_pow_right (by decide) hW2
  have HA := Lib.hid (i64_and_nat T x (by omega) (by omega))
  have HB := Lib.hid (nextR_int' (T := T) (by omega) hW2 hx)
  have HC := Lib.hid (and1 x (by omega))
  have hand : T &&& x ≤ x := Nat.and_le_right
  have hW0 : ((W : Int) == 0) = false := by simp; omega
  go_enter Tryz.func64, Tryz.ntmps64
  go_wp2
  go_quiet ((go_at_call 89; rw [HA.out]; exact Calls.quiet_of_same (parity_q (T &&& x) (by omega) _)))
  go_wp2
  go_ret2
  exact ⟨ret_two HB.out HC.out, below_drewN ((Below.refl _ _).alloc (Nat.le_refl _) _) _⟩
end Go.Proofs.YtcimmgpmkfbpdaaGreatDoor.Reg
namespace Go.Proofs.YtcimmgpmkfbpdaaGreatDoor.Poly
open Go.Proofs.YtcimmgpmkfbpdaaGreatDoor
set_option linter.unusedVariables false
def ev (s : Nat → Bool) : Nat → Nat → Bool
 | 0, _ => false
 | k + 1, q => (ev s k q) ^^ (q.testBit k && s k)
end Go.Proofs.YtcimmgpmkfbpdaaGreatDoor.Poly
namespace Go.Proofs.YtcimmgpmkfbpdaaGreatDoor.Jump
open Go.RowKit Go.Proofs.YtcimmgpmkfbpdaaGreatDoor Go.Proofs.YtcimmgpmkfbpdaaGreatDoor.Base Go.Proofs.YtcimmgpmkfbpdaaGreatDoor.Poly
set_option linter.unusedVariables false
end Go.Proofs.YtcimmgpmkfbpdaaGreatDoor.Jump
namespace Go.Proofs.YtcimmgpmkfbpdaaGreatDoor.Jump
open Go.RowKit Go.Proofs.YtcimmgpmkfbpdaaGreatDoor Go.Proofs.YtcimmgpmkfbpdaaGreatDoor.Base Go.Proofs.YtcimmgpmkfbpdaaGreatDoor.Poly Go.Proofs.YtcimmgpmkfbpdaaGreatDoor.Bits
set_option linter.unusedVariables false
end Go.Proofs.YtcimmgpmkfbpdaaGreatDoor.Jump
namespace Go.Proofs.YtcimmgpmkfbpdaaGreatDoor.Jump
open Go.RowKit Go.Proofs.YtcimmgpmkfbpdaaGreatDoor Go.Proofs.YtcimmgpmkfbpdaaGreatDoor.Base Go.Proofs.YtcimmgpmkfbpdaaGreatDoor.Poly Go.Proofs.YtcimmgpmkfbpdaaGreatDoor.Bits
set_option linter.unusedVariables false
end Go.Proofs.YtcimmgpmkfbpdaaGreatDoor.Jump
namespace Go.Proofs.YtcimmgpmkfbpdaaGreatDoor.DrawN
open Go.RowKit Go.Proofs.YtcimmgpmkfbpdaaGreatDoor Go.Proofs.YtcimmgpmkfbpdaaGreatDoor.Base Go.Proofs.YtcimmgpmkfbpdaaGreatDoor.Mem Go.Proofs.YtcimmgpmkfbpdaaGreatDoor.Pts Go.Proofs.YtcimmgpmkfbpdaaGreatDoor.NetV Go.Proofs.YtcimmgpmkfbpdaaGreatDoor.RevNet Go.Proofs.YtcimmgpmkfbpdaaGreatDoor.Bits Go.Proofs.YtcimmgpmkfbpdaaGreatDoor.Src
set_option linter.unusedVariables false
end Go.Proofs.YtcimmgpmkfbpdaaGreatDoor.DrawN
namespace Go.Proofs.YtcimmgpmkfbpdaaGreatDoor.RBits
open Go.RowKit Go.Proofs.YtcimmgpmkfbpdaaGreatDoor Go.Proofs.YtcimmgpmkfbpdaaGreatDoor.Base Go.Proofs.YtcimmgpmkfbpdaaGreatDoor.Mem Go.Proofs.YtcimmgpmkfbpdaaGreatDoor.Reg Go.Proofs.YtcimmgpmkfbpdaaGreatDoor.Bld Go.Proofs.YtcimmgpmkfbpdaaGreatDoor.Src
set_option linter.unusedVariables false
def outR (W T x : Nat) : Nat → List UInt8
 | 0 => []
 | n + 1 => outR W T x n ++ [UInt8.ofNat (48 + CycM.iter (nextR W T) x n % 2)]
theorem outR_len (W T x : Nat) : ∀ n, (outR W T x n).length = n
 | 0 => rfl
 | n + 1 => by simp [outR, outR_len W T x n]
theorem outR_ne {W T x n : Nat} (h : 0 < n) : outR W T x n ≠ [] := fun h0 => by
 have := outR_len W T x n
 rw [h0] at this
 simp at this
 omega
theorem byte_bit (k : Nat) (h : k < 2) : (UInt8.ofNat (48 + k)).toNat = 48 + k := by
 have : k = 0 ∨ k = 1 := by omega
 rcases this with rfl | rfl <;> rfl
theorem bitText_any (x : Nat) (hx : x < 2) (w : World) : Calls Tryz.prog 37 #[.int .i64 x] w fun e w' => e = .returned (.int .u8 ((48 + x : Nat) : Int)) ∧ w = w' := by
 have : x = 0 ∨ x = 1 := by omega
 rcases this with rfl | rfl
 all_goals
  go_enter Tryz.func37, Tryz.ntmps37
  go_wp2
  go_ret
  exact ⟨rfl, rfl⟩
theorem IsB.below {B b : Nat} {bs : List Value} {w w' : World} (h : IsB B b bs w) (hb : Below w.heap.size w w') : IsB B b bs w' := by
 have key : ∀ p, Lib.BuilderAt 103 5 B b p bs w → Lib.BuilderAt 103 5 B b p bs w' := fun p h => by
  have hlt := h.lt
  obtain ⟨hB, v, hbk, hown, hne⟩ := h
  exact ⟨hB, v, (hb.block b hlt).trans hbk, ownsRow_below hown hb, hne⟩
 rcases h with h | h
 ·exact .inl (key _ h)
 ·exact .inr (key _ h)
def BitsRet (W T x n : Nat) (w : World) (e : Ending) (w' : World) : Prop := e = .returned (.tuple #[.string ⟨(outR W T x n).toArray⟩, .int .i64 ((CycM.iter (nextR W T) x n : Nat) : Int)]) ∧ Below w.heap.size w w'
theorem step_bit {W T x bit : Nat} (h : x % 2 = bit) (hW2 : W ≤ 16) (hT : T < 2 ^ W) (hx : x < 2 ^ W) (w : World) :
  Calls Tryz.prog 64 #[.agg #[.int .i64 W, .int .i64 T], .int .i64 x] w fun e w' => e = .returned (.tuple #[.int .i64 (nextR W T x : Nat), .int .i64 (bit : Nat)]) ∧ Below w.heap.size w w' := by
 subst h; exact implStep_any W T x w hW2 hT hx
set_option maxHeartbeats 1000000 in
set_option maxRecDepth 100000 in
theorem bits_any (W T x n : Nat) (w : World) (hW : W ≤ 16) (hT : T < 2 ^ W) (hx : x < 2 ^ W) (hn : n ≤ 400) (hn0 : 0 < n) :
  Calls Tryz.prog 35 #[.agg #[.int .i64 W, .int .i64 T], .int .i64 x, .int .i64 n] w (BitsRet W T x n w) := by
 obtain ⟨W0, hW0⟩ : ∃ W0, W0 = w.alloc (.cells #[.int .i64 W, .int .i64 T] 31) := ⟨_, rfl⟩
 have hz0 : W0.heap.size = w.heap.size + 1 := by rw [hW0]; simp
 have c0 : W0.cell? ⟨w.heap.size, 0, none⟩ = some (.int .i64 W) := by rw [hW0]; go_simp
 have c1 : W0.cell? ⟨w.heap.size, 1, none⟩ = some (.int .i64 T) := by rw [hW0]; go_simp
 have B0 := Lib.hid (show Below w.heap.size w W0 by rw [hW0]; exact (Below.refl _ _).alloc (Nat.le_refl _) _)
 obtain ⟨W1, hW1⟩ : ∃ W1, W1 = W0.alloc (.cells #[.pointer none, .slice none 0 0] 103) := ⟨_, rfl⟩
 have hz1 : W1.heap.size = w.heap.size + 1 + 1 := by rw [hW1]; simp [hz0]
 have B1 := Lib.hid (show Below (w.heap.size + 1) W0 W1 by rw [hW1]; exact (Below.refl _ _).alloc (by omega) _)
 have I1 := Lib.hid (show IsB (w.heap.size + 1) (w.heap.size + 1) (Lib.byteCells []) W1 by rw [hW1, ← hz0]; exact Lib.fresh_isBuilder _ _ W0)
 have HW0 := Lib.hid hW0
 have HW1 := Lib.hid hW1
 have HZ0 := Lib.hid hz0
 have HZ1 := Lib.hid hz1
 have hz0' : w.heap.size < W0.heap.size := by omega
 have hz1' : W0.heap.size < W1.heap.size := by omega
 have hit : ∀ k, CycM.iter (nextR W T) x k < 2 ^ W := fun k => CycM.iter_lt (fun s hs => nextR_lt hs) hx k
 have hp : 2 ^ W ≤ 2 ^ 16 := Nat.pow_le_pow_right (by decide) hW
 have HN0 := Lib.hid hn0
 clear hW0 hW1 hz0 hz1 hn0
 go_enter Tryz.func35, Tryz.ntmps35
 go_wp2
 go_loopw [1, 12] (fun o i wr => ∃ k : Nat, k ≤ n ∧ i = .int .i64 k ∧ o = .int .i64 (CycM.iter (nextR W T) x k : Nat) ∧ IsB (w.heap.size + 1) (w.heap.size + 1) (Lib.byteCells (outR W T x k)) wr ∧ Below (w.heap.size + 1) W0 wr) (fun _ i _ => n - (intOf i).toNat)
 case atStart =>
  refine ⟨0, by omega, rfl, rfl, ?_, ?_⟩
  ·have := I1.out
   rw [HW1.out, HW0.out] at this
   first | exact this | (rw [HW0.out]; exact this)
  ·have := B1.out
   rw [HW1.out, HW0.out] at this
   first | exact this | (rw [HW0.out]; exact this)
 case round =>
  obtain ⟨k, hk, rfl, rfl, hI, hb⟩ := hrel
  have d0 := (hb.cell (p := ⟨w.heap.size, 0, none⟩) (Nat.lt_succ_self _)).trans c0
  have d1 := (hb.cell (p := ⟨w.heap.size, 1, none⟩) (Nat.lt_succ_self _)).trans c1
  have hwz := hb.size
  have HBel := Lib.hid hb
  have HI := Lib.hid hI
  clear hb c0 c1 hI
  by_cases hlt : k < n
  ·have hxk := hit k
   have HO : Hid (outR W T x (k + 1) = outR W T x k ++ [UInt8.ofNat (48 + CycM.iter (nextR W T) x k % 2)]) := Lib.hid rfl
   have HT : Hid (CycM.iter (nextR W T) x (k + 1) = nextR W T (CycM.iter (nextR W T) x k)) := Lib.hid rfl
   have HBy := Lib.hid (byte_bit (CycM.iter (nextR W T) x k % 2) (Nat.mod_lt _ (by decide)))
   have HLn := Lib.hid (outR_len W T x k)
   have hm2 : CycM.iter (nextR W T) x k % 2 < 2 := Nat.mod_lt _ (by decide)
   generalize CycM.iter (nextR W T) x k = y at *
   generalize hbit : y % 2 = bit at *
   have HS := Lib.hid (fun w => step_bit hbit hW hT hxk w)
   clear hbit hit
   go_wp2_with fail
   refine (HS.out _).mono ?_
   rintro e w1 ⟨rfl, hb1⟩
   have HI1 := Lib.hid (IsB.below HI.out hb1)
   have HB1 := Lib.hid (HBel.out.trans (hb1.mono (by have := HZ0.out; omega)))
   have HWB := Lib.hid (fun h => writeByte_any (w.heap.size + 1) (w.heap.size + 1) (Lib.byteCells (outR W T x k)) ((48 + bit : Nat) : Int) w1 (HI1.out) (by rw [Lib.byteCells_length, HLn.out]; omega) h)
   have hws := hb1.size
   clear hb1
   have HWB2 := Lib.hid (HWB.out (by have := HZ0.out; omega))
   clear HWB
   go_wp2_with (first | (go_at_call 37; refine (bitText_any bit hm2 _).mono ?_; rintro e w' ⟨rfl, rfl⟩) | (refine HWB2.out.mono ?_; rintro e w2 ⟨rfl, hI2, hb2⟩; have HI2 := Lib.hid hI2; have HB2 := Lib.hid hb2; clear hI2 hb2))
   go_roundw
   case rel =>
    refine ⟨k + 1, hlt, by go_num, by rw [HT.out], ?_, HB1.out.trans HB2.out⟩
    rw [HO.out]
    have := HI2.out
    rw [← HBy.out] at this
    simpa [Lib.byteCells] using this
   case measure => simp [intOf]; omega
  ·obtain rfl : k = n := by omega
   have HNe := Lib.hid (outR_ne (W := W) (T := T) (x := x) HN0.out)
   have HS := Lib.hid (string_some (w.heap.size + 1) (w.heap.size + 1) (outR W T x k) wr HI.out HNe.out)
   have HX := Lib.hid (fun w2 (hb2 : Below (w.heap.size + 1) wr w2) => B0.out.trans ((HBel.out.trans hb2).mono (show w.heap.size ≤ w.heap.size + 1 by omega)))
   go_wp2_with fail
   refine HS.out.mono ?_
   rintro e w2 ⟨rfl, hb2⟩
   have HB2 := Lib.hid (HX.out _ hb2)
   clear hb2
   go_wp2
   go_ret2
   exact ⟨rfl, HB2.out⟩
set_option maxHeartbeats 1000000 in
set_option maxRecDepth 100000 in
theorem string_nil (B b : Nat) (p : Value) (w : World) (hbk : w.heap[b]? = some (.cells #[p, .slice none 0 0] 103 (0, 0))) :
  Calls Tryz.prog 66 #[.pointer (some ⟨b, 0, none⟩)] w fun e w' => e = .returned (.string ⟨#[]⟩) ∧ Below B w w' := by
 have c1 : w.drew.cell? ⟨b, 1, none⟩ = some (.slice none 0 0) := by
  have : w.drew.heap[b]? = some (.cells #[p, .slice none 0 0] 103 (0, 0)) := hbk
  rw [Lib.cell_of_heap this]; rfl
 have hSD : (Builtin.unsafeSliceData_ #[58] 136 #[.slice none 0 0]).run Tryz.prog w.drew = .ok (.pointer none) w.drew := rfl
 have hUS : (Builtin.unsafeString_ #[136, 3] 9 #[.pointer none, .int .i64 0]).run Tryz.prog w.drew = .ok (.string ⟨#[]⟩) w.drew :=
  Lib.run_unsafeString_none w.drew _ _ _ none
 have mixed : Tryz.prog.follows .mixedOrders = true := by kernel_rfl
 go_enter Tryz.func66, Tryz.ntmps66
 go_wp2
 go_region_o
 all_goals (go_wp2; go_ret; exact ⟨rfl, Below.drew (Below.refl B w)⟩)
set_option maxHeartbeats 1000000 in
set_option maxRecDepth 100000 in
theorem bits_zero (W T x : Nat) (w : World) : Calls Tryz.prog 35 #[.agg #[.int .i64 W, .int .i64 T], .int .i64 x, .int .i64 0] w (BitsRet W T x 0 w) := by
 obtain ⟨W0, hW0⟩ : ∃ W0, W0 = w.alloc (.cells #[.int .i64 W, .int .i64 T] 31) := ⟨_, rfl⟩
 have hz0 : W0.heap.size = w.heap.size + 1 := by rw [hW0]; simp
 obtain ⟨W1, hW1⟩ : ∃ W1, W1 = W0.alloc (.cells #[.pointer none, .slice none 0 0] 103) := ⟨_, rfl⟩
 have hbk : W1.heap[w.heap.size + 1]? = some (.cells #[.pointer none, .slice none 0 0] 103 (0, 0)) := by rw [hW1, ← hz0]; exact heap_alloc_new W0 _
 have B1 := Lib.hid (show Below w.heap.size w W1 by rw [hW1, hW0]; exact ((Below.refl _ _).alloc (Nat.le_refl _) _).alloc (by simp) _)
 have HS := Lib.hid (string_nil w.heap.size (w.heap.size + 1) (.pointer none) W1 hbk)
 have HW0 := Lib.hid hW0
 have HW1 := Lib.hid hW1
 clear hW0 hW1 hbk hz0
 go_enter Tryz.func35, Tryz.ntmps35
 go_wp2
 go_loopw [1, 12] (fun o i wr => i = .int .i64 0 ∧ o = .int .i64 (x : Int) ∧ wr = W1) (fun _ i _ => 0)
 case atStart => exact ⟨rfl, rfl, by rw [HW1.out, HW0.out]⟩
 case round =>
  obtain ⟨rfl, rfl, rfl⟩ := hrel
  go_wp2_with fail
  refine HS.out.mono ?_
  rintro e w2 ⟨rfl, hb2⟩
  have HB2 := Lib.hid (B1.out.trans hb2)
  clear hb2
  go_wp2
  go_ret2
  exact ⟨rfl, HB2.out⟩
theorem bits_all (W T x n : Nat) (w : World) (hW : W ≤ 16) (hT : T < 2 ^ W) (hx : x < 2 ^ W) (hn : n ≤ 400) :
  Calls Tryz.prog 35 #[.agg #[.int .i64 W, .int .i64 T], .int .i64 x, .int .i64 n] w (BitsRet W T x n w) := by
 by_cases h : n = 0
 ·subst h; exact bits_zero W T x w
 ·exact bits_any W T x n w hW hT hx hn (by omega)
end Go.Proofs.YtcimmgpmkfbpdaaGreatDoor.RBits
namespace Go.Proofs.YtcimmgpmkfbpdaaGreatDoor.Str
open Go.RowKit Go.Proofs.YtcimmgpmkfbpdaaGreatDoor Go.Proofs.YtcimmgpmkfbpdaaGreatDoor.Base
set_option linter.unusedVariables false
def zc (m f a : Int) : Bool := m == 0 && (f == 0 && a == 0)
def zr (W T : Int) : Bool := W == 0 && T == 0
def streamB (K W T m f a s : Int) : Bool := if K = 0 then zc m f a && Reg.bothR W T s else if K = 1 then zr W T && Cong.bothB m f a s else false
theorem eqCong {m f a : Int} {r : Bool} (h : zc m f a = r) (w : World) :
  (binOp .eql 32 (.agg #[.int .i64 m, .int .i64 f, .int .i64 a]) (.agg #[.int .i64 0, .int .i64 0, .int .i64 0])).run Tryz.prog w = .ok (.bool r) w := by
 subst h
 unfold zc
 cases h1 : (m == 0) <;> cases h2 : (f == 0) <;> cases h3 : (a == 0) <;> go_simp
theorem eqReg {W T : Int} {r : Bool} (h : zr W T = r) (w : World) :
  (binOp .eql 31 (.agg #[.int .i64 W, .int .i64 T]) (.agg #[.int .i64 0, .int .i64 0])).run Tryz.prog w = .ok (.bool r) w := by
 subst h
 unfold zr
 cases h1 : (W == 0) <;> cases h2 : (T == 0) <;> go_simp
theorem l02Both_q (b o : Nat) {W T x : Int} {r : Bool} (h : Reg.bothR W T x = r) (w : World) (h0 : w.cell? ⟨b, o, none⟩ = some (.int .i64 W)) (h1 : w.cell? ⟨b, o + 1, none⟩ = some (.int .i64 T)) (n : Nat) :
  Calls Tryz.prog 21 #[.pointer (some ⟨b, o, none⟩), .int .i64 x] (w.drewN n) fun e w' => e = .returned (.bool r) ∧ ∃ n, w' = w.drewN n := by
 subst h
 exact (Reg.l02Both_any b o W T x (w.drewN n) (by simpa using h0) (by simpa using h1)).mono fun _ _ ⟨h1, k, h2⟩ => ⟨h1, n + k, by rw [h2, World.drewN_drewN]⟩
theorem l03Both_q (b o : Nat) {m f a x : Int} {r : Bool} (h : Cong.bothB m f a x = r) (w : World) (h0 : w.cell? ⟨b, o, none⟩ = some (.int .i64 m)) (h1 : w.cell? ⟨b, o + 1, none⟩ = some (.int .i64 f)) (h2 : w.cell? ⟨b, o + 2, none⟩ = some (.int .i64 a)) (n : Nat) :
  Calls Tryz.prog 22 #[.pointer (some ⟨b, o, none⟩), .int .i64 x] (w.drewN n) fun e w' => e = .returned (.bool r) ∧ ∃ n, w' = w.drewN n := by
 subst h
 exact (Cong.l03Both_any b o m f a x (w.drewN n) (by simpa using h0) (by simpa using h1) (by simpa using h2)).mono fun _ _ ⟨h1, k, h2⟩ => ⟨h1, n + k, by rw [h2, World.drewN_drewN]⟩
set_option maxHeartbeats 1000000 in
theorem l11Is_any (b : Nat) (K W T m f a s : Int) (w : World) (h0 : w.cell? ⟨b, 0, none⟩ = some (.int .i64 K)) (h1 : w.cell? ⟨b, 1, none⟩ = some (.int .i64 W)) (h2 : w.cell? ⟨b, 2, none⟩ = some (.int .i64 T))
  (h3 : w.cell? ⟨b, 3, none⟩ = some (.int .i64 m)) (h4 : w.cell? ⟨b, 4, none⟩ = some (.int .i64 f)) (h5 : w.cell? ⟨b, 5, none⟩ = some (.int .i64 a)) (h6 : w.cell? ⟨b, 6, none⟩ = some (.int .i64 s)) :
  Calls Tryz.prog 10 #[.pointer (some ⟨b, 0, none⟩)] w fun e w' => e = .returned (.bool (streamB K W T m f a s)) ∧ ∃ n, w' = w.drewN n := by
 by_cases hK : K = 0
 ·subst hK
  cases hz : zc m f a
  ·have he := eqCong hz
   go_enter Tryz.func10, Tryz.ntmps10
   go_wp2
   go_quiet (fail)
   go_wp2
   go_ret
   exact ⟨ret_bool (by simp [streamB, hz]), _, rfl⟩
  ·have he := eqCong hz
   cases hb : Reg.bothR W T s
   all_goals
    go_enter Tryz.func10, Tryz.ntmps10
    go_wp2
    go_quiet ((go_at_call 21; exact l02Both_q b 1 hb _ h1 h2 _))
    go_wp2
    go_ret
    exact ⟨ret_bool (by simp [streamB, hz, hb]), _, rfl⟩
 ·by_cases hK1 : K = 1
  ·subst hK1
   clear hK
   cases hz : zr W T
   ·have he := eqReg hz
    go_enter Tryz.func10, Tryz.ntmps10
    go_wp2
    go_quiet (fail)
    go_wp2
    go_ret
    exact ⟨ret_bool (by simp [streamB, hz]), _, rfl⟩
   ·have he := eqReg hz
    cases hb : Cong.bothB m f a s
    all_goals
     go_enter Tryz.func10, Tryz.ntmps10
     go_wp2
     go_quiet ((go_at_call 22; exact l03Both_q b 3 hb _ h3 h4 h5 _))
     go_wp2
     go_ret
     exact ⟨ret_bool (by simp [streamB, hz, hb]), _, rfl⟩
  ·have g0 : (K == 0) = false := by simpa using hK
   have g1 : (K == 1) = false := by simpa using hK1
   have HF := Lib.hid (show streamB K W T m f a s = false by simp [streamB, hK, hK1])
   clear hK hK1
   go_enter Tryz.func10, Tryz.ntmps10
   go_wp2
   go_ret
   exact ⟨ret_bool HF.out.symm, 0, rfl⟩
set_option maxHeartbeats 1000000 in
theorem validStream_any (K W T m f a s : Int) (w : World) :
  Calls Tryz.prog 16 #[.agg #[.int .i64 K, .int .i64 W, .int .i64 T, .int .i64 m, .int .i64 f, .int .i64 a, .int .i64 s]] w fun e w' => e = .returned (.bool (streamB K W T m f a s)) ∧ Below w.heap.size w w' := by
 by_cases hK : K = 0
 ·subst hK
  cases hb : Reg.bothR W T s
  ·go_enter Tryz.func16, Tryz.ntmps16
   go_wp2_with (go_at_call 32; refine (Reg.isRegState_any W T s _).mono ?_; rintro e w1 ⟨rfl, hb1⟩)
   go_ret
   exact ⟨ret_bool (by simp [streamB, hb]), Base.Below.boxed hb1⟩
  ·cases hz : zc m f a
   all_goals
    have he := eqCong hz
    go_enter Tryz.func16, Tryz.ntmps16
    go_wp2_with (go_at_call 32; refine (Reg.isRegState_any W T s _).mono ?_; rintro e w1 ⟨rfl, hb1⟩; have d3 : w1.cell? ⟨w.heap.size, 3, none⟩ = some (.int .i64 m) := box_cells hb1 3; have d4 : w1.cell? ⟨w.heap.size, 4, none⟩ = some (.int .i64 f) := box_cells hb1 4; have d5 : w1.cell? ⟨w.heap.size, 5, none⟩ = some (.int .i64 a) := box_cells hb1 5)
    go_ret
    exact ⟨ret_bool (by simp [streamB, hz, hb]), Base.Below.boxed hb1⟩
 ·by_cases hK1 : K = 1
  ·subst hK1
   clear hK
   cases hb : Cong.bothB m f a s
   ·go_enter Tryz.func16, Tryz.ntmps16
    go_wp2_with (go_at_call 33; refine (Cong.isState_any m f a s _).mono ?_; rintro e w1 ⟨rfl, hb1⟩)
    go_ret
    exact ⟨ret_bool (by simp [streamB, hb]), Base.Below.boxed hb1⟩
   ·cases hz : zr W T
    all_goals
     have he := eqReg hz
     go_enter Tryz.func16, Tryz.ntmps16
     go_wp2_with (go_at_call 33; refine (Cong.isState_any m f a s _).mono ?_; rintro e w1 ⟨rfl, hb1⟩; have d1 : w1.cell? ⟨w.heap.size, 1, none⟩ = some (.int .i64 W) := box_cells hb1 1; have d2 : w1.cell? ⟨w.heap.size, 2, none⟩ = some (.int .i64 T) := box_cells hb1 2)
     go_ret
     exact ⟨ret_bool (by simp [streamB, hz, hb]), Base.Below.boxed hb1⟩
  ·have g0 : (K == 0) = false := by simpa using hK
   have g1 : (K == 1) = false := by simpa using hK1
   have HF := Lib.hid (show streamB K W T m f a s = false by simp [streamB, hK, hK1])
   clear hK hK1
   go_enter Tryz.func16, Tryz.ntmps16
   go_wp2
   go_ret
   exact ⟨ret_bool HF.out.symm, (Below.refl _ _).alloc (Nat.le_refl _) _⟩
theorem toReg_at (W T : Int) (w : World) :
  Calls Tryz.prog 14 #[.agg #[.int .i64 W, .int .i64 T]] w fun e w' => e = .returned (.agg #[.int .i64 W, .int .i64 T]) ∧
   ((w.alloc (.cells #[.int .i64 W, .int .i64 T] 23)).alloc (.cells #[.int .i64 W, .int .i64 T] 31)).alloc (.cells #[.int .i64 W, .int .i64 T] 31) = w' := by
 go_enter Tryz.func14, Tryz.ntmps14
 go_wp2
 exact bodyPost_ret (v := .agg #[.int .i64 W, .int .i64 T]) (by simp [results, Tryz.results14, go_sem]) rfl ⟨rfl, rfl⟩
theorem toCong_at (m f a : Int) (w : World) :
  Calls Tryz.prog 15 #[.agg #[.int .i64 m, .int .i64 f, .int .i64 a]] w fun e w' => e = .returned (.agg #[.int .i64 m, .int .i64 f, .int .i64 a]) ∧
   ((w.alloc (.cells #[.int .i64 m, .int .i64 f, .int .i64 a] 25)).alloc (.cells #[.int .i64 m, .int .i64 f, .int .i64 a] 32)).alloc (.cells #[.int .i64 m, .int .i64 f, .int .i64 a] 32) = w' := by
 go_enter Tryz.func15, Tryz.ntmps15
 go_wp2
 exact bodyPost_ret (v := .agg #[.int .i64 m, .int .i64 f, .int .i64 a]) (by simp [results, Tryz.results15, go_sem]) rfl ⟨rfl, rfl⟩
set_option maxHeartbeats 1000000 in
theorem toStream_any (K W T m f a s : Int) (w : World) :
  Calls Tryz.prog 5 #[.agg #[.int .i64 K, .int .i64 W, .int .i64 T, .int .i64 m, .int .i64 f, .int .i64 a, .int .i64 s]] w fun e w' => e = .returned (.agg #[.int .i64 K, .int .i64 W, .int .i64 T, .int .i64 m, .int .i64 f, .int .i64 a, .int .i64 s]) ∧ Below w.heap.size w w' := by
 go_enter Tryz.func5, Tryz.ntmps5
 go_wp2_with (first | (go_at_call 14; refine (toReg_at _ _ _).mono ?_; rintro e w' ⟨rfl, rfl⟩) | (go_at_call 15; refine (toCong_at _ _ _ _).mono ?_; rintro e w' ⟨rfl, rfl⟩))
 refine bodyPost_ret (v := .agg #[.int .i64 K, .int .i64 W, .int .i64 T, .int .i64 m, .int .i64 f, .int .i64 a, .int .i64 s]) (by simp [results, Tryz.results5, go_sem]) rfl ⟨rfl, ?_⟩
 refine ((((((((Below.refl _ _).alloc (Nat.le_refl _) _).alloc ?_ _).alloc ?_ _).alloc ?_ _).alloc ?_ _).alloc ?_ _).alloc ?_ _).alloc ?_ _ |>.alloc ?_ _
 all_goals (simp only [World.size_alloc]; omega)
end Go.Proofs.YtcimmgpmkfbpdaaGreatDoor.Str
namespace Go.Proofs.YtcimmgpmkfbpdaaGreatDoor.Str
open Go.RowKit Go.Proofs.YtcimmgpmkfbpdaaGreatDoor Go.Proofs.YtcimmgpmkfbpdaaGreatDoor.Base
set_option linter.unusedVariables false
theorem streamB_true {K W T m f a s : Int} (h : streamB K W T m f a s = true) : (K = 0 ∧ Reg.bothR W T s = true) ∨ (K = 1 ∧ Cong.bothB m f a s = true) := by
 unfold streamB at h
 by_cases h0 : K = 0
 ·rw [if_pos h0, Bool.and_eq_true] at h
  exact .inl ⟨h0, h.2⟩
 ·rw [if_neg h0] at h
  by_cases h1 : K = 1
  ·rw [if_pos h1, Bool.and_eq_true] at h
   exact .inr ⟨h1, h.2⟩
  ·rw [if_neg h1] at h
   cases h
end Go.Proofs.YtcimmgpmkfbpdaaGreatDoor.Str
