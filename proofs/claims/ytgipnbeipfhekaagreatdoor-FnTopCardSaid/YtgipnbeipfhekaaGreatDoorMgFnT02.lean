/- A net that is drawn is valid. -/
import Derived.Test.YtgipnbeipfhekaaGreatDoorMgFnT01
import Derived.Test.YtgipnbeipfhekaaGreatDoorMgFnT00
import Derived.Laws.StructEq
namespace Go.Proofs.YtgipnbeipfhekaaGreatDoor.DrawN
open Go.RowKit Go.Proofs.YtgipnbeipfhekaaGreatDoor Go.Proofs.YtgipnbeipfhekaaGreatDoor.Base Go.Proofs.YtgipnbeipfhekaaGreatDoor.Mem Go.Proofs.YtgipnbeipfhekaaGreatDoor.Pts Go.Proofs.YtgipnbeipfhekaaGreatDoor.NetV Go.Proofs.YtgipnbeipfhekaaGreatDoor.RevNet Go.Proofs.YtgipnbeipfhekaaGreatDoor.Bits Go.Proofs.YtgipnbeipfhekaaGreatDoor.Src
set_option linter.unusedVariables false
structure Beside (p : Nat) (w w' : World) : Prop where
 size : w.heap.size ≤ w'.heap.size
 same : ∀ q, q < w.heap.size → q ≠ p → w'.heap[q]? = w.heap[q]?
theorem Beside.refl (p : Nat) (w : World) : Beside p w w := ⟨Nat.le_refl _, fun _ _ _ => rfl⟩
theorem Beside.trans {p : Nat} {a b c : World} (h : Beside p a b) (k : Beside p b c) : Beside p a c :=
 ⟨Nat.le_trans h.size k.size, fun q h1 h2 => (k.same q (Nat.lt_of_lt_of_le h1 h.size) h2).trans (h.same q h1 h2)⟩
theorem Beside.grown {p : Nat} {w w' : World} (h : w.grownBy w' (some p)) : Beside p w w' := ⟨h.size, fun q h1 h2 => h.block q h1 fun e => h2 (Option.some.inj e)⟩
theorem Beside.below {p : Nat} {w w' : World} (h : Below w.heap.size w w') : Beside p w w' := ⟨h.size, fun q h1 _ => h.block q h1⟩
end Go.Proofs.YtgipnbeipfhekaaGreatDoor.DrawN
namespace Go.Proofs.YtgipnbeipfhekaaGreatDoor.RBits
open Go.RowKit Go.Proofs.YtgipnbeipfhekaaGreatDoor Go.Proofs.YtgipnbeipfhekaaGreatDoor.Base Go.Proofs.YtgipnbeipfhekaaGreatDoor.Mem Go.Proofs.YtgipnbeipfhekaaGreatDoor.Reg Go.Proofs.YtgipnbeipfhekaaGreatDoor.Bld Go.Proofs.YtgipnbeipfhekaaGreatDoor.Src
set_option linter.unusedVariables false
def outR (W T x : Nat) : Nat → List UInt8
 | 0 => []
 | n + 1 => outR W T x n ++ [UInt8.ofNat (48 + CycM.iter (nextR W T) x n % 2)]
theorem outR_len (W T x : Nat) : ∀ n, (outR W T x n).length = n
 | 0 => rfl
 | n + 1 => by simp [outR, outR_len W T x n]
theorem outR_ne {W T x n : Nat} (h : 0 < n) : outR W T x n ≠ [] := fun h0 => by
 have := outR_len W T x n
 rw [h0] at this
 simp at this
 omega
theorem byte_bit (k : Nat) (h : k < 2) : (UInt8.ofNat (48 + k)).toNat = 48 + k := by
 have : k = 0 ∨ k = 1 := by omega
 rcases this with rfl | rfl <;> rfl
theorem bitText_any (x : Nat) (hx : x < 2) (w : World) : Calls Tryz.prog 70 #[.int .i64 x] w fun e w' => e = .returned (.int .u8 ((48 + x : Nat) : Int)) ∧ w = w' := by
 have : x = 0 ∨ x = 1 := by omega
 rcases this with rfl | rfl
 all_goals
  go_enter Tryz.func70, Tryz.ntmps70
  go_wp2
  go_ret
  exact ⟨rfl, rfl⟩
theorem IsB.below {B b : Nat} {bs : List Value} {w w' : World} (h : IsB B b bs w) (hb : Below w.heap.size w w') : IsB B b bs w' := by
 have key : ∀ p, Lib.BuilderAt 93 5 B b p bs w → Lib.BuilderAt 93 5 B b p bs w' := fun p h => by
  have hlt := h.lt
  obtain ⟨hB, v, hbk, hown, hne⟩ := h
  exact ⟨hB, v, (hb.block b hlt).trans hbk, ownsRow_below hown hb, hne⟩
 rcases h with h | h
 ·exact .inl (key _ h)
 ·exact .inr (key _ h)
def BitsRet (W T x n : Nat) (w : World) (e : Ending) (w' : World) : Prop := e = .returned (.tuple #[.string ⟨(outR W T x n).toArray⟩, .int .i64 ((CycM.iter (nextR W T) x n : Nat) : Int)]) ∧ Below w.heap.size w w'
theorem step_bit {W T x bit : Nat} (h : x % 2 = bit) (hW2 : W ≤ 16) (hT : T < 2 ^ W) (hx : x < 2 ^ W) (w : World) :
  Calls Tryz.prog 118 #[.agg #[.int .i64 W, .int .i64 T], .int .i64 x] w fun e w' => e = .returned (.tuple #[.int .i64 (nextR W T x : Nat), .int .i64 (bit : Nat)]) ∧ Below w.heap.size w w' := by
 subst h; exact implStep_any W T x w hW2 hT hx
set_option maxHeartbeats 1000000 in
set_option maxRecDepth 100000 in
theorem bits_any (W T x n : Nat) (w : World) (hW : W ≤ 16) (hT : T < 2 ^ W) (hx : x < 2 ^ W) (hn : n ≤ 400) (hn0 : 0 < n) :
  Calls Tryz.prog 68 #[.agg #[.int .i64 W, .int .i64 T], .int .i64 x, .int .i64 n] w (BitsRet W T x n w) := by
 obtain ⟨W0, hW0⟩ : ∃ W0, W0 = w.alloc (.cells #[.int .i64 W, .int .i64 T] 25) := ⟨_, rfl⟩
 have hz0 : W0.heap.size = w.heap.size + 1 := by rw [hW0]; simp
 have c0 : W0.cell? ⟨w.heap.size, 0, none⟩ = some (.int .i64 W) := by rw [hW0]; go_simp
 have c1 : W0.cell? ⟨w.heap.size, 1, none⟩ = some (.int .i64 T) := by rw [hW0]; go_simp
 have B0 := Lib.hid (show Below w.heap.size w W0 by rw [hW0]; exact (Below.refl _ _).alloc (Nat.le_refl _) _)
 obtain ⟨W1, hW1⟩ : ∃ W1, W1 = W0.alloc (.cells #[.pointer none, .slice none 0 0] 93) := ⟨_, rfl⟩
 have hz1 : W1.heap.size = w.heap.size + 1 + 1 := by rw [hW1]; simp [hz0]
 have B1 := Lib.hid (show Below (w.heap.size + 1) W0 W1 by rw [hW1]; exact (Below.refl _ _).alloc (by omega) _)
 have I1 := Lib.hid (show IsB (w.heap.size + 1) (w.heap.size + 1) (Lib.byteCells []) W1 by rw [hW1, ← hz0]; exact Lib.fresh_isBuilder _ _ W0)
 have HW0 := Lib.hid hW0
 have HW1 := Lib.hid hW1
 have HZ0 := Lib.hid hz0
 have HZ1 := Lib.hid hz1
 have hz0' : w.heap.size < W0.heap.size := by omega
 have hz1' : W0.heap.size < W1.heap.size := by omega
 have hit : ∀ k, CycM.iter (nextR W T) x k < 2 ^ W := fun k => CycM.iter_lt (fun s hs => nextR_lt hs) hx k
 have hp : 2 ^ W ≤ 2 ^ 16 := Nat.pow_le_pow_right (by decide) hW
 have HN0 := Lib.hid hn0
 clear hW0 hW1 hz0 hz1 hn0
 go_enter Tryz.func68, Tryz.ntmps68
 go_wp2
 go_loopw [1, 12] (fun o i wr => ∃ k : Nat, k ≤ n ∧ i = .int .i64 k ∧ o = .int .i64 (CycM.iter (nextR W T) x k : Nat) ∧ IsB (w.heap.size + 1) (w.heap.size + 1) (Lib.byteCells (outR W T x k)) wr ∧ Below (w.heap.size + 1) W0 wr) (fun _ i _ => n - (intOf i).toNat)
 case atStart =>
  refine ⟨0, by omega, rfl, rfl, ?_, ?_⟩
  ·have := I1.out
   rw [HW1.out, HW0.out] at this
   first | exact this | (rw [HW0.out]; exact this)
  ·have := B1.out
   rw [HW1.out, HW0.out] at this
   first | exact this | (rw [HW0.out]; exact this)
 case round =>
  obtain ⟨k, hk, rfl, rfl, hI, hb⟩ := hrel
  have d0 := (hb.cell (p := ⟨w.heap.size, 0, none⟩) (Nat.lt_succ_self _)).trans c0
  have d1 := (hb.cell (p := ⟨w.heap.size, 1, none⟩) (Nat.lt_succ_self _)).trans c1
  have hwz := hb.size
  have HBel := Lib.hid hb
  have HI := Lib.hid hI
  clear hb c0 c1 hI
  by_cases hlt : k < n
  ·have hxk := hit k
   have HO : Hid (outR W T x (k + 1) = outR W T x k ++ [UInt8.ofNat (48 + CycM.iter (nextR W T) x k % 2)]) := Lib.hid rfl
   have HT : Hid (CycM.iter (nextR W T) x (k + 1) = nextR W T (CycM.iter (nextR W T) x k)) := Lib.hid rfl
   have HBy := Lib.hid (byte_bit (CycM.iter (nextR W T) x k % 2) (Nat.mod_lt _ (by decide)))
   have HLn := Lib.hid (outR_len W T x k)
   have hm2 : CycM.iter (nextR W T) x k % 2 < 2 := Nat.mod_lt _ (by decide)
   generalize CycM.iter (nextR W T) x k = y at *
   generalize hbit : y % 2 = bit at *
   have HS := Lib.hid (fun w => step_bit hbit hW hT hxk w)
   clear hbit hit
   go_wp2_with fail
   refine (HS.out _).mono ?_
   rintro e w1 ⟨rfl, hb1⟩
   have HI1 := Lib.hid (IsB.below HI.out hb1)
   have HB1 := Lib.hid (HBel.out.trans (hb1.mono (by have := HZ0.out; omega)))
   have HWB := Lib.hid (fun h => writeByte_any (w.heap.size + 1) (w.heap.size + 1) (Lib.byteCells (outR W T x k)) ((48 + bit : Nat) : Int) w1 (HI1.out) (by rw [Lib.byteCells_length, HLn.out]; omega) h)
   have hws := hb1.size
   clear hb1
   have HWB2 := Lib.hid (HWB.out (by have := HZ0.out; omega))
   clear HWB
   go_wp2_with (first | (go_at_call 70; refine (bitText_any bit hm2 _).mono ?_; rintro e w' ⟨rfl, rfl⟩) | (refine HWB2.out.mono ?_; rintro e w2 ⟨rfl, hI2, hb2⟩; have HI2 := Lib.hid hI2; have HB2 := Lib.hid hb2; clear hI2 hb2))
   go_roundw
   case rel =>
    refine ⟨k + 1, hlt, by go_num, by rw [HT.out], ?_, HB1.out.trans HB2.out⟩
    rw [HO.out]
    have := HI2.out
    rw [← HBy.out] at this
    simpa [Lib.byteCells] using this
   case measure => simp [intOf]; omega
  ·obtain rfl : k = n := by omega
   have HNe := Lib.hid (outR_ne (W := W) (T := T) (x := x) HN0.out)
   have HS := Lib.hid (string_some (w.heap.size + 1) (w.heap.size + 1) (outR W T x k) wr HI.out HNe.out)
   have HX := Lib.hid (fun w2 (hb2 : Below (w.heap.size + 1) wr w2) => B0.out.trans ((HBel.out.trans hb2).mono (show w.heap.size ≤ w.heap.size + 1 by omega)))
   go_wp2_with fail
   refine HS.out.mono ?_
   rintro e w2 ⟨rfl, hb2⟩
   have HB2 := Lib.hid (HX.out _ hb2)
   clear hb2
   go_wp2
   go_ret2
   exact ⟨rfl, HB2.out⟩
set_option maxHeartbeats 1000000 in
set_option maxRecDepth 100000 in
theorem string_nil (B b : Nat) (p : Value) (w : World) (hbk : w.heap[b]? = some (.cells #[p, .slice none 0 0] 93 (0, 0))) :
  Calls Tryz.prog 48 #[.pointer (some ⟨b, 0, none⟩)] w fun e w' => e = .returned (.string ⟨#[]⟩) ∧ Below B w w' := by
 have c1 : w.drew.cell? ⟨b, 1, none⟩ = some (.slice none 0 0) := by
  have : w.drew.heap[b]? = some (.cells #[p, .slice none 0 0] 93 (0, 0)) := hbk
  rw [Lib.cell_of_heap this]; rfl
 have hSD : (Builtin.unsafeSliceData_ #[22] 141 #[.slice none 0 0]).run Tryz.prog w.drew = .ok (.pointer none) w.drew := rfl
 have hUS : (Builtin.unsafeString_ #[141, 3] 9 #[.pointer none, .int .i64 0]).run Tryz.prog w.drew = .ok (.string ⟨#[]⟩) w.drew :=
  Lib.run_unsafeString_none w.drew _ _ _ none
 have mixed : Tryz.prog.follows .mixedOrders = true := by kernel_rfl
 go_enter Tryz.func48, Tryz.ntmps48
 go_wp2
 go_region_o
 all_goals (go_wp2; go_ret; exact ⟨rfl, Below.drew (Below.refl B w)⟩)
set_option maxHeartbeats 1000000 in
set_option maxRecDepth 100000 in
theorem bits_zero (W T x : Nat) (w : World) : Calls Tryz.prog 68 #[.agg #[.int .i64 W, .int .i64 T], .int .i64 x, .int .i64 0] w (BitsRet W T x 0 w) := by
 obtain ⟨W0, hW0⟩ : ∃ W0, W0 = w.alloc (.cells #[.int .i64 W, .int .i64 T] 25) := ⟨_, rfl⟩
 have hz0 : W0.heap.size = w.heap.size + 1 := by rw [hW0]; simp
 obtain ⟨W1, hW1⟩ : ∃ W1, W1 = W0.alloc (.cells #[.pointer none, .slice none 0 0] 93) := ⟨_, rfl⟩
 have hbk : W1.heap[w.heap.size + 1]? = some (.cells #[.pointer none, .slice none 0 0] 93 (0, 0)) := by rw [hW1, ← hz0]; exact heap_alloc_new W0 _
 have B1 := Lib.hid (show Below w.heap.size w W1 by rw [hW1, hW0]; exact ((Below.refl _ _).alloc (Nat.le_refl _) _).alloc (by simp) _)
 have HS := Lib.hid (string_nil w.heap.size (w.heap.size + 1) (.pointer none) W1 hbk)
 have HW0 := Lib.hid hW0
 have HW1 := Lib.hid hW1
 clear hW0 hW1 hbk hz0
 go_enter Tryz.func68, Tryz.ntmps68
 go_wp2
 go_loopw [1, 12] (fun o i wr => i = .int .i64 0 ∧ o = .int .i64 (x : Int) ∧ wr = W1) (fun _ i _ => 0)
 case atStart => exact ⟨rfl, rfl, by rw [HW1.out, HW0.out]⟩
 case round =>
  obtain ⟨rfl, rfl, rfl⟩ := hrel
  go_wp2_with fail
  refine HS.out.mono ?_
  rintro e w2 ⟨rfl, hb2⟩
  have HB2 := Lib.hid (B1.out.trans hb2)
  clear hb2
  go_wp2
  go_ret2
  exact ⟨rfl, HB2.out⟩
theorem bits_all (W T x n : Nat) (w : World) (hW : W ≤ 16) (hT : T < 2 ^ W) (hx : x < 2 ^ W) (hn : n ≤ 400) :
  Calls Tryz.prog 68 #[.agg #[.int .i64 W, .int .i64 T], .int .i64 x, .int .i64 n] w (BitsRet W T x n w) := by
 by_cases h : n = 0
 ·subst h; exact bits_zero W T x w
 ·exact bits_any W T x n w hW hT hx hn (by omega)
end Go.Proofs.YtgipnbeipfhekaaGreatDoor.RBits
namespace Go.Proofs.YtgipnbeipfhekaaGreatDoor.Cong
open Go.RowKit Go.Proofs.YtgipnbeipfhekaaGreatDoor Go.Proofs.YtgipnbeipfhekaaGreatDoor.Base
set_option linter.unusedVariables false
theorem validCong_any (m f a : Int) (w : World) :
  Calls Tryz.prog 117 #[.agg #[.int .i64 m, .int .i64 f, .int .i64 a]] w fun e w' => e = .returned (.bool (congB m f a)) ∧ Below w.heap.size w w' := by
 cases hm : inR m 2 100000
 ·go_enter Tryz.func117, Tryz.ntmps117
  go_wp2_with (go_at_call 31; refine (inRange_any _ _ _ _).mono ?_; rintro e w' ⟨rfl, rfl⟩)
  go_ret
  exact ⟨ret_bool (by simp [congB, hm]), (Below.refl _ _).alloc (Nat.le_refl _) _⟩
 ·obtain ⟨b1, b2⟩ := inR_true hm
  cases hf : inR f 0 (m - 1)
  ·go_enter Tryz.func117, Tryz.ntmps117
   go_wp2_with (go_at_call 31; refine (inRange_any _ _ _ _).mono ?_; rintro e w' ⟨rfl, rfl⟩)
   go_ret
   exact ⟨ret_bool (by simp [congB, hm, hf]), (Below.refl _ _).alloc (Nat.le_refl _) _⟩
  ·go_enter Tryz.func117, Tryz.ntmps117
   go_wp2_with (go_at_call 31; refine (inRange_any _ _ _ _).mono ?_; rintro e w' ⟨rfl, rfl⟩)
   go_ret
   exact ⟨ret_bool (by simp [congB, hm, hf]), (Below.refl _ _).alloc (Nat.le_refl _) _⟩
theorem congStep_any (m f a x : Nat) (w : World) (hm : 2 ≤ m) (hm2 : m ≤ 100000) (hf : f < m) (ha : a < m) (hx : x < m) :
  Calls Tryz.prog 69 #[.agg #[.int .i64 m, .int .i64 f, .int .i64 a], .int .i64 x] w fun e w' => e = .returned (.int .i64 (stepN m f a x : Nat)) ∧ Below w.heap.size w w' := by
 obtain ⟨p1, p2⟩ := prod_le hf hx hm2
 have H := Lib.hid (stepN_int m f a x)
 have hm0 : ((m : Int) == 0) = false := by simp; omega
 go_enter Tryz.func69, Tryz.ntmps69
 go_wp2
 go_ret
 exact ⟨ret_int H.out, (Below.refl _ _).alloc (Nat.le_refl _) _⟩
set_option maxHeartbeats 400000 in
theorem cycleFrom_any (m f a x : Nat) (w : World) (hm : 2 ≤ m) (hm2 : m ≤ 100000) (hf : f < m) (ha : a < m) (hx : x < m) :
  Calls Tryz.prog 121 #[.int .i64 m, .int .i64 x, .func (Fn.func 69) #[.agg #[.int .i64 m, .int .i64 f, .int .i64 a]] #[]] w (CycRet (stepN m f a) x w) := by
 have hmk := run_make_row' (P := Tryz.prog) 43 2 (.int .i64 0) 8 Tryz.underlying43 info64 rfl .i64 .i64 m (by omega) (by omega)
 have hT : ∀ s, s < m → stepN m f a s < m := fun s _ => stepN_lt (by omega) s
 go_enter Tryz.func121, Tryz.ntmps121
 go_wp2
 clear hmk
 go_loopw [1, 9] (fun xv nv wr => CycRel (stepN m f a) x m 2 w xv nv wr) (fun _ nv _ => m + 2 - (intOf nv).toNat)
 case atStart => exact CycRel.start _ _ _ _ _
 case round =>
  obtain ⟨n, F, hn, hS, hrow, hbel, rfl, rfl⟩ := hrel
  have hlt := CycM.iter_lt hT hx n
  have HS := Lib.hid (hS.done hT hx)
  have hpos : F (CycM.iter (stepN m f a) x n) ≠ 0 → F (CycM.iter (stepN m f a) x n) ≤ n := fun h => (hS.pos _ hlt h).1
  have HF := Lib.hid (CycRel.next2 (t := 2) (w := w) hT hx hS hrow hbel)
  have hz : w.heap.size < wr.heap.size := hrow.lt
  have ef := hrow.frozen (CycM.iter (stepN m f a) x n)
  have ec := hrow.cell hlt
  clear hS hrow
  generalize CycM.iter (stepN m f a) x n = s at *
  by_cases hz0 : F s = 0
  ·rw [hz0] at ec
   clear hpos
   go_wp2_with (go_at_call 69; refine (congStep_any m f a s _ hm hm2 hf ha hlt).mono ?_; rintro e w1 ⟨rfl, hb1⟩)
   go_roundw
   case rel => exact HF.out hz0 _ (hb1.mono (by simp))
   case measure => simp [intOf]; omega
  ·have hF1 : 1 ≤ F s := by omega
   have hF2 := hpos hz0
   clear hpos
   go_wp2
   go_ret2
   exact CycRet.mk (HS.out hz0) hF1 (by omega) rfl hbel
set_option maxHeartbeats 400000 in
theorem cycle_any (m f a x : Nat) (w : World) (hm : 2 ≤ m) (hm2 : m ≤ 100000) (hf : f < m) (ha : a < m) (hx : x < m) :
  Calls Tryz.prog 74 #[.agg #[.int .i64 m, .int .i64 f, .int .i64 a], .int .i64 x] w (CycRet (stepN m f a) x w) := by
 go_enter Tryz.func74, Tryz.ntmps74
 go_wp2_with (go_at_call 121; refine (cycleFrom_any m f a x _ hm hm2 hf ha hx).mono ?_; rintro e w1 ⟨j, n, hc, rfl, hb1⟩; have HC := Lib.hid hc; clear hc)
 go_ret2
 exact ⟨j, n, HC.out, rfl, ((Below.refl _ _).alloc (Nat.le_refl _) _).trans (hb1.mono (by simp))⟩
end Go.Proofs.YtgipnbeipfhekaaGreatDoor.Cong
namespace Go.Proofs.YtgipnbeipfhekaaGreatDoor.Cong
open Go.RowKit Go.Proofs.YtgipnbeipfhekaaGreatDoor Go.Proofs.YtgipnbeipfhekaaGreatDoor.Base
set_option linter.unusedVariables false
def bothB (m f a x : Int) : Bool := congB m f a && inR x 0 (m - 1)
noncomputable def preB (m f a x : Int) : Int := if bothB m f a x = true then CycM.preOf (stepN m.toNat f.toNat a.toNat) x.toNat else 0
noncomputable def perB (m f a x : Int) : Int := if bothB m f a x = true then CycM.perOf (stepN m.toNat f.toNat a.toNat) x.toNat else 0
theorem preB_eq {m f a x : Int} (h : bothB m f a x = true) {j n : Nat} (hc : CycM.IsCyc (stepN m.toNat f.toNat a.toNat) x.toNat j n) : preB m f a x = j := by
 rw [preB, if_pos h, CycM.preOf_of hc]
theorem perB_eq {m f a x : Int} (h : bothB m f a x = true) {j n : Nat} (hc : CycM.IsCyc (stepN m.toNat f.toNat a.toNat) x.toNat j n) : perB m f a x = (n : Int) - j := by
 rw [perB, if_pos h, CycM.perOf_of hc]
theorem bothB_true {m f a x : Int} (h : bothB m f a x = true) : 2 ≤ m ∧ m ≤ 100000 ∧ 0 ≤ f ∧ f < m ∧ 0 ≤ a ∧ a < m ∧ 0 ≤ x ∧ x < m := by
 simp only [bothB, Bool.and_eq_true] at h
 have h1 := congB_true h.1
 have h2 := inR_true h.2
 omega
theorem l03Both_any (b o : Nat) (m f a x : Int) (w : World) (h0 : w.cell? ⟨b, o, none⟩ = some (.int .i64 m)) (h1 : w.cell? ⟨b, o + 1, none⟩ = some (.int .i64 f)) (h2 : w.cell? ⟨b, o + 2, none⟩ = some (.int .i64 a)) :
  Calls Tryz.prog 77 #[.pointer (some ⟨b, o, none⟩), .int .i64 x] w fun e w' => e = .returned (.bool (bothB m f a x)) ∧ ∃ n, w' = w.drewN n := by
 cases hB : congB m f a
 ·go_enter Tryz.func77, Tryz.ntmps77
  go_wp2_with (go_at_call 125; refine (l03Is_any _ _ m f a _ h0 h1 h2).mono ?_; rintro e w1 ⟨rfl, k, rfl⟩)
  go_ret
  exact ⟨ret_bool (by simp [bothB, hB]), _, rfl⟩
 ·obtain ⟨g1, g2, _⟩ := congB_true hB
  go_enter Tryz.func77, Tryz.ntmps77
  go_wp2_with (first | (go_at_call 125; refine (l03Is_any _ _ m f a _ h0 h1 h2).mono ?_; rintro e w1 ⟨rfl, k, rfl⟩) | (go_at_call 38; refine (l00In_any _ _ _ _).mono ?_; rintro e w' ⟨rfl, rfl⟩))
  go_ret
  exact ⟨ret_bool (by simp [bothB, hB]), _, rfl⟩
theorem isState_any (m f a x : Int) (w : World) :
  Calls Tryz.prog 67 #[.agg #[.int .i64 m, .int .i64 f, .int .i64 a], .int .i64 x] w fun e w' => e = .returned (.bool (bothB m f a x)) ∧ Below w.heap.size w w' := by
 cases hB : congB m f a
 ·go_enter Tryz.func67, Tryz.ntmps67
  go_wp2_with (go_at_call 117; refine (validCong_any m f a _).mono ?_; rintro e w1 ⟨rfl, hb1⟩)
  go_ret
  exact ⟨ret_bool (by simp [bothB, hB]), Base.Below.boxed hb1⟩
 ·obtain ⟨g1, g2, _⟩ := congB_true hB
  go_enter Tryz.func67, Tryz.ntmps67
  go_wp2_with (first | (go_at_call 117; refine (validCong_any m f a _).mono ?_; rintro e w1 ⟨rfl, hb1⟩; have d0 : w1.cell? ⟨w.heap.size, 0, none⟩ = some (.int .i64 m) := box_cells hb1 0) | (go_at_call 31; refine (inRange_any _ _ _ _).mono ?_; rintro e w' ⟨rfl, rfl⟩))
  go_ret
  exact ⟨ret_bool (by simp [bothB, hB]), Base.Below.boxed hb1⟩
end Go.Proofs.YtgipnbeipfhekaaGreatDoor.Cong
namespace Go.Proofs.YtgipnbeipfhekaaGreatDoor.Str
open Go.RowKit Go.Proofs.YtgipnbeipfhekaaGreatDoor Go.Proofs.YtgipnbeipfhekaaGreatDoor.Base
set_option linter.unusedVariables false
def zc (m f a : Int) : Bool := m == 0 && (f == 0 && a == 0)
def zr (W T : Int) : Bool := W == 0 && T == 0
def streamB (K W T m f a s : Int) : Bool := if K = 0 then zc m f a && Reg.bothR W T s else if K = 1 then zr W T && Cong.bothB m f a s else false
theorem eqCong {m f a : Int} {r : Bool} (h : zc m f a = r) (w : World) :
  (binOp .eql 27 (.agg #[.int .i64 m, .int .i64 f, .int .i64 a]) (.agg #[.int .i64 0, .int .i64 0, .int .i64 0])).run Tryz.prog w = .ok (.bool r) w := by
 subst h
 unfold zc
 cases h1 : (m == 0) <;> cases h2 : (f == 0) <;> cases h3 : (a == 0) <;> go_simp
theorem eqReg {W T : Int} {r : Bool} (h : zr W T = r) (w : World) :
  (binOp .eql 25 (.agg #[.int .i64 W, .int .i64 T]) (.agg #[.int .i64 0, .int .i64 0])).run Tryz.prog w = .ok (.bool r) w := by
 subst h
 unfold zr
 cases h1 : (W == 0) <;> cases h2 : (T == 0) <;> go_simp
theorem l02Both_q (b o : Nat) {W T x : Int} {r : Bool} (h : Reg.bothR W T x = r) (w : World) (h0 : w.cell? ⟨b, o, none⟩ = some (.int .i64 W)) (h1 : w.cell? ⟨b, o + 1, none⟩ = some (.int .i64 T)) (n : Nat) :
  Calls Tryz.prog 76 #[.pointer (some ⟨b, o, none⟩), .int .i64 x] (w.drewN n) fun e w' => e = .returned (.bool r) ∧ ∃ n, w' = w.drewN n := by
 subst h
 exact (Reg.l02Both_any b o W T x (w.drewN n) (by simpa using h0) (by simpa using h1)).mono fun _ _ ⟨h1, k, h2⟩ => ⟨h1, n + k, by rw [h2, World.drewN_drewN]⟩
theorem l03Both_q (b o : Nat) {m f a x : Int} {r : Bool} (h : Cong.bothB m f a x = r) (w : World) (h0 : w.cell? ⟨b, o, none⟩ = some (.int .i64 m)) (h1 : w.cell? ⟨b, o + 1, none⟩ = some (.int .i64 f)) (h2 : w.cell? ⟨b, o + 2, none⟩ = some (.int .i64 a)) (n : Nat) :
  Calls Tryz.prog 77 #[.pointer (some ⟨b, o, none⟩), .int .i64 x] (w.drewN n) fun e w' => e = .returned (.bool r) ∧ ∃ n, w' = w.drewN n := by
 subst h
 exact (Cong.l03Both_any b o m f a x (w.drewN n) (by simpa using h0) (by simpa using h1) (by simpa using h2)).mono fun _ _ ⟨h1, k, h2⟩ => ⟨h1, n + k, by rw [h2, World.drewN_drewN]⟩
set_option maxHeartbeats 1000000 in
theorem l11Is_any (b : Nat) (K W T m f a s : Int) (w : World) (h0 : w.cell? ⟨b, 0, none⟩ = some (.int .i64 K)) (h1 : w.cell? ⟨b, 1, none⟩ = some (.int .i64 W)) (h2 : w.cell? ⟨b, 2, none⟩ = some (.int .i64 T))
  (h3 : w.cell? ⟨b, 3, none⟩ = some (.int .i64 m)) (h4 : w.cell? ⟨b, 4, none⟩ = some (.int .i64 f)) (h5 : w.cell? ⟨b, 5, none⟩ = some (.int .i64 a)) (h6 : w.cell? ⟨b, 6, none⟩ = some (.int .i64 s)) :
  Calls Tryz.prog 37 #[.pointer (some ⟨b, 0, none⟩)] w fun e w' => e = .returned (.bool (streamB K W T m f a s)) ∧ ∃ n, w' = w.drewN n := by
 by_cases hK : K = 0
 ·subst hK
  cases hz : zc m f a
  ·have he := eqCong hz
   go_enter Tryz.func37, Tryz.ntmps37
   go_wp2
   go_quiet (fail)
   go_wp2
   go_ret
   exact ⟨ret_bool (by simp [streamB, hz]), _, rfl⟩
  ·have he := eqCong hz
   cases hb : Reg.bothR W T s
   all_goals
    go_enter Tryz.func37, Tryz.ntmps37
    go_wp2
    go_quiet ((go_at_call 76; exact l02Both_q b 1 hb _ h1 h2 _))
    go_wp2
    go_ret
    exact ⟨ret_bool (by simp [streamB, hz, hb]), _, rfl⟩
 ·by_cases hK1 : K = 1
  ·subst hK1
   clear hK
   cases hz : zr W T
   ·have he := eqReg hz
    go_enter Tryz.func37, Tryz.ntmps37
    go_wp2
    go_quiet (fail)
    go_wp2
    go_ret
    exact ⟨ret_bool (by simp [streamB, hz]), _, rfl⟩
   ·have he := eqReg hz
    cases hb : Cong.bothB m f a s
    all_goals
     go_enter Tryz.func37, Tryz.ntmps37
     go_wp2
     go_quiet ((go_at_call 77; exact l03Both_q b 3 hb _ h3 h4 h5 _))
     go_wp2
     go_ret
     exact ⟨ret_bool (by simp [streamB, hz, hb]), _, rfl⟩
  ·have g0 : (K == 0) = false := by simpa using hK
   have g1 : (K == 1) = false := by simpa using hK1
   have HF := Lib.hid (show streamB K W T m f a s = false by simp [streamB, hK, hK1])
   clear hK hK1
   go_enter Tryz.func37, Tryz.ntmps37
   go_wp2
   go_ret
   exact ⟨ret_bool HF.out.symm, 0, rfl⟩
set_option maxHeartbeats 1000000 in
theorem validStream_any (K W T m f a s : Int) (w : World) :
  Calls Tryz.prog 29 #[.agg #[.int .i64 K, .int .i64 W, .int .i64 T, .int .i64 m, .int .i64 f, .int .i64 a, .int .i64 s]] w fun e w' => e = .returned (.bool (streamB K W T m f a s)) ∧ Below w.heap.size w w' := by
 by_cases hK : K = 0
 ·subst hK
  cases hb : Reg.bothR W T s
  ·go_enter Tryz.func29, Tryz.ntmps29
   go_wp2_with (go_at_call 66; refine (Reg.isRegState_any W T s _).mono ?_; rintro e w1 ⟨rfl, hb1⟩)
   go_ret
   exact ⟨ret_bool (by simp [streamB, hb]), Base.Below.boxed hb1⟩
  ·cases hz : zc m f a
   all_goals
    have he := eqCong hz
    go_enter Tryz.func29, Tryz.ntmps29
    go_wp2_with (go_at_call 66; refine (Reg.isRegState_any W T s _).mono ?_; rintro e w1 ⟨rfl, hb1⟩; have d3 : w1.cell? ⟨w.heap.size, 3, none⟩ = some (.int .i64 m) := box_cells hb1 3; have d4 : w1.cell? ⟨w.heap.size, 4, none⟩ = some (.int .i64 f) := box_cells hb1 4; have d5 : w1.cell? ⟨w.heap.size, 5, none⟩ = some (.int .i64 a) := box_cells hb1 5)
    go_ret
    exact ⟨ret_bool (by simp [streamB, hz, hb]), Base.Below.boxed hb1⟩
 ·by_cases hK1 : K = 1
  ·subst hK1
   clear hK
   cases hb : Cong.bothB m f a s
   ·go_enter Tryz.func29, Tryz.ntmps29
    go_wp2_with (go_at_call 67; refine (Cong.isState_any m f a s _).mono ?_; rintro e w1 ⟨rfl, hb1⟩)
    go_ret
    exact ⟨ret_bool (by simp [streamB, hb]), Base.Below.boxed hb1⟩
   ·cases hz : zr W T
    all_goals
     have he := eqReg hz
     go_enter Tryz.func29, Tryz.ntmps29
     go_wp2_with (go_at_call 67; refine (Cong.isState_any m f a s _).mono ?_; rintro e w1 ⟨rfl, hb1⟩; have d1 : w1.cell? ⟨w.heap.size, 1, none⟩ = some (.int .i64 W) := box_cells hb1 1; have d2 : w1.cell? ⟨w.heap.size, 2, none⟩ = some (.int .i64 T) := box_cells hb1 2)
     go_ret
     exact ⟨ret_bool (by simp [streamB, hz, hb]), Base.Below.boxed hb1⟩
  ·have g0 : (K == 0) = false := by simpa using hK
   have g1 : (K == 1) = false := by simpa using hK1
   have HF := Lib.hid (show streamB K W T m f a s = false by simp [streamB, hK, hK1])
   clear hK hK1
   go_enter Tryz.func29, Tryz.ntmps29
   go_wp2
   go_ret
   exact ⟨ret_bool HF.out.symm, (Below.refl _ _).alloc (Nat.le_refl _) _⟩
end Go.Proofs.YtgipnbeipfhekaaGreatDoor.Str
namespace Go.Proofs.YtgipnbeipfhekaaGreatDoor.Str
open Go.RowKit Go.Proofs.YtgipnbeipfhekaaGreatDoor Go.Proofs.YtgipnbeipfhekaaGreatDoor.Base
set_option linter.unusedVariables false
noncomputable def preS (K W T m f a s : Int) : Int := if streamB K W T m f a s = true then (if K = 0 then Reg.preR W T s else Cong.preB m f a s) else 0
noncomputable def perS (K W T m f a s : Int) : Int := if streamB K W T m f a s = true then (if K = 0 then Reg.perR W T s else Cong.perB m f a s) else 0
theorem streamB_true {K W T m f a s : Int} (h : streamB K W T m f a s = true) : (K = 0 ∧ Reg.bothR W T s = true) ∨ (K = 1 ∧ Cong.bothB m f a s = true) := by
 unfold streamB at h
 by_cases h0 : K = 0
 ·rw [if_pos h0, Bool.and_eq_true] at h
  exact .inl ⟨h0, h.2⟩
 ·rw [if_neg h0] at h
  by_cases h1 : K = 1
  ·rw [if_pos h1, Bool.and_eq_true] at h
   exact .inr ⟨h1, h.2⟩
  ·rw [if_neg h1] at h
   cases h
theorem preS_no {K W T m f a s : Int} (h : streamB K W T m f a s = false) : preS K W T m f a s = 0 := by rw [preS, if_neg (by simp [h])]
theorem perS_no {K W T m f a s : Int} (h : streamB K W T m f a s = false) : perS K W T m f a s = 0 := by rw [perS, if_neg (by simp [h])]
theorem preS_r {W T m f a s : Int} (h : streamB 0 W T m f a s = true) : preS 0 W T m f a s = Reg.preR W T s := by rw [preS, if_pos h, if_pos rfl]
theorem perS_r {W T m f a s : Int} (h : streamB 0 W T m f a s = true) : perS 0 W T m f a s = Reg.perR W T s := by rw [perS, if_pos h, if_pos rfl]
theorem preS_c {W T m f a s : Int} (h : streamB 1 W T m f a s = true) : preS 1 W T m f a s = Cong.preB m f a s := by rw [preS, if_pos h, if_neg (by decide)]
theorem perS_c {W T m f a s : Int} (h : streamB 1 W T m f a s = true) : perS 1 W T m f a s = Cong.perB m f a s := by rw [perS, if_pos h, if_neg (by decide)]
theorem cycleRI_any {W T x : Int} (hB : Reg.bothR W T x = true) (w : World) :
  Calls Tryz.prog 73 #[.agg #[.int .i64 W, .int .i64 T], .int .i64 x] w fun e w' => e = .returned (.tuple #[.int .i64 (Reg.preR W T x), .int .i64 (Reg.perR W T x)]) ∧ Below w.heap.size w w' := by
 obtain ⟨h1, h2, h3, h4, h5, h6⟩ := Reg.bothR_true hB
 obtain ⟨V, rfl⟩ := Int.eq_ofNat_of_zero_le h1
 obtain ⟨A, rfl⟩ := Int.eq_ofNat_of_zero_le h3
 obtain ⟨X, rfl⟩ := Int.eq_ofNat_of_zero_le h5
 have ep : ((2 ^ V : Nat) : Int) = (2 : Int) ^ V := by simp
 simp only [Int.toNat_natCast, ← ep] at h4 h6
 refine (Reg.cycleR_any V A X w (by omega) (by omega) (by omega)).mono ?_
 rintro e w' ⟨j, n, hc, rfl, hb⟩
 refine ⟨?_, hb⟩
 rw [Reg.preR_eq hB hc, Reg.perR_eq hB hc]
theorem cycleCI_any {m f a x : Int} (hB : Cong.bothB m f a x = true) (w : World) :
  Calls Tryz.prog 74 #[.agg #[.int .i64 m, .int .i64 f, .int .i64 a], .int .i64 x] w fun e w' => e = .returned (.tuple #[.int .i64 (Cong.preB m f a x), .int .i64 (Cong.perB m f a x)]) ∧ Below w.heap.size w w' := by
 obtain ⟨h1, h2, h3, h4, h5, h6, h7, h8⟩ := Cong.bothB_true hB
 obtain ⟨M, rfl⟩ := Int.eq_ofNat_of_zero_le (show 0 ≤ m by omega)
 obtain ⟨F, rfl⟩ := Int.eq_ofNat_of_zero_le h3
 obtain ⟨A, rfl⟩ := Int.eq_ofNat_of_zero_le h5
 obtain ⟨X, rfl⟩ := Int.eq_ofNat_of_zero_le h7
 refine (Cong.cycle_any M F A X w (by omega) (by omega) (by omega) (by omega) (by omega)).mono ?_
 rintro e w' ⟨j, n, hc, rfl, hb⟩
 refine ⟨?_, hb⟩
 rw [Cong.preB_eq hB hc, Cong.perB_eq hB hc]
theorem implCycle_any {K W T m f a s : Int} (hB : streamB K W T m f a s = true) (w : World) :
  Calls Tryz.prog 35 #[.agg #[.int .i64 K, .int .i64 W, .int .i64 T, .int .i64 m, .int .i64 f, .int .i64 a, .int .i64 s]] w fun e w' => e = .returned (.tuple #[.int .i64 (preS K W T m f a s), .int .i64 (perS K W T m f a s)]) ∧ Below w.heap.size w w' := by
 rcases streamB_true hB with ⟨rfl, hR⟩ | ⟨rfl, hC⟩
 ·rw [preS_r hB, perS_r hB]
  have HC := Lib.hid (fun w => cycleRI_any hR w)
  generalize hp : Reg.preR W T s = p at *
  generalize hq : Reg.perR W T s = q at *
  clear hp hq hB hR
  go_enter Tryz.func35, Tryz.ntmps35
  go_wp2_with (go_at_call 73; refine (HC.out _).mono ?_; rintro e w1 ⟨rfl, hb1⟩)
  go_ret2
  exact ⟨rfl, Base.Below.boxed hb1⟩
 ·rw [preS_c hB, perS_c hB]
  have HC := Lib.hid (fun w => cycleCI_any hC w)
  generalize hp : Cong.preB m f a s = p at *
  generalize hq : Cong.perB m f a s = q at *
  clear hp hq hB hC
  go_enter Tryz.func35, Tryz.ntmps35
  go_wp2_with (go_at_call 74; refine (HC.out _).mono ?_; rintro e w1 ⟨rfl, hb1⟩)
  go_ret2
  exact ⟨rfl, Base.Below.boxed hb1⟩
theorem implStreamCycle_any (K W T m f a s : Int) (w : World) :
  Calls Tryz.prog 12 #[.agg #[.int .i64 K, .int .i64 W, .int .i64 T, .int .i64 m, .int .i64 f, .int .i64 a, .int .i64 s]] w fun e w' => e = .returned (.tuple #[.int .i64 (preS K W T m f a s), .int .i64 (perS K W T m f a s), .bool (streamB K W T m f a s)]) ∧ Below w.heap.size w w' := by
 have HI := Lib.hid (fun w => validStream_any K W T m f a s w)
 cases hB : streamB K W T m f a s
 ·rw [preS_no hB, perS_no hB]
  rw [hB] at HI
  clear hB
  go_enter Tryz.func12, Tryz.ntmps12
  go_wp2_with (go_at_call 29; refine (HI.out _).mono ?_; rintro e w1 ⟨rfl, hb1⟩)
  go_ret3
  exact ⟨rfl, Base.Below.boxed hb1⟩
 ·rw [hB] at HI
  have HC := Lib.hid (fun w => implCycle_any hB w)
  generalize hp : preS K W T m f a s = p at *
  generalize hq : perS K W T m f a s = q at *
  clear hp hq hB
  go_enter Tryz.func12, Tryz.ntmps12
  go_wp2_with fail
  refine (HI.out _).mono ?_
  rintro e w1 ⟨rfl, hb⟩
  have d0 : w1.cell? ⟨w.heap.size, 0, none⟩ = some (.int .i64 K) := box_cells hb 0
  have d1 : w1.cell? ⟨w.heap.size, 1, none⟩ = some (.int .i64 W) := box_cells hb 1
  have d2 : w1.cell? ⟨w.heap.size, 2, none⟩ = some (.int .i64 T) := box_cells hb 2
  have d3 : w1.cell? ⟨w.heap.size, 3, none⟩ = some (.int .i64 m) := box_cells hb 3
  have d4 : w1.cell? ⟨w.heap.size, 4, none⟩ = some (.int .i64 f) := box_cells hb 4
  have d5 : w1.cell? ⟨w.heap.size, 5, none⟩ = some (.int .i64 a) := box_cells hb 5
  have d6 : w1.cell? ⟨w.heap.size, 6, none⟩ = some (.int .i64 s) := box_cells hb 6
  go_wp2_with (go_at_call 35; refine (HC.out _).mono ?_; rintro e w2 ⟨rfl, hb2⟩)
  go_ret3
  exact ⟨rfl, Base.Below.boxed (Base.Below.nextA hb hb2)⟩
end Go.Proofs.YtgipnbeipfhekaaGreatDoor.Str
