/- A register's output bits: bitText, Register.bits, RegisterBits, StepRegister, and the drawn register and number of the law. -/
import Derived.Test.YtogadldnkhdjbaaDoorBld
import Derived.Test.YtogadldnkhdjbaaDoorRegImpl
import Derived.Test.YtogadldnkhdjbaaDoorJumpLaw
import Derived.Test.YtogadldnkhdjbaaDoorSrc
import Derived.Test.YtogadldnkhdjbaaDoorDrawNet
namespace Go.Proofs.YtogadldnkhdjbaaDoor.RBits
open Go.RowKit Go.Proofs.YtogadldnkhdjbaaDoor Go.Proofs.YtogadldnkhdjbaaDoor.Base Go.Proofs.YtogadldnkhdjbaaDoor.Mem Go.Proofs.YtogadldnkhdjbaaDoor.Reg Go.Proofs.YtogadldnkhdjbaaDoor.Bld Go.Proofs.YtogadldnkhdjbaaDoor.Src
set_option linter.unusedVariables false
/-- the bytes of the first n bits -/
def outR (W T x : Nat) : Nat → List UInt8
  | 0 => []
  | n + 1 => outR W T x n ++ [UInt8.ofNat (48 + CycM.iter (nextR W T) x n % 2)]
theorem outR_len (W T x : Nat) : ∀ n, (outR W T x n).length = n
  | 0 => rfl
  | n + 1 => by simp [outR, outR_len W T x n]
theorem outR_get (W T x : Nat) : ∀ n i, i < n → (outR W T x n)[i]? = some (UInt8.ofNat (48 + CycM.iter (nextR W T) x i % 2))
  | 0, i, h => absurd h (Nat.not_lt_zero i)
  | n + 1, i, h => by
    rw [outR]
    by_cases hi : i < n
    · rw [List.getElem?_append_left (by rw [outR_len]; exact hi)]; exact outR_get W T x n i hi
    · obtain rfl : i = n := by omega
      rw [List.getElem?_append_right (by rw [outR_len]; omega), outR_len]; simp
theorem outR_ne {W T x n : Nat} (h : 0 < n) : outR W T x n ≠ [] := fun h0 => by
  have := outR_len W T x n
  rw [h0] at this
  simp at this
  omega
theorem byte_bit (k : Nat) (h : k < 2) : (UInt8.ofNat (48 + k)).toNat = 48 + k := by
  have : k = 0 ∨ k = 1 := by omega
  rcases this with rfl | rfl <;> rfl
theorem bitText_any (x : Nat) (hx : x < 2) (w : World) : Calls Tryd.prog 65 #[.int .i64 x] w fun e w' => e = .returned (.int .u8 ((48 + x : Nat) : Int)) ∧ w = w' := by
  have : x = 0 ∨ x = 1 := by omega
  rcases this with rfl | rfl
  all_goals
    go_enter Tryd.func65, Tryd.ntmps65
    go_wp2
    go_ret
    exact ⟨rfl, rfl⟩
theorem IsB.below {B b : Nat} {bs : List Value} {w w' : World} (h : IsB B b bs w) (hb : Below w.heap.size w w') : IsB B b bs w' := by
  have key : ∀ p, Lib.BuilderAt 61 5 B b p bs w → Lib.BuilderAt 61 5 B b p bs w' := fun p h => by
    have hlt := h.lt
    obtain ⟨hB, v, hbk, hown, hne⟩ := h
    exact ⟨hB, v, (hb.block b hlt).trans hbk, ownsRow_below hown hb, hne⟩
  rcases h with h | h
  · exact .inl (key _ h)
  · exact .inr (key _ h)
def BitsRet (W T x n : Nat) (w : World) (e : Ending) (w' : World) : Prop := e = .returned (.tuple #[.string ⟨(outR W T x n).toArray⟩, .int .i64 ((CycM.iter (nextR W T) x n : Nat) : Int)]) ∧ Below w.heap.size w w'
theorem ret_bits {s s' : ByteArray} {a b : Int} (h : s = s') (h' : a = b) : Ending.returned (.tuple #[.string s, .int .i64 a]) = .returned (.tuple #[.string s', .int .i64 b]) := by rw [h, h']
theorem step_bit {W T x bit : Nat} (h : x % 2 = bit) (hW2 : W ≤ 16) (hT : T < 2 ^ W) (hx : x < 2 ^ W) (w : World) :
    Calls Tryd.prog 88 #[.agg #[.int .i64 W, .int .i64 T], .int .i64 x] w fun e w' => e = .returned (.tuple #[.int .i64 (nextR W T x : Nat), .int .i64 (bit : Nat)]) ∧ Below w.heap.size w w' := by
  subst h; exact implStep_any W T x w hW2 hT hx
set_option maxHeartbeats 1000000 in
set_option maxRecDepth 100000 in
theorem bits_any (W T x n : Nat) (w : World) (hW : W ≤ 16) (hT : T < 2 ^ W) (hx : x < 2 ^ W) (hn : n ≤ 400) (hn0 : 0 < n) :
    Calls Tryd.prog 63 #[.agg #[.int .i64 W, .int .i64 T], .int .i64 x, .int .i64 n] w (BitsRet W T x n w) := by
  obtain ⟨W0, hW0⟩ : ∃ W0, W0 = w.alloc (.cells #[.int .i64 W, .int .i64 T] 36) := ⟨_, rfl⟩
  have hz0 : W0.heap.size = w.heap.size + 1 := by rw [hW0]; simp
  have c0 : W0.cell? ⟨w.heap.size, 0, none⟩ = some (.int .i64 W) := by rw [hW0]; go_simp
  have c1 : W0.cell? ⟨w.heap.size, 1, none⟩ = some (.int .i64 T) := by rw [hW0]; go_simp
  have B0 := Lib.hid (show Below w.heap.size w W0 by rw [hW0]; exact (Below.refl _ _).alloc (Nat.le_refl _) _)
  obtain ⟨W1, hW1⟩ : ∃ W1, W1 = W0.alloc (.cells #[.pointer none, .slice none 0 0] 61) := ⟨_, rfl⟩
  have hz1 : W1.heap.size = w.heap.size + 1 + 1 := by rw [hW1]; simp [hz0]
  have B1 := Lib.hid (show Below (w.heap.size + 1) W0 W1 by rw [hW1]; exact (Below.refl _ _).alloc (by omega) _)
  have I1 := Lib.hid (show IsB (w.heap.size + 1) (w.heap.size + 1) (Lib.byteCells []) W1 by rw [hW1, ← hz0]; exact Lib.fresh_isBuilder _ _ W0)
  have HW0 := Lib.hid hW0
  have HW1 := Lib.hid hW1
  have HZ0 := Lib.hid hz0
  have HZ1 := Lib.hid hz1
  have hz0' : w.heap.size < W0.heap.size := by omega
  have hz1' : W0.heap.size < W1.heap.size := by omega
  have hit : ∀ k, CycM.iter (nextR W T) x k < 2 ^ W := fun k => CycM.iter_lt (fun s hs => nextR_lt hs) hx k
  have hp : 2 ^ W ≤ 2 ^ 16 := Nat.pow_le_pow_right (by decide) hW
  have HN0 := Lib.hid hn0
  clear hW0 hW1 hz0 hz1 hn0
  go_enter Tryd.func63, Tryd.ntmps63
  go_wp2
  go_loopw [1, 12] (fun o i wr => ∃ k : Nat, k ≤ n ∧ i = .int .i64 k ∧ o = .int .i64 (CycM.iter (nextR W T) x k : Nat) ∧ IsB (w.heap.size + 1) (w.heap.size + 1) (Lib.byteCells (outR W T x k)) wr ∧ Below (w.heap.size + 1) W0 wr) (fun _ i _ => n - (intOf i).toNat)
  case atStart =>
    refine ⟨0, by omega, rfl, rfl, ?_, ?_⟩
    · have := I1.out
      rw [HW1.out, HW0.out] at this
      first | exact this | (rw [HW0.out]; exact this)
    · have := B1.out
      rw [HW1.out, HW0.out] at this
      first | exact this | (rw [HW0.out]; exact this)
  case round =>
    obtain ⟨k, hk, rfl, rfl, hI, hb⟩ := hrel
    have d0 := (hb.cell (p := ⟨w.heap.size, 0, none⟩) (Nat.lt_succ_self _)).trans c0
    have d1 := (hb.cell (p := ⟨w.heap.size, 1, none⟩) (Nat.lt_succ_self _)).trans c1
    have hwz := hb.size
    have HBel := Lib.hid hb
    have HI := Lib.hid hI
    clear hb c0 c1 hI
    by_cases hlt : k < n
    · have hxk := hit k
      have HO : Hid (outR W T x (k + 1) = outR W T x k ++ [UInt8.ofNat (48 + CycM.iter (nextR W T) x k % 2)]) := Lib.hid rfl
      have HT : Hid (CycM.iter (nextR W T) x (k + 1) = nextR W T (CycM.iter (nextR W T) x k)) := Lib.hid rfl
      have HBy := Lib.hid (byte_bit (CycM.iter (nextR W T) x k % 2) (Nat.mod_lt _ (by decide)))
      have HLn := Lib.hid (outR_len W T x k)
      have hm2 : CycM.iter (nextR W T) x k % 2 < 2 := Nat.mod_lt _ (by decide)
      generalize CycM.iter (nextR W T) x k = y at *
      generalize hbit : y % 2 = bit at *
      have HS := Lib.hid (fun w => step_bit hbit hW hT hxk w)
      clear hbit hit
      go_wp2_with fail
      refine (HS.out _).mono ?_
      rintro e w1 ⟨rfl, hb1⟩
      have HI1 := Lib.hid (IsB.below HI.out hb1)
      have HB1 := Lib.hid (HBel.out.trans (hb1.mono (by have := HZ0.out; omega)))
      have HWB := Lib.hid (fun h => writeByte_any (w.heap.size + 1) (w.heap.size + 1) (Lib.byteCells (outR W T x k)) ((48 + bit : Nat) : Int) w1 (HI1.out) (by rw [Lib.byteCells_length, HLn.out]; omega) h)
      have hws := hb1.size
      clear hb1
      have HWB2 := Lib.hid (HWB.out (by have := HZ0.out; omega))
      clear HWB
      go_wp2_with (first | (go_at_call 65; refine (bitText_any bit hm2 _).mono ?_; rintro e w' ⟨rfl, rfl⟩) | (refine HWB2.out.mono ?_; rintro e w2 ⟨rfl, hI2, hb2⟩; have HI2 := Lib.hid hI2; have HB2 := Lib.hid hb2; clear hI2 hb2))
      go_roundw
      case rel =>
        refine ⟨k + 1, hlt, by go_num, by rw [HT.out], ?_, HB1.out.trans HB2.out⟩
        rw [HO.out]
        have := HI2.out
        rw [← HBy.out] at this
        simpa [Lib.byteCells] using this
      case measure => simp [intOf]; omega
    · obtain rfl : k = n := by omega
      have HNe := Lib.hid (outR_ne (W := W) (T := T) (x := x) HN0.out)
      have HS := Lib.hid (string_some (w.heap.size + 1) (w.heap.size + 1) (outR W T x k) wr HI.out HNe.out)
      have HX := Lib.hid (fun w2 (hb2 : Below (w.heap.size + 1) wr w2) => B0.out.trans ((HBel.out.trans hb2).mono (show w.heap.size ≤ w.heap.size + 1 by omega)))
      go_wp2_with fail
      refine HS.out.mono ?_
      rintro e w2 ⟨rfl, hb2⟩
      have HB2 := Lib.hid (HX.out _ hb2)
      clear hb2
      go_wp2
      go_ret2
      exact ⟨rfl, HB2.out⟩
set_option maxHeartbeats 1000000 in
set_option maxRecDepth 100000 in
theorem string_nil (B b : Nat) (p : Value) (w : World) (hbk : w.heap[b]? = some (.cells #[p, .slice none 0 0] 61 (0, 0))) :
    Calls Tryd.prog 30 #[.pointer (some ⟨b, 0, none⟩)] w fun e w' => e = .returned (.string ⟨#[]⟩) ∧ Below B w w' := by
  have c1 : w.drew.cell? ⟨b, 1, none⟩ = some (.slice none 0 0) := by
    have : w.drew.heap[b]? = some (.cells #[p, .slice none 0 0] 61 (0, 0)) := hbk
    rw [Lib.cell_of_heap this]; rfl
  have hSD : (Builtin.unsafeSliceData_ #[22] 99 #[.slice none 0 0]).run Tryd.prog w.drew = .ok (.pointer none) w.drew := rfl
  have hUS : (Builtin.unsafeString_ #[99, 3] 9 #[.pointer none, .int .i64 0]).run Tryd.prog w.drew = .ok (.string ⟨#[]⟩) w.drew :=
    Lib.run_unsafeString_none w.drew _ _ _ none
  have mixed : Tryd.prog.follows .mixedOrders = true := by kernel_rfl
  go_enter Tryd.func30, Tryd.ntmps30
  go_wp2
  go_region_o
  all_goals (go_wp2; go_ret; exact ⟨rfl, Below.drew (Below.refl B w)⟩)
set_option maxHeartbeats 1000000 in
set_option maxRecDepth 100000 in
theorem bits_zero (W T x : Nat) (w : World) : Calls Tryd.prog 63 #[.agg #[.int .i64 W, .int .i64 T], .int .i64 x, .int .i64 0] w (BitsRet W T x 0 w) := by
  obtain ⟨W0, hW0⟩ : ∃ W0, W0 = w.alloc (.cells #[.int .i64 W, .int .i64 T] 36) := ⟨_, rfl⟩
  have hz0 : W0.heap.size = w.heap.size + 1 := by rw [hW0]; simp
  obtain ⟨W1, hW1⟩ : ∃ W1, W1 = W0.alloc (.cells #[.pointer none, .slice none 0 0] 61) := ⟨_, rfl⟩
  have hbk : W1.heap[w.heap.size + 1]? = some (.cells #[.pointer none, .slice none 0 0] 61 (0, 0)) := by rw [hW1, ← hz0]; exact heap_alloc_new W0 _
  have B1 := Lib.hid (show Below w.heap.size w W1 by rw [hW1, hW0]; exact ((Below.refl _ _).alloc (Nat.le_refl _) _).alloc (by simp) _)
  have HS := Lib.hid (string_nil w.heap.size (w.heap.size + 1) (.pointer none) W1 hbk)
  have HW0 := Lib.hid hW0
  have HW1 := Lib.hid hW1
  clear hW0 hW1 hbk hz0
  go_enter Tryd.func63, Tryd.ntmps63
  go_wp2
  go_loopw [1, 12] (fun o i wr => i = .int .i64 0 ∧ o = .int .i64 (x : Int) ∧ wr = W1) (fun _ i _ => 0)
  case atStart => exact ⟨rfl, rfl, by rw [HW1.out, HW0.out]⟩
  case round =>
    obtain ⟨rfl, rfl, rfl⟩ := hrel
    go_wp2_with fail
    refine HS.out.mono ?_
    rintro e w2 ⟨rfl, hb2⟩
    have HB2 := Lib.hid (B1.out.trans hb2)
    clear hb2
    go_wp2
    go_ret2
    exact ⟨rfl, HB2.out⟩
theorem bits_all (W T x n : Nat) (w : World) (hW : W ≤ 16) (hT : T < 2 ^ W) (hx : x < 2 ^ W) (hn : n ≤ 400) :
    Calls Tryd.prog 63 #[.agg #[.int .i64 W, .int .i64 T], .int .i64 x, .int .i64 n] w (BitsRet W T x n w) := by
  by_cases h : n = 0
  · subst h; exact bits_zero W T x w
  · exact bits_any W T x n w hW hT hx hn (by omega)
/-- a register in a block of its own -/
def RBox (w : World) (b : Nat) (V A : Int) : Prop := w.heap[b]? = some (.cells #[.int .i64 V, .int .i64 A] 36 (0, 0))
theorem RBox.new (w : World) (V A : Int) : RBox (w.alloc (.cells #[.int .i64 V, .int .i64 A] 36)) w.heap.size V A := by
  unfold RBox
  show (w.heap.push _)[w.heap.size]? = _
  simp
theorem RBox.lt {w : World} {b : Nat} {V A : Int} (h : RBox w b V A) : b < w.heap.size := RevNet.block_lt h
theorem RBox.c0 {w : World} {b : Nat} {V A : Int} (h : RBox w b V A) : w.cell? ⟨b, 0, none⟩ = some (.int .i64 V) := by rw [Lib.cell_of_heap h]; rfl
theorem RBox.c1 {w : World} {b : Nat} {V A : Int} (h : RBox w b V A) : w.cell? ⟨b, 1, none⟩ = some (.int .i64 A) := by rw [Lib.cell_of_heap h]; rfl
theorem RBox.frz {w : World} {b : Nat} {V A : Int} (h : RBox w b V A) (i : Nat) : w.frozen? ⟨b, i, none⟩ = false := Lib.frozen_of_heap h i
theorem RBox.kept {w w' : World} {b : Nat} {V A : Int} {row : Option Nat} (h : RBox w b V A) (hg : w.grownBy w' row) (hne : row ≠ some b) : RBox w' b V A := (hg.block b h.lt fun e => hne e.symm).trans h
theorem RBox.below {w w' : World} {b : Nat} {V A : Int} (h : RBox w b V A) (hb : Below w.heap.size w w') : RBox w' b V A := (hb.block b h.lt).trans h
theorem RBox.set {w : World} {b : Nat} {V A : Int} (h : RBox w b V A) (A' : Int) : RBox (w.setCell ⟨b, 1, none⟩ (.int .i64 A')) b V A' := by
  unfold RBox at *
  simp [World.setCell, Array.getElem?_modify, h]
theorem or_one (A : Nat) (h : A < 128) : bits .or .i64 (A : Int) 1 = ((A ||| 1 : Nat) : Int) := Bits.i64_or_nat A 1 (by omega) (by omega)
def R8RegRet (w : World) (e : Ending) (w' : World) : Prop := ∃ V A : Nat, e = .returned (.agg #[.int .i64 (V : Int), .int .i64 (A : Int)]) ∧ V ≤ 7 ∧ A < 2 ^ V ∧ Below w.heap.size w w'
def R8NumRet (n : Int) (w : World) (e : Ending) (w' : World) : Prop := ∃ r : Nat, e = .returned (.int .i64 (r : Int)) ∧ (r = 0 ∨ (r : Int) < n) ∧ Below w.heap.size w w'
end Go.Proofs.YtogadldnkhdjbaaDoor.RBits
