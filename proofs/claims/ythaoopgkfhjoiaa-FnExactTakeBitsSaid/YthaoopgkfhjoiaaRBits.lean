/- A register's output bits: bitText, Register.bits, RegisterBits, StepRegister, and the drawn register and number of the law. -/
import Derived.Test.YthaoopgkfhjoiaaBld
import Derived.Test.YthaoopgkfhjoiaaRegImpl
import Derived.Test.YthaoopgkfhjoiaaJumpLaw
import Derived.Test.YthaoopgkfhjoiaaSrc
import Derived.Test.YthaoopgkfhjoiaaDrawNet
namespace Go.Proofs.Ythaoopgkfhjoiaa.RBits
open Go.RowKit Go.Proofs.Ythaoopgkfhjoiaa Go.Proofs.Ythaoopgkfhjoiaa.Base Go.Proofs.Ythaoopgkfhjoiaa.Mem Go.Proofs.Ythaoopgkfhjoiaa.Reg Go.Proofs.Ythaoopgkfhjoiaa.Bld Go.Proofs.Ythaoopgkfhjoiaa.Src
set_option linter.unusedVariables false
/-- the bytes of the first n bits -/
def outR (W T x : Nat) : Nat → List UInt8
  | 0 => []
  | n + 1 => outR W T x n ++ [UInt8.ofNat (48 + CycM.iter (nextR W T) x n % 2)]
theorem outR_len (W T x : Nat) : ∀ n, (outR W T x n).length = n
  | 0 => rfl
  | n + 1 => by simp [outR, outR_len W T x n]
theorem outR_get (W T x : Nat) : ∀ n i, i < n → (outR W T x n)[i]? = some (UInt8.ofNat (48 + CycM.iter (nextR W T) x i % 2))
  | 0, i, h => absurd h (Nat.not_lt_zero i)
  | n + 1, i, h => by
    rw [outR]
    by_cases hi : i < n
    · rw [List.getElem?_append_left (by rw [outR_len]; exact hi)]; exact outR_get W T x n i hi
    · obtain rfl : i = n := by omega
      rw [List.getElem?_append_right (by rw [outR_len]; omega), outR_len]; simp
theorem outR_ne {W T x n : Nat} (h : 0 < n) : outR W T x n ≠ [] := fun h0 => by
  have := outR_len W T x n
  rw [h0] at this
  simp at this
  omega
theorem byte_bit (k : Nat) (h : k < 2) : (UInt8.ofNat (48 + k)).toNat = 48 + k := by
  have : k = 0 ∨ k = 1 := by omega
  rcases this with rfl | rfl <;> rfl
theorem bitText_any (x : Nat) (hx : x < 2) (w : World) : Calls Try.prog 131 #[.int .i64 x] w fun e w' => e = .returned (.int .u8 ((48 + x : Nat) : Int)) ∧ w = w' := by
  have : x = 0 ∨ x = 1 := by omega
  rcases this with rfl | rfl
  all_goals
    go_enter Try.func131, Try.ntmps131
    go_wp2
    go_ret
    exact ⟨rfl, rfl⟩
theorem IsB.below {B b : Nat} {bs : List Value} {w w' : World} (h : IsB B b bs w) (hb : Below w.heap.size w w') : IsB B b bs w' := by
  have key : ∀ p, Lib.BuilderAt 152 5 B b p bs w → Lib.BuilderAt 152 5 B b p bs w' := fun p h => by
    have hlt := h.lt
    obtain ⟨hB, v, hbk, hown, hne⟩ := h
    exact ⟨hB, v, (hb.block b hlt).trans hbk, ownsRow_below hown hb, hne⟩
  rcases h with h | h
  · exact .inl (key _ h)
  · exact .inr (key _ h)
def BitsRet (W T x n : Nat) (w : World) (e : Ending) (w' : World) : Prop := e = .returned (.tuple #[.string ⟨(outR W T x n).toArray⟩, .int .i64 ((CycM.iter (nextR W T) x n : Nat) : Int)]) ∧ Below w.heap.size w w'
theorem ret_bits {s s' : ByteArray} {a b : Int} (h : s = s') (h' : a = b) : Ending.returned (.tuple #[.string s, .int .i64 a]) = .returned (.tuple #[.string s', .int .i64 b]) := by rw [h, h']
theorem step_bit {W T x bit : Nat} (h : x % 2 = bit) (hW2 : W ≤ 16) (hT : T < 2 ^ W) (hx : x < 2 ^ W) (w : World) :
    Calls Try.prog 82 #[.agg #[.int .i64 W, .int .i64 T], .int .i64 x] w fun e w' => e = .returned (.tuple #[.int .i64 (nextR W T x : Nat), .int .i64 (bit : Nat)]) ∧ Below w.heap.size w w' := by
  subst h; exact implStep_any W T x w hW2 hT hx
set_option maxHeartbeats 1000000 in
set_option maxRecDepth 100000 in
theorem bits_any (W T x n : Nat) (w : World) (hW : W ≤ 16) (hT : T < 2 ^ W) (hx : x < 2 ^ W) (hn : n ≤ 400) (hn0 : 0 < n) :
    Calls Try.prog 81 #[.agg #[.int .i64 W, .int .i64 T], .int .i64 x, .int .i64 n] w (BitsRet W T x n w) := by
  obtain ⟨W0, hW0⟩ : ∃ W0, W0 = w.alloc (.cells #[.int .i64 W, .int .i64 T] 26) := ⟨_, rfl⟩
  have hz0 : W0.heap.size = w.heap.size + 1 := by rw [hW0]; simp
  have c0 : W0.cell? ⟨w.heap.size, 0, none⟩ = some (.int .i64 W) := by rw [hW0]; go_simp
  have c1 : W0.cell? ⟨w.heap.size, 1, none⟩ = some (.int .i64 T) := by rw [hW0]; go_simp
  have B0 := Lib.hid (show Below w.heap.size w W0 by rw [hW0]; exact (Below.refl _ _).alloc (Nat.le_refl _) _)
  obtain ⟨W1, hW1⟩ : ∃ W1, W1 = W0.alloc (.cells #[.pointer none, .slice none 0 0] 152) := ⟨_, rfl⟩
  have hz1 : W1.heap.size = w.heap.size + 1 + 1 := by rw [hW1]; simp [hz0]
  have B1 := Lib.hid (show Below (w.heap.size + 1) W0 W1 by rw [hW1]; exact (Below.refl _ _).alloc (by omega) _)
  have I1 := Lib.hid (show IsB (w.heap.size + 1) (w.heap.size + 1) (Lib.byteCells []) W1 by rw [hW1, ← hz0]; exact Lib.fresh_isBuilder _ _ W0)
  have HW0 := Lib.hid hW0
  have HW1 := Lib.hid hW1
  have HZ0 := Lib.hid hz0
  have HZ1 := Lib.hid hz1
  have hz0' : w.heap.size < W0.heap.size := by omega
  have hz1' : W0.heap.size < W1.heap.size := by omega
  have hit : ∀ k, CycM.iter (nextR W T) x k < 2 ^ W := fun k => CycM.iter_lt (fun s hs => nextR_lt hs) hx k
  have hp : 2 ^ W ≤ 2 ^ 16 := Nat.pow_le_pow_right (by decide) hW
  have HN0 := Lib.hid hn0
  clear hW0 hW1 hz0 hz1 hn0
  go_enter Try.func81, Try.ntmps81
  go_wp2
  go_loopw [1, 12] (fun o i wr => ∃ k : Nat, k ≤ n ∧ i = .int .i64 k ∧ o = .int .i64 (CycM.iter (nextR W T) x k : Nat) ∧ IsB (w.heap.size + 1) (w.heap.size + 1) (Lib.byteCells (outR W T x k)) wr ∧ Below (w.heap.size + 1) W0 wr) (fun _ i _ => n - (intOf i).toNat)
  case atStart =>
    refine ⟨0, by omega, rfl, rfl, ?_, ?_⟩
    · have := I1.out
      rw [HW1.out, HW0.out] at this
      first | exact this | (rw [HW0.out]; exact this)
    · have := B1.out
      rw [HW1.out, HW0.out] at this
      first | exact this | (rw [HW0.out]; exact this)
  case round =>
    obtain ⟨k, hk, rfl, rfl, hI, hb⟩ := hrel
    have d0 := (hb.cell (p := ⟨w.heap.size, 0, none⟩) (Nat.lt_succ_self _)).trans c0
    have d1 := (hb.cell (p := ⟨w.heap.size, 1, none⟩) (Nat.lt_succ_self _)).trans c1
    have hwz := hb.size
    have HBel := Lib.hid hb
    have HI := Lib.hid hI
    clear hb c0 c1 hI
    by_cases hlt : k < n
    · have hxk := hit k
      have HO : Hid (outR W T x (k + 1) = outR W T x k ++ [UInt8.ofNat (48 + CycM.iter (nextR W T) x k % 2)]) := Lib.hid rfl
      have HT : Hid (CycM.iter (nextR W T) x (k + 1) = nextR W T (CycM.iter (nextR W T) x k)) := Lib.hid rfl
      have HBy := Lib.hid (byte_bit (CycM.iter (nextR W T) x k % 2) (Nat.mod_lt _ (by decide)))
      have HLn := Lib.hid (outR_len W T x k)
      have hm2 : CycM.iter (nextR W T) x k % 2 < 2 := Nat.mod_lt _ (by decide)
      generalize CycM.iter (nextR W T) x k = y at *
      generalize hbit : y % 2 = bit at *
      have HS := Lib.hid (fun w => step_bit hbit hW hT hxk w)
      clear hbit hit
      go_wp2_with fail
      refine (HS.out _).mono ?_
      rintro e w1 ⟨rfl, hb1⟩
      have HI1 := Lib.hid (IsB.below HI.out hb1)
      have HB1 := Lib.hid (HBel.out.trans (hb1.mono (by have := HZ0.out; omega)))
      have HWB := Lib.hid (fun h => writeByte_any (w.heap.size + 1) (w.heap.size + 1) (Lib.byteCells (outR W T x k)) ((48 + bit : Nat) : Int) w1 (HI1.out) (by rw [Lib.byteCells_length, HLn.out]; omega) h)
      have hws := hb1.size
      clear hb1
      have HWB2 := Lib.hid (HWB.out (by have := HZ0.out; omega))
      clear HWB
      go_wp2_with (first | (go_at_call 131; refine (bitText_any bit hm2 _).mono ?_; rintro e w' ⟨rfl, rfl⟩) | (refine HWB2.out.mono ?_; rintro e w2 ⟨rfl, hI2, hb2⟩; have HI2 := Lib.hid hI2; have HB2 := Lib.hid hb2; clear hI2 hb2))
      go_roundw
      case rel =>
        refine ⟨k + 1, hlt, by go_num, by rw [HT.out], ?_, HB1.out.trans HB2.out⟩
        rw [HO.out]
        have := HI2.out
        rw [← HBy.out] at this
        simpa [Lib.byteCells] using this
      case measure => simp [intOf]; omega
    · obtain rfl : k = n := by omega
      have HNe := Lib.hid (outR_ne (W := W) (T := T) (x := x) HN0.out)
      have HS := Lib.hid (string_some (w.heap.size + 1) (w.heap.size + 1) (outR W T x k) wr HI.out HNe.out)
      have HX := Lib.hid (fun w2 (hb2 : Below (w.heap.size + 1) wr w2) => B0.out.trans ((HBel.out.trans hb2).mono (show w.heap.size ≤ w.heap.size + 1 by omega)))
      go_wp2_with fail
      refine HS.out.mono ?_
      rintro e w2 ⟨rfl, hb2⟩
      have HB2 := Lib.hid (HX.out _ hb2)
      clear hb2
      go_wp2
      go_ret2
      exact ⟨rfl, HB2.out⟩
set_option maxHeartbeats 1000000 in
set_option maxRecDepth 100000 in
theorem string_nil (B b : Nat) (p : Value) (w : World) (hbk : w.heap[b]? = some (.cells #[p, .slice none 0 0] 152 (0, 0))) :
    Calls Try.prog 132 #[.pointer (some ⟨b, 0, none⟩)] w fun e w' => e = .returned (.string ⟨#[]⟩) ∧ Below B w w' := by
  have c1 : w.drew.cell? ⟨b, 1, none⟩ = some (.slice none 0 0) := by
    have : w.drew.heap[b]? = some (.cells #[p, .slice none 0 0] 152 (0, 0)) := hbk
    rw [Lib.cell_of_heap this]; rfl
  have hSD : (Builtin.unsafeSliceData_ #[40] 172 #[.slice none 0 0]).run Try.prog w.drew = .ok (.pointer none) w.drew := rfl
  have hUS : (Builtin.unsafeString_ #[172, 3] 9 #[.pointer none, .int .i64 0]).run Try.prog w.drew = .ok (.string ⟨#[]⟩) w.drew :=
    Lib.run_unsafeString_none w.drew _ _ _ none
  have mixed : Try.prog.follows .mixedOrders = true := by kernel_rfl
  go_enter Try.func132, Try.ntmps132
  go_wp2
  go_region_o
  all_goals (go_wp2; go_ret; exact ⟨rfl, Below.drew (Below.refl B w)⟩)
set_option maxHeartbeats 1000000 in
set_option maxRecDepth 100000 in
theorem bits_zero (W T x : Nat) (w : World) : Calls Try.prog 81 #[.agg #[.int .i64 W, .int .i64 T], .int .i64 x, .int .i64 0] w (BitsRet W T x 0 w) := by
  obtain ⟨W0, hW0⟩ : ∃ W0, W0 = w.alloc (.cells #[.int .i64 W, .int .i64 T] 26) := ⟨_, rfl⟩
  have hz0 : W0.heap.size = w.heap.size + 1 := by rw [hW0]; simp
  obtain ⟨W1, hW1⟩ : ∃ W1, W1 = W0.alloc (.cells #[.pointer none, .slice none 0 0] 152) := ⟨_, rfl⟩
  have hbk : W1.heap[w.heap.size + 1]? = some (.cells #[.pointer none, .slice none 0 0] 152 (0, 0)) := by rw [hW1, ← hz0]; exact heap_alloc_new W0 _
  have B1 := Lib.hid (show Below w.heap.size w W1 by rw [hW1, hW0]; exact ((Below.refl _ _).alloc (Nat.le_refl _) _).alloc (by simp) _)
  have HS := Lib.hid (string_nil w.heap.size (w.heap.size + 1) (.pointer none) W1 hbk)
  have HW0 := Lib.hid hW0
  have HW1 := Lib.hid hW1
  clear hW0 hW1 hbk hz0
  go_enter Try.func81, Try.ntmps81
  go_wp2
  go_loopw [1, 12] (fun o i wr => i = .int .i64 0 ∧ o = .int .i64 (x : Int) ∧ wr = W1) (fun _ i _ => 0)
  case atStart => exact ⟨rfl, rfl, by rw [HW1.out, HW0.out]⟩
  case round =>
    obtain ⟨rfl, rfl, rfl⟩ := hrel
    go_wp2_with fail
    refine HS.out.mono ?_
    rintro e w2 ⟨rfl, hb2⟩
    have HB2 := Lib.hid (B1.out.trans hb2)
    clear hb2
    go_wp2
    go_ret2
    exact ⟨rfl, HB2.out⟩
theorem bits_all (W T x n : Nat) (w : World) (hW : W ≤ 16) (hT : T < 2 ^ W) (hx : x < 2 ^ W) (hn : n ≤ 400) :
    Calls Try.prog 81 #[.agg #[.int .i64 W, .int .i64 T], .int .i64 x, .int .i64 n] w (BitsRet W T x n w) := by
  by_cases h : n = 0
  · subst h; exact bits_zero W T x w
  · exact bits_any W T x n w hW hT hx hn (by omega)
theorem bitsRegister_yes (W T x n : Nat) (w : World) (hW : W ≤ 16) (hT : T < 2 ^ W) (hx : x < 2 ^ W) (hn : n ≤ 400) (hn0 : 0 < n) :
    Calls Try.prog 31 #[.agg #[.int .i64 W, .int .i64 T], .int .i64 x, .int .i64 n] w fun e w' => e = .returned (.tuple #[.string ⟨(outR W T x n).toArray⟩, .bool true]) ∧ Below w.heap.size w w' := by
  have HB := Lib.hid (Jump.bothR_yes hW hT hx)
  have HI := Lib.hid (inR_yes (n := (n : Int)) (lo := 0) (hi := 400) (by omega))
  have HBi := Lib.hid (fun w => bits_any W T x n w hW hT hx hn hn0)
  clear hn0
  go_enter Try.func31, Try.ntmps31
  go_wp2_with (first
    | (go_at_call 70; refine (Reg.isRegState_any W T x _).mono ?_; rintro e w1 ⟨rfl, hb1⟩; rw [HB.out]; have d0 : w1.cell? ⟨w.heap.size, 0, none⟩ = some (.int .i64 (W : Int)) := box_cells hb1 0; have d1 : w1.cell? ⟨w.heap.size, 1, none⟩ = some (.int .i64 (T : Int)) := box_cells hb1 1)
    | (go_at_call 71; refine (inRange_any _ _ _ _).mono ?_; rintro e w' ⟨rfl, rfl⟩; rw [HI.out])
    | (go_at_call 81; refine (HBi.out _).mono ?_; rintro e w2 ⟨rfl, hb2⟩))
  go_ret2
  exact ⟨rfl, Base.Below.boxed (Base.Below.nextA hb1 hb2)⟩
theorem stepRegister_yes (W T x bit : Nat) (w : World) (hbit : x % 2 = bit) (hW : W ≤ 16) (hT : T < 2 ^ W) (hx : x < 2 ^ W) :
    Calls Try.prog 32 #[.agg #[.int .i64 W, .int .i64 T], .int .i64 x] w fun e w' => e = .returned (.tuple #[.int .i64 (nextR W T x : Nat), .int .i64 (bit : Nat), .bool true]) ∧ Below w.heap.size w w' := by
  have HB := Lib.hid (Jump.bothR_yes hW hT hx)
  have HBi := Lib.hid (fun w => step_bit hbit hW hT hx w)
  clear hbit
  go_enter Try.func32, Try.ntmps32
  go_wp2_with (first
    | (go_at_call 70; refine (Reg.isRegState_any W T x _).mono ?_; rintro e w1 ⟨rfl, hb1⟩; rw [HB.out]; have d0 : w1.cell? ⟨w.heap.size, 0, none⟩ = some (.int .i64 (W : Int)) := box_cells hb1 0; have d1 : w1.cell? ⟨w.heap.size, 1, none⟩ = some (.int .i64 (T : Int)) := box_cells hb1 1)
    | (go_at_call 82; refine (HBi.out _).mono ?_; rintro e w2 ⟨rfl, hb2⟩))
  go_ret3
  exact ⟨rfl, Base.Below.boxed (Base.Below.nextA hb1 hb2)⟩
/-- a register in a block of its own -/
def RBox (w : World) (b : Nat) (V A : Int) : Prop := w.heap[b]? = some (.cells #[.int .i64 V, .int .i64 A] 26 (0, 0))
theorem RBox.new (w : World) (V A : Int) : RBox (w.alloc (.cells #[.int .i64 V, .int .i64 A] 26)) w.heap.size V A := by
  unfold RBox
  show (w.heap.push _)[w.heap.size]? = _
  simp
theorem RBox.lt {w : World} {b : Nat} {V A : Int} (h : RBox w b V A) : b < w.heap.size := RevNet.block_lt h
theorem RBox.c0 {w : World} {b : Nat} {V A : Int} (h : RBox w b V A) : w.cell? ⟨b, 0, none⟩ = some (.int .i64 V) := by rw [Lib.cell_of_heap h]; rfl
theorem RBox.c1 {w : World} {b : Nat} {V A : Int} (h : RBox w b V A) : w.cell? ⟨b, 1, none⟩ = some (.int .i64 A) := by rw [Lib.cell_of_heap h]; rfl
theorem RBox.frz {w : World} {b : Nat} {V A : Int} (h : RBox w b V A) (i : Nat) : w.frozen? ⟨b, i, none⟩ = false := Lib.frozen_of_heap h i
theorem RBox.kept {w w' : World} {b : Nat} {V A : Int} {row : Option Nat} (h : RBox w b V A) (hg : w.grownBy w' row) (hne : row ≠ some b) : RBox w' b V A := (hg.block b h.lt fun e => hne e.symm).trans h
theorem RBox.below {w w' : World} {b : Nat} {V A : Int} (h : RBox w b V A) (hb : Below w.heap.size w w') : RBox w' b V A := (hb.block b h.lt).trans h
theorem RBox.set {w : World} {b : Nat} {V A : Int} (h : RBox w b V A) (A' : Int) : RBox (w.setCell ⟨b, 1, none⟩ (.int .i64 A')) b V A' := by
  unfold RBox at *
  simp [World.setCell, Array.getElem?_modify, h]
theorem or_one (A : Nat) (h : A < 128) : bits .or .i64 (A : Int) 1 = ((A ||| 1 : Nat) : Int) := Bits.i64_or_nat A 1 (by omega) (by omega)
def R8RegRet (w : World) (e : Ending) (w' : World) : Prop := ∃ V A : Nat, e = .returned (.agg #[.int .i64 (V : Int), .int .i64 (A : Int)]) ∧ V ≤ 7 ∧ A < 2 ^ V ∧ Below w.heap.size w w'
set_option maxHeartbeats 1000000 in
theorem r8Register_any (A : Option Addr) (c : Nat) (zs : List Int) (w : World) (hx : RdB w w.heap.size A zs) (hl : zs.length ≤ 48) (hz : ∀ z ∈ zs, 0 ≤ z ∧ z ≤ 255) :
    Calls Try.prog 29 #[.slice A zs.length c] w (R8RegRet w) := by
  obtain ⟨W0, hW0⟩ : ∃ W0, W0 = w.alloc (.cells #[.int .i64 0, .int .i64 0] 26) := ⟨_, rfl⟩
  have hb0 : Below w.heap.size w W0 := by rw [hW0]; exact (Below.refl _ _).alloc (Nat.le_refl _) _
  have hz0 : W0.heap.size = w.heap.size + 1 := by rw [hW0]; simp
  have HB0 := Lib.hid hb0
  have KB := Lib.hid (show RBox W0 w.heap.size 0 0 by rw [hW0]; exact RBox.new _ _ _)
  have HF := Lib.hid (from_any A c w.heap.size zs W0 (hx.below hb0 (Nat.le_refl _)) (by omega) (by omega) hz)
  have HW0 := Lib.hid hW0
  have hzl : w.heap.size < W0.heap.size := by omega
  clear hx hz hW0 hb0 hz0
  go_enter Try.func29, Try.ntmps29
  go_wp2_with fail
  rw [← HW0.out]
  refine HF.out.mono ?_
  rintro e w1 ⟨rfl, s1, b1⟩
  have HP1 := Lib.hid (pick_any W0.heap.size 0 8 w1 s1 (by omega))
  have X1 := Lib.hid b1
  have hz1 := s1.lt
  clear s1 b1
  go_wp2_with fail
  refine HP1.out.mono ?_
  rintro e w2 ⟨V, rfl, hV, s2, g2⟩
  have hV7 : V ≤ 7 := by omega
  have hp7 : 2 ^ V ≤ 2 ^ 7 := Nat.pow_le_pow_right (by decide) hV7
  have X2 := Lib.hid (X1.out.trans (DrawN.below_src g2 (Nat.le_refl _) (by omega)))
  have hz2 := s2.lt
  obtain ⟨W2, hW2⟩ : ∃ W2, W2 = w2.alloc (.cells #[.int .i64 V, .int .i64 0] 26) := ⟨_, rfl⟩
  have HW2 := Lib.hid hW2
  have bw2 : Below w2.heap.size w2 W2 := by rw [hW2]; exact (Below.refl _ _).alloc (Nat.le_refl _) _
  have R2 := Lib.hid (show RBox W2 w2.heap.size V 0 by rw [hW2]; exact RBox.new _ _ _)
  have HP2 := Lib.hid (pick_any W0.heap.size 2 (wrap64 (2 ^ V)) W2 (s2.below bw2) (by omega))
  have hpw : wrap64 ((2 : Int) ^ V) = ((2 ^ V : Nat) : Int) := by
    rw [show (2 : Int) ^ V = ((2 ^ V : Nat) : Int) by simp]
    have h0 := Nat.two_pow_pos V
    generalize 2 ^ V = N at *
    simp only [wrap64]; omega
  have HPW := Lib.hid hpw
  have XW2 := Lib.hid (X2.out.trans (bw2.mono (by omega)))
  clear s2 g2 hV hW2 bw2 hpw
  go_wp2_with fail
  rw [← HW2.out]
  refine HP2.out.mono ?_
  rintro e w3 ⟨A2, rfl, hA2, s3, g3⟩
  have hA : A2 < 2 ^ V := by
    rcases hA2 with h | h
    · subst h; exact Nat.two_pow_pos V
    · rw [HPW.out] at h; exact Int.ofNat_lt.1 h
  have r3 := R2.out.kept g3 (by simp; omega)
  have k0 := r3.c0
  have k1 := r3.c1
  have f1 := r3.frz 1
  have X3 := Lib.hid (XW2.out.trans (DrawN.below_src g3 (Nat.le_refl _) (by have := R2.out.lt; omega)))
  obtain ⟨W3, hW3⟩ : ∃ W3, W3 = w3.setCell ⟨w2.heap.size, 1, none⟩ (.int .i64 A2) := ⟨_, rfl⟩
  have HW3 := Lib.hid hW3
  have R3 := Lib.hid (show RBox W3 w2.heap.size V A2 by rw [hW3]; exact r3.set _)
  have HP3 := Lib.hid (one_any W0.heap.size 4 2 W3 (by rw [hW3]; exact s3.kept (grown_setCell _ _ _) (by simp; omega)) (by omega))
  have XW3 := Lib.hid (show Below W0.heap.size W0 W3 by rw [hW3]; exact X3.out.setCell (by simp; omega) _)
  clear s3 g3 hW3 r3 hA2
  go_wp2_with fail
  rw [← HW3.out]
  refine HP3.out.mono ?_
  rintro e w4 ⟨r, rfl, s4, g4⟩
  have r4 := R3.out.kept g4 (by simp; omega)
  have q0 := r4.c0
  have q1 := r4.c1
  have f4 := r4.frz 1
  have X4 := Lib.hid (XW3.out.trans (DrawN.below_src g4 (Nat.le_refl _) (by have := R3.out.lt; omega)))
  have HO := Lib.hid (or_one A2 (by omega))
  have HL := Lib.hid (show A2 ||| 1 < 2 ^ V ∨ V = 0 by
    by_cases h : V = 0
    · exact .inr h
    · exact .inl (Nat.or_lt_two_pow hA (Nat.one_lt_two_pow h)))
  obtain ⟨W5, hW5⟩ : ∃ W5, W5 = w4.setCell ⟨w2.heap.size, 1, none⟩ (.int .i64 ((A2 ||| 1 : Nat) : Int)) := ⟨_, rfl⟩
  have HW5 := Lib.hid hW5
  have r5 : RBox W5 w2.heap.size V ((A2 ||| 1 : Nat) : Int) := by rw [hW5]; exact r4.set _
  have X5 := Lib.hid (show Below W0.heap.size W0 W5 by rw [hW5]; exact X4.out.setCell (by simp; omega) _)
  have m4 := KB.out.below X4.out
  have m5 := KB.out.below X5.out
  have p0 := r5.c0
  have p1 := r5.c1
  have m40 := m4.c0
  have m41 := m4.c1
  have m50 := m5.c0
  have m51 := m5.c1
  have fm0 := m4.frz 0
  have fm1 := m4.frz 1
  have fn0 := m5.frz 0
  have fn1 := m5.frz 1
  clear k0 k1 f1 s4 g4 r4 r5 m4 m5 hW5
  have HR : Hid (∀ (A : Nat) (W : World), A < 2 ^ V → Below W0.heap.size W0 W → R8RegRet w (.returned (.agg #[.int .i64 (V : Int), .int .i64 (A : Int)])) (W.setCell ⟨w.heap.size, 0, none⟩ (.int .i64 (V : Int)) |>.setCell ⟨w.heap.size, 1, none⟩ (.int .i64 (A : Int)))) :=
    Lib.hid fun A W h hb => ⟨V, A, rfl, hV7, h, ((HB0.out.trans (hb.mono (by omega))).setCell (show w.heap.size ≤ w.heap.size from Nat.le_refl _) _).setCell (show w.heap.size ≤ w.heap.size from Nat.le_refl _) _⟩
  have HA := Lib.hid hA
  clear hA
  by_cases hV0 : V = 0
  · have HV0 := Lib.hid hV0
    have hV1 : decide ((V : Int) > 0) = false := by simp; omega
    have hVN : ¬ 0 < V := by omega
    clear hV0
    cases r
    all_goals
      go_wp2
      refine bodyPost_ret (v := .agg #[.int .i64 (V : Int), .int .i64 (A2 : Int)]) (by simp [results, Try.results29, go_sem, m40, m41]) rfl (HR.out A2 _ HA.out X4.out)
  · cases r
    · go_wp2
      refine bodyPost_ret (v := .agg #[.int .i64 (V : Int), .int .i64 (A2 : Int)]) (by simp [results, Try.results29, go_sem, m40, m41]) rfl (HR.out A2 _ HA.out X4.out)
    · go_wp2_with fail
      rw [HO.out, ← HW5.out]
      refine bodyPost_ret (v := .agg #[.int .i64 (V : Int), .int .i64 ((A2 ||| 1 : Nat) : Int)]) (by simp [results, Try.results29, go_sem, m50, m51]) rfl (HR.out (A2 ||| 1) _ (by have := HL.out; omega) X5.out)
def R8NumRet (n : Int) (w : World) (e : Ending) (w' : World) : Prop := ∃ r : Nat, e = .returned (.int .i64 (r : Int)) ∧ (r = 0 ∨ (r : Int) < n) ∧ Below w.heap.size w w'
theorem r8Number_any (A : Option Addr) (c : Nat) (zs : List Int) (n : Int) (w : World) (hx : RdB w w.heap.size A zs) (hl : zs.length ≤ 48) (hz : ∀ z ∈ zs, 0 ≤ z ∧ z ≤ 255) :
    Calls Try.prog 30 #[.slice A zs.length c, .int .i64 n] w (R8NumRet n w) := by
  have HF := Lib.hid (from_any A c w.heap.size zs w hx (Nat.le_refl _) (by omega) hz)
  clear hx hz
  go_enter Try.func30, Try.ntmps30
  go_wp2_with fail
  refine HF.out.mono ?_
  rintro e w1 ⟨rfl, s1, b1⟩
  have HP1 := Lib.hid (pick_any w.heap.size 0 n w1 s1 (by omega))
  have X1 := Lib.hid b1
  have hz1 := s1.lt
  clear s1 b1
  go_wp2_with fail
  refine HP1.out.mono ?_
  rintro e w2 ⟨r, rfl, hr, s2, g2⟩
  have X2 := Lib.hid (X1.out.trans (DrawN.below_src g2 (Nat.le_refl _) (by omega)))
  clear s2 g2
  go_wp2
  go_ret
  exact ⟨r, rfl, hr, X2.out⟩
end Go.Proofs.Ythaoopgkfhjoiaa.RBits
