/- A register's output bits: bitText, Register.bits, RegisterBits, StepRegister, and the drawn register and number of the law. -/
import Derived.Test.YtogadldnkhdjbaaBld
import Derived.Test.YtogadldnkhdjbaaRegImpl
import Derived.Test.YtogadldnkhdjbaaJumpLaw
import Derived.Test.YtogadldnkhdjbaaSrc
import Derived.Test.YtogadldnkhdjbaaDrawNet
namespace Go.Proofs.Ytogadldnkhdjbaa.RBits
open Go.RowKit Go.Proofs.Ytogadldnkhdjbaa Go.Proofs.Ytogadldnkhdjbaa.Base Go.Proofs.Ytogadldnkhdjbaa.Mem Go.Proofs.Ytogadldnkhdjbaa.Reg Go.Proofs.Ytogadldnkhdjbaa.Bld Go.Proofs.Ytogadldnkhdjbaa.Src
set_option linter.unusedVariables false
/-- the bytes of the first n bits -/
def outR (W T x : Nat) : Nat → List UInt8
  | 0 => []
  | n + 1 => outR W T x n ++ [UInt8.ofNat (48 + CycM.iter (nextR W T) x n % 2)]
theorem outR_len (W T x : Nat) : ∀ n, (outR W T x n).length = n
  | 0 => rfl
  | n + 1 => by simp [outR, outR_len W T x n]
theorem outR_get (W T x : Nat) : ∀ n i, i < n → (outR W T x n)[i]? = some (UInt8.ofNat (48 + CycM.iter (nextR W T) x i % 2))
  | 0, i, h => absurd h (Nat.not_lt_zero i)
  | n + 1, i, h => by
    rw [outR]
    by_cases hi : i < n
    · rw [List.getElem?_append_left (by rw [outR_len]; exact hi)]; exact outR_get W T x n i hi
    · obtain rfl : i = n := by omega
      rw [List.getElem?_append_right (by rw [outR_len]; omega), outR_len]; simp
theorem outR_ne {W T x n : Nat} (h : 0 < n) : outR W T x n ≠ [] := fun h0 => by
  have := outR_len W T x n
  rw [h0] at this
  simp at this
  omega
theorem byte_bit (k : Nat) (h : k < 2) : (UInt8.ofNat (48 + k)).toNat = 48 + k := by
  have : k = 0 ∨ k = 1 := by omega
  rcases this with rfl | rfl <;> rfl
def BitsRet (W T x n : Nat) (w : World) (e : Ending) (w' : World) : Prop := e = .returned (.tuple #[.string ⟨(outR W T x n).toArray⟩, .int .i64 ((CycM.iter (nextR W T) x n : Nat) : Int)]) ∧ Below w.heap.size w w'
theorem ret_bits {s s' : ByteArray} {a b : Int} (h : s = s') (h' : a = b) : Ending.returned (.tuple #[.string s, .int .i64 a]) = .returned (.tuple #[.string s', .int .i64 b]) := by rw [h, h']
theorem step_bit {W T x bit : Nat} (h : x % 2 = bit) (hW2 : W ≤ 16) (hT : T < 2 ^ W) (hx : x < 2 ^ W) (w : World) :
    Calls Try.prog 27 #[.agg #[.int .i64 W, .int .i64 T], .int .i64 x] w fun e w' => e = .returned (.tuple #[.int .i64 (nextR W T x : Nat), .int .i64 (bit : Nat)]) ∧ Below w.heap.size w w' := by
  subst h; exact implStep_any W T x w hW2 hT hx
/-- a register in a block of its own -/
def RBox (w : World) (b : Nat) (V A : Int) : Prop := w.heap[b]? = some (.cells #[.int .i64 V, .int .i64 A] 25 (0, 0))
theorem RBox.new (w : World) (V A : Int) : RBox (w.alloc (.cells #[.int .i64 V, .int .i64 A] 25)) w.heap.size V A := by
  unfold RBox
  show (w.heap.push _)[w.heap.size]? = _
  simp
theorem RBox.lt {w : World} {b : Nat} {V A : Int} (h : RBox w b V A) : b < w.heap.size := RevNet.block_lt h
theorem RBox.c0 {w : World} {b : Nat} {V A : Int} (h : RBox w b V A) : w.cell? ⟨b, 0, none⟩ = some (.int .i64 V) := by rw [Lib.cell_of_heap h]; rfl
theorem RBox.c1 {w : World} {b : Nat} {V A : Int} (h : RBox w b V A) : w.cell? ⟨b, 1, none⟩ = some (.int .i64 A) := by rw [Lib.cell_of_heap h]; rfl
theorem RBox.frz {w : World} {b : Nat} {V A : Int} (h : RBox w b V A) (i : Nat) : w.frozen? ⟨b, i, none⟩ = false := Lib.frozen_of_heap h i
theorem RBox.kept {w w' : World} {b : Nat} {V A : Int} {row : Option Nat} (h : RBox w b V A) (hg : w.grownBy w' row) (hne : row ≠ some b) : RBox w' b V A := (hg.block b h.lt fun e => hne e.symm).trans h
theorem RBox.below {w w' : World} {b : Nat} {V A : Int} (h : RBox w b V A) (hb : Below w.heap.size w w') : RBox w' b V A := (hb.block b h.lt).trans h
theorem RBox.set {w : World} {b : Nat} {V A : Int} (h : RBox w b V A) (A' : Int) : RBox (w.setCell ⟨b, 1, none⟩ (.int .i64 A')) b V A' := by
  unfold RBox at *
  simp [World.setCell, Array.getElem?_modify, h]
theorem or_one (A : Nat) (h : A < 128) : bits .or .i64 (A : Int) 1 = ((A ||| 1 : Nat) : Int) := Bits.i64_or_nat A 1 (by omega) (by omega)
def R8RegRet (w : World) (e : Ending) (w' : World) : Prop := ∃ V A : Nat, e = .returned (.agg #[.int .i64 (V : Int), .int .i64 (A : Int)]) ∧ V ≤ 7 ∧ A < 2 ^ V ∧ Below w.heap.size w w'
set_option maxHeartbeats 1000000 in
theorem r8Register_any (A : Option Addr) (c : Nat) (zs : List Int) (w : World) (hx : RdB w w.heap.size A zs) (hl : zs.length ≤ 48) (hz : ∀ z ∈ zs, 0 ≤ z ∧ z ≤ 255) :
    Calls Try.prog 5 #[.slice A zs.length c] w (R8RegRet w) := by
  obtain ⟨W0, hW0⟩ : ∃ W0, W0 = w.alloc (.cells #[.int .i64 0, .int .i64 0] 25) := ⟨_, rfl⟩
  have hb0 : Below w.heap.size w W0 := by rw [hW0]; exact (Below.refl _ _).alloc (Nat.le_refl _) _
  have hz0 : W0.heap.size = w.heap.size + 1 := by rw [hW0]; simp
  have HB0 := Lib.hid hb0
  have KB := Lib.hid (show RBox W0 w.heap.size 0 0 by rw [hW0]; exact RBox.new _ _ _)
  have HF := Lib.hid (from_any A c w.heap.size zs W0 (hx.below hb0 (Nat.le_refl _)) (by omega) (by omega) hz)
  have HW0 := Lib.hid hW0
  have hzl : w.heap.size < W0.heap.size := by omega
  clear hx hz hW0 hb0 hz0
  go_enter Try.func5, Try.ntmps5
  go_wp2_with fail
  rw [← HW0.out]
  refine HF.out.mono ?_
  rintro e w1 ⟨rfl, s1, b1⟩
  have HP1 := Lib.hid (pick_any W0.heap.size 0 8 w1 s1 (by omega))
  have X1 := Lib.hid b1
  have hz1 := s1.lt
  clear s1 b1
  go_wp2_with fail
  refine HP1.out.mono ?_
  rintro e w2 ⟨V, rfl, hV, s2, g2⟩
  have hV7 : V ≤ 7 := by omega
  have hp7 : 2 ^ V ≤ 2 ^ 7 := Nat.pow_le_pow_right (by decide) hV7
  have X2 := Lib.hid (X1.out.trans (DrawN.below_src g2 (Nat.le_refl _) (by omega)))
  have hz2 := s2.lt
  obtain ⟨W2, hW2⟩ : ∃ W2, W2 = w2.alloc (.cells #[.int .i64 V, .int .i64 0] 25) := ⟨_, rfl⟩
  have HW2 := Lib.hid hW2
  have bw2 : Below w2.heap.size w2 W2 := by rw [hW2]; exact (Below.refl _ _).alloc (Nat.le_refl _) _
  have R2 := Lib.hid (show RBox W2 w2.heap.size V 0 by rw [hW2]; exact RBox.new _ _ _)
  have HP2 := Lib.hid (pick_any W0.heap.size 2 (wrap64 (2 ^ V)) W2 (s2.below bw2) (by omega))
  have hpw : wrap64 ((2 : Int) ^ V) = ((2 ^ V : Nat) : Int) := by
    rw [show (2 : Int) ^ V = ((2 ^ V : Nat) : Int) by simp]
    have h0 := Nat.two_pow_pos V
    generalize 2 ^ V = N at *
    simp only [wrap64]; omega
  have HPW := Lib.hid hpw
  have XW2 := Lib.hid (X2.out.trans (bw2.mono (by omega)))
  clear s2 g2 hV hW2 bw2 hpw
  go_wp2_with fail
  rw [← HW2.out]
  refine HP2.out.mono ?_
  rintro e w3 ⟨A2, rfl, hA2, s3, g3⟩
  have hA : A2 < 2 ^ V := by
    rcases hA2 with h | h
    · subst h; exact Nat.two_pow_pos V
    · rw [HPW.out] at h; exact Int.ofNat_lt.1 h
  have r3 := R2.out.kept g3 (by simp; omega)
  have k0 := r3.c0
  have k1 := r3.c1
  have f1 := r3.frz 1
  have X3 := Lib.hid (XW2.out.trans (DrawN.below_src g3 (Nat.le_refl _) (by have := R2.out.lt; omega)))
  obtain ⟨W3, hW3⟩ : ∃ W3, W3 = w3.setCell ⟨w2.heap.size, 1, none⟩ (.int .i64 A2) := ⟨_, rfl⟩
  have HW3 := Lib.hid hW3
  have R3 := Lib.hid (show RBox W3 w2.heap.size V A2 by rw [hW3]; exact r3.set _)
  have HP3 := Lib.hid (one_any W0.heap.size 4 2 W3 (by rw [hW3]; exact s3.kept (grown_setCell _ _ _) (by simp; omega)) (by omega))
  have XW3 := Lib.hid (show Below W0.heap.size W0 W3 by rw [hW3]; exact X3.out.setCell (by simp; omega) _)
  clear s3 g3 hW3 r3 hA2
  go_wp2_with fail
  rw [← HW3.out]
  refine HP3.out.mono ?_
  rintro e w4 ⟨r, rfl, s4, g4⟩
  have r4 := R3.out.kept g4 (by simp; omega)
  have q0 := r4.c0
  have q1 := r4.c1
  have f4 := r4.frz 1
  have X4 := Lib.hid (XW3.out.trans (DrawN.below_src g4 (Nat.le_refl _) (by have := R3.out.lt; omega)))
  have HO := Lib.hid (or_one A2 (by omega))
  have HL := Lib.hid (show A2 ||| 1 < 2 ^ V ∨ V = 0 by
    by_cases h : V = 0
    · exact .inr h
    · exact .inl (Nat.or_lt_two_pow hA (Nat.one_lt_two_pow h)))
  obtain ⟨W5, hW5⟩ : ∃ W5, W5 = w4.setCell ⟨w2.heap.size, 1, none⟩ (.int .i64 ((A2 ||| 1 : Nat) : Int)) := ⟨_, rfl⟩
  have HW5 := Lib.hid hW5
  have r5 : RBox W5 w2.heap.size V ((A2 ||| 1 : Nat) : Int) := by rw [hW5]; exact r4.set _
  have X5 := Lib.hid (show Below W0.heap.size W0 W5 by rw [hW5]; exact X4.out.setCell (by simp; omega) _)
  have m4 := KB.out.below X4.out
  have m5 := KB.out.below X5.out
  have p0 := r5.c0
  have p1 := r5.c1
  have m40 := m4.c0
  have m41 := m4.c1
  have m50 := m5.c0
  have m51 := m5.c1
  have fm0 := m4.frz 0
  have fm1 := m4.frz 1
  have fn0 := m5.frz 0
  have fn1 := m5.frz 1
  clear k0 k1 f1 s4 g4 r4 r5 m4 m5 hW5
  have HR : Hid (∀ (A : Nat) (W : World), A < 2 ^ V → Below W0.heap.size W0 W → R8RegRet w (.returned (.agg #[.int .i64 (V : Int), .int .i64 (A : Int)])) (W.setCell ⟨w.heap.size, 0, none⟩ (.int .i64 (V : Int)) |>.setCell ⟨w.heap.size, 1, none⟩ (.int .i64 (A : Int)))) :=
    Lib.hid fun A W h hb => ⟨V, A, rfl, hV7, h, ((HB0.out.trans (hb.mono (by omega))).setCell (show w.heap.size ≤ w.heap.size from Nat.le_refl _) _).setCell (show w.heap.size ≤ w.heap.size from Nat.le_refl _) _⟩
  have HA := Lib.hid hA
  clear hA
  by_cases hV0 : V = 0
  · have HV0 := Lib.hid hV0
    have hV1 : decide ((V : Int) > 0) = false := by simp; omega
    have hVN : ¬ 0 < V := by omega
    clear hV0
    cases r
    all_goals
      go_wp2
      refine bodyPost_ret (v := .agg #[.int .i64 (V : Int), .int .i64 (A2 : Int)]) (by simp [results, Try.results5, go_sem, m40, m41]) rfl (HR.out A2 _ HA.out X4.out)
  · cases r
    · go_wp2
      refine bodyPost_ret (v := .agg #[.int .i64 (V : Int), .int .i64 (A2 : Int)]) (by simp [results, Try.results5, go_sem, m40, m41]) rfl (HR.out A2 _ HA.out X4.out)
    · go_wp2_with fail
      rw [HO.out, ← HW5.out]
      refine bodyPost_ret (v := .agg #[.int .i64 (V : Int), .int .i64 ((A2 ||| 1 : Nat) : Int)]) (by simp [results, Try.results5, go_sem, m50, m51]) rfl (HR.out (A2 ||| 1) _ (by have := HL.out; omega) X5.out)
def R8NumRet (n : Int) (w : World) (e : Ending) (w' : World) : Prop := ∃ r : Nat, e = .returned (.int .i64 (r : Int)) ∧ (r = 0 ∨ (r : Int) < n) ∧ Below w.heap.size w w'
theorem r8Number_any (A : Option Addr) (c : Nat) (zs : List Int) (n : Int) (w : World) (hx : RdB w w.heap.size A zs) (hl : zs.length ≤ 48) (hz : ∀ z ∈ zs, 0 ≤ z ∧ z ≤ 255) :
    Calls Try.prog 6 #[.slice A zs.length c, .int .i64 n] w (R8NumRet n w) := by
  have HF := Lib.hid (from_any A c w.heap.size zs w hx (Nat.le_refl _) (by omega) hz)
  clear hx hz
  go_enter Try.func6, Try.ntmps6
  go_wp2_with fail
  refine HF.out.mono ?_
  rintro e w1 ⟨rfl, s1, b1⟩
  have HP1 := Lib.hid (pick_any w.heap.size 0 n w1 s1 (by omega))
  have X1 := Lib.hid b1
  have hz1 := s1.lt
  clear s1 b1
  go_wp2_with fail
  refine HP1.out.mono ?_
  rintro e w2 ⟨r, rfl, hr, s2, g2⟩
  have X2 := Lib.hid (X1.out.trans (DrawN.below_src g2 (Nat.le_refl _) (by omega)))
  clear s2 g2
  go_wp2
  go_ret
  exact ⟨r, rfl, hr, X2.out⟩
end Go.Proofs.Ytogadldnkhdjbaa.RBits
