/- A register's output bits: bitText, Register.bits, RegisterBits, StepRegister, and the drawn register and number of the law. -/
import Derived.Test.YtjkcdnfmmfpbjaaBld
import Derived.Test.YtjkcdnfmmfpbjaaRegImpl
import Derived.Test.YtjkcdnfmmfpbjaaJumpLaw
import Derived.Test.YtjkcdnfmmfpbjaaSrc
import Derived.Test.YtjkcdnfmmfpbjaaDrawNet
namespace Go.Proofs.Ytjkcdnfmmfpbjaa.RBits
open Go.RowKit Go.Proofs.Ytjkcdnfmmfpbjaa Go.Proofs.Ytjkcdnfmmfpbjaa.Base Go.Proofs.Ytjkcdnfmmfpbjaa.Mem Go.Proofs.Ytjkcdnfmmfpbjaa.Reg Go.Proofs.Ytjkcdnfmmfpbjaa.Bld Go.Proofs.Ytjkcdnfmmfpbjaa.Src
set_option linter.unusedVariables false
/-- the bytes of the first n bits -/
def outR (W T x : Nat) : Nat → List UInt8
  | 0 => []
  | n + 1 => outR W T x n ++ [UInt8.ofNat (48 + CycM.iter (nextR W T) x n % 2)]
theorem outR_len (W T x : Nat) : ∀ n, (outR W T x n).length = n
  | 0 => rfl
  | n + 1 => by simp [outR, outR_len W T x n]
theorem outR_get (W T x : Nat) : ∀ n i, i < n → (outR W T x n)[i]? = some (UInt8.ofNat (48 + CycM.iter (nextR W T) x i % 2))
  | 0, i, h => absurd h (Nat.not_lt_zero i)
  | n + 1, i, h => by
    rw [outR]
    by_cases hi : i < n
    · rw [List.getElem?_append_left (by rw [outR_len]; exact hi)]; exact outR_get W T x n i hi
    · obtain rfl : i = n := by omega
      rw [List.getElem?_append_right (by rw [outR_len]; omega), outR_len]; simp
theorem outR_ne {W T x n : Nat} (h : 0 < n) : outR W T x n ≠ [] := fun h0 => by
  have := outR_len W T x n
  rw [h0] at this
  simp at this
  omega
theorem byte_bit (k : Nat) (h : k < 2) : (UInt8.ofNat (48 + k)).toNat = 48 + k := by
  have : k = 0 ∨ k = 1 := by omega
  rcases this with rfl | rfl <;> rfl
def BitsRet (W T x n : Nat) (w : World) (e : Ending) (w' : World) : Prop := e = .returned (.tuple #[.string ⟨(outR W T x n).toArray⟩, .int .i64 ((CycM.iter (nextR W T) x n : Nat) : Int)]) ∧ Below w.heap.size w w'
theorem ret_bits {s s' : ByteArray} {a b : Int} (h : s = s') (h' : a = b) : Ending.returned (.tuple #[.string s, .int .i64 a]) = .returned (.tuple #[.string s', .int .i64 b]) := by rw [h, h']
theorem or_one (A : Nat) (h : A < 128) : bits .or .i64 (A : Int) 1 = ((A ||| 1 : Nat) : Int) := Bits.i64_or_nat A 1 (by omega) (by omega)
def R8RegRet (w : World) (e : Ending) (w' : World) : Prop := ∃ V A : Nat, e = .returned (.agg #[.int .i64 (V : Int), .int .i64 (A : Int)]) ∧ V ≤ 7 ∧ A < 2 ^ V ∧ Below w.heap.size w w'
def R8NumRet (n : Int) (w : World) (e : Ending) (w' : World) : Prop := ∃ r : Nat, e = .returned (.int .i64 (r : Int)) ∧ (r = 0 ∨ (r : Int) < n) ∧ Below w.heap.size w w'
theorem r8Number_any (A : Option Addr) (c : Nat) (zs : List Int) (n : Int) (w : World) (hx : RdB w w.heap.size A zs) (hl : zs.length ≤ 48) (hz : ∀ z ∈ zs, 0 ≤ z ∧ z ≤ 255) :
    Calls Try.prog 22 #[.slice A zs.length c, .int .i64 n] w (R8NumRet n w) := by
  have HF := Lib.hid (from_any A c w.heap.size zs w hx (Nat.le_refl _) (by omega) hz)
  clear hx hz
  go_enter Try.func22, Try.ntmps22
  go_wp2_with fail
  refine HF.out.mono ?_
  rintro e w1 ⟨rfl, s1, b1⟩
  have HP1 := Lib.hid (pick_any w.heap.size 0 n w1 s1 (by omega))
  have X1 := Lib.hid b1
  have hz1 := s1.lt
  clear s1 b1
  go_wp2_with fail
  refine HP1.out.mono ?_
  rintro e w2 ⟨r, rfl, hr, s2, g2⟩
  have X2 := Lib.hid (X1.out.trans (DrawN.below_src g2 (Nat.le_refl _) (by omega)))
  clear s2 g2
  go_wp2
  go_ret
  exact ⟨r, rfl, hr, X2.out⟩
end Go.Proofs.Ytjkcdnfmmfpbjaa.RBits
