/- A register's output bits: bitText, Register.bits, RegisterBits, StepRegister, and the drawn register and number of the law. -/
import Derived.Test.YtjajemdeioabkaaDoorBld
import Derived.Test.YtjajemdeioabkaaDoorRegImpl
import Derived.Test.YtjajemdeioabkaaDoorJumpLaw
import Derived.Test.YtjajemdeioabkaaDoorSrc
import Derived.Test.YtjajemdeioabkaaDoorDrawNet
namespace Go.Proofs.YtjajemdeioabkaaDoor.RBits
open Go.RowKit Go.Proofs.YtjajemdeioabkaaDoor Go.Proofs.YtjajemdeioabkaaDoor.Base Go.Proofs.YtjajemdeioabkaaDoor.Mem Go.Proofs.YtjajemdeioabkaaDoor.Reg Go.Proofs.YtjajemdeioabkaaDoor.Bld Go.Proofs.YtjajemdeioabkaaDoor.Src
set_option linter.unusedVariables false
/-- the bytes of the first n bits -/
def outR (W T x : Nat) : Nat → List UInt8
  | 0 => []
  | n + 1 => outR W T x n ++ [UInt8.ofNat (48 + CycM.iter (nextR W T) x n % 2)]
theorem outR_len (W T x : Nat) : ∀ n, (outR W T x n).length = n
  | 0 => rfl
  | n + 1 => by simp [outR, outR_len W T x n]
theorem outR_get (W T x : Nat) : ∀ n i, i < n → (outR W T x n)[i]? = some (UInt8.ofNat (48 + CycM.iter (nextR W T) x i % 2))
  | 0, i, h => absurd h (Nat.not_lt_zero i)
  | n + 1, i, h => by
    rw [outR]
    by_cases hi : i < n
    · rw [List.getElem?_append_left (by rw [outR_len]; exact hi)]; exact outR_get W T x n i hi
    · obtain rfl : i = n := by omega
      rw [List.getElem?_append_right (by rw [outR_len]; omega), outR_len]; simp
theorem outR_ne {W T x n : Nat} (h : 0 < n) : outR W T x n ≠ [] := fun h0 => by
  have := outR_len W T x n
  rw [h0] at this
  simp at this
  omega
theorem byte_bit (k : Nat) (h : k < 2) : (UInt8.ofNat (48 + k)).toNat = 48 + k := by
  have : k = 0 ∨ k = 1 := by omega
  rcases this with rfl | rfl <;> rfl
theorem IsB.below {B b : Nat} {bs : List Value} {w w' : World} (h : IsB B b bs w) (hb : Below w.heap.size w w') : IsB B b bs w' := by
  have key : ∀ p, Lib.BuilderAt 56 5 B b p bs w → Lib.BuilderAt 56 5 B b p bs w' := fun p h => by
    have hlt := h.lt
    obtain ⟨hB, v, hbk, hown, hne⟩ := h
    exact ⟨hB, v, (hb.block b hlt).trans hbk, ownsRow_below hown hb, hne⟩
  rcases h with h | h
  · exact .inl (key _ h)
  · exact .inr (key _ h)
def BitsRet (W T x n : Nat) (w : World) (e : Ending) (w' : World) : Prop := e = .returned (.tuple #[.string ⟨(outR W T x n).toArray⟩, .int .i64 ((CycM.iter (nextR W T) x n : Nat) : Int)]) ∧ Below w.heap.size w w'
theorem ret_bits {s s' : ByteArray} {a b : Int} (h : s = s') (h' : a = b) : Ending.returned (.tuple #[.string s, .int .i64 a]) = .returned (.tuple #[.string s', .int .i64 b]) := by rw [h, h']
set_option maxHeartbeats 1000000 in
set_option maxRecDepth 100000 in
theorem string_nil (B b : Nat) (p : Value) (w : World) (hbk : w.heap[b]? = some (.cells #[p, .slice none 0 0] 56 (0, 0))) :
    Calls Tryd.prog 30 #[.pointer (some ⟨b, 0, none⟩)] w fun e w' => e = .returned (.string ⟨#[]⟩) ∧ Below B w w' := by
  have c1 : w.drew.cell? ⟨b, 1, none⟩ = some (.slice none 0 0) := by
    have : w.drew.heap[b]? = some (.cells #[p, .slice none 0 0] 56 (0, 0)) := hbk
    rw [Lib.cell_of_heap this]; rfl
  have hSD : (Builtin.unsafeSliceData_ #[54] 81 #[.slice none 0 0]).run Tryd.prog w.drew = .ok (.pointer none) w.drew := rfl
  have hUS : (Builtin.unsafeString_ #[81, 3] 9 #[.pointer none, .int .i64 0]).run Tryd.prog w.drew = .ok (.string ⟨#[]⟩) w.drew :=
    Lib.run_unsafeString_none w.drew _ _ _ none
  have mixed : Tryd.prog.follows .mixedOrders = true := by kernel_rfl
  go_enter Tryd.func30, Tryd.ntmps30
  go_wp2
  go_region_o
  all_goals (go_wp2; go_ret; exact ⟨rfl, Below.drew (Below.refl B w)⟩)
/-- a register in a block of its own -/
def RBox (w : World) (b : Nat) (V A : Int) : Prop := w.heap[b]? = some (.cells #[.int .i64 V, .int .i64 A] 30 (0, 0))
theorem RBox.new (w : World) (V A : Int) : RBox (w.alloc (.cells #[.int .i64 V, .int .i64 A] 30)) w.heap.size V A := by
  unfold RBox
  show (w.heap.push _)[w.heap.size]? = _
  simp
theorem RBox.lt {w : World} {b : Nat} {V A : Int} (h : RBox w b V A) : b < w.heap.size := RevNet.block_lt h
theorem RBox.c0 {w : World} {b : Nat} {V A : Int} (h : RBox w b V A) : w.cell? ⟨b, 0, none⟩ = some (.int .i64 V) := by rw [Lib.cell_of_heap h]; rfl
theorem RBox.c1 {w : World} {b : Nat} {V A : Int} (h : RBox w b V A) : w.cell? ⟨b, 1, none⟩ = some (.int .i64 A) := by rw [Lib.cell_of_heap h]; rfl
theorem RBox.frz {w : World} {b : Nat} {V A : Int} (h : RBox w b V A) (i : Nat) : w.frozen? ⟨b, i, none⟩ = false := Lib.frozen_of_heap h i
theorem RBox.kept {w w' : World} {b : Nat} {V A : Int} {row : Option Nat} (h : RBox w b V A) (hg : w.grownBy w' row) (hne : row ≠ some b) : RBox w' b V A := (hg.block b h.lt fun e => hne e.symm).trans h
theorem RBox.below {w w' : World} {b : Nat} {V A : Int} (h : RBox w b V A) (hb : Below w.heap.size w w') : RBox w' b V A := (hb.block b h.lt).trans h
theorem RBox.set {w : World} {b : Nat} {V A : Int} (h : RBox w b V A) (A' : Int) : RBox (w.setCell ⟨b, 1, none⟩ (.int .i64 A')) b V A' := by
  unfold RBox at *
  simp [World.setCell, Array.getElem?_modify, h]
theorem or_one (A : Nat) (h : A < 128) : bits .or .i64 (A : Int) 1 = ((A ||| 1 : Nat) : Int) := Bits.i64_or_nat A 1 (by omega) (by omega)
def R8RegRet (w : World) (e : Ending) (w' : World) : Prop := ∃ V A : Nat, e = .returned (.agg #[.int .i64 (V : Int), .int .i64 (A : Int)]) ∧ V ≤ 7 ∧ A < 2 ^ V ∧ Below w.heap.size w w'
def R8NumRet (n : Int) (w : World) (e : Ending) (w' : World) : Prop := ∃ r : Nat, e = .returned (.int .i64 (r : Int)) ∧ (r = 0 ∨ (r : Int) < n) ∧ Below w.heap.size w w'
end Go.Proofs.YtjajemdeioabkaaDoor.RBits
