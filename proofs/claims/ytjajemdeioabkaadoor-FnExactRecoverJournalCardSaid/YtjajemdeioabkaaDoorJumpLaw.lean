/- A register after many steps: the reference, the program, the law. -/
import Derived.Test.YtjajemdeioabkaaDoorJumpW
namespace Go.Proofs.YtjajemdeioabkaaDoor.Jump
open Go.RowKit Go.Proofs.YtjajemdeioabkaaDoor Go.Proofs.YtjajemdeioabkaaDoor.Base Go.Proofs.YtjajemdeioabkaaDoor.Poly Go.Proofs.YtjajemdeioabkaaDoor.Bits
set_option linter.unusedVariables false
theorem bl_poly {W T : Nat} (hT : T < 2 ^ W) : bl (2 ^ W ||| T) = W + 1 := by
  have h1 : bl (2 ^ W ||| T) ≤ W + 1 := bl_le (Nat.or_lt_two_pow (Nat.pow_lt_pow_right (by decide) (by omega)) (Nat.lt_of_lt_of_le hT (Nat.pow_le_pow_right (by decide) (by omega))))
  have h2 := bl_lt (2 ^ W ||| T)
  have h3 : 2 ^ W ≤ 2 ^ W ||| T := Nat.left_le_or
  have h4 : 2 ^ W < 2 ^ bl (2 ^ W ||| T) := by omega
  have := (Nat.pow_lt_pow_iff_right (by decide : 1 < 2)).1 h4
  omega
theorem poly_int {W T : Nat} (hW : W ≤ 16) (hT : T < 2 ^ W) : bits .or .i64 (wrap64 ((2 : Int) ^ W)) (T : Int) = ((2 ^ W ||| T : Nat) : Int) := by
  have h1 : 2 ^ W ≤ 2 ^ 16 := Nat.pow_le_pow_right (by decide) hW
  have e2 : wrap64 ((2 : Int) ^ W) = ((2 ^ W : Nat) : Int) := by
    rw [show (2 : Int) ^ W = ((2 ^ W : Nat) : Int) by simp]
    generalize 2 ^ W = m at *
    simp only [wrap64]; omega
  rw [e2, i64_or_nat _ _ (by omega) (by omega)]
theorem poly_int' {W T : Nat} (hW : W ≤ 16) (hT : T < 2 ^ W) : bits .or .i64 ((2 : Int) ^ W) (T : Int) = ((2 ^ W ||| T : Nat) : Int) := by
  have h1 : 2 ^ W ≤ 2 ^ 16 := Nat.pow_le_pow_right (by decide) hW
  rw [show (2 : Int) ^ W = ((2 ^ W : Nat) : Int) by simp, i64_or_nat _ _ (by omega) (by omega)]
def jumpTo (W T x n : Nat) : Nat := CycM.iter (Reg.nextR W T) x n
def JumpYes (W T x n : Nat) (w : World) (e : Ending) (w' : World) : Prop := e = .returned (.tuple #[.int .i64 (jumpTo W T x n : Nat), .bool true]) ∧ Below w.heap.size w w'
theorem jumpTo_lt {W T x n : Nat} (hx : x < 2 ^ W) : jumpTo W T x n < 2 ^ W := CycM.iter_lt (fun s hs => Reg.nextR_lt hs) hx n
theorem bothR_yes {W T x : Nat} (hW : W ≤ 16) (hT : T < 2 ^ W) (hx : x < 2 ^ W) : Reg.bothR W T x = true := by
  have e : ((2 ^ W : Nat) : Int) = (2 : Int) ^ W := by simp
  have h1 := inR_yes (n := (W : Int)) (lo := 0) (hi := 16) (by omega)
  have h2 := inR_yes (n := (T : Int)) (lo := 0) (hi := (2 : Int) ^ W - 1) (by omega)
  have h3 := inR_yes (n := (x : Int)) (lo := 0) (hi := (2 : Int) ^ W - 1) (by omega)
  simp [Reg.bothR, Reg.regB, Reg.stB, h1, h2, h3]
theorem jump_or {X i : Nat} (hX : X < 2 ^ 16) (hi : i < 16) : bits .or .i64 ((X % 2 ^ i : Nat) : Int) (wrap64 ((((X.testBit i).toNat : Nat) : Int) * 2 ^ i)) = ((X % 2 ^ (i + 1) : Nat) : Int) := by
  have hp : 2 ^ i ≤ 2 ^ 15 := Nat.pow_le_pow_right (by decide) (by omega)
  have h1 : (X.testBit i).toNat ≤ 1 := by cases X.testBit i <;> decide
  have h2 : (X.testBit i).toNat * 2 ^ i ≤ 1 * 2 ^ 15 := Nat.mul_le_mul h1 hp
  have h3 : X % 2 ^ i ≤ X := Nat.mod_le _ _
  have e : (((X.testBit i).toNat : Nat) : Int) * 2 ^ i = (((X.testBit i).toNat * 2 ^ i : Nat) : Int) := by simp
  rw [e, ← low_succ X i]
  generalize (X.testBit i).toNat * 2 ^ i = m at *
  have e2 : wrap64 ((m : Nat) : Int) = ((m : Nat) : Int) := by simp only [wrap64]; omega
  rw [e2, i64_or_nat _ _ (by omega) (by omega)]
theorem iter_per {F : Nat → Nat} {x j n : Nat} (h : F x = F x) (hc : CycM.iter F x j = CycM.iter F x n) (hj : j < n) : ∀ q, CycM.iter F x (j + q * (n - j)) = CycM.iter F x j
  | 0 => by simp
  | q + 1 => by
    have e : j + (q + 1) * (n - j) = n + q * (n - j) := by rw [Nat.add_mul, Nat.one_mul]; omega
    rw [e, CycM.iter_add, ← hc, ← CycM.iter_add, iter_per h hc hj q]
theorem iter_red {F : Nat → Nat} {x j n m : Nat} (h : CycM.IsCyc F x j n) (hm : j ≤ m) : CycM.iter F x (j + (m - j) % (n - j)) = CycM.iter F x m := by
  obtain ⟨h1, h2, _⟩ := h
  have e : m = (j + (m - j) / (n - j) * (n - j)) + (m - j) % (n - j) := by
    have := Nat.div_add_mod' (m - j) (n - j)
    omega
  conv => rhs; rw [e]
  rw [CycM.iter_add F x (j + (m - j) / (n - j) * (n - j)), iter_per rfl h2 h1, ← CycM.iter_add]
theorem ret_jump {a b : Int} {c d : Bool} (h : a = b) (h' : c = d) : Ending.returned (.tuple #[.int .i64 a, .bool c]) = .returned (.tuple #[.int .i64 b, .bool d]) := by rw [h, h']
def jumpB (W T x n : Int) : Bool := Reg.bothR W T x && inR n 0 1000000000000000000
def jumpV (W T x n : Int) : Int := if jumpB W T x n = true then (jumpTo W.toNat T.toNat x.toNat n.toNat : Nat) else 0
def JumpRet (W T x n : Int) (w : World) (e : Ending) (w' : World) : Prop := e = .returned (.tuple #[.int .i64 (jumpV W T x n), .bool (jumpB W T x n)]) ∧ Below w.heap.size w w'
theorem nats_of {W T x n : Int} (hB : Reg.bothR W T x = true) (hn : inR n 0 1000000000000000000 = true) : ∃ V A X N : Nat, W = V ∧ T = A ∧ x = X ∧ n = N ∧ V ≤ 16 ∧ A < 2 ^ V ∧ X < 2 ^ V ∧ N ≤ 1000000000000000000 := by
  obtain ⟨h1, h2, h3, h4, h5, h6⟩ := Reg.bothR_true hB
  have h7 := inR_true hn
  have ep : ((2 ^ W.toNat : Nat) : Int) = (2 : Int) ^ W.toNat := by simp
  exact ⟨W.toNat, T.toNat, x.toNat, n.toNat, by omega, by omega, by omega, by omega, by omega, by omega, by omega, by omega⟩
theorem JumpRet.of_yes {V A X N : Nat} {w w' : World} {e : Ending} (hV : V ≤ 16) (hA : A < 2 ^ V) (hX : X < 2 ^ V) (hN : N ≤ 1000000000000000000) (h : JumpYes V A X N w e w') : JumpRet V A X N w e w' := by
  have hb : jumpB V A X N = true := by rw [jumpB, bothR_yes hV hA hX, inR_yes (by omega)]; rfl
  refine ⟨?_, h.2⟩
  rw [h.1, jumpV, if_pos hb, hb]; rfl
end Go.Proofs.YtjajemdeioabkaaDoor.Jump
