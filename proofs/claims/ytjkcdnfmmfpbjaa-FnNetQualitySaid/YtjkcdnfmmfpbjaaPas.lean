/- The net of binomials, of the program and of the reference; the law. -/
import Derived.Test.YtjkcdnfmmfpbjaaChoose
import Derived.Test.YtjkcdnfmmfpbjaaRevLaw
namespace Go.Proofs.Ytjkcdnfmmfpbjaa.Pas
open Go.RowKit Go.Proofs.Ytjkcdnfmmfpbjaa Go.Proofs.Ytjkcdnfmmfpbjaa.Base Go.Proofs.Ytjkcdnfmmfpbjaa.Mem Go.Proofs.Ytjkcdnfmmfpbjaa.Pts Go.Proofs.Ytjkcdnfmmfpbjaa.NetV Go.Proofs.Ytjkcdnfmmfpbjaa.RevNet Go.Proofs.Ytjkcdnfmmfpbjaa.Choose Go.Proofs.Ytjkcdnfmmfpbjaa.Bits
set_option linter.unusedVariables false
/-- a row of the second matrix, of the first m columns from its own on -/
def rowTo (i : Nat) : Nat → Nat
  | 0 => 0
  | m + 1 => rowTo i m ||| ch (i + m) i % 2 * 2 ^ (i + m)
theorem rowTo_lt (i : Nat) : ∀ m, rowTo i m < 2 ^ (i + m)
  | 0 => Nat.two_pow_pos _
  | m + 1 => by
    have h := rowTo_lt i m
    have h2 : 2 ^ (i + (m + 1)) = 2 ^ (i + m) * 2 := by rw [← Nat.add_assoc, Nat.pow_succ]
    have h3 : ch (i + m) i % 2 * 2 ^ (i + m) ≤ 1 * 2 ^ (i + m) := Nat.mul_le_mul_right _ (by omega)
    have := Nat.two_pow_pos (i + m)
    exact Nat.or_lt_two_pow (by omega) (by omega)
def pasL (n : Nat) : List Int := (List.range n).map fun i => ((rowTo i (n - i) : Nat) : Int)
theorem pasL_len (n : Nat) : (pasL n).length = n := by simp [pasL]
theorem pasL_take (n k : Nat) (h : k < n) : (pasL n).take (k + 1) = (pasL n).take k ++ [((rowTo k (n - k) : Nat) : Int)] := by
  have hl : k < (pasL n).length := by rw [pasL_len]; exact h
  rw [List.take_succ_eq_append_getElem hl]
  simp [pasL]
theorem row_int {c r j : Nat} (hj : j < 6) (hr : r < 2 ^ j) : bits .or .i64 (r : Int) (wrap64 (((c % 2 : Nat) : Int) * 2 ^ j)) = ((r ||| c % 2 * 2 ^ j : Nat) : Int) := by
  have hp : 2 ^ j ≤ 2 ^ 5 := Nat.pow_le_pow_right (by decide) (by omega)
  have h2 : c % 2 * 2 ^ j ≤ 1 * 2 ^ 5 := Nat.mul_le_mul (by omega) hp
  have e : ((c % 2 : Nat) : Int) * 2 ^ j = ((c % 2 * 2 ^ j : Nat) : Int) := by simp
  rw [e]
  generalize c % 2 * 2 ^ j = m at *
  have e2 : wrap64 ((m : Nat) : Int) = ((m : Nat) : Int) := by simp only [wrap64]; omega
  rw [e2, i64_or_nat _ _ (by omega) (by omega)]
def PasRet (n : Nat) (w : World) (e : Ending) (w' : World) : Prop :=
  ∃ g us, e = .returned (.tuple #[.agg #[.int .i64 (n : Int), .slice (some ⟨g, 0, none⟩) 2 2], .bool true]) ∧ OwnII w' w.heap.size (.slice (some ⟨g, 0, none⟩) 2 2) [unitL n, pasL n] us ∧ Below w.heap.size w w'
def PasRel (n : Nat) (w : World) (out i : Value) (wr : World) : Prop := ∃ k : Nat, k ≤ n ∧ i = .int .i64 (k : Int) ∧ OwnI wr w.heap.size out ((pasL n).take k) ∧ Below w.heap.size w wr
/-- two lists of the call's own that grow together -/
def TwoRel (n : Nat) (L1 L2 : List Int) (w : World) (b : Nat) (v1 v2 i : Value) (wr : World) : Prop :=
  ∃ k : Nat, k ≤ n ∧ i = .int .i64 (k : Int) ∧ OwnI wr (b + 1) v1 (L1.take k) ∧ OwnI wr (b + 1) v2 (L2.take k) ∧ (∀ g, v1.ownBlock = some g → v2.ownBlock ≠ some g) ∧ Below (b + 1) w wr
theorem TwoRel.next {n k b : Nat} {L1 L2 : List Int} {w wr w2 w4 : World} {v1 v2 u1 u2 : Value} {o o' : Obj} (hk : k < n) (hB : b + 1 ≤ w.heap.size)
    (h1 : OwnI wr (b + 1) v1 (L1.take k)) (h2 : OwnI wr (b + 1) v2 (L2.take k)) (ha : ∀ g, v1.ownBlock = some g → v2.ownBlock ≠ some g) (hb : Below (b + 1) w wr)
    (n1 : OwnI w2 (b + 1) u1 (L1.take (k + 1))) (g1 : (wr.alloc o).grownBy w2 v1.ownBlock) (e1 : u1.ownBlock = v1.ownBlock ∨ u1.ownBlock = some (wr.heap.size + 1))
    (n2 : OwnI w4 (b + 1) u2 (L2.take (k + 1))) (g2 : (w2.alloc o').grownBy w4 v2.ownBlock) (e2 : u2.ownBlock = v2.ownBlock ∨ u2.ownBlock = some (w2.heap.size + 1)) :
    TwoRel n L1 L2 w b u1 u2 (.int .i64 ((k : Int) + 1)) w4 := by
  have hb1 : Below (b + 1) wr w2 := append_below h1 (Nat.le_trans hB hb.size) g1
  have hb2 : Below (b + 1) w w2 := hb.trans hb1
  have hv2 := beside h1 h2 ha g1
  have hs : wr.heap.size + 1 ≤ w2.heap.size := by
    have := g1.size
    simpa using this
  have hu1 : ∀ g, v2.ownBlock = some g → u1.ownBlock ≠ some g := fun g hg he => by
    rcases e1 with e | e
    · exact ha g (e.symm.trans he) hg
    · obtain ⟨_, _, _, q⟩ := ownsRow_block h2 hg
      rw [e] at he
      injection he with he
      omega
  refine ⟨k + 1, hk, by simp, beside hv2 n1 hu1 g2, n2, fun g he hg => ?_, hb2.trans (append_below hv2 (Nat.le_trans hB hb2.size) g2)⟩
  rcases e2 with e | e
  · exact hu1 g (e.symm.trans hg) he
  · obtain ⟨_, _, _, q⟩ := ownsRow_block n1 he
    rw [e] at hg
    injection hg with hg
    omega
theorem unitL_take (n k : Nat) (h : k < n) : (unitL n).take (k + 1) = (unitL n).take k ++ [(2 : Int) ^ k] := by
  have hl : k < (unitL n).length := by rw [unitL_len]; exact h
  rw [List.take_succ_eq_append_getElem hl]
  simp [unitL]
theorem GNetRet_of_pas {n : Nat} {w : World} {e : Ending} {w' : World} (h : PasRet n w e w') : GNetRet n true [unitL n, pasL n] w e w' := by
  obtain ⟨g, us, h1, h2, h3⟩ := h
  exact ⟨some ⟨g, 0, none⟩, 2, us, h1, h2, h3⟩
end Go.Proofs.Ytjkcdnfmmfpbjaa.Pas
