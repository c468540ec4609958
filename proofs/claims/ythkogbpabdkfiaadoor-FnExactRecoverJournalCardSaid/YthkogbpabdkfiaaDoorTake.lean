/- The bits of a stream: steps, take, TakeBits, and the law. -/
import Derived.Test.YthkogbpabdkfiaaDoorRBits
import Derived.Test.YthkogbpabdkfiaaDoorStream
import Derived.Test.YthkogbpabdkfiaaDoorStrCyc
import Derived.Laws.IdiomStrings
import Derived.Lib.BufferRead
namespace Go.Proofs.YthkogbpabdkfiaaDoor.Take
open Go.RowKit Go.Proofs.YthkogbpabdkfiaaDoor Go.Proofs.YthkogbpabdkfiaaDoor.Base Go.Proofs.YthkogbpabdkfiaaDoor.Mem Go.Proofs.YthkogbpabdkfiaaDoor.Reg Go.Proofs.YthkogbpabdkfiaaDoor.Bld Go.Proofs.YthkogbpabdkfiaaDoor.Str Go.Proofs.YthkogbpabdkfiaaDoor.RBits
set_option linter.unusedVariables false
def cbit (m f a x : Nat) : Nat := if m ≤ 2 * Cong.stepN m f a x then 1 else 0
theorem cbit_lt (m f a x : Nat) : cbit m f a x < 2 := by unfold cbit; split <;> omega
def StepRet (K W T m f a : Int) (nx bt x : Nat) (w : World) (e : Ending) (w' : World) : Prop := e = .returned (.tuple #[.agg #[.int .i64 K, .int .i64 W, .int .i64 T, .int .i64 m, .int .i64 f, .int .i64 a, .int .i64 (nx : Int)], .int .i64 (bt : Int)]) ∧ Below w.heap.size w w'
/-- the bytes of n bits -/
def outS (nx bt : Nat → Nat) (x : Nat) : Nat → List UInt8
  | 0 => []
  | n + 1 => outS nx bt x n ++ [UInt8.ofNat (48 + bt (CycM.iter nx x n))]
theorem outS_len (nx bt : Nat → Nat) (x : Nat) : ∀ n, (outS nx bt x n).length = n
  | 0 => rfl
  | n + 1 => by simp [outS, outS_len nx bt x n]
theorem outS_reg (W T x : Nat) : ∀ n, outR W T x n = outS (nextR W T) (· % 2) x n
  | 0 => rfl
  | n + 1 => by rw [outR, outS, outS_reg W T x n]
section
variable {w w' : World} {b : Nat} {K W T m f a s : Int}
/-- all cells of a stream laid anew -/
def set7 (w : World) (b : Nat) (K W T m f a s : Int) : World :=
  ((((((w.setCell ⟨b, 0, none⟩ (.int .i64 K)).setCell ⟨b, 1, none⟩ (.int .i64 W)).setCell ⟨b, 2, none⟩ (.int .i64 T)).setCell ⟨b, 3, none⟩ (.int .i64 m)).setCell ⟨b, 4, none⟩ (.int .i64 f)).setCell ⟨b, 5, none⟩ (.int .i64 a)).setCell ⟨b, 6, none⟩ (.int .i64 s)
theorem grown_set7 (w : World) (b : Nat) (K W T m f a s : Int) : w.grownBy (set7 w b K W T m f a s) (some b) := by
  unfold set7
  exact grown_trans (grown_trans (grown_trans (grown_trans (grown_trans (grown_trans (Src.grown_setCell _ _ _) (Src.grown_setCell _ _ _)) (Src.grown_setCell _ _ _)) (Src.grown_setCell _ _ _)) (Src.grown_setCell _ _ _)) (Src.grown_setCell _ _ _)) (Src.grown_setCell _ _ _)
end
def TakeRet (K W T m f a : Int) (nx bt : Nat → Nat) (x n : Nat) (w : World) (e : Ending) (w' : World) : Prop :=
  e = .returned (.tuple #[.string ⟨(outS nx bt x n).toArray⟩, .agg #[.int .i64 K, .int .i64 W, .int .i64 T, .int .i64 m, .int .i64 f, .int .i64 a, .int .i64 ((CycM.iter nx x n : Nat) : Int)]]) ∧ Below w.heap.size w w'
theorem conv_own {w : World} {B g n cap : Nat} {l : List UInt8} (h : w.ownsRow B 5 1 (.slice (some ⟨g, 0, none⟩) n cap) n (Lib.byteCells l)) (hl : l.length = n) :
    (convert 34 9 (.slice (some ⟨g, 0, none⟩) n cap)).run Tryd.prog w = .ok (.string ⟨l.toArray⟩) w := by
  subst hl
  refine run_convert_bytes_back w 34 9 5 ⟨g, 0, none⟩ cap l Tryd.underlying34 Tryd.underlying5 Tryd.underlying9 ?_
  intro j hj
  have := h.cells (g := g) rfl j (.int .u8 (l[j].toNat : Int)) (by simp [Lib.byteCells, hj])
  simpa [Addr.add] using this
theorem conv_any {w : World} {B n : Nat} {v : Value} {l : List UInt8} (h : w.ownsRow B 5 1 v n (Lib.byteCells l)) (hl : l.length = n) :
    (convert 34 9 v).run Tryd.prog w = .ok (.string ⟨l.toArray⟩) w := by
  rcases h.2 with ⟨rfl, h0⟩ | ⟨g, cap, cur, rfl, _⟩
  · obtain rfl : l = [] := List.eq_nil_of_length_eq_zero (by omega)
    exact Lib.run_convert_nil_bytes w 34 9 5 0 Tryd.underlying34 Tryd.underlying5 Tryd.underlying9
  · exact conv_own h hl
def takeL (K W T m f a s c : Int) : List UInt8 := if K = 0 then outS (nextR W.toNat T.toNat) (· % 2) s.toNat c.toNat else outS (Cong.stepN m.toNat f.toNat a.toNat) (cbit m.toNat f.toNat a.toNat) s.toNat c.toNat
def takeX (K W T m f a s c : Int) : Int := if K = 0 then (CycM.iter (nextR W.toNat T.toNat) s.toNat c.toNat : Nat) else (CycM.iter (Cong.stepN m.toNat f.toNat a.toNat) s.toNat c.toNat : Nat)
def TakeR (K W T m f a s c : Int) (w : World) (e : Ending) (w' : World) : Prop := e = .returned (.tuple #[.string ⟨(takeL K W T m f a s c).toArray⟩, .agg #[.int .i64 K, .int .i64 W, .int .i64 T, .int .i64 m, .int .i64 f, .int .i64 a, .int .i64 (takeX K W T m f a s c)]]) ∧ Below w.heap.size w w'
theorem nats {K W T m f a s c : Int} (hB : streamB K W T m f a s = true) (hc : inR c 0 400 = true) : ∃ X N : Nat, s = X ∧ c = N ∧ N ≤ 400 ∧
    ((K = 0 ∧ ∃ V A : Nat, W = V ∧ T = A ∧ V ≤ 16 ∧ A < 2 ^ V ∧ X < 2 ^ V) ∨ (K = 1 ∧ ∃ M F A : Nat, m = M ∧ f = F ∧ a = A ∧ 2 ≤ M ∧ M ≤ 100000 ∧ F < M ∧ A < M ∧ X < M)) := by
  have h7 := inR_true hc
  rcases streamB_true hB with ⟨rfl, hR⟩ | ⟨rfl, hC⟩
  · obtain ⟨h1, h2, h3, h4, h5, h6⟩ := Reg.bothR_true hR
    have ep : ((2 ^ W.toNat : Nat) : Int) = (2 : Int) ^ W.toNat := by simp
    exact ⟨s.toNat, c.toNat, by omega, by omega, by omega, .inl ⟨rfl, W.toNat, T.toNat, by omega, by omega, by omega, by omega, by omega⟩⟩
  · obtain ⟨h1, h2, h3, h4, h5, h6, h7', h8⟩ := Cong.bothB_true hC
    exact ⟨s.toNat, c.toNat, by omega, by omega, by omega, .inr ⟨rfl, m.toNat, f.toNat, a.toNat, by omega, by omega, by omega, by omega, by omega, by omega, by omega, by omega⟩⟩
end Go.Proofs.YthkogbpabdkfiaaDoor.Take
