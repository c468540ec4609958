/- Lists of streams in memory: seven cells an element. Equality, marks, holding. -/
import Derived.Test.YthkogbpabdkfiaaDoorTakeExact
namespace Go.Proofs.YthkogbpabdkfiaaDoor.MemS
open Go.RowKit Go.Proofs.YthkogbpabdkfiaaDoor Go.Proofs.YthkogbpabdkfiaaDoor.Base Go.Proofs.YthkogbpabdkfiaaDoor.Mem Go.Proofs.YthkogbpabdkfiaaDoor.Take
set_option linter.unusedVariables false
/-- the n streams whose numbers are fs lie behind A, in a block below B -/
def RdS (w : World) (B : Nat) (A : Option Addr) (n : Nat) (fs : List Int) : Prop :=
  0 < n → ∃ b off, A = some ⟨b, off, none⟩ ∧ b < B ∧ ∀ i, i < 7 * n → w.cell? ⟨b, off + i, none⟩ = some (.int .i64 (fs.getD i 0))
theorem RdS.below {w w' : World} {B C n : Nat} {A : Option Addr} {fs : List Int} (h : RdS w B A n fs) (hb : Below C w w') (hBC : B ≤ C) : RdS w' B A n fs := fun h0 => by
  obtain ⟨b, off, e, hlt, hc⟩ := h h0
  exact ⟨b, off, e, hlt, fun i hi => (hb.cell (p := ⟨b, off + i, none⟩) (by show b < C; omega)).trans (hc i hi)⟩
theorem RdS.more {w : World} {B C n : Nat} {A : Option Addr} {fs : List Int} (h : RdS w B A n fs) (hBC : B ≤ C) : RdS w C A n fs := fun h0 => by
  obtain ⟨b, off, e, hlt, hc⟩ := h h0
  exact ⟨b, off, e, by omega, hc⟩
/-- element j of a list that is read -/
theorem RdS.at {w : World} {B n : Nat} {A : Option Addr} {fs : List Int} (h : RdS w B A n fs) {j : Nat} (hj : j < n) : ∃ b off, A = some ⟨b, off, none⟩ ∧ b < B ∧ ∀ i, i < 7 → w.cell? ⟨b, off + j * 7 + i, none⟩ = some (.int .i64 (fs.getD (7 * j + i) 0)) := by
  obtain ⟨b, off, e, hlt, hc⟩ := h (by omega)
  exact ⟨b, off, e, hlt, fun i hi => by have := hc (7 * j + i) (by omega); rw [← Nat.add_assoc] at this; rw [Nat.mul_comm j 7]; exact this⟩
/-- the seven cells of an element -/
structure At7 (w : World) (b q : Nat) (a : Nat → Int) : Prop where
  c0 : w.cell? ⟨b, q, none⟩ = some (.int .i64 (a 0))
  c1 : w.cell? ⟨b, q + 1, none⟩ = some (.int .i64 (a 1))
  c2 : w.cell? ⟨b, q + 2, none⟩ = some (.int .i64 (a 2))
  c3 : w.cell? ⟨b, q + 3, none⟩ = some (.int .i64 (a 3))
  c4 : w.cell? ⟨b, q + 4, none⟩ = some (.int .i64 (a 4))
  c5 : w.cell? ⟨b, q + 5, none⟩ = some (.int .i64 (a 5))
  c6 : w.cell? ⟨b, q + 6, none⟩ = some (.int .i64 (a 6))
theorem At7.below {w w' : World} {b q C : Nat} {a : Nat → Int} (h : At7 w b q a) (hb : Below C w w') (hC : b < C) : At7 w' b q a :=
  ⟨(hb.cell (p := ⟨b, q, none⟩) hC).trans h.c0, (hb.cell (p := ⟨b, q + 1, none⟩) hC).trans h.c1, (hb.cell (p := ⟨b, q + 2, none⟩) hC).trans h.c2, (hb.cell (p := ⟨b, q + 3, none⟩) hC).trans h.c3, (hb.cell (p := ⟨b, q + 4, none⟩) hC).trans h.c4, (hb.cell (p := ⟨b, q + 5, none⟩) hC).trans h.c5, (hb.cell (p := ⟨b, q + 6, none⟩) hC).trans h.c6⟩
theorem RdS.at7 {w : World} {B n : Nat} {A : Option Addr} {fs : List Int} (h : RdS w B A n fs) {j : Nat} (hj : j < n) : ∃ b off, A = some ⟨b, off, none⟩ ∧ b < B ∧ At7 w b (off + j * 7) (fun i => fs.getD (7 * j + i) 0) := by
  obtain ⟨b, off, e, hlt, hc⟩ := h.at hj
  exact ⟨b, off, e, hlt, hc 0 (by decide), hc 1 (by decide), hc 2 (by decide), hc 3 (by decide), hc 4 (by decide), hc 5 (by decide), hc 6 (by decide)⟩
def chain7 (w : World) (g q Q : Nat) : World :=
  ((((((w.setCell ⟨g, q, none⟩ (.int .i64 (Q : Int))).setCell ⟨g, q + 1, none⟩ (.int .i64 ((Q : Int) + 1))).setCell ⟨g, q + 2, none⟩ (.int .i64 ((Q : Int) + 1 + 1))).setCell ⟨g, q + 3, none⟩ (.int .i64 ((Q : Int) + 1 + 1 + 1))).setCell ⟨g, q + 4, none⟩ (.int .i64 ((Q : Int) + 1 + 1 + 1 + 1))).setCell ⟨g, q + 5, none⟩ (.int .i64 ((Q : Int) + 1 + 1 + 1 + 1 + 1))).setCell ⟨g, q + 6, none⟩ (.int .i64 ((Q : Int) + 1 + 1 + 1 + 1 + 1 + 1))
end Go.Proofs.YthkogbpabdkfiaaDoor.MemS
