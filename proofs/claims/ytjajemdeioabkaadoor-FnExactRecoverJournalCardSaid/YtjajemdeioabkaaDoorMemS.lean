/- Lists of streams in memory: seven cells an element. Equality, marks, holding. -/
import Derived.Test.YtjajemdeioabkaaDoorTakeExact
namespace Go.Proofs.YtjajemdeioabkaaDoor.MemS
open Go.RowKit Go.Proofs.YtjajemdeioabkaaDoor Go.Proofs.YtjajemdeioabkaaDoor.Base Go.Proofs.YtjajemdeioabkaaDoor.Mem Go.Proofs.YtjajemdeioabkaaDoor.Take
set_option linter.unusedVariables false
/-- the n streams whose numbers are fs lie behind A, in a block below B -/
def RdS (w : World) (B : Nat) (A : Option Addr) (n : Nat) (fs : List Int) : Prop :=
  0 < n → ∃ b off, A = some ⟨b, off, none⟩ ∧ b < B ∧ ∀ i, i < 7 * n → w.cell? ⟨b, off + i, none⟩ = some (.int .i64 (fs.getD i 0))
theorem RdS.below {w w' : World} {B C n : Nat} {A : Option Addr} {fs : List Int} (h : RdS w B A n fs) (hb : Below C w w') (hBC : B ≤ C) : RdS w' B A n fs := fun h0 => by
  obtain ⟨b, off, e, hlt, hc⟩ := h h0
  exact ⟨b, off, e, hlt, fun i hi => (hb.cell (p := ⟨b, off + i, none⟩) (by show b < C; omega)).trans (hc i hi)⟩
theorem RdS.more {w : World} {B C n : Nat} {A : Option Addr} {fs : List Int} (h : RdS w B A n fs) (hBC : B ≤ C) : RdS w C A n fs := fun h0 => by
  obtain ⟨b, off, e, hlt, hc⟩ := h h0
  exact ⟨b, off, e, by omega, hc⟩
/-- the n streams are the call's own -/
def OwnS (w : World) (B : Nat) (v : Value) (n : Nat) (fs : List Int) : Prop := w.ownsRow B 33 7 v n (ints fs)
theorem OwnS.len {w : World} {B n : Nat} {v : Value} {fs : List Int} (h : OwnS w B v n fs) : fs.length = 7 * n := by
  have := h.1
  rw [ints_len] at this
  omega
theorem OwnS.form {w : World} {B n : Nat} {v : Value} {fs : List Int} (h : OwnS w B v n fs) : ∃ A c, v = .slice A n c ∧ (0 < n → ∃ g, A = some ⟨g, 0, none⟩ ∧ B ≤ g ∧ g < w.heap.size) := ownsRow_form h
theorem OwnS.rd {w : World} {B n m c : Nat} {A : Option Addr} {fs : List Int} (h : OwnS w B (.slice A m c) n fs) : RdS w w.heap.size A n fs := fun h0 => by
  obtain ⟨A', c', e, hf⟩ := ownsRow_form h
  injection e with e1 e2 e3
  subst e1 e2 e3
  obtain ⟨g, rfl, _, hlt⟩ := hf h0
  refine ⟨g, 0, rfl, hlt, fun i hi => ?_⟩
  have hl := h.len
  rw [Nat.zero_add, World.ownsRow.cellAt h i (by omega), ints_get fs i (by omega)]
theorem OwnS.below {w w' : World} {B n : Nat} {v : Value} {fs : List Int} (h : OwnS w B v n fs) (hb : Below w.heap.size w w') : OwnS w' B v n fs := ownsRow_below h hb
/-- element j of a list that is read -/
theorem RdS.at {w : World} {B n : Nat} {A : Option Addr} {fs : List Int} (h : RdS w B A n fs) {j : Nat} (hj : j < n) : ∃ b off, A = some ⟨b, off, none⟩ ∧ b < B ∧ ∀ i, i < 7 → w.cell? ⟨b, off + j * 7 + i, none⟩ = some (.int .i64 (fs.getD (7 * j + i) 0)) := by
  obtain ⟨b, off, e, hlt, hc⟩ := h (by omega)
  exact ⟨b, off, e, hlt, fun i hi => by have := hc (7 * j + i) (by omega); rw [← Nat.add_assoc] at this; rw [Nat.mul_comm j 7]; exact this⟩
/-- the seven cells of an element -/
structure At7 (w : World) (b q : Nat) (a : Nat → Int) : Prop where
  c0 : w.cell? ⟨b, q, none⟩ = some (.int .i64 (a 0))
  c1 : w.cell? ⟨b, q + 1, none⟩ = some (.int .i64 (a 1))
  c2 : w.cell? ⟨b, q + 2, none⟩ = some (.int .i64 (a 2))
  c3 : w.cell? ⟨b, q + 3, none⟩ = some (.int .i64 (a 3))
  c4 : w.cell? ⟨b, q + 4, none⟩ = some (.int .i64 (a 4))
  c5 : w.cell? ⟨b, q + 5, none⟩ = some (.int .i64 (a 5))
  c6 : w.cell? ⟨b, q + 6, none⟩ = some (.int .i64 (a 6))
theorem At7.below {w w' : World} {b q C : Nat} {a : Nat → Int} (h : At7 w b q a) (hb : Below C w w') (hC : b < C) : At7 w' b q a :=
  ⟨(hb.cell (p := ⟨b, q, none⟩) hC).trans h.c0, (hb.cell (p := ⟨b, q + 1, none⟩) hC).trans h.c1, (hb.cell (p := ⟨b, q + 2, none⟩) hC).trans h.c2, (hb.cell (p := ⟨b, q + 3, none⟩) hC).trans h.c3, (hb.cell (p := ⟨b, q + 4, none⟩) hC).trans h.c4, (hb.cell (p := ⟨b, q + 5, none⟩) hC).trans h.c5, (hb.cell (p := ⟨b, q + 6, none⟩) hC).trans h.c6⟩
theorem RdS.at7 {w : World} {B n : Nat} {A : Option Addr} {fs : List Int} (h : RdS w B A n fs) {j : Nat} (hj : j < n) : ∃ b off, A = some ⟨b, off, none⟩ ∧ b < B ∧ At7 w b (off + j * 7) (fun i => fs.getD (7 * j + i) 0) := by
  obtain ⟨b, off, e, hlt, hc⟩ := h.at hj
  exact ⟨b, off, e, hlt, hc 0 (by decide), hc 1 (by decide), hc 2 (by decide), hc 3 (by decide), hc 4 (by decide), hc 5 (by decide), hc 6 (by decide)⟩
theorem mark1 {w : World} {B k n c g t : Nat} {fs : List Int} {v : Int} (h : w.ownsRow B 33 7 (.slice (some ⟨g, 0, none⟩) n c) n (ints (marks k t ++ fs.drop t))) (ht : t < fs.length) (hv : v = ((k + t : Nat) : Int)) :
    (w.setCell ⟨g, t, none⟩ (.int .i64 v)).ownsRow B 33 7 (.slice (some ⟨g, 0, none⟩) n c) n (ints (marks k (t + 1) ++ fs.drop (t + 1))) ∧ w.grownBy (w.setCell ⟨g, t, none⟩ (.int .i64 v)) (some g) := by
  subst hv
  obtain ⟨h1, h2⟩ := h.stored t (.int .i64 ((k + t : Nat) : Int))
  rw [ints_set, mixed_set k t fs ht] at h1
  exact ⟨h1, h2⟩
def chain7 (w : World) (g q Q : Nat) : World :=
  ((((((w.setCell ⟨g, q, none⟩ (.int .i64 (Q : Int))).setCell ⟨g, q + 1, none⟩ (.int .i64 ((Q : Int) + 1))).setCell ⟨g, q + 2, none⟩ (.int .i64 ((Q : Int) + 1 + 1))).setCell ⟨g, q + 3, none⟩ (.int .i64 ((Q : Int) + 1 + 1 + 1))).setCell ⟨g, q + 4, none⟩ (.int .i64 ((Q : Int) + 1 + 1 + 1 + 1))).setCell ⟨g, q + 5, none⟩ (.int .i64 ((Q : Int) + 1 + 1 + 1 + 1 + 1))).setCell ⟨g, q + 6, none⟩ (.int .i64 ((Q : Int) + 1 + 1 + 1 + 1 + 1 + 1))
theorem mark7 {w : World} {B k n c g q Q : Nat} {fs : List Int} (h : w.ownsRow B 33 7 (.slice (some ⟨g, 0, none⟩) n c) n (ints (marks k q ++ fs.drop q))) (ht : q + 7 ≤ fs.length) (hQ : Q = k + q) :
    (chain7 w g q Q).ownsRow B 33 7 (.slice (some ⟨g, 0, none⟩) n c) n (ints (marks k (q + 7) ++ fs.drop (q + 7))) ∧ w.grownBy (chain7 w g q Q) (some g) := by
  obtain ⟨h1, g1⟩ := mark1 (t := q) (v := (Q : Int)) h (by omega) (by omega)
  obtain ⟨h2, g2⟩ := mark1 (t := q + 1) (v := (Q : Int) + 1) h1 (by omega) (by omega)
  obtain ⟨h3, g3⟩ := mark1 (t := q + 2) (v := (Q : Int) + 1 + 1) h2 (by omega) (by omega)
  obtain ⟨h4, g4⟩ := mark1 (t := q + 3) (v := (Q : Int) + 1 + 1 + 1) h3 (by omega) (by omega)
  obtain ⟨h5, g5⟩ := mark1 (t := q + 4) (v := (Q : Int) + 1 + 1 + 1 + 1) h4 (by omega) (by omega)
  obtain ⟨h6, g6⟩ := mark1 (t := q + 5) (v := (Q : Int) + 1 + 1 + 1 + 1 + 1) h5 (by omega) (by omega)
  obtain ⟨h7, g7⟩ := mark1 (t := q + 6) (v := (Q : Int) + 1 + 1 + 1 + 1 + 1 + 1) h6 (by omega) (by omega)
  exact ⟨h7, grown_trans (grown_trans (grown_trans (grown_trans (grown_trans (grown_trans g1 g2) g3) g4) g5) g6) g7⟩
def MarkRelS (B k n : Nat) (A : Option Addr) (c : Nat) (fs : List Int) (w : World) (q i : Value) (wr : World) : Prop :=
  ∃ j Q : Nat, j ≤ n ∧ i = .int .i64 (j : Int) ∧ q = .int .i64 (Q : Int) ∧ Hid (Q = k + 7 * j) ∧ Hid (wr.ownsRow B 33 7 (.slice A n c) n (ints (marks k (7 * j) ++ fs.drop (7 * j)))) ∧ Hid (w.grownBy wr (Value.slice A n c).ownBlock)
end Go.Proofs.YtjajemdeioabkaaDoor.MemS
