/- The laws' sizes and copies of lists of int64 and of lists of them. -/
import Derived.Test.YthkogbpabdkfiaaDoorMem
namespace Go.Proofs.YthkogbpabdkfiaaDoor.Cpy
open Go.RowKit Go.Proofs.YthkogbpabdkfiaaDoor Go.Proofs.YthkogbpabdkfiaaDoor.Base Go.Proofs.YthkogbpabdkfiaaDoor.Mem
set_option linter.unusedVariables false

/-! ### Sizes -/
/-- a number below 0, or all elements and lists counted fit -/
def SzRet (k : Int) (xss : List (List Int)) (w : World) (e : Ending) (w' : World) : Prop := ∃ r : Int, e = .returned (.int .i64 r) ∧ (r = -1 ∨ (0 ≤ r ∧ r = k - xss.length - tot xss)) ∧ w = w'
/-! ### Copies -/
theorem half_set {α : Type} (f : α → Value) (z : Value) (xs : List α) (d : α) (j : Nat) (h : j < xs.length) :
    ((xs.take j).map f ++ List.replicate (xs.length - j) z).set j (f (xs.getD j d)) = (xs.take (j + 1)).map f ++ List.replicate (xs.length - (j + 1)) z := by
  have hl : ((xs.take j).map f).length = j := by simp; omega
  rw [List.set_append_right _ _ (Nat.le_of_eq hl), hl, Nat.sub_self, show xs.length - j = (xs.length - (j + 1)) + 1 by omega, List.replicate_succ, List.set_cons_zero,
    List.take_succ_eq_append_getElem h, List.map_append, List.append_assoc]
  simp [List.getD, h]
theorem half_get {α : Type} (f : α → Value) (z : Value) (xs : List α) (j : Nat) (h : j < xs.length) : ((xs.take j).map f ++ List.replicate (xs.length - j) z)[j]? = some z := by
  have hl : ((xs.take j).map f).length = j := by simp; omega
  rw [List.getElem?_append_right (Nat.le_of_eq hl), hl, Nat.sub_self, List.getElem?_replicate, if_pos (by omega)]
def ToRel (B g : Nat) (xs : List Int) (w : World) (i : Value) (wr : World) : Prop :=
  ∃ j : Nat, j ≤ xs.length ∧ i = .int .i64 (j : Int) ∧ wr.ownsRow B 2 1 (.slice (some ⟨g, 0, none⟩) xs.length xs.length) xs.length ((xs.take j).map (Value.int .i64) ++ List.replicate (xs.length - j) (.int .i64 0)) ∧ Below B w wr
theorem ToRel.next {B g j : Nat} {xs : List Int} {w wr : World} (hj : j < xs.length) (hg : B ≤ g)
    (h : wr.ownsRow B 2 1 (.slice (some ⟨g, 0, none⟩) xs.length xs.length) xs.length ((xs.take j).map (Value.int .i64) ++ List.replicate (xs.length - j) (.int .i64 0))) (hb : Below B w wr) :
    ToRel B g xs w (.int .i64 ((j : Int) + 1)) (wr.setCell ⟨g, j, none⟩ (.int .i64 (xs.getD j 0))) := by
  obtain ⟨h1, _⟩ := h.stored j (.int .i64 (xs.getD j 0))
  rw [half_set (Value.int .i64) _ xs 0 j hj] at h1
  exact ⟨j + 1, hj, by simp, h1, hb.setCell hg _⟩
/-- lists of the call's own, without the list that holds them -/
structure OwnRows (w : World) (B : Nat) (us : List Value) (xss : List (List Int)) : Prop where
  len : us.length = xss.length
  inner : ∀ i, i < xss.length → OwnI w B (us.getD i undef) (xss.getD i [])
  apart : ∀ i j g, i < j → j < xss.length → (us.getD i undef).ownBlock = some g → (us.getD j undef).ownBlock ≠ some g
theorem OwnRows.nil (w : World) (B : Nat) : OwnRows w B [] [] := ⟨rfl, fun i hi => absurd hi (Nat.not_lt_zero i), fun i j g _ hj => absurd hj (Nat.not_lt_zero j)⟩
theorem us_set {us : List Value} {j n : Nat} (hj : us.length = j) (hn : j < n) (u z : Value) : (us ++ List.replicate (n - j) z).set j u = (us ++ [u]) ++ List.replicate (n - (j + 1)) z := by
  rw [List.set_append_right _ _ (Nat.le_of_eq hj), hj, Nat.sub_self, show n - j = (n - (j + 1)) + 1 by omega, List.replicate_succ, List.set_cons_zero, List.append_assoc]
  rfl
theorem us_get {us : List Value} {j n : Nat} (hj : us.length = j) (hn : j < n) (z : Value) : (us ++ List.replicate (n - j) z)[j]? = some z := by
  rw [List.getElem?_append_right (Nat.le_of_eq hj), hj, Nat.sub_self, List.getElem?_replicate, if_pos (by omega)]
end Go.Proofs.YthkogbpabdkfiaaDoor.Cpy
