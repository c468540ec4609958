/- The laws' sizes and copies of lists of int64 and of lists of them. -/
import Derived.Test.YtjajemdeioabkaaDoorMem
namespace Go.Proofs.YtjajemdeioabkaaDoor.Cpy
open Go.RowKit Go.Proofs.YtjajemdeioabkaaDoor Go.Proofs.YtjajemdeioabkaaDoor.Base Go.Proofs.YtjajemdeioabkaaDoor.Mem
set_option linter.unusedVariables false

/-! ### Sizes -/
/-- a number below 0, or all elements and lists counted fit -/
def SzRet (k : Int) (xss : List (List Int)) (w : World) (e : Ending) (w' : World) : Prop := ∃ r : Int, e = .returned (.int .i64 r) ∧ (r = -1 ∨ (0 ≤ r ∧ r = k - xss.length - tot xss)) ∧ w = w'
/-! ### Copies -/
theorem half_set {α : Type} (f : α → Value) (z : Value) (xs : List α) (d : α) (j : Nat) (h : j < xs.length) :
    ((xs.take j).map f ++ List.replicate (xs.length - j) z).set j (f (xs.getD j d)) = (xs.take (j + 1)).map f ++ List.replicate (xs.length - (j + 1)) z := by
  have hl : ((xs.take j).map f).length = j := by simp; omega
  rw [List.set_append_right _ _ (Nat.le_of_eq hl), hl, Nat.sub_self, show xs.length - j = (xs.length - (j + 1)) + 1 by omega, List.replicate_succ, List.set_cons_zero,
    List.take_succ_eq_append_getElem h, List.map_append, List.append_assoc]
  simp [List.getD, h]
theorem half_get {α : Type} (f : α → Value) (z : Value) (xs : List α) (j : Nat) (h : j < xs.length) : ((xs.take j).map f ++ List.replicate (xs.length - j) z)[j]? = some z := by
  have hl : ((xs.take j).map f).length = j := by simp; omega
  rw [List.getElem?_append_right (Nat.le_of_eq hl), hl, Nat.sub_self, List.getElem?_replicate, if_pos (by omega)]
def ToRel (B g : Nat) (xs : List Int) (w : World) (i : Value) (wr : World) : Prop :=
  ∃ j : Nat, j ≤ xs.length ∧ i = .int .i64 (j : Int) ∧ wr.ownsRow B 2 1 (.slice (some ⟨g, 0, none⟩) xs.length xs.length) xs.length ((xs.take j).map (Value.int .i64) ++ List.replicate (xs.length - j) (.int .i64 0)) ∧ Below B w wr
theorem ToRel.next {B g j : Nat} {xs : List Int} {w wr : World} (hj : j < xs.length) (hg : B ≤ g)
    (h : wr.ownsRow B 2 1 (.slice (some ⟨g, 0, none⟩) xs.length xs.length) xs.length ((xs.take j).map (Value.int .i64) ++ List.replicate (xs.length - j) (.int .i64 0))) (hb : Below B w wr) :
    ToRel B g xs w (.int .i64 ((j : Int) + 1)) (wr.setCell ⟨g, j, none⟩ (.int .i64 (xs.getD j 0))) := by
  obtain ⟨h1, _⟩ := h.stored j (.int .i64 (xs.getD j 0))
  rw [half_set (Value.int .i64) _ xs 0 j hj] at h1
  exact ⟨j + 1, hj, by simp, h1, hb.setCell hg _⟩
/-- lists of the call's own, without the list that holds them -/
structure OwnRows (w : World) (B : Nat) (us : List Value) (xss : List (List Int)) : Prop where
  len : us.length = xss.length
  inner : ∀ i, i < xss.length → OwnI w B (us.getD i undef) (xss.getD i [])
  apart : ∀ i j g, i < j → j < xss.length → (us.getD i undef).ownBlock = some g → (us.getD j undef).ownBlock ≠ some g
theorem OwnRows.nil (w : World) (B : Nat) : OwnRows w B [] [] := ⟨rfl, fun i hi => absurd hi (Nat.not_lt_zero i), fun i j g _ hj => absurd hj (Nat.not_lt_zero j)⟩
theorem OwnRows.push {wr w1 w2 : World} {B n : Nat} {v u : Value} {xss : List (List Int)} {us vs : List Value} {ys : List Int} (h : OwnRows wr B us xss) (h1 : Below wr.heap.size wr w1)
    (hu : w1.ownsRow wr.heap.size 2 1 u ys.length (ints ys)) (ho : w1.ownsRow B 77 1 v n vs) (hg : w1.grownBy w2 v.ownBlock) (hB : B ≤ wr.heap.size) :
    OwnRows w2 B (us ++ [u]) (xss ++ [ys]) := by
  refine ⟨by simp [h.len], fun i hi => ?_, fun i j g hij hj hg1 hg2 => ?_⟩
  · rw [List.length_append] at hi
    rcases Nat.lt_or_ge i xss.length with hlt | hge
    · have hl : i < us.length := by rw [h.len]; exact hlt
      rw [show (us ++ [u]).getD i undef = us.getD i undef by simp [List.getD, List.getElem?_append_left hl],
        show (xss ++ [ys]).getD i [] = xss.getD i [] by simp [List.getD, List.getElem?_append_left hlt]]
      have hi1 := (h.inner i hlt).below h1
      exact World.ownsRow.kept hi1 hg (own_ne hi1 ho (by decide))
    · obtain rfl : i = xss.length := by simp at hi; omega
      rw [show (us ++ [u]).getD xss.length undef = u by simp [List.getD, ← h.len],
        show (xss ++ [ys]).getD xss.length [] = ys by simp [List.getD]]
      exact World.ownsRow.kept (ownsRow_base hu hB) hg (own_ne hu ho (by decide))
  · rw [List.length_append] at hj
    have hlt : i < xss.length := by simp at hj; omega
    have hl : i < us.length := by rw [h.len]; exact hlt
    rw [show (us ++ [u]).getD i undef = us.getD i undef by simp [List.getD, List.getElem?_append_left hl]] at hg1
    rcases Nat.lt_or_ge j xss.length with hj1 | hge
    · have hlj : j < us.length := by rw [h.len]; exact hj1
      rw [show (us ++ [u]).getD j undef = us.getD j undef by simp [List.getD, List.getElem?_append_left hlj]] at hg2
      exact h.apart i j g hij hj1 hg1 hg2
    · obtain rfl : j = xss.length := by simp at hj; omega
      rw [show (us ++ [u]).getD xss.length undef = u by simp [List.getD, ← h.len]] at hg2
      obtain ⟨_, _, _, b1⟩ := ownsRow_block (h.inner i hlt) hg1
      obtain ⟨_, _, b2, _⟩ := ownsRow_block hu hg2
      omega
def ToRel2 (B g : Nat) (xss : List (List Int)) (w : World) (i : Value) (wr : World) : Prop :=
  ∃ (j : Nat) (us : List Value), j ≤ xss.length ∧ i = .int .i64 (j : Int) ∧ us.length = j ∧
    wr.ownsRow B 77 1 (.slice (some ⟨g, 0, none⟩) xss.length xss.length) xss.length (us ++ List.replicate (xss.length - j) (.slice none 0 0)) ∧ OwnRows wr B us (xss.take j) ∧ Below B w wr
theorem us_set {us : List Value} {j n : Nat} (hj : us.length = j) (hn : j < n) (u z : Value) : (us ++ List.replicate (n - j) z).set j u = (us ++ [u]) ++ List.replicate (n - (j + 1)) z := by
  rw [List.set_append_right _ _ (Nat.le_of_eq hj), hj, Nat.sub_self, show n - j = (n - (j + 1)) + 1 by omega, List.replicate_succ, List.set_cons_zero, List.append_assoc]
  rfl
theorem us_get {us : List Value} {j n : Nat} (hj : us.length = j) (hn : j < n) (z : Value) : (us ++ List.replicate (n - j) z)[j]? = some z := by
  rw [List.getElem?_append_right (Nat.le_of_eq hj), hj, Nat.sub_self, List.getElem?_replicate, if_pos (by omega)]
theorem ToRel2.next {B g j : Nat} {xss : List (List Int)} {us : List Value} {w wr w1 : World} {u : Value} (hj : j < xss.length) (hl : us.length = j) (hg : B ≤ g)
    (ho : wr.ownsRow B 77 1 (.slice (some ⟨g, 0, none⟩) xss.length xss.length) xss.length (us ++ List.replicate (xss.length - j) (.slice none 0 0))) (hr : OwnRows wr B us (xss.take j)) (hb : Below B w wr) (hB : B ≤ wr.heap.size)
    (h1 : Below wr.heap.size wr w1) (hu : OwnI w1 wr.heap.size u (xss.getD j [])) :
    ToRel2 B g xss w (.int .i64 ((j : Int) + 1)) (w1.setCell ⟨g, j, none⟩ u) := by
  have ho1 := ownsRow_below ho h1
  obtain ⟨s1, s2⟩ := ho1.stored j u
  rw [us_set hl hj] at s1
  refine ⟨j + 1, us ++ [u], hj, by simp, by simp [hl], s1, ?_, (hb.trans (h1.mono hB)).setCell hg _⟩
  have := hr.push h1 hu ho1 s2 hB
  rw [List.take_succ_eq_append_getElem hj]
  have e : xss[j] = xss.getD j [] := by simp [List.getD, hj]
  rw [e]; exact this
end Go.Proofs.YtjajemdeioabkaaDoor.Cpy
