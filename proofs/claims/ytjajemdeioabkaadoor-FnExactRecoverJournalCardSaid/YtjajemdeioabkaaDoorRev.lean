/- slices.Reverse on a list of int64 of the call's own. -/
import Derived.Test.YtjajemdeioabkaaDoorMem
import Derived.BigRegion
namespace Go.Proofs.YtjajemdeioabkaaDoor.Rev
open Go.RowKit Go.Proofs.YtjajemdeioabkaaDoor Go.Proofs.YtjajemdeioabkaaDoor.Base Go.Proofs.YtjajemdeioabkaaDoor.Mem
set_option linter.unusedVariables false

/-- the list with k elements exchanged at each end -/
def revTo (xs : List Int) (k : Nat) : List Int := (List.range xs.length).map fun p => if p < k ∨ xs.length - k ≤ p then xs.getD (xs.length - 1 - p) 0 else xs.getD p 0
theorem revTo_len (xs : List Int) (k : Nat) : (revTo xs k).length = xs.length := by simp [revTo]
theorem revTo_get (xs : List Int) (k p : Nat) (h : p < xs.length) : (revTo xs k).getD p 0 = if p < k ∨ xs.length - k ≤ p then xs.getD (xs.length - 1 - p) 0 else xs.getD p 0 := by simp [revTo, h]
theorem revTo_zero (xs : List Int) : revTo xs 0 = xs := by
  refine getD_ext 0 (revTo_len xs 0) fun i hi => ?_
  rw [revTo_len] at hi
  rw [revTo_get xs 0 i hi, if_neg (by omega)]
theorem revTo_done (xs : List Int) (k : Nat) (h : xs.length ≤ 2 * k + 1) : revTo xs k = xs.reverse := by
  refine getD_ext 0 (by rw [revTo_len, List.length_reverse]) fun i hi => ?_
  rw [revTo_len] at hi
  rw [revTo_get xs k i hi]
  have hr : xs.reverse.getD i 0 = xs.getD (xs.length - 1 - i) 0 := by simp [List.getD, List.getElem?_reverse hi]
  rw [hr]
  by_cases hc : i < k ∨ xs.length - k ≤ i
  · rw [if_pos hc]
  · rw [if_neg hc, show xs.length - 1 - i = i by omega]
theorem revTo_succ (xs : List Int) (k : Nat) (h : 2 * k + 1 < xs.length) :
    ((revTo xs k).set k ((revTo xs k).getD (xs.length - 1 - k) 0)).set (xs.length - 1 - k) ((revTo xs k).getD k 0) = revTo xs (k + 1) := by
  refine getD_ext 0 (by simp [revTo_len]) fun i hi => ?_
  simp only [List.length_set, revTo_len] at hi
  rw [revTo_get xs (k + 1) i hi]
  have e1 : (revTo xs k).getD (xs.length - 1 - k) 0 = xs.getD (xs.length - 1 - k) 0 := by rw [revTo_get _ _ _ (by omega), if_neg (by omega)]
  have e2 : (revTo xs k).getD k 0 = xs.getD k 0 := by rw [revTo_get _ _ _ (by omega), if_neg (by omega)]
  rw [e1, e2]
  by_cases h1 : i = xs.length - 1 - k
  · subst h1
    rw [if_pos (by omega), show xs.length - 1 - (xs.length - 1 - k) = k by omega]
    simp [List.getD, revTo_len, hi]
  · by_cases h2 : i = k
    · subst h2
      rw [if_pos (by omega)]
      simp [List.getD, revTo_len, hi, show ¬ xs.length - 1 - i = i from fun e => h1 e.symm]
    · have e3 : (((revTo xs k).set k (xs.getD (xs.length - 1 - k) 0)).set (xs.length - 1 - k) (xs.getD k 0)).getD i 0 = (revTo xs k).getD i 0 := by
        simp [List.getD, show ¬ xs.length - 1 - k = i from fun e => h1 e.symm, show ¬ k = i from fun e => h2 e.symm]
      rw [e3, revTo_get xs k i hi]
      by_cases hc : i < k ∨ xs.length - k ≤ i
      · rw [if_pos hc, if_pos (by omega)]
      · rw [if_neg hc, if_neg (by omega)]

def RevRel (B g c : Nat) (xs : List Int) (w : World) (iv jv : Value) (wr : World) : Prop :=
  ∃ k : Nat, 2 * k ≤ xs.length ∧ iv = .int .i64 (k : Int) ∧ jv = .int .i64 ((xs.length : Int) - 1 - (k : Int)) ∧ wr.ownsRow B 2 1 (.slice (some ⟨g, 0, none⟩) xs.length c) xs.length (ints (revTo xs k)) ∧ w.grownBy wr (some g)
theorem RevRel.next {B g c k : Nat} {xs : List Int} {w wr wx : World} (hk : 2 * k + 1 < xs.length) (h : wr.ownsRow B 2 1 (.slice (some ⟨g, 0, none⟩) xs.length c) xs.length (ints (revTo xs k))) (hg : w.grownBy wr (some g))
    (hx : wx.heap = ((wr.setCell ⟨g, k, none⟩ (.int .i64 ((revTo xs k).getD (xs.length - 1 - k) 0))).setCell ⟨g, xs.length - 1 - k, none⟩ (.int .i64 ((revTo xs k).getD k 0))).heap) (hx1 : wx.os = wr.os) (hx2 : wx.tape = wr.tape) (hx3 : wx.output = wr.output) :
    RevRel B g c xs w (.int .i64 ((k : Int) + 1)) (.int .i64 ((xs.length : Int) - 1 - (k : Int) - 1)) wx := by
  obtain ⟨s1, g1⟩ := h.stored k (.int .i64 ((revTo xs k).getD (xs.length - 1 - k) 0))
  obtain ⟨s2, g2⟩ := s1.stored (xs.length - 1 - k) (.int .i64 ((revTo xs k).getD k 0))
  rw [ints_set, ints_set, revTo_succ xs k hk] at s2
  have g3 := grown_trans hg (grown_trans g1 g2)
  refine ⟨k + 1, by omega, by simp, by congr 1; simp; omega, ?_, ?_⟩
  · obtain ⟨a1, a2⟩ := s2
    refine ⟨a1, ?_⟩
    rcases a2 with h0 | ⟨g', cap, cur, b1, b2, b3, b4⟩
    · exact .inl h0
    · exact .inr ⟨g', cap, cur, b1, b2, by rw [hx]; exact b3, b4⟩
  · exact ⟨hx1.trans hg.os, hx2.trans hg.tape, hx3.trans hg.output, by rw [hx]; exact g3.size, fun i hi hne => by rw [hx]; exact g3.block i hi hne⟩
end Go.Proofs.YtjajemdeioabkaaDoor.Rev
