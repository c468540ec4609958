/- slices.Reverse on a list of int64 of the call's own. -/
import Derived.Test.YtnbeibofmikihaaMem
import Derived.BigRegion
namespace Go.Proofs.Ytnbeibofmikihaa.Rev
open Go.RowKit Go.Proofs.Ytnbeibofmikihaa Go.Proofs.Ytnbeibofmikihaa.Base Go.Proofs.Ytnbeibofmikihaa.Mem
set_option linter.unusedVariables false

/-- the list with k elements exchanged at each end -/
def revTo (xs : List Int) (k : Nat) : List Int := (List.range xs.length).map fun p => if p < k ∨ xs.length - k ≤ p then xs.getD (xs.length - 1 - p) 0 else xs.getD p 0
theorem revTo_len (xs : List Int) (k : Nat) : (revTo xs k).length = xs.length := by simp [revTo]
theorem revTo_get (xs : List Int) (k p : Nat) (h : p < xs.length) : (revTo xs k).getD p 0 = if p < k ∨ xs.length - k ≤ p then xs.getD (xs.length - 1 - p) 0 else xs.getD p 0 := by simp [revTo, h]
theorem revTo_zero (xs : List Int) : revTo xs 0 = xs := by
  refine getD_ext 0 (revTo_len xs 0) fun i hi => ?_
  rw [revTo_len] at hi
  rw [revTo_get xs 0 i hi, if_neg (by omega)]
theorem revTo_done (xs : List Int) (k : Nat) (h : xs.length ≤ 2 * k + 1) : revTo xs k = xs.reverse := by
  refine getD_ext 0 (by rw [revTo_len, List.length_reverse]) fun i hi => ?_
  rw [revTo_len] at hi
  rw [revTo_get xs k i hi]
  have hr : xs.reverse.getD i 0 = xs.getD (xs.length - 1 - i) 0 := by simp [List.getD, List.getElem?_reverse hi]
  rw [hr]
  by_cases hc : i < k ∨ xs.length - k ≤ i
  · rw [if_pos hc]
  · rw [if_neg hc, show xs.length - 1 - i = i by omega]
theorem revTo_succ (xs : List Int) (k : Nat) (h : 2 * k + 1 < xs.length) :
    ((revTo xs k).set k ((revTo xs k).getD (xs.length - 1 - k) 0)).set (xs.length - 1 - k) ((revTo xs k).getD k 0) = revTo xs (k + 1) := by
  refine getD_ext 0 (by simp [revTo_len]) fun i hi => ?_
  simp only [List.length_set, revTo_len] at hi
  rw [revTo_get xs (k + 1) i hi]
  have e1 : (revTo xs k).getD (xs.length - 1 - k) 0 = xs.getD (xs.length - 1 - k) 0 := by rw [revTo_get _ _ _ (by omega), if_neg (by omega)]
  have e2 : (revTo xs k).getD k 0 = xs.getD k 0 := by rw [revTo_get _ _ _ (by omega), if_neg (by omega)]
  rw [e1, e2]
  by_cases h1 : i = xs.length - 1 - k
  · subst h1
    rw [if_pos (by omega), show xs.length - 1 - (xs.length - 1 - k) = k by omega]
    simp [List.getD, revTo_len, hi]
  · by_cases h2 : i = k
    · subst h2
      rw [if_pos (by omega)]
      simp [List.getD, revTo_len, hi, show ¬ xs.length - 1 - i = i from fun e => h1 e.symm]
    · have e3 : (((revTo xs k).set k (xs.getD (xs.length - 1 - k) 0)).set (xs.length - 1 - k) (xs.getD k 0)).getD i 0 = (revTo xs k).getD i 0 := by
        simp [List.getD, show ¬ xs.length - 1 - k = i from fun e => h1 e.symm, show ¬ k = i from fun e => h2 e.symm]
      rw [e3, revTo_get xs k i hi]
      by_cases hc : i < k ∨ xs.length - k ≤ i
      · rw [if_pos hc, if_pos (by omega)]
      · rw [if_neg hc, if_neg (by omega)]

def RevRel (B g c : Nat) (xs : List Int) (w : World) (iv jv : Value) (wr : World) : Prop :=
  ∃ k : Nat, 2 * k ≤ xs.length ∧ iv = .int .i64 (k : Int) ∧ jv = .int .i64 ((xs.length : Int) - 1 - (k : Int)) ∧ wr.ownsRow B 2 1 (.slice (some ⟨g, 0, none⟩) xs.length c) xs.length (ints (revTo xs k)) ∧ w.grownBy wr (some g)
theorem RevRel.next {B g c k : Nat} {xs : List Int} {w wr wx : World} (hk : 2 * k + 1 < xs.length) (h : wr.ownsRow B 2 1 (.slice (some ⟨g, 0, none⟩) xs.length c) xs.length (ints (revTo xs k))) (hg : w.grownBy wr (some g))
    (hx : wx.heap = ((wr.setCell ⟨g, k, none⟩ (.int .i64 ((revTo xs k).getD (xs.length - 1 - k) 0))).setCell ⟨g, xs.length - 1 - k, none⟩ (.int .i64 ((revTo xs k).getD k 0))).heap) (hx1 : wx.os = wr.os) (hx2 : wx.tape = wr.tape) (hx3 : wx.output = wr.output) :
    RevRel B g c xs w (.int .i64 ((k : Int) + 1)) (.int .i64 ((xs.length : Int) - 1 - (k : Int) - 1)) wx := by
  obtain ⟨s1, g1⟩ := h.stored k (.int .i64 ((revTo xs k).getD (xs.length - 1 - k) 0))
  obtain ⟨s2, g2⟩ := s1.stored (xs.length - 1 - k) (.int .i64 ((revTo xs k).getD k 0))
  rw [ints_set, ints_set, revTo_succ xs k hk] at s2
  have g3 := grown_trans hg (grown_trans g1 g2)
  refine ⟨k + 1, by omega, by simp, by congr 1; simp; omega, ?_, ?_⟩
  · obtain ⟨a1, a2⟩ := s2
    refine ⟨a1, ?_⟩
    rcases a2 with h0 | ⟨g', cap, cur, b1, b2, b3, b4⟩
    · exact .inl h0
    · exact .inr ⟨g', cap, cur, b1, b2, by rw [hx]; exact b3, b4⟩
  · exact ⟨hx1.trans hg.os, hx2.trans hg.tape, hx3.trans hg.output, by rw [hx]; exact g3.size, fun i hi hne => by rw [hx]; exact g3.block i hi hne⟩
set_option maxHeartbeats 1000000 in
theorem reverse_any (A : Option Addr) (c B : Nat) (xs : List Int) (w : World) (hx : OwnI w B (.slice A xs.length c) xs) (hl : xs.length ≤ 1048576) :
    Calls Try.prog 85 #[.slice A xs.length c] w fun e w' => e = .returned (.tuple #[]) ∧ OwnI w' B (.slice A xs.length c) xs.reverse ∧ w.grownBy w' (Value.slice A xs.length c).ownBlock := by
  by_cases h0 : xs.length = 0
  · have e0 : xs = [] := List.eq_nil_of_length_eq_zero h0
    subst e0
    go_enter Try.func85, Try.ntmps85
    have HX := Lib.hid hx
    clear hx
    go_wp2
    refine wp_loop_rounds 1 ?_
    rw [rounds_succ]
    go_wp2
    go_end0
    exact ⟨rfl, by simpa using HX.out, World.grownBy.refl w _⟩
  · obtain ⟨A', c', e, hf⟩ := hx.form
    injection e with e1 e2 e3
    subst e1 e3
    obtain ⟨g, rfl, _, hgs⟩ := hf (by omega)
    have hR : RevRel B g c xs w (.int .i64 0) (.int .i64 ((xs.length : Int) - 1)) w := ⟨0, by omega, rfl, by simp, by rw [revTo_zero]; exact hx, World.grownBy.refl w _⟩
    have HR := Lib.hid hR
    clear hR hx hf
    go_enter Try.func85, Try.ntmps85
    go_wp2
    go_loopw [2, 3] (fun i j wr => RevRel B g c xs w i j wr) (fun i _ _ => xs.length - (intOf i).toNat)
    case atStart => exact HR.out
    case round =>
      obtain ⟨k, hk, rfl, rfl, hrow, hg⟩ := hrel
      by_cases hlt : 2 * k + 1 < xs.length
      · have c1 := hrow.cellAt k (by omega)
        have c2 := hrow.cellAt (xs.length - 1 - k) (by omega)
        rw [ints_get _ _ (by rw [revTo_len]; omega)] at c1 c2
        have f1 := hrow.frozenAt k
        have f2 := hrow.frozenAt (xs.length - 1 - k)
        have HN := Lib.hid (fun wx => RevRel.next (wx := wx) hlt hrow hg)
        have HW := Lib.hid hg
        clear hrow hg HR
        generalize (revTo xs k).getD k 0 = a at *
        generalize (revTo xs k).getD (xs.length - 1 - k) 0 = b at *
        have ej : ((xs.length : Int) - 1 - (k : Int)) = ((xs.length - 1 - k : Nat) : Int) := by omega
        obtain ⟨m, hm⟩ : ∃ m, m = xs.length - 1 - k := ⟨_, rfl⟩
        have hkm : k < m := by omega
        have hml : m < xs.length := by omega
        rw [← hm] at c2 f2 HN ej
        rw [ej]
        have HM := Lib.hid hm
        have HE := Lib.hid ej
        clear hm ej
        go_wp2
        go_region
        go_wp2
        go_roundw
        case rel =>
          rw [← HE.out]
          exact HN.out _ rfl rfl rfl rfl
        case measure => simp [intOf]; omega
      · have HO := Lib.hid hrow
        have HG := Lib.hid hg
        have HD := Lib.hid (revTo_done xs k (by omega))
        clear hrow hg HR
        go_wp2
        go_end0
        refine ⟨rfl, ?_, HG.out⟩
        have := HO.out
        rw [HD.out] at this
        show wr.ownsRow B 2 1 _ xs.reverse.length (ints xs.reverse)
        rw [List.length_reverse]
        exact this
end Go.Proofs.Ytnbeibofmikihaa.Rev
