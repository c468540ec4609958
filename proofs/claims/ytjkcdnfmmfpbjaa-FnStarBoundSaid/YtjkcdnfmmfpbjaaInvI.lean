/- Numbers inverted at the point: the program. -/
import Derived.Test.YtjkcdnfmmfpbjaaInvS
import Derived.Test.YtjkcdnfmmfpbjaaNatOver
namespace Go.Proofs.Ytjkcdnfmmfpbjaa.Inv
open Go.RowKit Go.Proofs.Ytjkcdnfmmfpbjaa Go.Proofs.Ytjkcdnfmmfpbjaa.Base Go.Proofs.Ytjkcdnfmmfpbjaa.Mem Go.Proofs.Ytjkcdnfmmfpbjaa.NatM Go.Proofs.Ytjkcdnfmmfpbjaa.Nat32
set_option linter.unusedVariables false
/-- the number that a natural in memory says -/
def natOf (w : World) : Value → Nat
  | .slice (some a) n _ => val ((List.range n).map fun i => match w.cell? ⟨a.block, a.off + i, none⟩ with
    | some (.int _ x) => x.toNat
    | _ => 0)
  | _ => 0
theorem natOf_eq {w : World} {B c : Nat} {A : Option Addr} {xs : List Nat} (h : RdU w B A xs) : natOf w (.slice A xs.length c) = val xs := by
  rcases Nat.eq_zero_or_pos xs.length with h0 | h0
  · have e := List.length_eq_zero_iff.1 h0
    subst e
    cases A <;> simp [natOf, val]
  · obtain ⟨b, off, rfl, _, hc⟩ := h h0
    show val _ = val xs
    congr 1
    refine List.ext_getElem (by simp) fun i h1 h2 => ?_
    simp only [List.getElem_map, List.getElem_range]
    rw [hc i h2]
    simp [List.getD, h2]
attribute [irreducible] natOf
def ShRel (x y : Nat) (w : World) (av bv : Value) (wr : World) : Prop :=
  ∃ (p q : Nat) (A A' : Option Addr) (c c' : Nat), av = .slice A (natL p).length c ∧ bv = .slice A' (natL q).length c' ∧ p ≤ 36000000 ∧ q ≤ 36000000 ∧ Hid (Nat.gcd p q = Nat.gcd x y) ∧ Hid (RdU wr wr.heap.size A (natL p)) ∧ Hid (RdU wr wr.heap.size A' (natL q)) ∧ Hid (Below w.heap.size w wr)
theorem len_one {p : Nat} (h : p ≤ 36000000) : (natL p).length ≤ 1 := natL_len_le (by unfold B32; omega)
theorem len_pos {q : Nat} (h : 0 < q) : 0 < (natL q).length := by
  rcases Nat.eq_zero_or_pos (natL q).length with h0 | h0
  · have := natL_val q
    rw [List.length_eq_zero_iff.1 h0, val] at this
    omega
  · exact h0
set_option maxHeartbeats 2000000 in
theorem shared_any (x y : Nat) (A A' : Option Addr) (c c' : Nat) (w : World) (hx : RdU w w.heap.size A (natL x)) (hy : RdU w w.heap.size A' (natL y)) (hl : x ≤ 36000000) (hl' : y ≤ 36000000) :
    Calls Try.prog 95 #[.slice A (natL x).length c, .slice A' (natL y).length c'] w (NRet (Nat.gcd x y) w) := by
  have H0 : Hid (ShRel x y w (.slice A (natL x).length c) (.slice A' (natL y).length c') w) := Lib.hid ⟨x, y, A, A', c, c', rfl, rfl, hl, hl', Lib.hid rfl, Lib.hid hx, Lib.hid hy, Lib.hid (Below.refl _ _)⟩
  clear hx hy
  go_enter Try.func95, Try.ntmps95
  go_wp2
  go_loopw [0, 1] (fun av bv wr => ShRel x y w av bv wr) (fun _ bv wr => natOf wr bv)
  case atStart => exact H0.out
  case round =>
    obtain ⟨p, q, A1, A2, c1, c2, rfl, rfl, hp, hq, hg, hr1, hr2, hb⟩ := hrel
    clear H0
    by_cases hpos : 0 < q
    · have hlq := len_pos hpos
      have l1 := len_one hp
      have l2 := len_one hq
      have HO := Lib.hid (over_any p q A1 A2 c1 c2 wr.heap.size wr.heap.size wr hr1.out (Nat.le_refl _) hr2.out (Nat.le_refl _) (by omega) (by omega) hpos)
      go_wp2_with fail
      refine HO.out.mono ?_
      rintro e w1 ⟨A3, c3, A4, c4, rfl, hr3, hr4, hb2⟩
      clear HO
      have hlt := Nat.mod_lt p hpos
      have HN : Hid (ShRel x y w (.slice A2 (natL q).length c2) (.slice A4 (natL (p % q)).length c4) w1) :=
        Lib.hid ⟨q, p % q, A2, A4, c2, c4, rfl, rfl, hq, by omega, Lib.hid (by rw [← hg.out, Nat.gcd_comm q, ← Nat.gcd_rec, Nat.gcd_comm]), Lib.hid ((hr2.out.below hb2 (Nat.le_refl _)).more hb2.size), Lib.hid hr4, Lib.hid (hb.out.trans (hb2.mono hb.out.size))⟩
      have HM : Hid (natOf w1 (.slice A4 (natL (p % q)).length c4) < natOf wr (.slice A2 (natL q).length c2)) := Lib.hid (by
        rw [natOf_eq hr4, natOf_eq hr2.out, natL_val, natL_val]; exact hlt)
      clear hr3 hr4 hb2 hlt
      go_wp2
      go_roundw
      case rel => exact HN.out
      case measure => exact HM.out
    · obtain rfl : q = 0 := by omega
      have hG := hg.out
      rw [Nat.gcd_zero_right] at hG
      rw [natL_zero, List.length_nil]
      have HR : Hid (NRet (Nat.gcd x y) w (.returned (.slice A1 (natL p).length c1)) wr) := Lib.hid ⟨A1, c1, by rw [hG], by rw [← hG]; exact hr1.out, hb.out⟩
      clear hG
      go_wp2
      go_ret
      exact HR.out
/-- three cells of a block -/
structure Rat3 (W : World) (b : Nat) (x0 x1 x2 : Value) : Prop where
  c0 : W.cell? ⟨b, 0, none⟩ = some x0
  c1 : W.cell? ⟨b, 1, none⟩ = some x1
  c2 : W.cell? ⟨b, 2, none⟩ = some x2
  f0 : W.frozen? ⟨b, 0, none⟩ = false
  f1 : W.frozen? ⟨b, 1, none⟩ = false
  f2 : W.frozen? ⟨b, 2, none⟩ = false
theorem Rat3.below {W W' : World} {B b : Nat} {x0 x1 x2 : Value} (h : Rat3 W b x0 x1 x2) (hb : Below B W W') (hlt : b < B) : Rat3 W' b x0 x1 x2 :=
  ⟨(hb.cell (p := ⟨b, 0, none⟩) hlt).trans h.c0, (hb.cell (p := ⟨b, 1, none⟩) hlt).trans h.c1, (hb.cell (p := ⟨b, 2, none⟩) hlt).trans h.c2, (hb.frozen (p := ⟨b, 0, none⟩) hlt).trans h.f0, (hb.frozen (p := ⟨b, 1, none⟩) hlt).trans h.f1, (hb.frozen (p := ⟨b, 2, none⟩) hlt).trans h.f2⟩
theorem frz (W : World) (p a : Addr) (v : Value) : (W.setCell p v).frozen? a = W.frozen? a := World.frozen?_setCell W p a v
theorem Rat3.set1 {W : World} {b : Nat} {x0 x1 x2 : Value} (h : Rat3 W b x0 x1 x2) (v : Value) : Rat3 (W.setCell ⟨b, 1, none⟩ v) b x0 v x2 :=
  ⟨by rw [World.cell?_setCell_other _ _ _ _ (by simp)]; exact h.c0, World.cell?_setCell_same _ _ _ h.c1, by rw [World.cell?_setCell_other _ _ _ _ (by simp)]; exact h.c2, by rw [frz]; exact h.f0, by rw [frz]; exact h.f1, by rw [frz]; exact h.f2⟩
theorem Rat3.set2 {W : World} {b : Nat} {x0 x1 x2 : Value} (h : Rat3 W b x0 x1 x2) (v : Value) : Rat3 (W.setCell ⟨b, 2, none⟩ v) b x0 x1 v :=
  ⟨by rw [World.cell?_setCell_other _ _ _ _ (by simp)]; exact h.c0, by rw [World.cell?_setCell_other _ _ _ _ (by simp)]; exact h.c1, World.cell?_setCell_same _ _ _ h.c2, by rw [frz]; exact h.f0, by rw [frz]; exact h.f1, by rw [frz]; exact h.f2⟩
theorem Rat3.set0 {W : World} {b : Nat} {x0 x1 x2 : Value} (h : Rat3 W b x0 x1 x2) (v : Value) : Rat3 (W.setCell ⟨b, 0, none⟩ v) b v x1 x2 :=
  ⟨World.cell?_setCell_same _ _ _ h.c0, by rw [World.cell?_setCell_other _ _ _ _ (by simp)]; exact h.c1, by rw [World.cell?_setCell_other _ _ _ _ (by simp)]; exact h.c2, by rw [frz]; exact h.f0, by rw [frz]; exact h.f1, by rw [frz]; exact h.f2⟩
theorem Rat3.far {W : World} {b b' i : Nat} {x0 x1 x2 : Value} (h : Rat3 W b x0 x1 x2) (hne : b' ≠ b) (v : Value) : Rat3 (W.setCell ⟨b', i, none⟩ v) b x0 x1 x2 :=
  ⟨by rw [World.cell?_setCell_far _ _ _ _ hne]; exact h.c0, by rw [World.cell?_setCell_far _ _ _ _ hne]; exact h.c1, by rw [World.cell?_setCell_far _ _ _ _ hne]; exact h.c2, by rw [frz]; exact h.f0, by rw [frz]; exact h.f1, by rw [frz]; exact h.f2⟩
theorem Rat3.new (w : World) (x0 x1 x2 : Value) (T : TypeId) : Rat3 (w.alloc (.cells #[x0, x1, x2] T)) w.heap.size x0 x1 x2 :=
  ⟨World.cell?_alloc_new w _ T 0, World.cell?_alloc_new w _ T 1, World.cell?_alloc_new w _ T 2, by simp, by simp, by simp⟩
/-- a ratio that is returned -/
def RatRet (p q : Nat) (w : World) (e : Ending) (w' : World) : Prop := ∃ A c A' c', e = .returned (.agg #[.bool false, .slice A (natL p).length c, .slice A' (natL q).length c']) ∧ RdU w' w'.heap.size A (natL p) ∧ RdU w' w'.heap.size A' (natL q) ∧ Below w.heap.size w w'
end Go.Proofs.Ytjkcdnfmmfpbjaa.Inv
