/- Numbers inverted at the point: the program's ratios. -/
import Derived.Test.YtjkcdnfmmfpbjaaInvI
namespace Go.Proofs.Ytjkcdnfmmfpbjaa.Inv
open Go.RowKit Go.Proofs.Ytjkcdnfmmfpbjaa Go.Proofs.Ytjkcdnfmmfpbjaa.Base Go.Proofs.Ytjkcdnfmmfpbjaa.Mem Go.Proofs.Ytjkcdnfmmfpbjaa.NatM Go.Proofs.Ytjkcdnfmmfpbjaa.Nat32
set_option linter.unusedVariables false
theorem _root_.Go.Proofs.Ytjkcdnfmmfpbjaa.Nat32.RdU.non {w : World} {B : Nat} {A : Option Addr} {xs : List Nat} (h : RdU w B A xs) {p : Addr} {x : Value} (hp : w.cell? p = some x) (hx : ∀ z, x ≠ .int .u32 z) (v : Value) : RdU (w.setCell p v) B A xs := fun h0 => by
  obtain ⟨b, off, e, hlt, hc⟩ := h h0
  refine ⟨b, off, e, hlt, fun i hi => ?_⟩
  rw [World.cell?_setCell_other _ _ _ _ (fun e => by
    have := hc i hi
    rw [← e, hp] at this
    injection this with this
    exact hx _ this)]
  exact hc i hi
theorem not_slice (a : Option Addr) (n c : Nat) : ∀ z, Value.slice a n c ≠ .int .u32 z := fun z h => by cases h
theorem not_bool (b : Bool) : ∀ z, Value.bool b ≠ .int .u32 z := fun z h => by cases h
set_option maxHeartbeats 2000000 in
theorem lowest_pos (v u : Nat) (A A' : Option Addr) (c c' : Nat) (w : World) (hx : RdU w w.heap.size A (natL v)) (hy : RdU w w.heap.size A' (natL u)) (hv : v ≤ 36000000) (hu : u ≤ 36000000) (hv0 : 0 < v) (hu0 : 0 < u) :
    Calls Try.prog 79 #[.agg #[.bool false, .slice A (natL v).length c, .slice A' (natL u).length c']] w (RatRet (v / Nat.gcd v u) (u / Nat.gcd v u) w) := by
  have hg0 : 0 < Nat.gcd v u := Nat.gcd_pos_of_pos_left u hv0
  have lv := len_pos hv0
  have l1 := len_one hv
  have l2 := len_one hu
  have hgl : Nat.gcd v u ≤ 36000000 := Nat.le_trans (Nat.gcd_le_left u hv0) hv
  have l3 := len_one hgl
  obtain ⟨W0, hW0⟩ : ∃ W0, W0 = (w.alloc (.cells #[.bool false, .slice A (natL v).length c, .slice A' (natL u).length c'] 76)).alloc (.cells #[.bool false, .slice none 0 0, .slice none 0 0] 76) := ⟨_, rfl⟩
  have hB0 : Below w.heap.size w W0 := by rw [hW0]; exact ((Below.refl _ _).alloc (Nat.le_refl _) _).alloc (by simp) _
  have r1 : Rat3 W0 w.heap.size (.bool false) (.slice A (natL v).length c) (.slice A' (natL u).length c') := by
    rw [hW0]; exact (Rat3.new w _ _ _ _).below ((Below.refl (w.heap.size + 1) _).alloc (by simp) _) (Nat.lt_succ_self _)
  have r2 : Rat3 W0 (w.heap.size + 1) (.bool false) (.slice none 0 0) (.slice none 0 0) := by
    rw [hW0]
    have := Rat3.new (w.alloc (.cells #[.bool false, .slice A (natL v).length c, .slice A' (natL u).length c'] 76)) (.bool false) (.slice none 0 0) (.slice none 0 0) 76
    simpa using this
  have hz0 : w.heap.size + 2 ≤ W0.heap.size := by rw [hW0]; simp
  have hS := Lib.hid (shared_any v u A A' c c' W0 ((hx.below hB0 (Nat.le_refl _)).more hB0.size) ((hy.below hB0 (Nat.le_refl _)).more hB0.size) hv hu)
  have HX := Lib.hid (hx.below hB0 (Nat.le_refl _))
  have HY := Lib.hid (hy.below hB0 (Nat.le_refl _))
  have HB0 := Lib.hid hB0
  clear hx hy hB0
  go_enter Try.func79, Try.ntmps79
  go_wp2_with fail
  rw [← hW0]
  refine hS.out.mono ?_
  rintro e w1 ⟨A1, c1, rfl, hg1, hb1⟩
  clear hS hW0
  have hz1 := hb1.size
  have q1 := r1.below hb1 (by omega)
  have q2 := r2.below hb1 (by omega)
  have hBw1 : Below w.heap.size w w1 := HB0.out.trans (hb1.mono HB0.out.size)
  have HO := Lib.hid (over_any v (Nat.gcd v u) A A1 c c1 w.heap.size w1.heap.size w1 (HX.out.below hb1 HB0.out.size) (by omega) hg1 (Nat.le_refl _) (by omega) (by omega) hg0)
  have HBw1 := Lib.hid hBw1
  have Hg1 := Lib.hid hg1
  have HY1 := Lib.hid (HY.out.below hb1 HB0.out.size)
  have Q1 := Lib.hid q1
  have Q2 := Lib.hid q2
  obtain ⟨d0, d1, d2, f0, f1, f2⟩ := q1
  clear r1 r2 HX HY HB0 hb1 hg1 hBw1 q2
  go_wp2_with fail
  refine HO.out.mono ?_
  rintro e w2 ⟨A2, c2, A3, c3, rfl, hr2, _, hb2⟩
  clear HO d0 d1 d2 f0 f1 f2
  have hz2 := hb2.size
  have q1 := Q1.out.below hb2 (by omega)
  have q2 := Q2.out.below hb2 (by omega)
  obtain ⟨w3, hw3⟩ : ∃ w3, w3 = w2.setCell ⟨w.heap.size, 1, none⟩ (.slice A2 (natL (v / Nat.gcd v u)).length c2) := ⟨_, rfl⟩
  have hb3 : Below w.heap.size w w3 := by rw [hw3]; exact (HBw1.out.trans (hb2.mono (by omega))).setCell (Nat.le_refl _) _
  have hz3 : w3.heap.size = w2.heap.size := by rw [hw3]; simp
  have t1 : Rat3 w3 w.heap.size (.bool false) (.slice A2 (natL (v / Nat.gcd v u)).length c2) (.slice A' (natL u).length c') := by rw [hw3]; exact q1.set1 _
  have t2 : Rat3 w3 (w.heap.size + 1) (.bool false) (.slice none 0 0) (.slice none 0 0) := by rw [hw3]; exact q2.far (by omega) _
  have hr3 : RdU w3 w3.heap.size A2 (natL (v / Nat.gcd v u)) := by rw [hz3, hw3]; exact hr2.non q1.c1 (not_slice _ _ _) _
  have hg3 : RdU w3 w3.heap.size A1 (natL (Nat.gcd v u)) := by
    rw [hz3, hw3]; exact ((Hg1.out.below hb2 (Nat.le_refl _)).more hb2.size).non q1.c1 (not_slice _ _ _) _
  have hy3 : RdU w3 w3.heap.size A' (natL u) := by
    rw [hz3, hw3]; exact ((HY1.out.below hb2 (by omega)).more (by omega)).non q1.c1 (not_slice _ _ _) _
  have HO := Lib.hid (over_any u (Nat.gcd v u) A' A1 c' c1 w3.heap.size w3.heap.size w3 hy3 (Nat.le_refl _) hg3 (Nat.le_refl _) (by omega) (by omega) hg0)
  have HR3 := Lib.hid hr3
  have HB3 := Lib.hid hb3
  have T1 := Lib.hid t1
  have T2 := Lib.hid t2
  have Hw3 := Lib.hid hw3
  obtain ⟨d0, d1, d2, f0, f1, f2⟩ := q1
  clear hb3 t1 t2 hr3 hg3 hy3 hw3 hr2 hb2 q2 Q1 Q2 Hg1 HY1 HBw1
  go_wp2_with fail
  rw [← Hw3.out]
  refine HO.out.mono ?_
  rintro e w4 ⟨A4, c4, A5, c5, rfl, hr4, _, hb4⟩
  clear HO d0 d1 d2 f0 f1 f2
  have hz4 := hb4.size
  have q1 := T1.out.below hb4 (by omega)
  have q2 := T2.out.below hb4 (by omega)
  have hb5 : Below w.heap.size w w4 := HB3.out.trans (hb4.mono (by omega))
  have hr5 : RdU w4 w4.heap.size A2 (natL (v / Nat.gcd v u)) := (HR3.out.below hb4 (Nat.le_refl _)).more hb4.size
  obtain ⟨s1, hs1⟩ : ∃ s1, s1 = Value.slice A2 (natL (v / Nat.gcd v u)).length c2 := ⟨_, rfl⟩
  obtain ⟨s2, hs2⟩ : ∃ s2, s2 = Value.slice A4 (natL (u / Nat.gcd v u)).length c4 := ⟨_, rfl⟩
  have n5 := q1.set2 s2
  have m5 := q2.far (show w.heap.size ≠ w.heap.size + 1 by omega) (i := 2) s2
  have m6 := m5.set0 (.bool false)
  have m7 := m6.set1 s1
  have m8 := m7.set2 s2
  have n6 := n5.far (show w.heap.size + 1 ≠ w.heap.size by omega) (i := 0) (.bool false)
  have HR : Hid (RatRet (v / Nat.gcd v u) (u / Nat.gcd v u) w (.returned (.agg #[.bool false, s1, s2])) ((((w4.setCell ⟨w.heap.size, 2, none⟩ s2).setCell ⟨w.heap.size + 1, 0, none⟩ (.bool false)).setCell ⟨w.heap.size + 1, 1, none⟩ s1).setCell ⟨w.heap.size + 1, 2, none⟩ s2)) := Lib.hid (by
    refine ⟨A2, c2, A4, c4, by rw [hs1, hs2], ?_, ?_, ?_⟩
    · simp only [World.size_setCell]
      exact (((hr5.non q1.c2 (not_slice _ _ _) _).non m5.c0 (not_bool _) _).non m6.c1 (not_slice _ _ _) _).non m7.c2 (not_slice _ _ _) _
    · simp only [World.size_setCell]
      exact (((hr4.non q1.c2 (not_slice _ _ _) _).non m5.c0 (not_bool _) _).non m6.c1 (not_slice _ _ _) _).non m7.c2 (not_slice _ _ _) _
    · exact (((hb5.setCell (Nat.le_refl _) _).setCell (Nat.le_succ _) _).setCell (Nat.le_succ _) _).setCell (Nat.le_succ _) _)
  subst hs1 hs2
  obtain ⟨d0, d1, d2, df0, df1, df2⟩ := q1
  obtain ⟨p0, p1, p2, pf0, pf1, pf2⟩ := q2
  obtain ⟨x0, x1, x2, xf0, xf1, xf2⟩ := n5
  obtain ⟨y0, y1, y2, yf0, yf1, yf2⟩ := m5
  obtain ⟨m60, m61, m62, mf60, mf61, mf62⟩ := m6
  obtain ⟨m70, m71, m72, mf70, mf71, mf72⟩ := m7
  obtain ⟨m80, m81, m82, mf80, mf81, mf82⟩ := m8
  clear n6 hb5 hr5 hr4 hb4
  go_wp2
  refine bodyPost_ret (v := .agg #[.bool false, .slice A2 (natL (v / Nat.gcd v u)).length c2, .slice A4 (natL (u / Nat.gcd v u)).length c4]) (by simp [results, Try.results79, go_sem, m80, m81, m82]) rfl HR.out
end Go.Proofs.Ytjkcdnfmmfpbjaa.Inv
