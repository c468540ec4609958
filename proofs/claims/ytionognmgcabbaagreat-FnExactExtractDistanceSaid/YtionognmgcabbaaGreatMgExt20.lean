/- The reference's fractions of any size: compared. -/
import Derived.Test.YtionognmgcabbaaGreatMgExt19
import Derived.Test.YtionognmgcabbaaGreatMgExt18
import Derived.Deep.Cut
import Derived.Test.YtionognmgcabbaaGreatMgExt11
import Derived.Test.YtionognmgcabbaaGreatMgExt16
namespace Go.Proofs.YtionognmgcabbaaGreat.Wide
open Go.RowKit Go.Proofs.YtionognmgcabbaaGreat Go.Proofs.YtionognmgcabbaaGreat.Base Go.Proofs.YtionognmgcabbaaGreat.Mem Go.Proofs.YtionognmgcabbaaGreat.RatM Go.Proofs.YtionognmgcabbaaGreat.BigM Go.Proofs.YtionognmgcabbaaGreat.Big Go.Proofs.YtionognmgcabbaaGreat.Fine Go.Proofs.YtionognmgcabbaaGreat.Blk
set_option linter.unusedVariables false
def cmpW (q r : Rat) : Int := if q = r then 0 else if q < r then -1 else 1
theorem vf_minus : VF (-1) 1 := ⟨by decide, by decide, by decide, by decide, by decide⟩
theorem vf_one : VF 1 1 := ⟨by decide, by decide, by decide, by decide, by decide⟩
theorem qf_minus : qf (-1) 1 = -1 := by decide +kernel
theorem qf_one : qf 1 1 = 1 := by decide +kernel
theorem cmpW_sub (q r : Rat) : cmpW q r = if q + -1 * r = 0 then 0 else if q + -1 * r < 0 then -1 else 1 := by
  unfold cmpW
  have h1 : q = r ↔ q + -1 * r = 0 := by grind
  have h2 : q < r ↔ q + -1 * r < 0 := by grind
  simp only [h1, h2]
theorem Parts.zero {w : World} {q : Rat} {m : Nat} {s fine : Bool} {vn vd : Value} {fn fd : Int} {n d : Nat} (h : Parts w q m s vn vd fine fn fd n d) : (n = 0 ↔ q = 0) ∧ (n ≠ 0 → (q < 0 ↔ s = true)) := by
  have hd := Nat.ne_of_gt h.pos
  rw [← h.val]
  refine ⟨(qv_eq_zero hd).symm, fun hn => ?_⟩
  have := qv_neg (s := s) hn hd
  constructor
  · intro hx; rw [← this]; simpa using hx
  · intro hx; rw [hx] at this ⊢; simpa using this
set_option maxHeartbeats 4000000 in
set_option maxRecDepth 100000 in
theorem cmp_any {q r : Rat} {m m' : Nat} {v u : Value} (w : World) (hv : IsW w q m v) (hu : IsW w r m' u) (h2 : 2 ≤ m) (h2' : 2 ≤ m') (hm : m + m' ≤ 300000) : Calls Tryz.prog 74 #[v, u] w fun e w' => e = .returned (.int .i64 (cmpW q r)) ∧ Below w.heap.size w w' := by
  have HC := Lib.hid (cmpW_sub q r)
  generalize cmpW q r = cw at *
  have HV0 := Lib.hid hv
  have HU0 := Lib.hid hu
  have HM1 := Lib.hid (fun W => wideOf_any vf_minus W)
  rw [qf_minus] at HM1
  obtain ⟨s, A1, k1, c1, A2, k2, c2, fa, fn, fd, n, d, rfl, hp⟩ := hv
  obtain ⟨s', A3, k3, c3, A4, k4, c4, fb, gn, gd, n', d', rfl, hp'⟩ := hu
  obtain ⟨W3, hW3⟩ : ∃ W3, W3 = (w.alloc (.cells #[.bool s, .slice A1 k1 c1, .slice A2 k2 c2, .bool fa, .int .i64 fn, .int .i64 fd] 81)).alloc (.cells #[.bool s', .slice A3 k3 c3, .slice A4 k4 c4, .bool fb, .int .i64 gn, .int .i64 gd] 81) := ⟨_, rfl⟩
  have K0 : Hid (Blk W3 w.heap.size 81 #[.bool s, .slice A1 k1 c1, .slice A2 k2 c2, .bool fa, .int .i64 fn, .int .i64 fd]) := Lib.hid (by rw [hW3]; exact (Blk.new w _ _).alloc _)
  have K1 : Hid (Blk W3 (w.heap.size + 1) 81 #[.bool s', .slice A3 k3 c3, .slice A4 k4 c4, .bool fb, .int .i64 gn, .int .i64 gd]) := Lib.hid (by rw [hW3]; exact Blk.newAt _ _ (by simp))
  have HB : Hid (Below w.heap.size w W3) := Lib.hid (by rw [hW3]; exact ((Below.refl _ _).alloc (Nat.le_refl _) _).alloc (by simp) _)
  have HV := Lib.hid (fun W (h : Below W3.heap.size W3 W) => HV0.out.below (Base.Below.nextA HB.out h))
  have HU := Lib.hid (fun W (h : Below W3.heap.size W3 W) => HU0.out.below (Base.Below.nextA HB.out h))
  have HW := Lib.hid hW3
  clear hW3 hp hp' HV0 HU0
  go_enter Tryz.func74, Tryz.ntmps74
  go_upto_region 1 with (fail)
  rw [← HW.out]
  clear HW
  refine Rel.wp_region_rel 7 (by kernel_rfl) (by kernel_rfl) (fun F hF => ?_)
  simp only [List.take_succ_cons, List.take_zero, List.drop_succ_cons, List.drop_zero, Rel.putL] at hF ⊢
  have HF := Lib.hid hF
  clear hF
  have uv := @Rel.upon_value Tryz.prog
  have ue := @Rel.upon_enter Tryz.prog
  apply Rel.rel_pure
  apply Exists.intro
  refine ⟨fun vs wq hq hdp R hR => ?_, ?_⟩
  · (rw [HF.out, Rel.stepAt_eq]; clear hdp; have x0 := (K0.out.belowS hq).at 0 (v := .bool s) rfl; have x1 := (K0.out.belowS hq).at 1 (v := .slice A1 k1 c1) rfl; have x2 := (K0.out.belowS hq).at 2 (v := .slice A2 k2 c2) rfl; have x3 := (K0.out.belowS hq).at 3 (v := .bool fa) rfl; have x4 := (K0.out.belowS hq).at 4 (v := .int .i64 fn) rfl; have x5 := (K0.out.belowS hq).at 5 (v := .int .i64 fd) rfl; go_simp; exact hR)
  apply Rel.rel_pure
  apply Exists.intro
  refine ⟨fun vs wq hq hdp R hR => ?_, ?_⟩
  · (rw [HF.out, Rel.stepAt_eq]; clear hdp; skip; go_simp; exact hR)
  refine Rel.rel_law (S := fun v w' => IsW w' (-1) 2 v) (isW_mono _ _) (fun vs wq hq hdp => ?_) ?_
  · (rw [HF.out, Rel.stepAt_eq]; have qd1 : vs 1 = _ := Rel.dep hdp 1 (by kernel_rfl); clear hdp; skip; go_simp; refine (HM1.out _).mono ?_; rintro e w7 ⟨v, rfl, hv, hb⟩; exact ⟨_, rfl, hv, hb⟩)
  apply Rel.rel_pure
  apply Exists.intro
  refine ⟨fun vs wq hq hdp R hR => ?_, ?_⟩
  · (rw [HF.out, Rel.stepAt_eq]; clear hdp; have x0 := (K1.out.belowS hq).at 0 (v := .bool s') rfl; have x1 := (K1.out.belowS hq).at 1 (v := .slice A3 k3 c3) rfl; have x2 := (K1.out.belowS hq).at 2 (v := .slice A4 k4 c4) rfl; have x3 := (K1.out.belowS hq).at 3 (v := .bool fb) rfl; have x4 := (K1.out.belowS hq).at 4 (v := .int .i64 gn) rfl; have x5 := (K1.out.belowS hq).at 5 (v := .int .i64 gd) rfl; go_simp; exact hR)
  refine Rel.rel_law (S := fun v w' => IsW w' (-1 * r) (2 + m') v) (isW_mono _ _) (fun vs wq hq hdp => ?_) ?_
  · (rw [HF.out, Rel.stepAt_eq]; have qd2 : IsW wq _ _ (vs 2) := Rel.dep hdp 2 (by kernel_rfl); have qd3 : vs 3 = _ := Rel.dep hdp 3 (by kernel_rfl); clear hdp; skip; go_simp; refine (wideMul_any wq qd2 (HU.out wq hq) (by decide) (by omega) (by decide) h2').mono ?_; rintro e w7 ⟨v, rfl, hv, hb⟩; exact ⟨_, rfl, hv, hb⟩)
  refine Rel.rel_law (S := fun v w' => IsW w' (q + -1 * r) (m + (2 + m') + 1) v) (isW_mono _ _) (fun vs wq hq hdp => ?_) ?_
  · (rw [HF.out, Rel.stepAt_eq]; have qd0 : vs 0 = _ := Rel.dep hdp 0 (by kernel_rfl); have qd4 : IsW wq _ _ (vs 4) := Rel.dep hdp 4 (by kernel_rfl); clear hdp; skip; go_simp; refine (wideAdd_any wq (HV.out wq hq) qd4 (by omega) (by omega) h2 (by omega)).mono ?_; rintro e w7 ⟨v, rfl, hv, hb⟩; exact ⟨_, rfl, hv, hb⟩)
  refine Rel.rel_alloc (cs := #[.bool false, .slice none 0 0, .slice none 0 0, .bool false, .int .i64 0, .int .i64 0]) (t := 81) (fun vs wq hq hdp R hR => ?_) ?_
  · (rw [HF.out, Rel.stepAt_eq]; clear hdp; go_simp; exact hR)
  refine Rel.rel_end (fun vs wq hq hall => ?_)
  rw [HF.out]
  have qe0 : vs 0 = _ := Rel.fin hall 0 (by decide)
  have qe1 : vs 1 = _ := Rel.fin hall 1 (by decide)
  have qe2 : IsW wq _ _ (vs 2) := Rel.fin hall 2 (by decide)
  have qe3 : vs 3 = _ := Rel.fin hall 3 (by decide)
  have qe4 : IsW wq _ _ (vs 4) := Rel.fin hall 4 (by decide)
  have qe5 : IsW wq _ _ (vs 5) := Rel.fin hall 5 (by decide)
  have qe6 : Rel.NewB _ _ _ (vs 6) wq := Rel.fin hall 6 (by decide)
  clear hall HF uv ue
  obtain ⟨g5, eg5, hg5, hblk⟩ := qe6
  obtain ⟨t, B1, j1, e1, B2, j2, e2, fi, tn, td, nn, dd, ev5, hpz⟩ := qe5
  have K5 : Blk wq g5 81 #[.bool false, .slice none 0 0, .slice none 0 0, .bool false, .int .i64 0, .int .i64 0] := hblk
  obtain ⟨W6, hW6⟩ : ∃ W6, W6 = put6 wq g5 (.bool t) (.slice B1 j1 e1) (.slice B2 j2 e2) (.bool fi) (.int .i64 tn) (.int .i64 td) := ⟨_, rfl⟩
  have K6 : Hid (Blk W6 g5 81 #[.bool t, .slice B1 j1 e1, .slice B2 j2 e2, .bool fi, .int .i64 tn, .int .i64 td]) := Lib.hid (by rw [hW6]; exact put6_blk K5 _ _ _ _ _ _)
  have HBF : Hid (Below w.heap.size w W6) := Lib.hid (by rw [hW6]; exact put6_below (Base.Below.nextA HB.out hq) (show w.heap.size ≤ g5 by have := HB.out.size; omega) _ _ _ _ _ _)
  unfold put6 at hW6
  have z0 := K5.frz 0
  have z1 := K5.frz 1
  have z2 := K5.frz 2
  have z3 := K5.frz 3
  have z4 := K5.frz 4
  have z5 := K5.frz 5
  have c0 := K5.at 0 (v := .bool false) rfl
  have c1 := K5.at 1 (v := .slice none 0 0) rfl
  have c2 := K5.at 2 (v := .slice none 0 0) rfl
  have c3 := K5.at 3 (v := .bool false) rfl
  have c4 := K5.at 4 (v := .int .i64 0) rfl
  have c5 := K5.at 5 (v := .int .i64 0) rfl
  obtain ⟨hz, hneg⟩ := hpz.zero
  obtain ⟨_, _, ef, -⟩ := Dig.form hpz.num
  replace ef := (Value.slice.inj ef).2.1
  have hlen : j1 = 0 ↔ q + -1 * r = 0 := by
    rw [← hz, ef]
    constructor
    · intro h0
      rcases Nat.eq_zero_or_pos nn with g | g
      · exact g
      · have := len_pos g; omega
    · intro h0; rw [h0, bigL_zero]; rfl
  have H0 := Lib.hid (fun h : j1 = 0 => (show cw = 0 by rw [HC.out, if_pos (hlen.1 h)]))
  have H1 := Lib.hid (fun (h : ¬ j1 = 0) (ht : t = true) => (show cw = -1 by rw [HC.out, if_neg (fun g => h (hlen.2 g)), if_pos ((hneg (fun g => h (hlen.2 (hz.1 g)))).2 ht)]))
  have H2 := Lib.hid (fun (h : ¬ j1 = 0) (ht : t = false) => (show cw = 1 by rw [HC.out, if_neg (fun g => h (hlen.2 g)), if_neg (fun g => by have := (hneg (fun g => h (hlen.2 (hz.1 g)))).1 g; rw [ht] at this; cases this)]))
  clear hblk K5 hpz ef hq K0 K1 HV HU hlen hneg hz HC HB qe0 qe1 qe2 qe3 qe4 HM1
  go_upto_region 2 with (fail)
  rw [← hW6]
  clear hW6 z0 z1 z2 z3 z4 z5 c0 c1 c2 c3 c4 c5
  have s0 := K6.out.at 0 (v := .bool t) rfl
  have s1 := K6.out.at 1 (v := .slice B1 j1 e1) rfl
  by_cases h0 : j1 = 0
  · have HE := Lib.hid (H0.out h0)
    subst h0
    clear H0 H1 H2
    go_wp2
    go_ret
    exact ⟨by rw [HE.out]; rfl, HBF.out⟩
  · cases t with
    | true =>
      have HE := Lib.hid (H1.out h0 rfl)
      clear H0 H1 H2
      go_wp2
      go_ret
      exact ⟨by rw [HE.out]; rfl, HBF.out⟩
    | false =>
      have HE := Lib.hid (H2.out h0 rfl)
      clear H0 H1 H2
      go_wp2
      go_ret
      exact ⟨by rw [HE.out]; rfl, HBF.out⟩
end Go.Proofs.YtionognmgcabbaaGreat.Wide
/- The reference's fractions of any size: half of one. -/
namespace Go.Proofs.YtionognmgcabbaaGreat.Wide
open Go.RowKit Go.Proofs.YtionognmgcabbaaGreat Go.Proofs.YtionognmgcabbaaGreat.Base Go.Proofs.YtionognmgcabbaaGreat.Mem Go.Proofs.YtionognmgcabbaaGreat.RatM Go.Proofs.YtionognmgcabbaaGreat.BigM Go.Proofs.YtionognmgcabbaaGreat.Big Go.Proofs.YtionognmgcabbaaGreat.Fine Go.Proofs.YtionognmgcabbaaGreat.Blk
set_option linter.unusedVariables false
theorem vf_half : VF 1 2 := ⟨by decide, by decide, by decide, by decide, by decide⟩
set_option maxHeartbeats 4000000 in
set_option maxRecDepth 100000 in
theorem half_any {q : Rat} {m : Nat} {v : Value} (w : World) (hv : IsW w q m v) (hm : m ≤ 400000) (h2 : 2 ≤ m) : Calls Tryz.prog 161 #[v] w (WRet (q * qf 1 2) (m + 2) w) := by
  have HV0 := Lib.hid hv
  have HM1 := Lib.hid (fun W => wideOf_any vf_half W)
  obtain ⟨s, A1, k1, c1, A2, k2, c2, fa, fn, fd, n, d, rfl, hp⟩ := hv
  obtain ⟨W2, hW2⟩ : ∃ W2, W2 = (w.alloc (.cells #[.bool s, .slice A1 k1 c1, .slice A2 k2 c2, .bool fa, .int .i64 fn, .int .i64 fd] 81)).alloc (.cells #[.bool false, .slice none 0 0, .slice none 0 0, .bool false, .int .i64 0, .int .i64 0] 81) := ⟨_, rfl⟩
  have K0 : Hid (Blk W2 w.heap.size 81 #[.bool s, .slice A1 k1 c1, .slice A2 k2 c2, .bool fa, .int .i64 fn, .int .i64 fd]) := Lib.hid (by rw [hW2]; exact (Blk.new w _ _).alloc _)
  have KR : Hid (Blk W2 (w.heap.size + 1) 81 #[.bool false, .slice none 0 0, .slice none 0 0, .bool false, .int .i64 0, .int .i64 0]) := Lib.hid (by rw [hW2]; exact Blk.newAt _ _ (by simp))
  have HB : Hid (Below w.heap.size w W2) := Lib.hid (by rw [hW2]; exact ((Below.refl _ _).alloc (Nat.le_refl _) _).alloc (by simp) _)
  have HV := Lib.hid (fun W (h : Below W2.heap.size W2 W) => HV0.out.below (Base.Below.nextA HB.out h))
  have HW := Lib.hid hW2
  clear hW2 hp HV0
  go_enter Tryz.func161, Tryz.ntmps161
  go_upto_region 1 with (fail)
  rw [← HW.out]
  clear HW
  refine Rel.wp_region_rel 4 (by kernel_rfl) (by kernel_rfl) (fun F hF => ?_)
  simp only [List.take_succ_cons, List.take_zero, List.drop_succ_cons, List.drop_zero, Rel.putL] at hF ⊢
  have HF := Lib.hid hF
  clear hF
  have uv := @Rel.upon_value Tryz.prog
  have ue := @Rel.upon_enter Tryz.prog
  apply Rel.rel_pure
  apply Exists.intro
  refine ⟨fun vs wq hq hdp R hR => ?_, ?_⟩
  · (rw [HF.out, Rel.stepAt_eq]; clear hdp; have x0 := (K0.out.belowS hq).at 0 (v := .bool s) rfl; have x1 := (K0.out.belowS hq).at 1 (v := .slice A1 k1 c1) rfl; have x2 := (K0.out.belowS hq).at 2 (v := .slice A2 k2 c2) rfl; have x3 := (K0.out.belowS hq).at 3 (v := .bool fa) rfl; have x4 := (K0.out.belowS hq).at 4 (v := .int .i64 fn) rfl; have x5 := (K0.out.belowS hq).at 5 (v := .int .i64 fd) rfl; go_simp; exact hR)
  apply Rel.rel_pure
  apply Exists.intro
  refine ⟨fun vs wq hq hdp R hR => ?_, ?_⟩
  · (rw [HF.out, Rel.stepAt_eq]; clear hdp; skip; go_simp; exact hR)
  refine Rel.rel_law (S := fun v w' => IsW w' (qf 1 2) 2 v) (isW_mono _ _) (fun vs wq hq hdp => ?_) ?_
  · (rw [HF.out, Rel.stepAt_eq]; have qd1 : vs 1 = _ := Rel.dep hdp 1 (by kernel_rfl); clear hdp; skip; go_simp; refine (HM1.out _).mono ?_; rintro e w7 ⟨v, rfl, hv, hb⟩; exact ⟨_, rfl, hv, hb⟩)
  refine Rel.rel_law (S := fun v w' => IsW w' (q * qf 1 2) (m + 2) v) (isW_mono _ _) (fun vs wq hq hdp => ?_) ?_
  · (rw [HF.out, Rel.stepAt_eq]; have qd0 : vs 0 = _ := Rel.dep hdp 0 (by kernel_rfl); have qd2 : IsW wq _ _ (vs 2) := Rel.dep hdp 2 (by kernel_rfl); clear hdp; skip; go_simp; refine (wideMul_any wq (HV.out wq hq) qd2 hm (by decide) h2 (by decide)).mono ?_; rintro e w7 ⟨v, rfl, hv, hb⟩; exact ⟨_, rfl, hv, hb⟩)
  refine Rel.rel_end (fun vs wq hq hall => ?_)
  rw [HF.out]
  have qe0 : vs 0 = _ := Rel.fin hall 0 (by decide)
  have qe1 : vs 1 = _ := Rel.fin hall 1 (by decide)
  have qe2 : IsW wq _ _ (vs 2) := Rel.fin hall 2 (by decide)
  have qe3 : IsW wq _ _ (vs 3) := Rel.fin hall 3 (by decide)
  clear hall HF uv ue
  obtain ⟨s, A1, k1, c1', A2, k2, c2', fine, fn, fd, nn, dd, ev, hpz⟩ := qe3
  have KRq := KR.out.belowS hq
  have HBq := Base.Below.nextA HB.out hq
  have HP2 := Lib.hid hpz
  clear hq hpz K0 HV HM1 qe0 qe1 qe2
  have z0 := (KRq).frz 0
  have z1 := (KRq).frz 1
  have z2 := (KRq).frz 2
  have z3 := (KRq).frz 3
  have z4 := (KRq).frz 4
  have z5 := (KRq).frz 5
  have c0 := (KRq).at 0 (v := .bool false) rfl
  have c1 := (KRq).at 1 (v := .slice none 0 0) rfl
  have c2 := (KRq).at 2 (v := .slice none 0 0) rfl
  have c3 := (KRq).at 3 (v := .bool false) rfl
  have c4 := (KRq).at 4 (v := .int .i64 0) rfl
  have c5 := (KRq).at 5 (v := .int .i64 0) rfl
  have SS := put6_blk (KRq) (.bool s) (.slice A1 k1 c1') (.slice A2 k2 c2') (.bool fine) (.int .i64 fn) (.int .i64 fd)
  unfold put6 at SS
  have s0 := SS.at 0 rfl
  have s1 := SS.at 1 rfl
  have s2 := SS.at 2 rfl
  have s3 := SS.at 3 rfl
  have s4 := SS.at 4 rfl
  have s5 := SS.at 5 rfl
  have HFIN := Lib.hid (WRet.put (HP2.out) (KRq) (HBq) (by omega))
  clear SS
  go_wp2
  refine bodyPost_ret (v := .agg #[.bool s, .slice A1 k1 c1', .slice A2 k2 c2', .bool fine, .int .i64 fn, .int .i64 fd]) (by simp [results, Tryz.results161, go_sem, s0, s1, s2, s3, s4, s5]) rfl ?_
  exact HFIN.out
end Go.Proofs.YtionognmgcabbaaGreat.Wide
/- The reference: the distance of lists of fractions of any size. -/
namespace Go.Proofs.YtionognmgcabbaaGreat.Wide
open Go.RowKit Go.Proofs.YtionognmgcabbaaGreat Go.Proofs.YtionognmgcabbaaGreat.Base Go.Proofs.YtionognmgcabbaaGreat.Mem Go.Proofs.YtionognmgcabbaaGreat.RatM Go.Proofs.YtionognmgcabbaaGreat.BigM Go.Proofs.YtionognmgcabbaaGreat.Big Go.Proofs.YtionognmgcabbaaGreat.Fine Go.Proofs.YtionognmgcabbaaGreat.Blk Go.Proofs.YtionognmgcabbaaGreat.GaussM Go.Proofs.YtionognmgcabbaaGreat.MemF Go.Proofs.YtionognmgcabbaaGreat.ChM
open Go.Proofs.YtionognmgcabbaaGreat.Ratio (absR disR qf_half)
set_option linter.unusedVariables false
theorem Parts.abs {w : World} {q : Rat} {m : Nat} {s fine : Bool} {vn vd : Value} {fn fd : Int} {n d : Nat} (h : Parts w q m s vn vd fine fn fd n d) : absR q = if s then -1 * q else q := by
  obtain ⟨h1, h2⟩ := h.zero
  by_cases hn : n = 0
  · have := h1.1 hn
    subst this
    unfold absR
    cases s <;> simp
  · have h3 := h2 hn
    unfold absR
    cases s with
    | true => rw [if_pos (h3.2 rfl)]; simp only [if_true]; grind
    | false =>
      have : ¬ q < 0 := fun h => by have := h3.1 h; cases this
      rw [if_neg this]; rfl
theorem sub_eq (x y : Rat) : x + -1 * y = x - y := by grind
def DsRel (f g : Nat → Rat) (n D : Nat) (w : World) (lv iv : Value) (wr : World) : Prop :=
  ∃ (i : Nat) (cs : List Value), iv = .int .i64 (i : Int) ∧ i ≤ n ∧ Hid (OwnW wr (w.heap.size + 1) lv i (fun j => absR (f j - g j)) D cs) ∧ Hid (Blk wr w.heap.size 81 #[.bool false, .slice none 0 0, .slice none 0 0, .bool false, .int .i64 0, .int .i64 0]) ∧ Hid (Below w.heap.size w wr)
theorem DsRel.next {f g : Nat → Rat} {n D i : Nat} {w wr w1 w2 : World} {v v' : Value} {cs : List Value} {s fine : Bool} {A1 A2 : Option Addr} {k1 c1 k2 c2 nn dd : Nat} {fn fd : Int} {ca : Array Value} {t : TypeId} (hi : i < n) (h : OwnW wr (w.heap.size + 1) v i (fun j => absR (f j - g j)) D cs) (KR : Blk wr w.heap.size 81 #[.bool false, .slice none 0 0, .slice none 0 0, .bool false, .int .i64 0, .int .i64 0]) (hb : Below w.heap.size w wr) (h1 : Below wr.heap.size wr w1)
    (hp : Parts w1 (absR (f i - g i)) D s (.slice A1 k1 c1) (.slice A2 k2 c2) fine fn fd nn dd) (hown : w2.ownsRow (w.heap.size + 1) 81 6 v' (i + 1) (cs ++ six s (.slice A1 k1 c1) (.slice A2 k2 c2) fine fn fd)) (hg : (w1.alloc (.cells ca t)).grownBy w2 v.ownBlock) : DsRel f g n D w v' (.int .i64 ((i : Int) + 1)) w2 := by
  have hb1 : Below wr.heap.size wr (w1.alloc (.cells ca t)) := h1.alloc h1.size _
  refine ⟨i + 1, _, by simp, hi, Lib.hid (h.push h1 hp hown hg), Lib.hid ?_, Lib.hid ?_⟩
  · refine (KR.belowS hb1).kept hg fun e => ?_
    obtain ⟨_, _, h2, _⟩ := ownsRow_block h.row e
    omega
  · exact (hb.trans (hb1.mono hb.size)).trans (grown_below hg (fun g e => by have := (ownsRow_block h.row e).choose_spec.2.1; omega) (Nat.le_trans hb.size hb1.size))
set_option maxHeartbeats 2000000 in
set_option maxRecDepth 100000 in
theorem disS_any {A A' : Option Addr} {c c' n m m' : Nat} {f g : Nat → Rat} {cs cs' : List Value} (w : World) (hx : OwnW w 0 (.slice A n c) n f m cs) (hy : OwnW w 0 (.slice A' n c') n g m' cs') (h2 : 2 ≤ m) (h2' : 2 ≤ m') (hM : 4 + n * (m + m' + 6) ≤ 300000) (hn : n ≤ 1000) (hm : m + m' ≤ 200000) : Calls Tryz.prog 116 #[.slice A n c, .slice A' n c'] w (WRet (disR n f g) (4 + n * (m + m' + 6)) w) := by
  have HX := Lib.hid hx
  have HY := Lib.hid hy
  have HM1 := Lib.hid (fun W => wideOf_any vf_minus W)
  rw [qf_minus] at HM1
  obtain ⟨iw, wi, wz0, wz1, wz2⟩ := info_parts infoW
  have HMM := Lib.hid hM
  obtain ⟨D, hD⟩ : ∃ D, D = m + m' + 5 := ⟨_, rfl⟩
  have HD := Lib.hid hD
  have H0 : Hid (DsRel f g n D w (.slice (some ⟨w.heap.size + 1, 0, none⟩) 0 0) (.int .i64 0) ((w.alloc (.cells #[.bool false, .slice none 0 0, .slice none 0 0, .bool false, .int .i64 0, .int .i64 0] 81)).alloc (.cells #[] 81))) := Lib.hid (by
    have h := OwnW.lit0 (w.alloc (.cells #[.bool false, .slice none 0 0, .slice none 0 0, .bool false, .int .i64 0, .int .i64 0] 81)) (fun j => absR (f j - g j)) D
    rw [World.size_alloc] at h
    exact ⟨0, [], rfl, Nat.zero_le _, Lib.hid h, Lib.hid ((Blk.new w _ _).alloc _), Lib.hid (((Below.refl _ _).alloc (Nat.le_refl _) _).alloc (by simp) _)⟩)
  clear hx hy hM hD
  go_enter Tryz.func116, Tryz.ntmps116
  go_wp2
  go_loopw [5, 6] (fun lv iv wr => DsRel f g n D w lv iv wr) (fun _ iv _ => n - (intOf iv).toNat)
  case atStart => exact H0.out
  case round =>
    obtain ⟨i, cs, rfl, hi, HO, KRr, HB⟩ := hrel
    clear H0
    by_cases hlt : i < n
    · obtain ⟨ga, s1, B1, j1, e1, B2, j2, e2, fb, gn, gd, n', d', rfl, hgl, y0, y1, y2, y3, y4, y5, hp1⟩ := (HX.out.below HB.out).at hlt
      obtain ⟨gb, s2, D1, i1, b1, D2, i2, b2, fe, pn, pd, n2, d2, rfl, hgl2, u0, u1, u2, u3, u4, u5, hp2⟩ := (HY.out.below HB.out).at hlt
      have HY1 : Hid (∀ W, Below wr.heap.size wr W → W.cell? ⟨ga, i * 6, none⟩ = some (.bool s1) ∧ W.cell? ⟨ga, i * 6 + 1, none⟩ = some (.slice B1 j1 e1) ∧ W.cell? ⟨ga, i * 6 + 2, none⟩ = some (.slice B2 j2 e2) ∧ W.cell? ⟨ga, i * 6 + 3, none⟩ = some (.bool fb) ∧ W.cell? ⟨ga, i * 6 + 4, none⟩ = some (.int .i64 gn) ∧ W.cell? ⟨ga, i * 6 + 5, none⟩ = some (.int .i64 gd)) := Lib.hid fun W hb =>
        ⟨(hb.cell hgl).trans y0, (hb.cell hgl).trans y1, (hb.cell hgl).trans y2, (hb.cell hgl).trans y3, (hb.cell hgl).trans y4, (hb.cell hgl).trans y5⟩
      have HY2 : Hid (∀ W, Below wr.heap.size wr W → W.cell? ⟨gb, i * 6, none⟩ = some (.bool s2) ∧ W.cell? ⟨gb, i * 6 + 1, none⟩ = some (.slice D1 i1 b1) ∧ W.cell? ⟨gb, i * 6 + 2, none⟩ = some (.slice D2 i2 b2) ∧ W.cell? ⟨gb, i * 6 + 3, none⟩ = some (.bool fe) ∧ W.cell? ⟨gb, i * 6 + 4, none⟩ = some (.int .i64 pn) ∧ W.cell? ⟨gb, i * 6 + 5, none⟩ = some (.int .i64 pd)) := Lib.hid fun W hb =>
        ⟨(hb.cell hgl2).trans u0, (hb.cell hgl2).trans u1, (hb.cell hgl2).trans u2, (hb.cell hgl2).trans u3, (hb.cell hgl2).trans u4, (hb.cell hgl2).trans u5⟩
      have HE1 : Hid (IsW wr (f i) m (.agg #[.bool s1, .slice B1 j1 e1, .slice B2 j2 e2, .bool fb, .int .i64 gn, .int .i64 gd])) := Lib.hid ⟨_, _, _, _, _, _, _, _, _, _, _, _, rfl, hp1⟩
      have HE2 : Hid (IsW wr (g i) m' (.agg #[.bool s2, .slice D1 i1 b1, .slice D2 i2 b2, .bool fe, .int .i64 pn, .int .i64 pd])) := Lib.hid ⟨_, _, _, _, _, _, _, _, _, _, _, _, rfl, hp2⟩
      clear y0 y1 y2 y3 y4 y5 hp1 hgl u0 u1 u2 u3 u4 u5 hp2 hgl2
      obtain ⟨x, hxe⟩ : ∃ x, x = f i := ⟨_, rfl⟩
      obtain ⟨y, hye⟩ : ∃ y, y = g i := ⟨_, rfl⟩
      rw [← hxe] at HE1
      rw [← hye] at HE2
      have HXY : Hid (absR (f i - g i) = absR (x + -1 * y)) := Lib.hid (by rw [hxe, hye, sub_eq])
      clear hxe hye
      go_wp2
      refine Rel.wp_region_rel 13 (by kernel_rfl) (by kernel_rfl) (fun F hF => ?_)
      simp only [List.take_succ_cons, List.take_zero, List.drop_succ_cons, List.drop_zero, Rel.putL] at hF ⊢
      have HF := Lib.hid hF
      clear hF
      have uv := @Rel.upon_value Tryz.prog
      have ue := @Rel.upon_enter Tryz.prog
      apply Rel.rel_pure
      apply Exists.intro
      refine ⟨fun vs wq hq hdp R hR => ?_, ?_⟩
      · (rw [HF.out, Rel.stepAt_eq]; clear hdp; skip; go_simp; exact hR)
      apply Rel.rel_pure
      apply Exists.intro
      refine ⟨fun vs wq hq hdp R hR => ?_, ?_⟩
      · (rw [HF.out, Rel.stepAt_eq]; clear hdp; skip; go_simp; exact hR)
      apply Rel.rel_pure
      apply Exists.intro
      refine ⟨fun vs wq hq hdp R hR => ?_, ?_⟩
      · (rw [HF.out, Rel.stepAt_eq]; have qd0 : vs 0 = _ := Rel.dep hdp 0 (by kernel_rfl); have qd1 : vs 1 = _ := Rel.dep hdp 1 (by kernel_rfl); clear hdp; skip; go_simp; exact hR)
      apply Rel.rel_pure
      apply Exists.intro
      refine ⟨fun vs wq hq hdp R hR => ?_, ?_⟩
      · (rw [HF.out, Rel.stepAt_eq]; have qd2 : vs 2 = _ := Rel.dep hdp 2 (by kernel_rfl); clear hdp; obtain ⟨y0, y1, y2, y3, y4, y5⟩ := HY1.out wq hq; go_simp; exact hR)
      apply Rel.rel_pure
      apply Exists.intro
      refine ⟨fun vs wq hq hdp R hR => ?_, ?_⟩
      · (rw [HF.out, Rel.stepAt_eq]; clear hdp; skip; go_simp; exact hR)
      refine Rel.rel_law (S := fun v w' => IsW w' (-1) 2 v) (isW_mono _ _) (fun vs wq hq hdp => ?_) ?_
      · (rw [HF.out, Rel.stepAt_eq]; have qd4 : vs 4 = _ := Rel.dep hdp 4 (by kernel_rfl); clear hdp; skip; go_simp; refine (HM1.out _).mono ?_; rintro e w7 ⟨v, rfl, hv, hb⟩; exact ⟨_, rfl, hv, hb⟩)
      apply Rel.rel_pure
      apply Exists.intro
      refine ⟨fun vs wq hq hdp R hR => ?_, ?_⟩
      · (rw [HF.out, Rel.stepAt_eq]; clear hdp; skip; go_simp; exact hR)
      apply Rel.rel_pure
      apply Exists.intro
      refine ⟨fun vs wq hq hdp R hR => ?_, ?_⟩
      · (rw [HF.out, Rel.stepAt_eq]; clear hdp; skip; go_simp; exact hR)
      apply Rel.rel_pure
      apply Exists.intro
      refine ⟨fun vs wq hq hdp R hR => ?_, ?_⟩
      · (rw [HF.out, Rel.stepAt_eq]; have qd6 : vs 6 = _ := Rel.dep hdp 6 (by kernel_rfl); have qd7 : vs 7 = _ := Rel.dep hdp 7 (by kernel_rfl); clear hdp; skip; go_simp; exact hR)
      apply Rel.rel_pure
      apply Exists.intro
      refine ⟨fun vs wq hq hdp R hR => ?_, ?_⟩
      · (rw [HF.out, Rel.stepAt_eq]; have qd8 : vs 8 = _ := Rel.dep hdp 8 (by kernel_rfl); clear hdp; obtain ⟨u0, u1, u2, u3, u4, u5⟩ := HY2.out wq hq; go_simp; exact hR)
      refine Rel.rel_law (S := fun v w' => IsW w' (-1 * y) (2 + m') v) (isW_mono _ _) (fun vs wq hq hdp => ?_) ?_
      · (rw [HF.out, Rel.stepAt_eq]; have qd5 : IsW wq _ _ (vs 5) := Rel.dep hdp 5 (by kernel_rfl); have qd9 : vs 9 = _ := Rel.dep hdp 9 (by kernel_rfl); clear hdp; skip; go_simp; refine (wideMul_any wq qd5 (HE2.out.below hq) (by decide) (by omega) (by decide) h2').mono ?_; rintro e w7 ⟨v, rfl, hv, hb⟩; exact ⟨_, rfl, hv, hb⟩)
      refine Rel.rel_law (S := fun v w' => IsW w' (x + -1 * y) (m + (2 + m') + 1) v) (isW_mono _ _) (fun vs wq hq hdp => ?_) ?_
      · (rw [HF.out, Rel.stepAt_eq]; have qd3 : vs 3 = _ := Rel.dep hdp 3 (by kernel_rfl); have qd10 : IsW wq _ _ (vs 10) := Rel.dep hdp 10 (by kernel_rfl); clear hdp; skip; go_simp; refine (wideAdd_any wq (HE1.out.below hq) qd10 (by omega) (by omega) h2 (by omega)).mono ?_; rintro e w7 ⟨v, rfl, hv, hb⟩; exact ⟨_, rfl, hv, hb⟩)
      refine Rel.rel_alloc (cs := #[.bool false, .slice none 0 0, .slice none 0 0, .bool false, .int .i64 0, .int .i64 0]) (t := 81) (fun vs wq hq hdp R hR => ?_) ?_
      · (rw [HF.out, Rel.stepAt_eq]; clear hdp; go_simp; exact hR)
      refine Rel.rel_end (fun vs wq hq hall => ?_)
      rw [HF.out]
      have qe0 : vs 0 = _ := Rel.fin hall 0 (by decide)
      have qe1 : vs 1 = _ := Rel.fin hall 1 (by decide)
      have qe2 : vs 2 = _ := Rel.fin hall 2 (by decide)
      have qe3 : vs 3 = _ := Rel.fin hall 3 (by decide)
      have qe4 : vs 4 = _ := Rel.fin hall 4 (by decide)
      have qe5 : IsW wq _ _ (vs 5) := Rel.fin hall 5 (by decide)
      have qe6 : vs 6 = _ := Rel.fin hall 6 (by decide)
      have qe7 : vs 7 = _ := Rel.fin hall 7 (by decide)
      have qe8 : vs 8 = _ := Rel.fin hall 8 (by decide)
      have qe9 : vs 9 = _ := Rel.fin hall 9 (by decide)
      have qe10 : IsW wq _ _ (vs 10) := Rel.fin hall 10 (by decide)
      have qe11 : IsW wq _ _ (vs 11) := Rel.fin hall 11 (by decide)
      have qe12 : Rel.NewB _ _ _ (vs 12) wq := Rel.fin hall 12 (by decide)
      clear hall HF uv ue
      obtain ⟨g7, eg7, hg7, hg7b⟩ := qe12
      have K7q : Blk wq g7 81 #[.bool false, .slice none 0 0, .slice none 0 0, .bool false, .int .i64 0, .int .i64 0] := hg7b
      obtain ⟨t, C1, l1, f1, C2, l2, f2, fc, hn1, hd1, n3, d3, ev, hpd⟩ := qe11
      obtain ⟨W7, hW7⟩ : ∃ W7, W7 = put6 wq g7 (.bool t) (.slice C1 l1 f1) (.slice C2 l2 f2) (.bool fc) (.int .i64 hn1) (.int .i64 hd1) := ⟨_, rfl⟩
      have K7 : Hid (Blk W7 g7 81 #[.bool t, .slice C1 l1 f1, .slice C2 l2 f2, .bool fc, .int .i64 hn1, .int .i64 hd1]) := Lib.hid (by rw [hW7]; exact put6_blk K7q _ _ _ _ _ _)
      have HP7 : Hid (Parts W7 (x + -1 * y) (m + (2 + m') + 1) t (.slice C1 l1 f1) (.slice C2 l2 f2) fc hn1 hd1 n3 d3) := Lib.hid (by rw [hW7]; exact hpd.put6 K7q (by decide) _ _ _ _ _ _)
      have HB7 : Hid (Below wr.heap.size wr W7) := Lib.hid (by rw [hW7]; exact put6_below hq hg7 _ _ _ _ _ _)
      unfold put6 at hW7
      have HW7 := Lib.hid hW7
      have z0 := K7q.frz 0
      have z1 := K7q.frz 1
      have z2 := K7q.frz 2
      have z3 := K7q.frz 3
      have z4 := K7q.frz 4
      have z5 := K7q.frz 5
      have c0 := K7q.at 0 (v := .bool false) rfl
      have c1 := K7q.at 1 (v := .slice none 0 0) rfl
      have c2 := K7q.at 2 (v := .slice none 0 0) rfl
      have c3 := K7q.at 3 (v := .bool false) rfl
      have c4 := K7q.at 4 (v := .int .i64 0) rfl
      have c5 := K7q.at 5 (v := .int .i64 0) rfl
      clear qe0 qe1 qe2 qe3 qe4 qe5 qe6 qe7 qe8 qe9 qe10 hq hg7b K7q hpd hW7 HY1 HY2 HE1 HE2
      go_upto_region 6 with (fail)
      rw [← HW7.out]
      clear z0 z1 z2 z3 z4 z5 c0 c1 c2 c3 c4 c5 HW7
      have HAB := Lib.hid HP7.out.abs
      cases t with
      | false =>
        have x0 := K7.out.at 0 (v := .bool false) rfl
        have HPE : Hid (Parts W7 (absR (f i - g i)) D false (.slice C1 l1 f1) (.slice C2 l2 f2) fc hn1 hd1 n3 d3) := Lib.hid (by rw [HXY.out, HAB.out]; exact HP7.out.more (by have := HD.out; omega))
        clear HAB
        have HN := Lib.hid (fun w3 v' ca t hown hg => DsRel.next (w2 := w3) (v' := v') (ca := ca) (t := t) hlt HO.out KRr.out HB.out HB7.out HPE.out hown hg)
        have HOA := Lib.hid (World.ownsRow.alloc (ownsRow_below HO.out.row HB7.out) (.cells #[.bool false, .slice C1 l1 f1, .slice C2 l2 f2, .bool fc, .int .i64 hn1, .int .i64 hd1] 81))
        have d0 := K7.out.at 0 (v := .bool false) rfl
        have d1 := K7.out.at 1 (v := .slice C1 l1 f1) rfl
        have d2 := K7.out.at 2 (v := .slice C2 l2 f2) rfl
        have d3 := K7.out.at 3 (v := .bool fc) rfl
        have d4 := K7.out.at 4 (v := .int .i64 hn1) rfl
        have d5 := K7.out.at 5 (v := .int .i64 hd1) rfl
        have hszW := (HB7.out).size
        have hszB := HB.out.size
        clear HO HB KRr
        go_wp2_with (at_builtin; refine wpList_append_own_at _ rfl (.tmp 33) (.tmp 35) 93 rfl (w.heap.size + 1) 81 iw (.agg #[.bool false, .slice none 0 0, .slice none 0 0, .bool false, .int .i64 0, .int .i64 0]) 6 80 Tryz.underlying93 wi wz0 wz1 wz2 rfl (by decide) _ _ _ rfl HOA.out ⟨W7.heap.size, 0, none⟩ 1 1 [.bool false, .slice C1 l1 f1, .slice C2 l2 f2, .bool fc, .int .i64 hn1, .int .i64 hd1] rfl rfl ?p1a ?p2a ?p3a ?p4a ?p5a ?_)
        try case p1a => exact news_six _ _ (by simp)
        try case p2a => exact ones_six
        try case p3a => first | (simp only [maxLen]; omega) | omega
        try case p4a => omega
        try case p5a => first | (simp only [World.size_alloc]; omega) | omega
        intro v' w3 hown' hg' _ he
        have HN3 := Lib.hid (HN.out w3 v' _ _ hown' hg')
        clear hown' hg' he HN HOA d0 d1 d2 d3 d4 d5
        go_wp2
        go_roundw
        case rel => exact HN3.out
        case measure => simp [intOf]; omega
      | true =>
        have x0 := K7.out.at 0 (v := .bool true) rfl
        obtain ⟨d0, hd0⟩ : ∃ d0, d0 = x + -1 * y := ⟨_, rfl⟩
        have HD7 : Hid (IsW W7 d0 (m + (2 + m') + 1) (.agg #[.bool true, .slice C1 l1 f1, .slice C2 l2 f2, .bool fc, .int .i64 hn1, .int .i64 hd1])) := Lib.hid (by rw [hd0]; exact ⟨_, _, _, _, _, _, _, _, _, _, _, _, rfl, HP7.out⟩)
        have HXD : Hid (absR (f i - g i) = -1 * d0) := Lib.hid (by rw [HXY.out, HAB.out, ← hd0]; rfl)
        clear hd0 HXY HAB
        go_upto_region 7 with (fail)
        clear x0
        refine Rel.wp_region_rel 4 (by kernel_rfl) (by kernel_rfl) (fun F hF => ?_)
        simp only [List.take_succ_cons, List.take_zero, List.drop_succ_cons, List.drop_zero, Rel.putL] at hF ⊢
        have HF := Lib.hid hF
        clear hF
        have uv := @Rel.upon_value Tryz.prog
        have ue := @Rel.upon_enter Tryz.prog
        apply Rel.rel_pure
        apply Exists.intro
        refine ⟨fun vs wq hq hdp R hR => ?_, ?_⟩
        · (rw [HF.out, Rel.stepAt_eq]; clear hdp; skip; go_simp; exact hR)
        refine Rel.rel_law (S := fun v w' => IsW w' (-1) 2 v) (isW_mono _ _) (fun vs wq hq hdp => ?_) ?_
        · (rw [HF.out, Rel.stepAt_eq]; have qd0 : vs 0 = _ := Rel.dep hdp 0 (by kernel_rfl); clear hdp; skip; go_simp; refine (HM1.out _).mono ?_; rintro e w7 ⟨v, rfl, hv, hb⟩; exact ⟨_, rfl, hv, hb⟩)
        apply Rel.rel_pure
        apply Exists.intro
        refine ⟨fun vs wq hq hdp R hR => ?_, ?_⟩
        · (rw [HF.out, Rel.stepAt_eq]; clear hdp; have x0 := (K7.out.belowS hq).at 0 (v := .bool true) rfl; have x1 := (K7.out.belowS hq).at 1 (v := .slice C1 l1 f1) rfl; have x2 := (K7.out.belowS hq).at 2 (v := .slice C2 l2 f2) rfl; have x3 := (K7.out.belowS hq).at 3 (v := .bool fc) rfl; have x4 := (K7.out.belowS hq).at 4 (v := .int .i64 hn1) rfl; have x5 := (K7.out.belowS hq).at 5 (v := .int .i64 hd1) rfl; go_simp; exact hR)
        refine Rel.rel_law (S := fun v w' => IsW w' (-1 * d0) (2 + (m + (2 + m') + 1)) v) (isW_mono _ _) (fun vs wq hq hdp => ?_) ?_
        · (rw [HF.out, Rel.stepAt_eq]; have qd1 : IsW wq _ _ (vs 1) := Rel.dep hdp 1 (by kernel_rfl); have qd2 : vs 2 = _ := Rel.dep hdp 2 (by kernel_rfl); clear hdp; skip; go_simp; refine (wideMul_any wq qd1 (HD7.out.below hq) (by decide) (by omega) (by decide) (by omega)).mono ?_; rintro e w7 ⟨v, rfl, hv, hb⟩; exact ⟨_, rfl, hv, hb⟩)
        refine Rel.rel_end (fun vs wq hq hall => ?_)
        rw [HF.out]
        have qe0 : vs 0 = _ := Rel.fin hall 0 (by decide)
        have qe1 : IsW wq _ _ (vs 1) := Rel.fin hall 1 (by decide)
        have qe2 : vs 2 = _ := Rel.fin hall 2 (by decide)
        have qe3 : IsW wq _ _ (vs 3) := Rel.fin hall 3 (by decide)
        clear hall HF uv ue
        have K7q := K7.out.belowS hq
        obtain ⟨t', C1', l1', f1', C2', l2', f2', fc', hn1', hd1', n3', d3', ev, hpd⟩ := qe3
        obtain ⟨W8, hW8⟩ : ∃ W8, W8 = put6 wq g7 (.bool t') (.slice C1' l1' f1') (.slice C2' l2' f2') (.bool fc') (.int .i64 hn1') (.int .i64 hd1') := ⟨_, rfl⟩
        have K8 : Hid (Blk W8 g7 81 #[.bool t', .slice C1' l1' f1', .slice C2' l2' f2', .bool fc', .int .i64 hn1', .int .i64 hd1']) := Lib.hid (by rw [hW8]; exact put6_blk K7q _ _ _ _ _ _)
        have HPE : Hid (Parts W8 (absR (f i - g i)) D t' (.slice C1' l1' f1') (.slice C2' l2' f2') fc' hn1' hd1' n3' d3') := Lib.hid (by rw [hW8, HXD.out]; exact (hpd.put6 K7q (by decide) _ _ _ _ _ _).more (by have := HD.out; omega))
        have HB8 : Hid (Below wr.heap.size wr W8) := Lib.hid (by rw [hW8]; exact put6_below (Base.Below.nextA HB7.out hq) hg7 _ _ _ _ _ _)
        unfold put6 at hW8
        have HW8 := Lib.hid hW8
        have z0 := K7q.frz 0
        have z1 := K7q.frz 1
        have z2 := K7q.frz 2
        have z3 := K7q.frz 3
        have z4 := K7q.frz 4
        have z5 := K7q.frz 5
        have c0 := K7q.at 0 (v := .bool true) rfl
        have c1 := K7q.at 1 (v := .slice C1 l1 f1) rfl
        have c2 := K7q.at 2 (v := .slice C2 l2 f2) rfl
        have c3 := K7q.at 3 (v := .bool fc) rfl
        have c4 := K7q.at 4 (v := .int .i64 hn1) rfl
        have c5 := K7q.at 5 (v := .int .i64 hd1) rfl
        clear qe0 qe1 qe2 hq K7q hpd hW8 K7 HP7 HB7 HD7 HXD
        go_upto_region 8 with (fail)
        rw [← HW8.out]
        clear z0 z1 z2 z3 z4 z5 c0 c1 c2 c3 c4 c5 HW8
        have HN := Lib.hid (fun w3 v' ca t hown hg => DsRel.next (w2 := w3) (v' := v') (ca := ca) (t := t) hlt HO.out KRr.out HB.out HB8.out HPE.out hown hg)
        have HOA := Lib.hid (World.ownsRow.alloc (ownsRow_below HO.out.row HB8.out) (.cells #[.bool t', .slice C1' l1' f1', .slice C2' l2' f2', .bool fc', .int .i64 hn1', .int .i64 hd1'] 81))
        have d0 := K8.out.at 0 (v := .bool t') rfl
        have d1 := K8.out.at 1 (v := .slice C1' l1' f1') rfl
        have d2 := K8.out.at 2 (v := .slice C2' l2' f2') rfl
        have d3 := K8.out.at 3 (v := .bool fc') rfl
        have d4 := K8.out.at 4 (v := .int .i64 hn1') rfl
        have d5 := K8.out.at 5 (v := .int .i64 hd1') rfl
        have hszW := (HB8.out).size
        have hszB := HB.out.size
        clear HO HB KRr
        go_wp2_with (at_builtin; refine wpList_append_own_at _ rfl (.tmp 33) (.tmp 35) 93 rfl (w.heap.size + 1) 81 iw (.agg #[.bool false, .slice none 0 0, .slice none 0 0, .bool false, .int .i64 0, .int .i64 0]) 6 80 Tryz.underlying93 wi wz0 wz1 wz2 rfl (by decide) _ _ _ rfl HOA.out ⟨W8.heap.size, 0, none⟩ 1 1 [.bool t', .slice C1' l1' f1', .slice C2' l2' f2', .bool fc', .int .i64 hn1', .int .i64 hd1'] rfl rfl ?p1b ?p2b ?p3b ?p4b ?p5b ?_)
        try case p1b => exact news_six _ _ (by simp)
        try case p2b => exact ones_six
        try case p3b => first | (simp only [maxLen]; omega) | omega
        try case p4b => omega
        try case p5b => first | (simp only [World.size_alloc]; omega) | omega
        intro v' w3 hown' hg' _ he
        have HN3 := Lib.hid (HN.out w3 v' _ _ hown' hg')
        clear hown' hg' he HN HOA d0 d1 d2 d3 d4 d5
        go_wp2
        go_roundw
        case rel => exact HN3.out
        case measure => simp [intOf]; omega
    · obtain rfl : i = n := by omega
      obtain ⟨A5, c5, rfl, _⟩ := HO.out.form
      have hDm : 2 + i * (D + 1) = 2 + i * (m + m' + 6) := by rw [HD.out]
      have hMM := HMM.out
      have HSU := Lib.hid (sum_any wr (HO.out.base (Nat.zero_le _)) (show 2 ≤ D by have := HD.out; omega) (by rw [hDm]; omega) hn)
      rw [hDm] at HSU
      have HRES : Hid (disR i f g = sumR i (fun j => absR (f j - g j)) * qf 1 2) := Lib.hid (by rw [qf_half]; rfl)
      have hMs : 2 + i * (m + m' + 6) + 2 ≤ 300000 := by omega
      have hMe : 2 + i * (m + m' + 6) + 2 = 4 + i * (m + m' + 6) := by omega
      clear HO hDm
      generalize sumR i (fun j => absR (f j - g j)) = S at *
      generalize i * (m + m' + 6) = E at *
      go_wp2_with fail
      refine HSU.out.mono ?_
      rintro e w2 ⟨v, rfl, hv, hb2⟩
      have HB2 := Lib.hid (Base.Below.nextA HB.out hb2)
      have KR2 := Lib.hid (KRr.out.belowS hb2)
      have HH := Lib.hid (half_any w2 hv (by omega) (by omega))
      have HV2 := Lib.hid hv
      clear hb2 hv HSU KRr HB
      go_wp2_with fail
      refine HH.out.mono ?_
      rintro e w3 ⟨v3, rfl, hv3, hb3⟩
      have HB3 := Lib.hid (Base.Below.nextA HB2.out hb3)
      have KR3 := Lib.hid (KR2.out.belowS hb3)
      have HL := Lib.hid (lowest_any w3 hv3 (by omega))
      clear hb3 hv3 HH KR2 HB2
      go_wp2_with fail
      refine HL.out.mono ?_
      rintro e w4 ⟨v4, rfl, hv4, hb4⟩
      obtain ⟨s, A1, k1, c1', A2, k2, c2', fine, fn, fd, nn, dd, rfl, hpz⟩ := hv4.wide
      have KRq := KR3.out.belowS hb4
      have HBq := Base.Below.nextA HB3.out hb4
      have HP2 : Hid (Parts w4 (disR i f g) (4 + E) s (.slice A1 k1 c1') (.slice A2 k2 c2') fine fn fd nn dd) := Lib.hid (by rw [HRES.out]; exact hpz.more (by omega))
      clear hv4 hb4 hpz HL KR3 HB3 HRES hMe
      have z0 := (KRq).frz 0
      have z1 := (KRq).frz 1
      have z2 := (KRq).frz 2
      have z3 := (KRq).frz 3
      have z4 := (KRq).frz 4
      have z5 := (KRq).frz 5
      have c0 := (KRq).at 0 (v := .bool false) rfl
      have c1 := (KRq).at 1 (v := .slice none 0 0) rfl
      have c2 := (KRq).at 2 (v := .slice none 0 0) rfl
      have c3 := (KRq).at 3 (v := .bool false) rfl
      have c4 := (KRq).at 4 (v := .int .i64 0) rfl
      have c5 := (KRq).at 5 (v := .int .i64 0) rfl
      have SS := put6_blk (KRq) (.bool s) (.slice A1 k1 c1') (.slice A2 k2 c2') (.bool fine) (.int .i64 fn) (.int .i64 fd)
      unfold put6 at SS
      have s0 := SS.at 0 rfl
      have s1 := SS.at 1 rfl
      have s2 := SS.at 2 rfl
      have s3 := SS.at 3 rfl
      have s4 := SS.at 4 rfl
      have s5 := SS.at 5 rfl
      have HFIN := Lib.hid (WRet.put (HP2.out) (KRq) (HBq) (Nat.le_refl _))
      clear SS
      go_wp2
      refine bodyPost_ret (v := .agg #[.bool s, .slice A1 k1 c1', .slice A2 k2 c2', .bool fine, .int .i64 fn, .int .i64 fd]) (by simp [results, Tryz.results116, go_sem, s0, s1, s2, s3, s4, s5]) rfl ?_
      exact HFIN.out
end Go.Proofs.YtionognmgcabbaaGreat.Wide
/- Lists of wide fractions that lie in a list of lists, each appended to. -/
namespace Go.Proofs.YtionognmgcabbaaGreat.Wide
open Go.RowKit Go.Proofs.YtionognmgcabbaaGreat Go.Proofs.YtionognmgcabbaaGreat.Base Go.Proofs.YtionognmgcabbaaGreat.Mem Go.Proofs.YtionognmgcabbaaGreat.RatM Go.Proofs.YtionognmgcabbaaGreat.BigM Go.Proofs.YtionognmgcabbaaGreat.Big Go.Proofs.YtionognmgcabbaaGreat.Fine Go.Proofs.YtionognmgcabbaaGreat.Blk Go.Proofs.YtionognmgcabbaaGreat.GaussM
set_option linter.unusedVariables false
/-- the N cells of block g are slices; the list of slice y has the rationals ls y -/
structure LW (w : World) (g N B m : Nat) (ls : Nat → List Rat) (vs : Nat → Value) : Prop where
  blk : ∃ cs, Blk w g 93 cs ∧ cs.size = N ∧ ∀ y, y < N → cs[y]? = some (vs y)
  els : ∀ y, y < N → ∃ cc, OwnW w B (vs y) (ls y).length (fun i => (ls y).getD i 0) m cc
  apart : ∀ y z, y < N → z < N → y ≠ z → (vs y).ownBlock = none ∨ (vs y).ownBlock ≠ (vs z).ownBlock
theorem LW.below {w w' : World} {g N B m : Nat} {ls : Nat → List Rat} {vs : Nat → Value} (h : LW w g N B m ls vs) (hb : Below w.heap.size w w') : LW w' g N B m ls vs := by
  obtain ⟨cs, K, hz, hc⟩ := h.blk
  exact ⟨⟨cs, K.belowS hb, hz, hc⟩, fun y hy => by
    obtain ⟨cc, ho⟩ := h.els y hy
    exact ⟨cc, ho.below hb⟩, h.apart⟩
theorem LW.lt {w : World} {g N B m : Nat} {ls : Nat → List Rat} {vs : Nat → Value} (h : LW w g N B m ls vs) : g < w.heap.size := by
  obtain ⟨cs, K, _⟩ := h.blk
  exact K.lt
theorem LW.cell {w : World} {g N B m : Nat} {ls : Nat → List Rat} {vs : Nat → Value} (h : LW w g N B m ls vs) {y : Nat} (hy : y < N) : w.cell? ⟨g, y, none⟩ = some (vs y) := by
  obtain ⟨cs, K, hz, hc⟩ := h.blk
  exact K.at y (hc y hy)
theorem LW.frz {w : World} {g N B m : Nat} {ls : Nat → List Rat} {vs : Nat → Value} (h : LW w g N B m ls vs) (y : Nat) : w.frozen? ⟨g, y, none⟩ = false := by
  obtain ⟨cs, K, _⟩ := h.blk
  exact K.frz y
/-- a row of wides is as it was behind the growth of another row of wides -/
theorem OwnW.kept {w w' : World} {B B' n n' m : Nat} {v v' : Value} {f : Nat → Rat} {cs cs' : List Value} (h : OwnW w B v n f m cs) (h' : w.ownsRow B' 81 6 v' n' cs') (hne : v.ownBlock = none ∨ v.ownBlock ≠ v'.ownBlock) (hg : w.grownBy w' v'.ownBlock) : OwnW w' B v n f m cs :=
  ⟨h.row.kept hg hne, fun i hi => by
    obtain ⟨s, A1, k1, c1, A2, k2, c2, fine, fn, fd, n, d, e, hp⟩ := h.els i hi
    exact ⟨s, A1, k1, c1, A2, k2, c2, fine, fn, fd, n, d, e, hp.kept h' (by decide) hg⟩⟩
/-- a row of wides is as it was behind a store into a block of another type -/
theorem OwnW.store {w : World} {B n m b i : Nat} {v u : Value} {f : Nat → Rat} {cs : List Value} {t : TypeId} {ca : Array Value} (h : OwnW w B v n f m cs) (K : Blk w b t ca) (ht : t ≠ 2) (ht2 : t ≠ 81) : OwnW (w.setCell ⟨b, i, none⟩ u) B v n f m cs := by
  refine ⟨?_, fun i hi => ?_⟩
  · refine World.ownsRow.kept h.row (Src.grown_setCell w ⟨b, i, none⟩ u) ?_
    cases hb : v.ownBlock with
    | none => exact .inl rfl
    | some g =>
      refine .inr fun e => ?_
      have e : g = b := Option.some.inj e
      subst e
      obtain ⟨cur, h1, _⟩ := ownsRow_block h.row hb
      unfold Blk at K
      rw [K] at h1
      injection h1 with h1
      injection h1 with _ h3
      exact ht2 h3
  · obtain ⟨s, A1, k1, c1, A2, k2, c2, fine, fn, fd, n, d, e, hp⟩ := h.els i hi
    exact ⟨s, A1, k1, c1, A2, k2, c2, fine, fn, fd, n, d, e, hp.store K ht⟩
/-- an element is pushed to list k -/
theorem LW.push {wr w1 w2 : World} {g N B m k : Nat} {ls : Nat → List Rat} {vs : Nat → Value} {v' : Value} {q : Rat} {s fine : Bool} {A1 A2 : Option Addr} {k1 c1 k2 c2 nn dd : Nat} {fn fd : Int} {ca : Array Value} {t : TypeId} (h : LW wr g N B m ls vs) (hk : k < N) (h1 : Below wr.heap.size wr w1)
    (hp : Parts w1 q m s (.slice A1 k1 c1) (.slice A2 k2 c2) fine fn fd nn dd) {cc : List Value} (hc : OwnW wr B (vs k) (ls k).length (fun i => (ls k).getD i 0) m cc) (hown : w2.ownsRow B 81 6 v' ((ls k).length + 1) (cc ++ six s (.slice A1 k1 c1) (.slice A2 k2 c2) fine fn fd)) (hg : (w1.alloc (.cells ca t)).grownBy w2 (vs k).ownBlock) (he : v'.ownBlock = (vs k).ownBlock ∨ v'.ownBlock = some (w1.alloc (.cells ca t)).heap.size) :
    LW (w2.setCell ⟨g, k, none⟩ v') g N B m (fun y => if y = k then ls k ++ [q] else ls y) (fun y => if y = k then v' else vs y) := by
  obtain ⟨cs, K, hz, hcs⟩ := h.blk
  have hb2 : Below wr.heap.size wr (w1.alloc (.cells ca t)) := h1.alloc h1.size _
  have K1 := K.belowS hb2
  have hck := (hc.below h1).below ((Below.refl w1.heap.size w1).alloc (Nat.le_refl _) (.cells ca t))
  have hgne : (vs k).ownBlock ≠ some g := fun e => by
    obtain ⟨cur, e1, _⟩ := ownsRow_block hck.row e
    unfold Blk at K1
    rw [K1] at e1
    injection e1 with e1
    injection e1 with _ e3
    exact absurd e3 (by decide)
  have K2 : Blk w2 g 93 cs := K1.kept hg hgne
  have hpush := OwnW.push (f := fun i => (ls k ++ [q]).getD i 0) (n := (ls k).length) (hc.congr (fun i hi => by simp only [List.getD_eq_getElem?_getD]; rw [List.getElem?_append_left hi])) h1 (by
    have : (ls k ++ [q]).getD (ls k).length 0 = q := by simp [List.getD_eq_getElem?_getD]
    show Parts w1 ((ls k ++ [q]).getD (ls k).length 0) m _ _ _ _ _ _ _ _
    rw [this]; exact hp) hown hg
  refine ⟨⟨_, K2.set k v', by simp [hz], fun y hy => ?_⟩, fun y hy => ?_, fun y z hy hzz hne => ?_⟩
  · by_cases e : y = k
    · subst e; rw [Array.getElem?_setIfInBounds_self_of_lt (by omega), if_pos rfl]
    · rw [Array.getElem?_setIfInBounds_ne (fun h => e h.symm), if_neg e]; exact hcs y hy
  · by_cases e : y = k
    · subst e
      refine ⟨cc ++ six s (.slice A1 k1 c1) (.slice A2 k2 c2) fine fn fd, ?_⟩
      simp only [if_true]
      rw [List.length_append, List.length_singleton]
      exact hpush.store K2 (by decide) (by decide)
    · obtain ⟨cy, hy'⟩ := h.els y hy
      refine ⟨cy, ?_⟩
      simp only [e, if_false]
      exact (OwnW.kept (hy'.below hb2) hck.row (h.apart y k hy hk e) hg).store K2 (by decide) (by decide)
  · have hsz : ∀ y, y < N → (vs y).ownBlock ≠ some (w1.alloc (.cells ca t)).heap.size := fun y hy e => by
      obtain ⟨cy, hy'⟩ := h.els y hy
      obtain ⟨_, _, _, hlt⟩ := ownsRow_block hy'.row e
      have := hb2.size
      omega
    by_cases e : y = k
    · have ez : z ≠ k := fun h => hne (e.trans h.symm)
      simp only [e, ez, if_true, if_false]
      subst e
      rcases he with he | he
      · rw [he]; exact h.apart _ z hy hzz (fun h => ez h.symm)
      · rw [he]; exact .inr fun h => hsz z hzz h.symm
    · by_cases ez : z = k
      · simp only [e, ez, if_true, if_false]
        subst ez
        rcases he with he | he
        · rw [he]; exact h.apart y _ hy hzz e
        · rw [he]; exact .inr fun h => hsz y hy h
      · simp only [e, ez, if_false]; exact h.apart y z hy hzz hne
/-- the list as it is made -/
theorem LW.made (w : World) (N B m : Nat) : LW (w.alloc (.cells (madeCells (Value.slice none 0 0).cells (N * 1)) 93)) w.heap.size N B m (fun _ => []) (fun _ => .slice none 0 0) := by
  refine ⟨⟨_, Blk.new w _ _, ?_, fun y hy => ?_⟩, fun y hy => ⟨[], OwnW.nil _ _ _ _⟩, fun y z _ _ _ => .inl rfl⟩
  · simp [madeCells]
  · simp [madeCells, hy]
    show (#[Value.slice none 0 0])[y % 1]! = Value.slice none 0 0
    rw [Nat.mod_one]
    rfl
end Go.Proofs.YtionognmgcabbaaGreat.Wide
