/- The reference's fractions of any size: products. -/
import Derived.Test.YtionognmgcabbaaMgIsR14
import Derived.Deep.Cut
namespace Go.Proofs.Ytionognmgcabbaa.Wide
open Go.RowKit Go.Proofs.Ytionognmgcabbaa Go.Proofs.Ytionognmgcabbaa.Base Go.Proofs.Ytionognmgcabbaa.Mem Go.Proofs.Ytionognmgcabbaa.RatM Go.Proofs.Ytionognmgcabbaa.BigM Go.Proofs.Ytionognmgcabbaa.Big Go.Proofs.Ytionognmgcabbaa.Fine Go.Proofs.Ytionognmgcabbaa.Blk
set_option linter.unusedVariables false
set_option maxHeartbeats 4000000 in
set_option maxRecDepth 100000 in
theorem wideMul_no {q r : Rat} {m m' : Nat} {s s' fa fb : Bool} {A1 A2 A3 A4 : Option Addr} {k1 k2 k3 k4 c1 c2 c3 c4 n d n' d' : Nat} {fn fd gn gd : Int} (w : World) (hp : Parts w q m s (.slice A1 k1 c1) (.slice A2 k2 c2) fa fn fd n d) (hp' : Parts w r m' s' (.slice A3 k3 c3) (.slice A4 k4 c4) fb gn gd n' d') (hf : (fa && fb) = false) (hm : m ≤ 400000) (hm' : m' ≤ 400000) (h2 : 2 ≤ m) (h2' : 2 ≤ m') : Calls Try.prog 47 #[.agg #[.bool s, .slice A1 k1 c1, .slice A2 k2 c2, .bool fa, .int .i64 fn, .int .i64 fd], .agg #[(.bool s'), .slice A3 k3 c3, .slice A4 k4 c4, (.bool fb), .int .i64 gn, .int .i64 gd]] w (WRet (q * r) (m + m') w) := by
  have HP := Lib.hid hp
  have HP' := Lib.hid hp'
  have HV := Lib.hid (And.intro hp.val hp'.val)
  have HD := Lib.hid (And.intro hp.pos hp'.pos)
  have HL := Lib.hid (And.intro hp.ln (And.intro hp.ld (And.intro hp'.ln hp'.ld)))
  obtain ⟨W3, hW3⟩ : ∃ W3, W3 = ((w.alloc (.cells #[.bool s, .slice A1 k1 c1, .slice A2 k2 c2, .bool fa, .int .i64 fn, .int .i64 fd] 65)).alloc (.cells #[(.bool s'), .slice A3 k3 c3, .slice A4 k4 c4, (.bool fb), .int .i64 gn, .int .i64 gd] 65)).alloc (.cells #[.bool false, .slice none 0 0, .slice none 0 0, .bool false, .int .i64 0, .int .i64 0] 65) := ⟨_, rfl⟩
  have K0 : Hid (Blk W3 w.heap.size 65 #[.bool s, .slice A1 k1 c1, .slice A2 k2 c2, .bool fa, .int .i64 fn, .int .i64 fd]) := Lib.hid (by rw [hW3]; exact ((Blk.new w _ _).alloc _).alloc _)
  have K1 : Hid (Blk W3 (w.heap.size + 1) 65 #[(.bool s'), .slice A3 k3 c3, .slice A4 k4 c4, (.bool fb), .int .i64 gn, .int .i64 gd]) := Lib.hid (by rw [hW3]; exact (Blk.newAt _ _ (by simp)).alloc _)
  have KR : Hid (Blk W3 (w.heap.size + 1 + 1) 65 #[.bool false, .slice none 0 0, .slice none 0 0, .bool false, .int .i64 0, .int .i64 0]) := Lib.hid (by rw [hW3]; exact Blk.newAt _ _ (by simp))
  have HB : Hid (Below w.heap.size w W3) := Lib.hid (by rw [hW3]; exact (((Below.refl _ _).alloc (Nat.le_refl _) _).alloc (by simp) _).alloc (by simp; omega) _)
  have HW := Lib.hid hW3
  clear hW3 hp hp'
  have hfin : (fa && fb) = false := hf
  have HH := Lib.hid hfin
  clear hfin hf
  have x3 := K0.out.at 3 (v := .bool fa) rfl
  have y3 := K1.out.at 3 (v := .bool fb) rfl
  go_enter Try.func47, Try.ntmps47
  go_upto_region 1 with (fail)
  rw [← HW.out]
  clear HW
  cases fa with
  | false =>
    go_wp2_with fail
    have HPW : Hid (∀ W, Below W3.heap.size W3 W → IsB W n (.slice A1 k1 c1) ∧ IsB W n' (.slice A3 k3 c3) ∧ IsB W d (.slice A2 k2 c2) ∧ IsB W d' (.slice A4 k4 c4)) := Lib.hid fun W hb => by
      have hb2 := Base.Below.nextA HB.out hb
      exact ⟨HP.out.num.below hb2, HP'.out.num.below hb2, HP.out.den.below hb2, HP'.out.den.below hb2⟩
    have HQ : Hid (∀ W sb B1 B2 j1 j2 e1 e2, sb = (s != s') → IsB W (n * n') (.slice B1 j1 e1) → IsB W (d * d') (.slice B2 j2 e2) → IsW W (q * r) (m + m') (.agg #[.bool sb, .slice B1 j1 e1, .slice B2 j2 e2, .bool false, .int .i64 0, .int .i64 0])) := Lib.hid fun W sb B1 B2 j1 j2 e1 e2 hs g1 g2 =>
      ⟨sb, B1, j1, e1, B2, j2, e2, false, 0, 0, _, _, rfl, ⟨g1, g2, Nat.mul_pos HD.out.1 HD.out.2, by rw [hs, qv_mul _ _ (Nat.ne_of_gt HD.out.1) (Nat.ne_of_gt HD.out.2), HV.out.1, HV.out.2], Nat.le_trans (len_mul _ _) (by have := HL.out; omega), Nat.le_trans (len_mul _ _) (by have := HL.out; omega), fun h => by cases h⟩⟩
    refine Rel.wp_region_rel 16 (by kernel_rfl) (by kernel_rfl) (fun F hF => ?_)
    simp only [List.take_succ_cons, List.take_zero, List.drop_succ_cons, List.drop_zero, Rel.putL] at hF ⊢
    have HF := Lib.hid hF
    clear hF
    have uv := @Rel.upon_value Try.prog
    have ue := @Rel.upon_enter Try.prog
    apply Rel.rel_pure
    apply Exists.intro
    refine ⟨fun vs wq hq hdp R hR => ?_, ?_⟩
    · (rw [HF.out, Rel.stepAt_eq]; clear hdp; skip; go_simp; exact hR)
    apply Rel.rel_pure
    apply Exists.intro
    refine ⟨fun vs wq hq hdp R hR => ?_, ?_⟩
    · (rw [HF.out, Rel.stepAt_eq]; have qd0 : vs 0 = _ := Rel.dep hdp 0 (by kernel_rfl); clear hdp; have x0 := (K0.out.belowS hq).at 0 (v := .bool s) rfl; have x1 := (K0.out.belowS hq).at 1 (v := .slice A1 k1 c1) rfl; have x2 := (K0.out.belowS hq).at 2 (v := .slice A2 k2 c2) rfl; have y0 := (K1.out.belowS hq).at 0 (v := (.bool s')) rfl; have y1 := (K1.out.belowS hq).at 1 (v := .slice A3 k3 c3) rfl; have y2 := (K1.out.belowS hq).at 2 (v := .slice A4 k4 c4) rfl; go_simp; exact hR)
    apply Rel.rel_pure
    apply Exists.intro
    refine ⟨fun vs wq hq hdp R hR => ?_, ?_⟩
    · (rw [HF.out, Rel.stepAt_eq]; clear hdp; skip; go_simp; exact hR)
    apply Rel.rel_pure
    apply Exists.intro
    refine ⟨fun vs wq hq hdp R hR => ?_, ?_⟩
    · (rw [HF.out, Rel.stepAt_eq]; have qd2 : vs 2 = _ := Rel.dep hdp 2 (by kernel_rfl); clear hdp; have x0 := (K0.out.belowS hq).at 0 (v := .bool s) rfl; have x1 := (K0.out.belowS hq).at 1 (v := .slice A1 k1 c1) rfl; have x2 := (K0.out.belowS hq).at 2 (v := .slice A2 k2 c2) rfl; have y0 := (K1.out.belowS hq).at 0 (v := (.bool s')) rfl; have y1 := (K1.out.belowS hq).at 1 (v := .slice A3 k3 c3) rfl; have y2 := (K1.out.belowS hq).at 2 (v := .slice A4 k4 c4) rfl; go_simp; exact hR)
    apply Rel.rel_pure
    apply Exists.intro
    refine ⟨fun vs wq hq hdp R hR => ?_, ?_⟩
    · (rw [HF.out, Rel.stepAt_eq]; have qd1 : vs 1 = _ := Rel.dep hdp 1 (by kernel_rfl); have qd3 : vs 3 = _ := Rel.dep hdp 3 (by kernel_rfl); clear hdp; skip; go_simp; exact hR)
    apply Rel.rel_pure
    apply Exists.intro
    refine ⟨fun vs wq hq hdp R hR => ?_, ?_⟩
    · (rw [HF.out, Rel.stepAt_eq]; clear hdp; skip; go_simp; exact hR)
    apply Rel.rel_pure
    apply Exists.intro
    refine ⟨fun vs wq hq hdp R hR => ?_, ?_⟩
    · (rw [HF.out, Rel.stepAt_eq]; have qd5 : vs 5 = _ := Rel.dep hdp 5 (by kernel_rfl); clear hdp; have x0 := (K0.out.belowS hq).at 0 (v := .bool s) rfl; have x1 := (K0.out.belowS hq).at 1 (v := .slice A1 k1 c1) rfl; have x2 := (K0.out.belowS hq).at 2 (v := .slice A2 k2 c2) rfl; have y0 := (K1.out.belowS hq).at 0 (v := (.bool s')) rfl; have y1 := (K1.out.belowS hq).at 1 (v := .slice A3 k3 c3) rfl; have y2 := (K1.out.belowS hq).at 2 (v := .slice A4 k4 c4) rfl; go_simp; exact hR)
    apply Rel.rel_pure
    apply Exists.intro
    refine ⟨fun vs wq hq hdp R hR => ?_, ?_⟩
    · (rw [HF.out, Rel.stepAt_eq]; clear hdp; skip; go_simp; exact hR)
    apply Rel.rel_pure
    apply Exists.intro
    refine ⟨fun vs wq hq hdp R hR => ?_, ?_⟩
    · (rw [HF.out, Rel.stepAt_eq]; have qd7 : vs 7 = _ := Rel.dep hdp 7 (by kernel_rfl); clear hdp; have x0 := (K0.out.belowS hq).at 0 (v := .bool s) rfl; have x1 := (K0.out.belowS hq).at 1 (v := .slice A1 k1 c1) rfl; have x2 := (K0.out.belowS hq).at 2 (v := .slice A2 k2 c2) rfl; have y0 := (K1.out.belowS hq).at 0 (v := (.bool s')) rfl; have y1 := (K1.out.belowS hq).at 1 (v := .slice A3 k3 c3) rfl; have y2 := (K1.out.belowS hq).at 2 (v := .slice A4 k4 c4) rfl; go_simp; exact hR)
    refine Rel.rel_law (S := fun v w' => IsB w' (n * n') v) (isB_mono _) (fun vs wq hq hdp => ?_) ?_
    · (rw [HF.out, Rel.stepAt_eq]; have qd6 : vs 6 = _ := Rel.dep hdp 6 (by kernel_rfl); have qd8 : vs 8 = _ := Rel.dep hdp 8 (by kernel_rfl); clear hdp; skip; go_simp; refine (bigTimes_any wq (HPW.out wq hq).1 (HPW.out wq hq).2.1 (Nat.le_trans HL.out.1 (by omega)) (Nat.le_trans HL.out.2.2.1 (by omega))).mono ?_; rintro e w7 ⟨v, rfl, hv, hb⟩; exact ⟨_, rfl, hv, hb⟩)
    apply Rel.rel_pure
    apply Exists.intro
    refine ⟨fun vs wq hq hdp R hR => ?_, ?_⟩
    · (rw [HF.out, Rel.stepAt_eq]; clear hdp; skip; go_simp; exact hR)
    apply Rel.rel_pure
    apply Exists.intro
    refine ⟨fun vs wq hq hdp R hR => ?_, ?_⟩
    · (rw [HF.out, Rel.stepAt_eq]; have qd10 : vs 10 = _ := Rel.dep hdp 10 (by kernel_rfl); clear hdp; have x0 := (K0.out.belowS hq).at 0 (v := .bool s) rfl; have x1 := (K0.out.belowS hq).at 1 (v := .slice A1 k1 c1) rfl; have x2 := (K0.out.belowS hq).at 2 (v := .slice A2 k2 c2) rfl; have y0 := (K1.out.belowS hq).at 0 (v := (.bool s')) rfl; have y1 := (K1.out.belowS hq).at 1 (v := .slice A3 k3 c3) rfl; have y2 := (K1.out.belowS hq).at 2 (v := .slice A4 k4 c4) rfl; go_simp; exact hR)
    apply Rel.rel_pure
    apply Exists.intro
    refine ⟨fun vs wq hq hdp R hR => ?_, ?_⟩
    · (rw [HF.out, Rel.stepAt_eq]; clear hdp; skip; go_simp; exact hR)
    apply Rel.rel_pure
    apply Exists.intro
    refine ⟨fun vs wq hq hdp R hR => ?_, ?_⟩
    · (rw [HF.out, Rel.stepAt_eq]; have qd12 : vs 12 = _ := Rel.dep hdp 12 (by kernel_rfl); clear hdp; have x0 := (K0.out.belowS hq).at 0 (v := .bool s) rfl; have x1 := (K0.out.belowS hq).at 1 (v := .slice A1 k1 c1) rfl; have x2 := (K0.out.belowS hq).at 2 (v := .slice A2 k2 c2) rfl; have y0 := (K1.out.belowS hq).at 0 (v := (.bool s')) rfl; have y1 := (K1.out.belowS hq).at 1 (v := .slice A3 k3 c3) rfl; have y2 := (K1.out.belowS hq).at 2 (v := .slice A4 k4 c4) rfl; go_simp; exact hR)
    refine Rel.rel_law (S := fun v w' => IsB w' (d * d') v) (isB_mono _) (fun vs wq hq hdp => ?_) ?_
    · (rw [HF.out, Rel.stepAt_eq]; have qd11 : vs 11 = _ := Rel.dep hdp 11 (by kernel_rfl); have qd13 : vs 13 = _ := Rel.dep hdp 13 (by kernel_rfl); clear hdp; skip; go_simp; refine (bigTimes_any wq (HPW.out wq hq).2.2.1 (HPW.out wq hq).2.2.2 (Nat.le_trans HL.out.2.1 (by omega)) (Nat.le_trans HL.out.2.2.2 (by omega))).mono ?_; rintro e w7 ⟨v, rfl, hv, hb⟩; exact ⟨_, rfl, hv, hb⟩)
    refine Rel.rel_law (S := fun v w' => IsW w' (q * r) (m + m') v) (isW_mono _ _) (fun vs wq hq hdp => ?_) ?_
    · (rw [HF.out, Rel.stepAt_eq]; have qd4 : vs 4 = _ := Rel.dep hdp 4 (by kernel_rfl); have qd9 : IsB wq _ (vs 9) := Rel.dep hdp 9 (by kernel_rfl); have qd14 : IsB wq _ (vs 14) := Rel.dep hdp 14 (by kernel_rfl); clear hdp; obtain ⟨B1, e1, ev1, _⟩ := Dig.form qd9; obtain ⟨B2, e2, ev2, _⟩ := Dig.form qd14; have HPP := Lib.hid (HQ.out wq (s != s') B1 B2 _ _ e1 e2 rfl (by rw [← ev1]; exact qd9) (by rw [← ev2]; exact qd14)); go_simp; exact ⟨HPP.out, Below.refl _ _⟩)
    refine Rel.rel_end (fun vs wq hq hall => ?_)
    rw [HF.out]
    have qe0 : vs 0 = _ := Rel.fin hall 0 (by decide)
    have qe1 : vs 1 = _ := Rel.fin hall 1 (by decide)
    have qe2 : vs 2 = _ := Rel.fin hall 2 (by decide)
    have qe3 : vs 3 = _ := Rel.fin hall 3 (by decide)
    have qe4 : vs 4 = _ := Rel.fin hall 4 (by decide)
    have qe5 : vs 5 = _ := Rel.fin hall 5 (by decide)
    have qe6 : vs 6 = _ := Rel.fin hall 6 (by decide)
    have qe7 : vs 7 = _ := Rel.fin hall 7 (by decide)
    have qe8 : vs 8 = _ := Rel.fin hall 8 (by decide)
    have qe9 : IsB wq _ (vs 9) := Rel.fin hall 9 (by decide)
    have qe10 : vs 10 = _ := Rel.fin hall 10 (by decide)
    have qe11 : vs 11 = _ := Rel.fin hall 11 (by decide)
    have qe12 : vs 12 = _ := Rel.fin hall 12 (by decide)
    have qe13 : vs 13 = _ := Rel.fin hall 13 (by decide)
    have qe14 : IsB wq _ (vs 14) := Rel.fin hall 14 (by decide)
    have qe15 : IsW wq _ _ (vs 15) := Rel.fin hall 15 (by decide)
    clear hall HF uv ue
    obtain ⟨s, A1, k1, c1', A2, k2, c2', fine, fn, fd, nn, dd, ev, hpz⟩ := qe15
    have KRq := KR.out.belowS hq
    have HBq := Base.Below.nextA HB.out hq
    have HP2 := Lib.hid hpz
    clear hq hpz HP HP' K0 K1 HPW HQ
    have z0 := (KRq).frz 0
    have z1 := (KRq).frz 1
    have z2 := (KRq).frz 2
    have z3 := (KRq).frz 3
    have z4 := (KRq).frz 4
    have z5 := (KRq).frz 5
    have c0 := (KRq).at 0 (v := .bool false) rfl
    have c1 := (KRq).at 1 (v := .slice none 0 0) rfl
    have c2 := (KRq).at 2 (v := .slice none 0 0) rfl
    have c3 := (KRq).at 3 (v := .bool false) rfl
    have c4 := (KRq).at 4 (v := .int .i64 0) rfl
    have c5 := (KRq).at 5 (v := .int .i64 0) rfl
    have SS := put6_blk (KRq) (.bool s) (.slice A1 k1 c1') (.slice A2 k2 c2') (.bool fine) (.int .i64 fn) (.int .i64 fd)
    unfold put6 at SS
    have s0 := SS.at 0 rfl
    have s1 := SS.at 1 rfl
    have s2 := SS.at 2 rfl
    have s3 := SS.at 3 rfl
    have s4 := SS.at 4 rfl
    have s5 := SS.at 5 rfl
    have HFIN := Lib.hid (WRet.put (HP2.out) (KRq) (HBq) (by omega))
    clear SS
    go_wp2
    refine bodyPost_ret (v := .agg #[.bool s, .slice A1 k1 c1', .slice A2 k2 c2', .bool fine, .int .i64 fn, .int .i64 fd]) (by simp [results, Try.results47, go_sem, s0, s1, s2, s3, s4, s5]) rfl ?_
    exact HFIN.out
  | true =>
    cases fb with
    | true => exact absurd HH.out (by decide)
    | false =>
      go_wp2_with fail
      have HPW : Hid (∀ W, Below W3.heap.size W3 W → IsB W n (.slice A1 k1 c1) ∧ IsB W n' (.slice A3 k3 c3) ∧ IsB W d (.slice A2 k2 c2) ∧ IsB W d' (.slice A4 k4 c4)) := Lib.hid fun W hb => by
        have hb2 := Base.Below.nextA HB.out hb
        exact ⟨HP.out.num.below hb2, HP'.out.num.below hb2, HP.out.den.below hb2, HP'.out.den.below hb2⟩
      have HQ : Hid (∀ W sb B1 B2 j1 j2 e1 e2, sb = (s != s') → IsB W (n * n') (.slice B1 j1 e1) → IsB W (d * d') (.slice B2 j2 e2) → IsW W (q * r) (m + m') (.agg #[.bool sb, .slice B1 j1 e1, .slice B2 j2 e2, .bool false, .int .i64 0, .int .i64 0])) := Lib.hid fun W sb B1 B2 j1 j2 e1 e2 hs g1 g2 =>
        ⟨sb, B1, j1, e1, B2, j2, e2, false, 0, 0, _, _, rfl, ⟨g1, g2, Nat.mul_pos HD.out.1 HD.out.2, by rw [hs, qv_mul _ _ (Nat.ne_of_gt HD.out.1) (Nat.ne_of_gt HD.out.2), HV.out.1, HV.out.2], Nat.le_trans (len_mul _ _) (by have := HL.out; omega), Nat.le_trans (len_mul _ _) (by have := HL.out; omega), fun h => by cases h⟩⟩
      refine Rel.wp_region_rel 16 (by kernel_rfl) (by kernel_rfl) (fun F hF => ?_)
      simp only [List.take_succ_cons, List.take_zero, List.drop_succ_cons, List.drop_zero, Rel.putL] at hF ⊢
      have HF := Lib.hid hF
      clear hF
      have uv := @Rel.upon_value Try.prog
      have ue := @Rel.upon_enter Try.prog
      apply Rel.rel_pure
      apply Exists.intro
      refine ⟨fun vs wq hq hdp R hR => ?_, ?_⟩
      · (rw [HF.out, Rel.stepAt_eq]; clear hdp; skip; go_simp; exact hR)
      apply Rel.rel_pure
      apply Exists.intro
      refine ⟨fun vs wq hq hdp R hR => ?_, ?_⟩
      · (rw [HF.out, Rel.stepAt_eq]; have qd0 : vs 0 = _ := Rel.dep hdp 0 (by kernel_rfl); clear hdp; have x0 := (K0.out.belowS hq).at 0 (v := .bool s) rfl; have x1 := (K0.out.belowS hq).at 1 (v := .slice A1 k1 c1) rfl; have x2 := (K0.out.belowS hq).at 2 (v := .slice A2 k2 c2) rfl; have y0 := (K1.out.belowS hq).at 0 (v := (.bool s')) rfl; have y1 := (K1.out.belowS hq).at 1 (v := .slice A3 k3 c3) rfl; have y2 := (K1.out.belowS hq).at 2 (v := .slice A4 k4 c4) rfl; go_simp; exact hR)
      apply Rel.rel_pure
      apply Exists.intro
      refine ⟨fun vs wq hq hdp R hR => ?_, ?_⟩
      · (rw [HF.out, Rel.stepAt_eq]; clear hdp; skip; go_simp; exact hR)
      apply Rel.rel_pure
      apply Exists.intro
      refine ⟨fun vs wq hq hdp R hR => ?_, ?_⟩
      · (rw [HF.out, Rel.stepAt_eq]; have qd2 : vs 2 = _ := Rel.dep hdp 2 (by kernel_rfl); clear hdp; have x0 := (K0.out.belowS hq).at 0 (v := .bool s) rfl; have x1 := (K0.out.belowS hq).at 1 (v := .slice A1 k1 c1) rfl; have x2 := (K0.out.belowS hq).at 2 (v := .slice A2 k2 c2) rfl; have y0 := (K1.out.belowS hq).at 0 (v := (.bool s')) rfl; have y1 := (K1.out.belowS hq).at 1 (v := .slice A3 k3 c3) rfl; have y2 := (K1.out.belowS hq).at 2 (v := .slice A4 k4 c4) rfl; go_simp; exact hR)
      apply Rel.rel_pure
      apply Exists.intro
      refine ⟨fun vs wq hq hdp R hR => ?_, ?_⟩
      · (rw [HF.out, Rel.stepAt_eq]; have qd1 : vs 1 = _ := Rel.dep hdp 1 (by kernel_rfl); have qd3 : vs 3 = _ := Rel.dep hdp 3 (by kernel_rfl); clear hdp; skip; go_simp; exact hR)
      apply Rel.rel_pure
      apply Exists.intro
      refine ⟨fun vs wq hq hdp R hR => ?_, ?_⟩
      · (rw [HF.out, Rel.stepAt_eq]; clear hdp; skip; go_simp; exact hR)
      apply Rel.rel_pure
      apply Exists.intro
      refine ⟨fun vs wq hq hdp R hR => ?_, ?_⟩
      · (rw [HF.out, Rel.stepAt_eq]; have qd5 : vs 5 = _ := Rel.dep hdp 5 (by kernel_rfl); clear hdp; have x0 := (K0.out.belowS hq).at 0 (v := .bool s) rfl; have x1 := (K0.out.belowS hq).at 1 (v := .slice A1 k1 c1) rfl; have x2 := (K0.out.belowS hq).at 2 (v := .slice A2 k2 c2) rfl; have y0 := (K1.out.belowS hq).at 0 (v := (.bool s')) rfl; have y1 := (K1.out.belowS hq).at 1 (v := .slice A3 k3 c3) rfl; have y2 := (K1.out.belowS hq).at 2 (v := .slice A4 k4 c4) rfl; go_simp; exact hR)
      apply Rel.rel_pure
      apply Exists.intro
      refine ⟨fun vs wq hq hdp R hR => ?_, ?_⟩
      · (rw [HF.out, Rel.stepAt_eq]; clear hdp; skip; go_simp; exact hR)
      apply Rel.rel_pure
      apply Exists.intro
      refine ⟨fun vs wq hq hdp R hR => ?_, ?_⟩
      · (rw [HF.out, Rel.stepAt_eq]; have qd7 : vs 7 = _ := Rel.dep hdp 7 (by kernel_rfl); clear hdp; have x0 := (K0.out.belowS hq).at 0 (v := .bool s) rfl; have x1 := (K0.out.belowS hq).at 1 (v := .slice A1 k1 c1) rfl; have x2 := (K0.out.belowS hq).at 2 (v := .slice A2 k2 c2) rfl; have y0 := (K1.out.belowS hq).at 0 (v := (.bool s')) rfl; have y1 := (K1.out.belowS hq).at 1 (v := .slice A3 k3 c3) rfl; have y2 := (K1.out.belowS hq).at 2 (v := .slice A4 k4 c4) rfl; go_simp; exact hR)
      refine Rel.rel_law (S := fun v w' => IsB w' (n * n') v) (isB_mono _) (fun vs wq hq hdp => ?_) ?_
      · (rw [HF.out, Rel.stepAt_eq]; have qd6 : vs 6 = _ := Rel.dep hdp 6 (by kernel_rfl); have qd8 : vs 8 = _ := Rel.dep hdp 8 (by kernel_rfl); clear hdp; skip; go_simp; refine (bigTimes_any wq (HPW.out wq hq).1 (HPW.out wq hq).2.1 (Nat.le_trans HL.out.1 (by omega)) (Nat.le_trans HL.out.2.2.1 (by omega))).mono ?_; rintro e w7 ⟨v, rfl, hv, hb⟩; exact ⟨_, rfl, hv, hb⟩)
      apply Rel.rel_pure
      apply Exists.intro
      refine ⟨fun vs wq hq hdp R hR => ?_, ?_⟩
      · (rw [HF.out, Rel.stepAt_eq]; clear hdp; skip; go_simp; exact hR)
      apply Rel.rel_pure
      apply Exists.intro
      refine ⟨fun vs wq hq hdp R hR => ?_, ?_⟩
      · (rw [HF.out, Rel.stepAt_eq]; have qd10 : vs 10 = _ := Rel.dep hdp 10 (by kernel_rfl); clear hdp; have x0 := (K0.out.belowS hq).at 0 (v := .bool s) rfl; have x1 := (K0.out.belowS hq).at 1 (v := .slice A1 k1 c1) rfl; have x2 := (K0.out.belowS hq).at 2 (v := .slice A2 k2 c2) rfl; have y0 := (K1.out.belowS hq).at 0 (v := (.bool s')) rfl; have y1 := (K1.out.belowS hq).at 1 (v := .slice A3 k3 c3) rfl; have y2 := (K1.out.belowS hq).at 2 (v := .slice A4 k4 c4) rfl; go_simp; exact hR)
      apply Rel.rel_pure
      apply Exists.intro
      refine ⟨fun vs wq hq hdp R hR => ?_, ?_⟩
      · (rw [HF.out, Rel.stepAt_eq]; clear hdp; skip; go_simp; exact hR)
      apply Rel.rel_pure
      apply Exists.intro
      refine ⟨fun vs wq hq hdp R hR => ?_, ?_⟩
      · (rw [HF.out, Rel.stepAt_eq]; have qd12 : vs 12 = _ := Rel.dep hdp 12 (by kernel_rfl); clear hdp; have x0 := (K0.out.belowS hq).at 0 (v := .bool s) rfl; have x1 := (K0.out.belowS hq).at 1 (v := .slice A1 k1 c1) rfl; have x2 := (K0.out.belowS hq).at 2 (v := .slice A2 k2 c2) rfl; have y0 := (K1.out.belowS hq).at 0 (v := (.bool s')) rfl; have y1 := (K1.out.belowS hq).at 1 (v := .slice A3 k3 c3) rfl; have y2 := (K1.out.belowS hq).at 2 (v := .slice A4 k4 c4) rfl; go_simp; exact hR)
      refine Rel.rel_law (S := fun v w' => IsB w' (d * d') v) (isB_mono _) (fun vs wq hq hdp => ?_) ?_
      · (rw [HF.out, Rel.stepAt_eq]; have qd11 : vs 11 = _ := Rel.dep hdp 11 (by kernel_rfl); have qd13 : vs 13 = _ := Rel.dep hdp 13 (by kernel_rfl); clear hdp; skip; go_simp; refine (bigTimes_any wq (HPW.out wq hq).2.2.1 (HPW.out wq hq).2.2.2 (Nat.le_trans HL.out.2.1 (by omega)) (Nat.le_trans HL.out.2.2.2 (by omega))).mono ?_; rintro e w7 ⟨v, rfl, hv, hb⟩; exact ⟨_, rfl, hv, hb⟩)
      refine Rel.rel_law (S := fun v w' => IsW w' (q * r) (m + m') v) (isW_mono _ _) (fun vs wq hq hdp => ?_) ?_
      · (rw [HF.out, Rel.stepAt_eq]; have qd4 : vs 4 = _ := Rel.dep hdp 4 (by kernel_rfl); have qd9 : IsB wq _ (vs 9) := Rel.dep hdp 9 (by kernel_rfl); have qd14 : IsB wq _ (vs 14) := Rel.dep hdp 14 (by kernel_rfl); clear hdp; obtain ⟨B1, e1, ev1, _⟩ := Dig.form qd9; obtain ⟨B2, e2, ev2, _⟩ := Dig.form qd14; have HPP := Lib.hid (HQ.out wq (s != s') B1 B2 _ _ e1 e2 rfl (by rw [← ev1]; exact qd9) (by rw [← ev2]; exact qd14)); go_simp; exact ⟨HPP.out, Below.refl _ _⟩)
      refine Rel.rel_end (fun vs wq hq hall => ?_)
      rw [HF.out]
      have qe0 : vs 0 = _ := Rel.fin hall 0 (by decide)
      have qe1 : vs 1 = _ := Rel.fin hall 1 (by decide)
      have qe2 : vs 2 = _ := Rel.fin hall 2 (by decide)
      have qe3 : vs 3 = _ := Rel.fin hall 3 (by decide)
      have qe4 : vs 4 = _ := Rel.fin hall 4 (by decide)
      have qe5 : vs 5 = _ := Rel.fin hall 5 (by decide)
      have qe6 : vs 6 = _ := Rel.fin hall 6 (by decide)
      have qe7 : vs 7 = _ := Rel.fin hall 7 (by decide)
      have qe8 : vs 8 = _ := Rel.fin hall 8 (by decide)
      have qe9 : IsB wq _ (vs 9) := Rel.fin hall 9 (by decide)
      have qe10 : vs 10 = _ := Rel.fin hall 10 (by decide)
      have qe11 : vs 11 = _ := Rel.fin hall 11 (by decide)
      have qe12 : vs 12 = _ := Rel.fin hall 12 (by decide)
      have qe13 : vs 13 = _ := Rel.fin hall 13 (by decide)
      have qe14 : IsB wq _ (vs 14) := Rel.fin hall 14 (by decide)
      have qe15 : IsW wq _ _ (vs 15) := Rel.fin hall 15 (by decide)
      clear hall HF uv ue
      obtain ⟨s, A1, k1, c1', A2, k2, c2', fine, fn, fd, nn, dd, ev, hpz⟩ := qe15
      have KRq := KR.out.belowS hq
      have HBq := Base.Below.nextA HB.out hq
      have HP2 := Lib.hid hpz
      clear hq hpz HP HP' K0 K1 HPW HQ
      have z0 := (KRq).frz 0
      have z1 := (KRq).frz 1
      have z2 := (KRq).frz 2
      have z3 := (KRq).frz 3
      have z4 := (KRq).frz 4
      have z5 := (KRq).frz 5
      have c0 := (KRq).at 0 (v := .bool false) rfl
      have c1 := (KRq).at 1 (v := .slice none 0 0) rfl
      have c2 := (KRq).at 2 (v := .slice none 0 0) rfl
      have c3 := (KRq).at 3 (v := .bool false) rfl
      have c4 := (KRq).at 4 (v := .int .i64 0) rfl
      have c5 := (KRq).at 5 (v := .int .i64 0) rfl
      have SS := put6_blk (KRq) (.bool s) (.slice A1 k1 c1') (.slice A2 k2 c2') (.bool fine) (.int .i64 fn) (.int .i64 fd)
      unfold put6 at SS
      have s0 := SS.at 0 rfl
      have s1 := SS.at 1 rfl
      have s2 := SS.at 2 rfl
      have s3 := SS.at 3 rfl
      have s4 := SS.at 4 rfl
      have s5 := SS.at 5 rfl
      have HFIN := Lib.hid (WRet.put (HP2.out) (KRq) (HBq) (by omega))
      clear SS
      go_wp2
      refine bodyPost_ret (v := .agg #[.bool s, .slice A1 k1 c1', .slice A2 k2 c2', .bool fine, .int .i64 fn, .int .i64 fd]) (by simp [results, Try.results47, go_sem, s0, s1, s2, s3, s4, s5]) rfl ?_
      exact HFIN.out
set_option maxHeartbeats 4000000 in
set_option maxRecDepth 100000 in
theorem wideMul_yes {q r : Rat} {m m' : Nat} {s s' : Bool} {A1 A2 A3 A4 : Option Addr} {k1 k2 k3 k4 c1 c2 c3 c4 n d n' d' : Nat} {fn fd gn gd : Int} (w : World) (hp : Parts w q m s (.slice A1 k1 c1) (.slice A2 k2 c2) true fn fd n d) (hp' : Parts w r m' s' (.slice A3 k3 c3) (.slice A4 k4 c4) true gn gd n' d') (hm : m ≤ 400000) (hm' : m' ≤ 400000) (h2 : 2 ≤ m) (h2' : 2 ≤ m') : Calls Try.prog 47 #[.agg #[.bool s, .slice A1 k1 c1, .slice A2 k2 c2, .bool true, .int .i64 fn, .int .i64 fd], .agg #[(.bool s'), .slice A3 k3 c3, .slice A4 k4 c4, (.bool true), .int .i64 gn, .int .i64 gd]] w (WRet (q * r) (m + m') w) := by
  have HP := Lib.hid hp
  have HP' := Lib.hid hp'
  have HV := Lib.hid (And.intro hp.val hp'.val)
  have HD := Lib.hid (And.intro hp.pos hp'.pos)
  have HL := Lib.hid (And.intro hp.ln (And.intro hp.ld (And.intro hp'.ln hp'.ld)))
  obtain ⟨W3, hW3⟩ : ∃ W3, W3 = ((w.alloc (.cells #[.bool s, .slice A1 k1 c1, .slice A2 k2 c2, .bool true, .int .i64 fn, .int .i64 fd] 65)).alloc (.cells #[(.bool s'), .slice A3 k3 c3, .slice A4 k4 c4, (.bool true), .int .i64 gn, .int .i64 gd] 65)).alloc (.cells #[.bool false, .slice none 0 0, .slice none 0 0, .bool false, .int .i64 0, .int .i64 0] 65) := ⟨_, rfl⟩
  have K0 : Hid (Blk W3 w.heap.size 65 #[.bool s, .slice A1 k1 c1, .slice A2 k2 c2, .bool true, .int .i64 fn, .int .i64 fd]) := Lib.hid (by rw [hW3]; exact ((Blk.new w _ _).alloc _).alloc _)
  have K1 : Hid (Blk W3 (w.heap.size + 1) 65 #[(.bool s'), .slice A3 k3 c3, .slice A4 k4 c4, (.bool true), .int .i64 gn, .int .i64 gd]) := Lib.hid (by rw [hW3]; exact (Blk.newAt _ _ (by simp)).alloc _)
  have KR : Hid (Blk W3 (w.heap.size + 1 + 1) 65 #[.bool false, .slice none 0 0, .slice none 0 0, .bool false, .int .i64 0, .int .i64 0]) := Lib.hid (by rw [hW3]; exact Blk.newAt _ _ (by simp))
  have HB : Hid (Below w.heap.size w W3) := Lib.hid (by rw [hW3]; exact (((Below.refl _ _).alloc (Nat.le_refl _) _).alloc (by simp) _).alloc (by simp; omega) _)
  have HW := Lib.hid hW3
  clear hW3 hp hp'
  obtain ⟨v1, v2, -⟩ := HP.out.small rfl
  obtain ⟨v3, v4, -⟩ := HP'.out.small rfl
  have HM := Lib.hid (fun W => fMul_any v1 v3 W)
  rw [v2, v4] at HM
  unfold FRet at HM
  clear v1 v2 v3 v4
  have x0 := (K0.out).at 0 (v := .bool s) rfl
  have x1 := (K0.out).at 1 (v := .slice A1 k1 c1) rfl
  have x2 := (K0.out).at 2 (v := .slice A2 k2 c2) rfl
  have x3 := (K0.out).at 3 (v := .bool true) rfl
  have x4 := (K0.out).at 4 (v := .int .i64 fn) rfl
  have x5 := (K0.out).at 5 (v := .int .i64 fd) rfl
  have y0 := (K1.out).at 0 (v := (.bool s')) rfl
  have y1 := (K1.out).at 1 (v := .slice A3 k3 c3) rfl
  have y2 := (K1.out).at 2 (v := .slice A4 k4 c4) rfl
  have y3 := (K1.out).at 3 (v := (.bool true)) rfl
  have y4 := (K1.out).at 4 (v := .int .i64 gn) rfl
  have y5 := (K1.out).at 5 (v := .int .i64 gd) rfl
  go_enter Try.func47, Try.ntmps47
  go_upto_region 1 with (fail)
  rw [← HW.out]
  clear HW
  have lR := KR.out.lt
  go_wp2_with fail
  refine (HM.out _).mono ?_
  rintro e w4 ⟨rfl, hb4⟩
  have K0a := K0.out.belowS hb4
  have K1a := K1.out.belowS hb4
  have KRa := KR.out.belowS hb4
  have HBa := Lib.hid (Base.Below.nextA HB.out hb4)
  have KK := Lib.hid (And.intro K0a (And.intro K1a KRa))
  clear K0a K1a KRa hb4 K0 K1 KR HB HM x0 x1 x2 x3 x4 x5 y0 y1 y2 y3 y4 y5 lR
  go_upto_region 3 with (fail)
  obtain ⟨W4, hW4⟩ : ∃ W4, W4 = w4.alloc (.cells #[.int .i64 (numQ (q * r)), .int .i64 (denQ (q * r))] 63) := ⟨_, rfl⟩
  rw [← hW4]
  have K0 : Hid (Blk W4 w.heap.size 65 #[.bool s, .slice A1 k1 c1, .slice A2 k2 c2, .bool true, .int .i64 fn, .int .i64 fd]) := Lib.hid (by rw [hW4]; exact KK.out.1.alloc _)
  have K1 : Hid (Blk W4 (w.heap.size + 1) 65 #[(.bool s'), .slice A3 k3 c3, .slice A4 k4 c4, (.bool true), .int .i64 gn, .int .i64 gd]) := Lib.hid (by rw [hW4]; exact KK.out.2.1.alloc _)
  have KR : Hid (Blk W4 (w.heap.size + 1 + 1) 65 #[.bool false, .slice none 0 0, .slice none 0 0, .bool false, .int .i64 0, .int .i64 0]) := Lib.hid (by rw [hW4]; exact KK.out.2.2.alloc _)
  have K5 : Hid (Blk W4 w4.heap.size 63 #[.int .i64 (numQ (q * r)), .int .i64 (denQ (q * r))]) := Lib.hid (by rw [hW4]; exact Blk.new w4 _ _)
  have HB : Hid (Below w.heap.size w W4) := Lib.hid (by rw [hW4]; exact HBa.out.alloc HBa.out.size _)
  clear hW4 KK HBa
  cases hs : smallQ (q * r) with
  | true =>
    have HO : Hid (∀ W, Calls Try.prog 48 #[.agg #[.int .i64 (numQ (q * r)), .int .i64 (denQ (q * r))]] W (WRet (q * r) 2 W)) := Lib.hid fun W => by
      obtain ⟨t1, t2⟩ := small_true hs
      obtain ⟨_, e1, e2⟩ := RatM.small_yes t1 t2
      have := wideOf_any (VF.of (q * r) hs) W
      rw [qf_self] at this
      rw [e1, e2]; exact this
    have p0 := K5.out.at 0 (v := .int .i64 (numQ (q * r))) rfl
    have p1 := K5.out.at 1 (v := .int .i64 (denQ (q * r))) rfl
    clear hs
    generalize numQ (q * r) = qn at *
    generalize denQ (q * r) = qd at *
    go_wp2_with fail
    refine (HO.out _).mono ?_
    rintro e wq ⟨v, rfl, hv, hq⟩
    obtain ⟨s, A1, k1, c1', A2, k2, c2', fine, fn, fd, nn, dd, rfl, hpz⟩ := hv
    have KRq := KR.out.belowS hq
    have HBq := Base.Below.nextA HB.out hq
    have HP2 := Lib.hid (hpz.more (show 2 ≤ m + m' by omega))
    clear hq hpz HP HP' K0 K1 K5 p0 p1 HO
    have z0 := (KRq).frz 0
    have z1 := (KRq).frz 1
    have z2 := (KRq).frz 2
    have z3 := (KRq).frz 3
    have z4 := (KRq).frz 4
    have z5 := (KRq).frz 5
    have c0 := (KRq).at 0 (v := .bool false) rfl
    have c1 := (KRq).at 1 (v := .slice none 0 0) rfl
    have c2 := (KRq).at 2 (v := .slice none 0 0) rfl
    have c3 := (KRq).at 3 (v := .bool false) rfl
    have c4 := (KRq).at 4 (v := .int .i64 0) rfl
    have c5 := (KRq).at 5 (v := .int .i64 0) rfl
    have SS := put6_blk (KRq) (.bool s) (.slice A1 k1 c1') (.slice A2 k2 c2') (.bool fine) (.int .i64 fn) (.int .i64 fd)
    unfold put6 at SS
    have s0 := SS.at 0 rfl
    have s1 := SS.at 1 rfl
    have s2 := SS.at 2 rfl
    have s3 := SS.at 3 rfl
    have s4 := SS.at 4 rfl
    have s5 := SS.at 5 rfl
    have HFIN := Lib.hid (WRet.put (HP2.out) (KRq) (HBq) (by omega))
    clear SS
    go_wp2
    refine bodyPost_ret (v := .agg #[.bool s, .slice A1 k1 c1', .slice A2 k2 c2', .bool fine, .int .i64 fn, .int .i64 fd]) (by simp [results, Try.results47, go_sem, s0, s1, s2, s3, s4, s5]) rfl ?_
    exact HFIN.out
  | false =>
    clear hs
    generalize numQ (q * r) = qn at *
    generalize denQ (q * r) = qd at *
    go_wp2_with fail
    have HPW : Hid (∀ W, Below W4.heap.size W4 W → IsB W n (.slice A1 k1 c1) ∧ IsB W n' (.slice A3 k3 c3) ∧ IsB W d (.slice A2 k2 c2) ∧ IsB W d' (.slice A4 k4 c4)) := Lib.hid fun W hb => by
      have hb2 := Base.Below.nextA HB.out hb
      exact ⟨HP.out.num.below hb2, HP'.out.num.below hb2, HP.out.den.below hb2, HP'.out.den.below hb2⟩
    have HQ : Hid (∀ W sb B1 B2 j1 j2 e1 e2, sb = (s != s') → IsB W (n * n') (.slice B1 j1 e1) → IsB W (d * d') (.slice B2 j2 e2) → IsW W (q * r) (m + m') (.agg #[.bool sb, .slice B1 j1 e1, .slice B2 j2 e2, .bool false, .int .i64 0, .int .i64 0])) := Lib.hid fun W sb B1 B2 j1 j2 e1 e2 hs g1 g2 =>
      ⟨sb, B1, j1, e1, B2, j2, e2, false, 0, 0, _, _, rfl, ⟨g1, g2, Nat.mul_pos HD.out.1 HD.out.2, by rw [hs, qv_mul _ _ (Nat.ne_of_gt HD.out.1) (Nat.ne_of_gt HD.out.2), HV.out.1, HV.out.2], Nat.le_trans (len_mul _ _) (by have := HL.out; omega), Nat.le_trans (len_mul _ _) (by have := HL.out; omega), fun h => by cases h⟩⟩
    refine Rel.wp_region_rel 16 (by kernel_rfl) (by kernel_rfl) (fun F hF => ?_)
    simp only [List.take_succ_cons, List.take_zero, List.drop_succ_cons, List.drop_zero, Rel.putL] at hF ⊢
    have HF := Lib.hid hF
    clear hF
    have uv := @Rel.upon_value Try.prog
    have ue := @Rel.upon_enter Try.prog
    apply Rel.rel_pure
    apply Exists.intro
    refine ⟨fun vs wq hq hdp R hR => ?_, ?_⟩
    · (rw [HF.out, Rel.stepAt_eq]; clear hdp; skip; go_simp; exact hR)
    apply Rel.rel_pure
    apply Exists.intro
    refine ⟨fun vs wq hq hdp R hR => ?_, ?_⟩
    · (rw [HF.out, Rel.stepAt_eq]; have qd0 : vs 0 = _ := Rel.dep hdp 0 (by kernel_rfl); clear hdp; have x0 := (K0.out.belowS hq).at 0 (v := .bool s) rfl; have x1 := (K0.out.belowS hq).at 1 (v := .slice A1 k1 c1) rfl; have x2 := (K0.out.belowS hq).at 2 (v := .slice A2 k2 c2) rfl; have y0 := (K1.out.belowS hq).at 0 (v := (.bool s')) rfl; have y1 := (K1.out.belowS hq).at 1 (v := .slice A3 k3 c3) rfl; have y2 := (K1.out.belowS hq).at 2 (v := .slice A4 k4 c4) rfl; go_simp; exact hR)
    apply Rel.rel_pure
    apply Exists.intro
    refine ⟨fun vs wq hq hdp R hR => ?_, ?_⟩
    · (rw [HF.out, Rel.stepAt_eq]; clear hdp; skip; go_simp; exact hR)
    apply Rel.rel_pure
    apply Exists.intro
    refine ⟨fun vs wq hq hdp R hR => ?_, ?_⟩
    · (rw [HF.out, Rel.stepAt_eq]; have qd2 : vs 2 = _ := Rel.dep hdp 2 (by kernel_rfl); clear hdp; have x0 := (K0.out.belowS hq).at 0 (v := .bool s) rfl; have x1 := (K0.out.belowS hq).at 1 (v := .slice A1 k1 c1) rfl; have x2 := (K0.out.belowS hq).at 2 (v := .slice A2 k2 c2) rfl; have y0 := (K1.out.belowS hq).at 0 (v := (.bool s')) rfl; have y1 := (K1.out.belowS hq).at 1 (v := .slice A3 k3 c3) rfl; have y2 := (K1.out.belowS hq).at 2 (v := .slice A4 k4 c4) rfl; go_simp; exact hR)
    apply Rel.rel_pure
    apply Exists.intro
    refine ⟨fun vs wq hq hdp R hR => ?_, ?_⟩
    · (rw [HF.out, Rel.stepAt_eq]; have qd1 : vs 1 = _ := Rel.dep hdp 1 (by kernel_rfl); have qd3 : vs 3 = _ := Rel.dep hdp 3 (by kernel_rfl); clear hdp; skip; go_simp; exact hR)
    apply Rel.rel_pure
    apply Exists.intro
    refine ⟨fun vs wq hq hdp R hR => ?_, ?_⟩
    · (rw [HF.out, Rel.stepAt_eq]; clear hdp; skip; go_simp; exact hR)
    apply Rel.rel_pure
    apply Exists.intro
    refine ⟨fun vs wq hq hdp R hR => ?_, ?_⟩
    · (rw [HF.out, Rel.stepAt_eq]; have qd5 : vs 5 = _ := Rel.dep hdp 5 (by kernel_rfl); clear hdp; have x0 := (K0.out.belowS hq).at 0 (v := .bool s) rfl; have x1 := (K0.out.belowS hq).at 1 (v := .slice A1 k1 c1) rfl; have x2 := (K0.out.belowS hq).at 2 (v := .slice A2 k2 c2) rfl; have y0 := (K1.out.belowS hq).at 0 (v := (.bool s')) rfl; have y1 := (K1.out.belowS hq).at 1 (v := .slice A3 k3 c3) rfl; have y2 := (K1.out.belowS hq).at 2 (v := .slice A4 k4 c4) rfl; go_simp; exact hR)
    apply Rel.rel_pure
    apply Exists.intro
    refine ⟨fun vs wq hq hdp R hR => ?_, ?_⟩
    · (rw [HF.out, Rel.stepAt_eq]; clear hdp; skip; go_simp; exact hR)
    apply Rel.rel_pure
    apply Exists.intro
    refine ⟨fun vs wq hq hdp R hR => ?_, ?_⟩
    · (rw [HF.out, Rel.stepAt_eq]; have qd7 : vs 7 = _ := Rel.dep hdp 7 (by kernel_rfl); clear hdp; have x0 := (K0.out.belowS hq).at 0 (v := .bool s) rfl; have x1 := (K0.out.belowS hq).at 1 (v := .slice A1 k1 c1) rfl; have x2 := (K0.out.belowS hq).at 2 (v := .slice A2 k2 c2) rfl; have y0 := (K1.out.belowS hq).at 0 (v := (.bool s')) rfl; have y1 := (K1.out.belowS hq).at 1 (v := .slice A3 k3 c3) rfl; have y2 := (K1.out.belowS hq).at 2 (v := .slice A4 k4 c4) rfl; go_simp; exact hR)
    refine Rel.rel_law (S := fun v w' => IsB w' (n * n') v) (isB_mono _) (fun vs wq hq hdp => ?_) ?_
    · (rw [HF.out, Rel.stepAt_eq]; have qd6 : vs 6 = _ := Rel.dep hdp 6 (by kernel_rfl); have qd8 : vs 8 = _ := Rel.dep hdp 8 (by kernel_rfl); clear hdp; skip; go_simp; refine (bigTimes_any wq (HPW.out wq hq).1 (HPW.out wq hq).2.1 (Nat.le_trans HL.out.1 (by omega)) (Nat.le_trans HL.out.2.2.1 (by omega))).mono ?_; rintro e w7 ⟨v, rfl, hv, hb⟩; exact ⟨_, rfl, hv, hb⟩)
    apply Rel.rel_pure
    apply Exists.intro
    refine ⟨fun vs wq hq hdp R hR => ?_, ?_⟩
    · (rw [HF.out, Rel.stepAt_eq]; clear hdp; skip; go_simp; exact hR)
    apply Rel.rel_pure
    apply Exists.intro
    refine ⟨fun vs wq hq hdp R hR => ?_, ?_⟩
    · (rw [HF.out, Rel.stepAt_eq]; have qd10 : vs 10 = _ := Rel.dep hdp 10 (by kernel_rfl); clear hdp; have x0 := (K0.out.belowS hq).at 0 (v := .bool s) rfl; have x1 := (K0.out.belowS hq).at 1 (v := .slice A1 k1 c1) rfl; have x2 := (K0.out.belowS hq).at 2 (v := .slice A2 k2 c2) rfl; have y0 := (K1.out.belowS hq).at 0 (v := (.bool s')) rfl; have y1 := (K1.out.belowS hq).at 1 (v := .slice A3 k3 c3) rfl; have y2 := (K1.out.belowS hq).at 2 (v := .slice A4 k4 c4) rfl; go_simp; exact hR)
    apply Rel.rel_pure
    apply Exists.intro
    refine ⟨fun vs wq hq hdp R hR => ?_, ?_⟩
    · (rw [HF.out, Rel.stepAt_eq]; clear hdp; skip; go_simp; exact hR)
    apply Rel.rel_pure
    apply Exists.intro
    refine ⟨fun vs wq hq hdp R hR => ?_, ?_⟩
    · (rw [HF.out, Rel.stepAt_eq]; have qd12 : vs 12 = _ := Rel.dep hdp 12 (by kernel_rfl); clear hdp; have x0 := (K0.out.belowS hq).at 0 (v := .bool s) rfl; have x1 := (K0.out.belowS hq).at 1 (v := .slice A1 k1 c1) rfl; have x2 := (K0.out.belowS hq).at 2 (v := .slice A2 k2 c2) rfl; have y0 := (K1.out.belowS hq).at 0 (v := (.bool s')) rfl; have y1 := (K1.out.belowS hq).at 1 (v := .slice A3 k3 c3) rfl; have y2 := (K1.out.belowS hq).at 2 (v := .slice A4 k4 c4) rfl; go_simp; exact hR)
    refine Rel.rel_law (S := fun v w' => IsB w' (d * d') v) (isB_mono _) (fun vs wq hq hdp => ?_) ?_
    · (rw [HF.out, Rel.stepAt_eq]; have qd11 : vs 11 = _ := Rel.dep hdp 11 (by kernel_rfl); have qd13 : vs 13 = _ := Rel.dep hdp 13 (by kernel_rfl); clear hdp; skip; go_simp; refine (bigTimes_any wq (HPW.out wq hq).2.2.1 (HPW.out wq hq).2.2.2 (Nat.le_trans HL.out.2.1 (by omega)) (Nat.le_trans HL.out.2.2.2 (by omega))).mono ?_; rintro e w7 ⟨v, rfl, hv, hb⟩; exact ⟨_, rfl, hv, hb⟩)
    refine Rel.rel_law (S := fun v w' => IsW w' (q * r) (m + m') v) (isW_mono _ _) (fun vs wq hq hdp => ?_) ?_
    · (rw [HF.out, Rel.stepAt_eq]; have qd4 : vs 4 = _ := Rel.dep hdp 4 (by kernel_rfl); have qd9 : IsB wq _ (vs 9) := Rel.dep hdp 9 (by kernel_rfl); have qd14 : IsB wq _ (vs 14) := Rel.dep hdp 14 (by kernel_rfl); clear hdp; obtain ⟨B1, e1, ev1, _⟩ := Dig.form qd9; obtain ⟨B2, e2, ev2, _⟩ := Dig.form qd14; have HPP := Lib.hid (HQ.out wq (s != s') B1 B2 _ _ e1 e2 rfl (by rw [← ev1]; exact qd9) (by rw [← ev2]; exact qd14)); go_simp; exact ⟨HPP.out, Below.refl _ _⟩)
    refine Rel.rel_end (fun vs wq hq hall => ?_)
    rw [HF.out]
    have qe0 : vs 0 = _ := Rel.fin hall 0 (by decide)
    have qe1 : vs 1 = _ := Rel.fin hall 1 (by decide)
    have qe2 : vs 2 = _ := Rel.fin hall 2 (by decide)
    have qe3 : vs 3 = _ := Rel.fin hall 3 (by decide)
    have qe4 : vs 4 = _ := Rel.fin hall 4 (by decide)
    have qe5 : vs 5 = _ := Rel.fin hall 5 (by decide)
    have qe6 : vs 6 = _ := Rel.fin hall 6 (by decide)
    have qe7 : vs 7 = _ := Rel.fin hall 7 (by decide)
    have qe8 : vs 8 = _ := Rel.fin hall 8 (by decide)
    have qe9 : IsB wq _ (vs 9) := Rel.fin hall 9 (by decide)
    have qe10 : vs 10 = _ := Rel.fin hall 10 (by decide)
    have qe11 : vs 11 = _ := Rel.fin hall 11 (by decide)
    have qe12 : vs 12 = _ := Rel.fin hall 12 (by decide)
    have qe13 : vs 13 = _ := Rel.fin hall 13 (by decide)
    have qe14 : IsB wq _ (vs 14) := Rel.fin hall 14 (by decide)
    have qe15 : IsW wq _ _ (vs 15) := Rel.fin hall 15 (by decide)
    clear hall HF uv ue
    obtain ⟨s, A1, k1, c1', A2, k2, c2', fine, fn, fd, nn, dd, ev, hpz⟩ := qe15
    have KRq := KR.out.belowS hq
    have HBq := Base.Below.nextA HB.out hq
    have HP2 := Lib.hid hpz
    clear hq hpz HP HP' K0 K1 HPW HQ
    have z0 := (KRq).frz 0
    have z1 := (KRq).frz 1
    have z2 := (KRq).frz 2
    have z3 := (KRq).frz 3
    have z4 := (KRq).frz 4
    have z5 := (KRq).frz 5
    have c0 := (KRq).at 0 (v := .bool false) rfl
    have c1 := (KRq).at 1 (v := .slice none 0 0) rfl
    have c2 := (KRq).at 2 (v := .slice none 0 0) rfl
    have c3 := (KRq).at 3 (v := .bool false) rfl
    have c4 := (KRq).at 4 (v := .int .i64 0) rfl
    have c5 := (KRq).at 5 (v := .int .i64 0) rfl
    have SS := put6_blk (KRq) (.bool s) (.slice A1 k1 c1') (.slice A2 k2 c2') (.bool fine) (.int .i64 fn) (.int .i64 fd)
    unfold put6 at SS
    have s0 := SS.at 0 rfl
    have s1 := SS.at 1 rfl
    have s2 := SS.at 2 rfl
    have s3 := SS.at 3 rfl
    have s4 := SS.at 4 rfl
    have s5 := SS.at 5 rfl
    have HFIN := Lib.hid (WRet.put (HP2.out) (KRq) (HBq) (by omega))
    clear SS
    go_wp2
    refine bodyPost_ret (v := .agg #[.bool s, .slice A1 k1 c1', .slice A2 k2 c2', .bool fine, .int .i64 fn, .int .i64 fd]) (by simp [results, Try.results47, go_sem, s0, s1, s2, s3, s4, s5]) rfl ?_
    exact HFIN.out
theorem wideMul_any {q r : Rat} {m m' : Nat} {v u : Value} (w : World) (hv : IsW w q m v) (hu : IsW w r m' u) (hm : m ≤ 400000) (hm' : m' ≤ 400000) (h2 : 2 ≤ m) (h2' : 2 ≤ m') : Calls Try.prog 47 #[v, u] w (WRet (q * r) (m + m') w) := by
  obtain ⟨s, A1, k1, c1, A2, k2, c2, fa, fn, fd, n, d, rfl, hp⟩ := hv
  obtain ⟨s', A3, k3, c3, A4, k4, c4, fb, gn, gd, n', d', rfl, hp'⟩ := hu
  cases hf : (fa && fb) with
  | false => exact wideMul_no w hp hp' hf hm hm' h2 h2'
  | true =>
    rw [Bool.and_eq_true] at hf
    obtain ⟨rfl, rfl⟩ := hf
    exact wideMul_yes w hp hp' hm hm' h2 h2'
end Go.Proofs.Ytionognmgcabbaa.Wide
