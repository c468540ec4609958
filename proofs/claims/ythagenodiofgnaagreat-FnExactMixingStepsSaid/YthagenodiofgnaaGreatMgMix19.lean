/- The reference's fractions of any size: products. -/
import Derived.Test.YthagenodiofgnaaGreatMgMix15
import Derived.Deep.Cut
import Derived.Test.YthagenodiofgnaaGreatMgMix18
import Derived.Test.YthagenodiofgnaaGreatMgMix05
import Derived.Test.YthagenodiofgnaaGreatMgMix06
namespace Go.Proofs.YthagenodiofgnaaGreat.Wide
open Go.RowKit Go.Proofs.YthagenodiofgnaaGreat Go.Proofs.YthagenodiofgnaaGreat.Base Go.Proofs.YthagenodiofgnaaGreat.Mem Go.Proofs.YthagenodiofgnaaGreat.RatM Go.Proofs.YthagenodiofgnaaGreat.BigM Go.Proofs.YthagenodiofgnaaGreat.Big Go.Proofs.YthagenodiofgnaaGreat.Fine Go.Proofs.YthagenodiofgnaaGreat.Blk
set_option linter.unusedVariables false
set_option maxHeartbeats 4000000 in
set_option maxRecDepth 100000 in
theorem wideMul_no {q r : Rat} {m m' : Nat} {s s' fa fb : Bool} {A1 A2 A3 A4 : Option Addr} {k1 k2 k3 k4 c1 c2 c3 c4 n d n' d' : Nat} {fn fd gn gd : Int} (w : World) (hp : Parts w q m s (.slice A1 k1 c1) (.slice A2 k2 c2) fa fn fd n d) (hp' : Parts w r m' s' (.slice A3 k3 c3) (.slice A4 k4 c4) fb gn gd n' d') (hf : (fa && fb) = false) (hm : m ≤ 400000) (hm' : m' ≤ 400000) (h2 : 2 ≤ m) (h2' : 2 ≤ m') : Calls Tryz.prog 113 #[.agg #[.bool s, .slice A1 k1 c1, .slice A2 k2 c2, .bool fa, .int .i64 fn, .int .i64 fd], .agg #[(.bool s'), .slice A3 k3 c3, .slice A4 k4 c4, (.bool fb), .int .i64 gn, .int .i64 gd]] w (WRet (q * r) (m + m') w) := by
 have HP := Lib.hid hp
 have HP' := Lib.hid hp'
 have HV := Lib.hid (And.intro hp.val hp'.val)
 have HD := Lib.hid (And.intro hp.pos hp'.pos)
 have HL := Lib.hid (And.intro hp.ln (And.intro hp.ld (And.intro hp'.ln hp'.ld)))
 obtain ⟨W3, hW3⟩ : ∃ W3, W3 = ((w.alloc (.cells #[.bool s, .slice A1 k1 c1, .slice A2 k2 c2, .bool fa, .int .i64 fn, .int .i64 fd] 107)).alloc (.cells #[(.bool s'), .slice A3 k3 c3, .slice A4 k4 c4, (.bool fb), .int .i64 gn, .int .i64 gd] 107)).alloc (.cells #[.bool false, .slice none 0 0, .slice none 0 0, .bool false, .int .i64 0, .int .i64 0] 107) := ⟨_, rfl⟩
 have K0 : Hid (Blk W3 w.heap.size 107 #[.bool s, .slice A1 k1 c1, .slice A2 k2 c2, .bool fa, .int .i64 fn, .int .i64 fd]) := Lib.hid (by rw [hW3]; exact ((Blk.new w _ _).alloc _).alloc _)
 have K1 : Hid (Blk W3 (w.heap.size + 1) 107 #[(.bool s'), .slice A3 k3 c3, .slice A4 k4 c4, (.bool fb), .int .i64 gn, .int .i64 gd]) := Lib.hid (by rw [hW3]; exact (Blk.newAt _ _ (by simp)).alloc _)
 have KR : Hid (Blk W3 (w.heap.size + 1 + 1) 107 #[.bool false, .slice none 0 0, .slice none 0 0, .bool false, .int .i64 0, .int .i64 0]) := Lib.hid (by rw [hW3]; exact Blk.newAt _ _ (by simp))
 have HB : Hid (Below w.heap.size w W3) := Lib.hid (by rw [hW3]; exact (((Below.refl _ _).alloc (Nat.le_refl _) _).alloc (by simp) _).alloc (by simp; omega) _)
 have HW := Lib.hid hW3
 clear hW3 hp hp'
 have hfin : (fa && fb) = false := hf
 have HH := Lib.hid hfin
 clear hfin hf
 have x3 := K0.out.at 3 (v := .bool fa) rfl
 have y3 := K1.out.at 3 (v := .bool fb) rfl
 go_enter Tryz.func113, Tryz.ntmps113
 go_upto_region 1 with (fail)
 rw [← HW.out]
 clear HW
 cases fa with
 | false =>
  go_wp2_with fail
  have HPW : Hid (∀ W, Below W3.heap.size W3 W → IsB W n (.slice A1 k1 c1) ∧ IsB W n' (.slice A3 k3 c3) ∧ IsB W d (.slice A2 k2 c2) ∧ IsB W d' (.slice A4 k4 c4)) := Lib.hid fun W hb => by
   have hb2 := Base.Below.nextA HB.out hb
   exact ⟨HP.out.num.below hb2, HP'.out.num.below hb2, HP.out.den.below hb2, HP'.out.den.below hb2⟩
  have HQ : Hid (∀ W sb B1 B2 j1 j2 e1 e2, sb = (s != s') → IsB W (n * n') (.slice B1 j1 e1) → IsB W (d * d') (.slice B2 j2 e2) → IsW W (q * r) (m + m') (.agg #[.bool sb, .slice B1 j1 e1, .slice B2 j2 e2, .bool false, .int .i64 0, .int .i64 0])) := Lib.hid fun W sb B1 B2 j1 j2 e1 e2 hs g1 g2 =>
   ⟨sb, B1, j1, e1, B2, j2, e2, false, 0, 0, _, _, rfl, ⟨g1, g2, Nat.mul_pos HD.out.1 HD.out.2, by rw [hs, qv_mul _ _ (Nat.ne_of_gt HD.out.1) (Nat.ne_of_gt HD.out.2), HV.out.1, HV.out.2], Nat.le_trans (len_mul _ _) (by have := HL.out; omega), Nat.le_trans (len_mul _ _) (by have := HL.out; omega), fun h => by cases h⟩⟩
  refine Rel.wp_region_rel 16 (by kernel_rfl) (by kernel_rfl) (fun F hF => ?_)
  simp only [List.take_succ_cons, List.take_zero, List.drop_succ_cons, List.drop_zero, Rel.putL] at hF ⊢
  have HF := Lib.hid hF
  clear hF
  have uv := @Rel.upon_value Tryz.prog
  have ue := @Rel.upon_enter Tryz.prog
  apply Rel.rel_pure
  apply Exists.intro
  refine ⟨fun vs wq hq hdp R hR => ?_, ?_⟩
  ·(rw [HF.out, Rel.stepAt_eq]; clear hdp; skip; go_simp; exact hR)
  apply Rel.rel_pure
  apply Exists.intro
  refine ⟨fun vs wq hq hdp R hR => ?_, ?_⟩
  ·(rw [HF.out, Rel.stepAt_eq]; have qd0 : vs 0 = _ := Rel.dep hdp 0 (by kernel_rfl); clear hdp; have x0 := (K0.out.belowS hq).at 0 (v := .bool s) rfl; have x1 := (K0.out.belowS hq).at 1 (v := .slice A1 k1 c1) rfl; have x2 := (K0.out.belowS hq).at 2 (v := .slice A2 k2 c2) rfl; have y0 := (K1.out.belowS hq).at 0 (v := (.bool s')) rfl; have y1 := (K1.out.belowS hq).at 1 (v := .slice A3 k3 c3) rfl; have y2 := (K1.out.belowS hq).at 2 (v := .slice A4 k4 c4) rfl; go_simp; exact hR)
  apply Rel.rel_pure
  apply Exists.intro
  refine ⟨fun vs wq hq hdp R hR => ?_, ?_⟩
  ·(rw [HF.out, Rel.stepAt_eq]; clear hdp; skip; go_simp; exact hR)
  apply Rel.rel_pure
  apply Exists.intro
  refine ⟨fun vs wq hq hdp R hR => ?_, ?_⟩
  ·(rw [HF.out, Rel.stepAt_eq]; have qd2 : vs 2 = _ := Rel.dep hdp 2 (by kernel_rfl); clear hdp; have x0 := (K0.out.belowS hq).at 0 (v := .bool s) rfl; have x1 := (K0.out.belowS hq).at 1 (v := .slice A1 k1 c1) rfl; have x2 := (K0.out.belowS hq).at 2 (v := .slice A2 k2 c2) rfl; have y0 := (K1.out.belowS hq).at 0 (v := (.bool s')) rfl; have y1 := (K1.out.belowS hq).at 1 (v := .slice A3 k3 c3) rfl; have y2 := (K1.out.belowS hq).at 2 (v := .slice A4 k4 c4) rfl; go_simp; exact hR)
  apply Rel.rel_pure
  apply Exists.intro
  refine ⟨fun vs wq hq hdp R hR => ?_, ?_⟩
  ·(rw [HF.out, Rel.stepAt_eq]; have qd1 : vs 1 = _ := Rel.dep hdp 1 (by kernel_rfl); have qd3 : vs 3 = _ := Rel.dep hdp 3 (by kernel_rfl); clear hdp; skip; go_simp; exact hR)
  apply Rel.rel_pure
  apply Exists.intro
  refine ⟨fun vs wq hq hdp R hR => ?_, ?_⟩
  ·(rw [HF.out, Rel.stepAt_eq]; clear hdp; skip; go_simp; exact hR)
  apply Rel.rel_pure
  apply Exists.intro
  refine ⟨fun vs wq hq hdp R hR => ?_, ?_⟩
  ·(rw [HF.out, Rel.stepAt_eq]; have qd5 : vs 5 = _ := Rel.dep hdp 5 (by kernel_rfl); clear hdp; have x0 := (K0.out.belowS hq).at 0 (v := .bool s) rfl; have x1 := (K0.out.belowS hq).at 1 (v := .slice A1 k1 c1) rfl; have x2 := (K0.out.belowS hq).at 2 (v := .slice A2 k2 c2) rfl; have y0 := (K1.out.belowS hq).at 0 (v := (.bool s')) rfl; have y1 := (K1.out.belowS hq).at 1 (v := .slice A3 k3 c3) rfl; have y2 := (K1.out.belowS hq).at 2 (v := .slice A4 k4 c4) rfl; go_simp; exact hR)
  apply Rel.rel_pure
  apply Exists.intro
  refine ⟨fun vs wq hq hdp R hR => ?_, ?_⟩
  ·(rw [HF.out, Rel.stepAt_eq]; clear hdp; skip; go_simp; exact hR)
  apply Rel.rel_pure
  apply Exists.intro
  refine ⟨fun vs wq hq hdp R hR => ?_, ?_⟩
  ·(rw [HF.out, Rel.stepAt_eq]; have qd7 : vs 7 = _ := Rel.dep hdp 7 (by kernel_rfl); clear hdp; have x0 := (K0.out.belowS hq).at 0 (v := .bool s) rfl; have x1 := (K0.out.belowS hq).at 1 (v := .slice A1 k1 c1) rfl; have x2 := (K0.out.belowS hq).at 2 (v := .slice A2 k2 c2) rfl; have y0 := (K1.out.belowS hq).at 0 (v := (.bool s')) rfl; have y1 := (K1.out.belowS hq).at 1 (v := .slice A3 k3 c3) rfl; have y2 := (K1.out.belowS hq).at 2 (v := .slice A4 k4 c4) rfl; go_simp; exact hR)
  refine Rel.rel_law (S := fun v w' => IsB w' (n * n') v) (isB_mono _) (fun vs wq hq hdp => ?_) ?_
  ·(rw [HF.out, Rel.stepAt_eq]; have qd6 : vs 6 = _ := Rel.dep hdp 6 (by kernel_rfl); have qd8 : vs 8 = _ := Rel.dep hdp 8 (by kernel_rfl); clear hdp; skip; go_simp; refine (bigTimes_any wq (HPW.out wq hq).1 (HPW.out wq hq).2.1 (Nat.le_trans HL.out.1 (by omega)) (Nat.le_trans HL.out.2.2.1 (by omega))).mono ?_; rintro e w7 ⟨v, rfl, hv, hb⟩; exact ⟨_, rfl, hv, hb⟩)
  apply Rel.rel_pure
  apply Exists.intro
  refine ⟨fun vs wq hq hdp R hR => ?_, ?_⟩
  ·(rw [HF.out, Rel.stepAt_eq]; clear hdp; skip; go_simp; exact hR)
  apply Rel.rel_pure
  apply Exists.intro
  refine ⟨fun vs wq hq hdp R hR => ?_, ?_⟩
  ·(rw [HF.out, Rel.stepAt_eq]; have qd10 : vs 10 = _ := Rel.dep hdp 10 (by kernel_rfl); clear hdp; have x0 := (K0.out.belowS hq).at 0 (v := .bool s) rfl; have x1 := (K0.out.belowS hq).at 1 (v := .slice A1 k1 c1) rfl; have x2 := (K0.out.belowS hq).at 2 (v := .slice A2 k2 c2) rfl; have y0 := (K1.out.belowS hq).at 0 (v := (.bool s')) rfl; have y1 := (K1.out.belowS hq).at 1 (v := .slice A3 k3 c3) rfl; have y2 := (K1.out.belowS hq).at 2 (v := .slice A4 k4 c4) rfl; go_simp; exact hR)
  apply Rel.rel_pure
  apply Exists.intro
  refine ⟨fun vs wq hq hdp R hR => ?_, ?_⟩
  ·(rw [HF.out, Rel.stepAt_eq]; clear hdp; skip; go_simp; exact hR)
  apply Rel.rel_pure
  apply Exists.intro
  refine ⟨fun vs wq hq hdp R hR => ?_, ?_⟩
  ·(rw [HF.out, Rel.stepAt_eq]; have qd12 : vs 12 = _ := Rel.dep hdp 12 (by kernel_rfl); clear hdp; have x0 := (K0.out.belowS hq).at 0 (v := .bool s) rfl; have x1 := (K0.out.belowS hq).at 1 (v := .slice A1 k1 c1) rfl; have x2 := (K0.out.belowS hq).at 2 (v := .slice A2 k2 c2) rfl; have y0 := (K1.out.belowS hq).at 0 (v := (.bool s')) rfl; have y1 := (K1.out.belowS hq).at 1 (v := .slice A3 k3 c3) rfl; have y2 := (K1.out.belowS hq).at 2 (v := .slice A4 k4 c4) rfl; go_simp; exact hR)
  refine Rel.rel_law (S := fun v w' => IsB w' (d * d') v) (isB_mono _) (fun vs wq hq hdp => ?_) ?_
  ·(rw [HF.out, Rel.stepAt_eq]; have qd11 : vs 11 = _ := Rel.dep hdp 11 (by kernel_rfl); have qd13 : vs 13 = _ := Rel.dep hdp 13 (by kernel_rfl); clear hdp; skip; go_simp; refine (bigTimes_any wq (HPW.out wq hq).2.2.1 (HPW.out wq hq).2.2.2 (Nat.le_trans HL.out.2.1 (by omega)) (Nat.le_trans HL.out.2.2.2 (by omega))).mono ?_; rintro e w7 ⟨v, rfl, hv, hb⟩; exact ⟨_, rfl, hv, hb⟩)
  refine Rel.rel_law (S := fun v w' => IsW w' (q * r) (m + m') v) (isW_mono _ _) (fun vs wq hq hdp => ?_) ?_
  ·(rw [HF.out, Rel.stepAt_eq]; have qd4 : vs 4 = _ := Rel.dep hdp 4 (by kernel_rfl); have qd9 : IsB wq _ (vs 9) := Rel.dep hdp 9 (by kernel_rfl); have qd14 : IsB wq _ (vs 14) := Rel.dep hdp 14 (by kernel_rfl); clear hdp; obtain ⟨B1, e1, ev1, _⟩ := Dig.form qd9; obtain ⟨B2, e2, ev2, _⟩ := Dig.form qd14; have HPP := Lib.hid (HQ.out wq (s != s') B1 B2 _ _ e1 e2 rfl (by rw [← ev1]; exact qd9) (by rw [← ev2]; exact qd14)); go_simp; exact ⟨HPP.out, Below.refl _ _⟩)
  refine Rel.rel_end (fun vs wq hq hall => ?_)
  rw [HF.out]
  have qe0 : vs 0 = _ := Rel.fin hall 0 (by decide)
  have qe1 : vs 1 = _ := Rel.fin hall 1 (by decide)
  have qe2 : vs 2 = _ := Rel.fin hall 2 (by decide)
  have qe3 : vs 3 = _ := Rel.fin hall 3 (by decide)
  have qe4 : vs 4 = _ := Rel.fin hall 4 (by decide)
  have qe5 : vs 5 = _ := Rel.fin hall 5 (by decide)
  have qe6 : vs 6 = _ := Rel.fin hall 6 (by decide)
  have qe7 : vs 7 = _ := Rel.fin hall 7 (by decide)
  have qe8 : vs 8 = _ := Rel.fin hall 8 (by decide)
  have qe9 : IsB wq _ (vs 9) := Rel.fin hall 9 (by decide)
  have qe10 : vs 10 = _ := Rel.fin hall 10 (by decide)
  have qe11 : vs 11 = _ := Rel.fin hall 11 (by decide)
  have qe12 : vs 12 = _ := Rel.fin hall 12 (by decide)
  have qe13 : vs 13 = _ := Rel.fin hall 13 (by decide)
  have qe14 : IsB wq _ (vs 14) := Rel.fin hall 14 (by decide)
  have qe15 : IsW wq _ _ (vs 15) := Rel.fin hall 15 (by decide)
  clear hall HF uv ue
  obtain ⟨s, A1, k1, c1', A2, k2, c2', fine, fn, fd, nn, dd, ev, hpz⟩ := qe15
  have KRq := KR.out.belowS hq
  have HBq := Base.Below.nextA HB.out hq
  have HP2 := Lib.hid hpz
  clear hq hpz HP HP' K0 K1 HPW HQ
  have z0 := (KRq).frz 0
  have z1 := (KRq).frz 1
  have z2 := (KRq).frz 2
  have z3 := (KRq).frz 3
  have z4 := (KRq).frz 4
  have z5 := (KRq).frz 5
  have c0 := (KRq).at 0 (v := .bool false) rfl
  have c1 := (KRq).at 1 (v := .slice none 0 0) rfl
  have c2 := (KRq).at 2 (v := .slice none 0 0) rfl
  have c3 := (KRq).at 3 (v := .bool false) rfl
  have c4 := (KRq).at 4 (v := .int .i64 0) rfl
  have c5 := (KRq).at 5 (v := .int .i64 0) rfl
  have SS := put6_blk (KRq) (.bool s) (.slice A1 k1 c1') (.slice A2 k2 c2') (.bool fine) (.int .i64 fn) (.int .i64 fd)
  unfold put6 at SS
  have s0 := SS.at 0 rfl
  have s1 := SS.at 1 rfl
  have s2 := SS.at 2 rfl
  have s3 := SS.at 3 rfl
  have s4 := SS.at 4 rfl
  have s5 := SS.at 5 rfl
  have HFIN := Lib.hid (WRet.put (HP2.out) (KRq) (HBq) (by omega))
  clear SS
  go_wp2
  refine bodyPost_ret (v := .agg #[.bool s, .slice A1 k1 c1', .slice A2 k2 c2', .bool fine, .int .i64 fn, .int .i64 fd]) (by simp [results, Tryz.results113, go_sem, s0, s1, s2, s3, s4, s5]) rfl ?_
  exact HFIN.out
 | true =>
  cases fb with
  | true => exact absurd HH.out (by decide)
  | false =>
   go_wp2_with fail
   have HPW : Hid (∀ W, Below W3.heap.size W3 W → IsB W n (.slice A1 k1 c1) ∧ IsB W n' (.slice A3 k3 c3) ∧ IsB W d (.slice A2 k2 c2) ∧ IsB W d' (.slice A4 k4 c4)) := Lib.hid fun W hb => by
    have hb2 := Base.Below.nextA HB.out hb
    exact ⟨HP.out.num.below hb2, HP'.out.num.below hb2, HP.out.den.below hb2, HP'.out.den.below hb2⟩
   have HQ : Hid (∀ W sb B1 B2 j1 j2 e1 e2, sb = (s != s') → IsB W (n * n') (.slice B1 j1 e1) → IsB W (d * d') (.slice B2 j2 e2) → IsW W (q * r) (m + m') (.agg #[.bool sb, .slice B1 j1 e1, .slice B2 j2 e2, .bool false, .int .i64 0, .int .i64 0])) := Lib.hid fun W sb B1 B2 j1 j2 e1 e2 hs g1 g2 =>
    ⟨sb, B1, j1, e1, B2, j2, e2, false, 0, 0, _, _, rfl, ⟨g1, g2, Nat.mul_pos HD.out.1 HD.out.2, by rw [hs, qv_mul _ _ (Nat.ne_of_gt HD.out.1) (Nat.ne_of_gt HD.out.2), HV.out.1, HV.out.2], Nat.le_trans (len_mul _ _) (by have := HL.out; omega), Nat.le_trans (len_mul _ _) (by have := HL.out; omega), fun h => by cases h⟩⟩
   refine Rel.wp_region_rel 16 (by kernel_rfl) (by kernel_rfl) (fun F hF => ?_)
   simp only [List.take_succ_cons, List.take_zero, List.drop_succ_cons, List.drop_zero, Rel.putL] at hF ⊢
   have HF := Lib.hid hF
   clear hF
   have uv := @Rel.upon_value Tryz.prog
   have ue := @Rel.upon_enter Tryz.prog
   apply Rel.rel_pure
   apply Exists.intro
   refine ⟨fun vs wq hq hdp R hR => ?_, ?_⟩
   ·(rw [HF.out, Rel.stepAt_eq]; clear hdp; skip; go_simp; exact hR)
   apply Rel.rel_pure
   apply Exists.intro
   refine ⟨fun vs wq hq hdp R hR => ?_, ?_⟩
   ·(rw [HF.out, Rel.stepAt_eq]; have qd0 : vs 0 = _ := Rel.dep hdp 0 (by kernel_rfl); clear hdp; have x0 := (K0.out.belowS hq).at 0 (v := .bool s) rfl; have x1 := (K0.out.belowS hq).at 1 (v := .slice A1 k1 c1) rfl; have x2 := (K0.out.belowS hq).at 2 (v := .slice A2 k2 c2) rfl; have y0 := (K1.out.belowS hq).at 0 (v := (.bool s')) rfl; have y1 := (K1.out.belowS hq).at 1 (v := .slice A3 k3 c3) rfl; have y2 := (K1.out.belowS hq).at 2 (v := .slice A4 k4 c4) rfl; go_simp; exact hR)
   apply Rel.rel_pure
   apply Exists.intro
   refine ⟨fun vs wq hq hdp R hR => ?_, ?_⟩
   ·(rw [HF.out, Rel.stepAt_eq]; clear hdp; skip; go_simp; exact hR)
   apply Rel.rel_pure
   apply Exists.intro
   refine ⟨fun vs wq hq hdp R hR => ?_, ?_⟩
   ·(rw [HF.out, Rel.stepAt_eq]; have qd2 : vs 2 = _ := Rel.dep hdp 2 (by kernel_rfl); clear hdp; have x0 := (K0.out.belowS hq).at 0 (v := .bool s) rfl; have x1 := (K0.out.belowS hq).at 1 (v := .slice A1 k1 c1) rfl; have x2 := (K0.out.belowS hq).at 2 (v := .slice A2 k2 c2) rfl; have y0 := (K1.out.belowS hq).at 0 (v := (.bool s')) rfl; have y1 := (K1.out.belowS hq).at 1 (v := .slice A3 k3 c3) rfl; have y2 := (K1.out.belowS hq).at 2 (v := .slice A4 k4 c4) rfl; go_simp; exact hR)
   apply Rel.rel_pure
   apply Exists.intro
   refine ⟨fun vs wq hq hdp R hR => ?_, ?_⟩
   ·(rw [HF.out, Rel.stepAt_eq]; have qd1 : vs 1 = _ := Rel.dep hdp 1 (by kernel_rfl); have qd3 : vs 3 = _ := Rel.dep hdp 3 (by kernel_rfl); clear hdp; skip; go_simp; exact hR)
   apply Rel.rel_pure
   apply Exists.intro
   refine ⟨fun vs wq hq hdp R hR => ?_, ?_⟩
   ·(rw [HF.out, Rel.stepAt_eq]; clear hdp; skip; go_simp; exact hR)
   apply Rel.rel_pure
   apply Exists.intro
   refine ⟨fun vs wq hq hdp R hR => ?_, ?_⟩
   ·(rw [HF.out, Rel.stepAt_eq]; have qd5 : vs 5 = _ := Rel.dep hdp 5 (by kernel_rfl); clear hdp; have x0 := (K0.out.belowS hq).at 0 (v := .bool s) rfl; have x1 := (K0.out.belowS hq).at 1 (v := .slice A1 k1 c1) rfl; have x2 := (K0.out.belowS hq).at 2 (v := .slice A2 k2 c2) rfl; have y0 := (K1.out.belowS hq).at 0 (v := (.bool s')) rfl; have y1 := (K1.out.belowS hq).at 1 (v := .slice A3 k3 c3) rfl; have y2 := (K1.out.belowS hq).at 2 (v := .slice A4 k4 c4) rfl; go_simp; exact hR)
   apply Rel.rel_pure
   apply Exists.intro
   refine ⟨fun vs wq hq hdp R hR => ?_, ?_⟩
   ·(rw [HF.out, Rel.stepAt_eq]; clear hdp; skip; go_simp; exact hR)
   apply Rel.rel_pure
   apply Exists.intro
   refine ⟨fun vs wq hq hdp R hR => ?_, ?_⟩
   ·(rw [HF.out, Rel.stepAt_eq]; have qd7 : vs 7 = _ := Rel.dep hdp 7 (by kernel_rfl); clear hdp; have x0 := (K0.out.belowS hq).at 0 (v := .bool s) rfl; have x1 := (K0.out.belowS hq).at 1 (v := .slice A1 k1 c1) rfl; have x2 := (K0.out.belowS hq).at 2 (v := .slice A2 k2 c2) rfl; have y0 := (K1.out.belowS hq).at 0 (v := (.bool s')) rfl; have y1 := (K1.out.belowS hq).at 1 (v := .slice A3 k3 c3) rfl; have y2 := (K1.out.belowS hq).at 2 (v := .slice A4 k4 c4) rfl; go_simp; exact hR)
   refine Rel.rel_law (S := fun v w' => IsB w' (n * n') v) (isB_mono _) (fun vs wq hq hdp => ?_) ?_
   ·(rw [HF.out, Rel.stepAt_eq]; have qd6 : vs 6 = _ := Rel.dep hdp 6 (by kernel_rfl); have qd8 : vs 8 = _ := Rel.dep hdp 8 (by kernel_rfl); clear hdp; skip; go_simp; refine (bigTimes_any wq (HPW.out wq hq).1 (HPW.out wq hq).2.1 (Nat.le_trans HL.out.1 (by omega)) (Nat.le_trans HL.out.2.2.1 (by omega))).mono ?_; rintro e w7 ⟨v, rfl, hv, hb⟩; exact ⟨_, rfl, hv, hb⟩)
   apply Rel.rel_pure
   apply Exists.intro
   refine ⟨fun vs wq hq hdp R hR => ?_, ?_⟩
   ·(rw [HF.out, Rel.stepAt_eq]; clear hdp; skip; go_simp; exact hR)
   apply Rel.rel_pure
   apply Exists.intro
   refine ⟨fun vs wq hq hdp R hR => ?_, ?_⟩
   ·(rw [HF.out, Rel.stepAt_eq]; have qd10 : vs 10 = _ := Rel.dep hdp 10 (by kernel_rfl); clear hdp; have x0 := (K0.out.belowS hq).at 0 (v := .bool s) rfl; have x1 := (K0.out.belowS hq).at 1 (v := .slice A1 k1 c1) rfl; have x2 := (K0.out.belowS hq).at 2 (v := .slice A2 k2 c2) rfl; have y0 := (K1.out.belowS hq).at 0 (v := (.bool s')) rfl; have y1 := (K1.out.belowS hq).at 1 (v := .slice A3 k3 c3) rfl; have y2 := (K1.out.belowS hq).at 2 (v := .slice A4 k4 c4) rfl; go_simp; exact hR)
   apply Rel.rel_pure
   apply Exists.intro
   refine ⟨fun vs wq hq hdp R hR => ?_, ?_⟩
   ·(rw [HF.out, Rel.stepAt_eq]; clear hdp; skip; go_simp; exact hR)
   apply Rel.rel_pure
   apply Exists.intro
   refine ⟨fun vs wq hq hdp R hR => ?_, ?_⟩
   ·(rw [HF.out, Rel.stepAt_eq]; have qd12 : vs 12 = _ := Rel.dep hdp 12 (by kernel_rfl); clear hdp; have x0 := (K0.out.belowS hq).at 0 (v := .bool s) rfl; have x1 := (K0.out.belowS hq).at 1 (v := .slice A1 k1 c1) rfl; have x2 := (K0.out.belowS hq).at 2 (v := .slice A2 k2 c2) rfl; have y0 := (K1.out.belowS hq).at 0 (v := (.bool s')) rfl; have y1 := (K1.out.belowS hq).at 1 (v := .slice A3 k3 c3) rfl; have y2 := (K1.out.belowS hq).at 2 (v := .slice A4 k4 c4) rfl; go_simp; exact hR)
   refine Rel.rel_law (S := fun v w' => IsB w' (d * d') v) (isB_mono _) (fun vs wq hq hdp => ?_) ?_
   ·(rw [HF.out, Rel.stepAt_eq]; have qd11 : vs 11 = _ := Rel.dep hdp 11 (by kernel_rfl); have qd13 : vs 13 = _ := Rel.dep hdp 13 (by kernel_rfl); clear hdp; skip; go_simp; refine (bigTimes_any wq (HPW.out wq hq).2.2.1 (HPW.out wq hq).2.2.2 (Nat.le_trans HL.out.2.1 (by omega)) (Nat.le_trans HL.out.2.2.2 (by omega))).mono ?_; rintro e w7 ⟨v, rfl, hv, hb⟩; exact ⟨_, rfl, hv, hb⟩)
   refine Rel.rel_law (S := fun v w' => IsW w' (q * r) (m + m') v) (isW_mono _ _) (fun vs wq hq hdp => ?_) ?_
   ·(rw [HF.out, Rel.stepAt_eq]; have qd4 : vs 4 = _ := Rel.dep hdp 4 (by kernel_rfl); have qd9 : IsB wq _ (vs 9) := Rel.dep hdp 9 (by kernel_rfl); have qd14 : IsB wq _ (vs 14) := Rel.dep hdp 14 (by kernel_rfl); clear hdp; obtain ⟨B1, e1, ev1, _⟩ := Dig.form qd9; obtain ⟨B2, e2, ev2, _⟩ := Dig.form qd14; have HPP := Lib.hid (HQ.out wq (s != s') B1 B2 _ _ e1 e2 rfl (by rw [← ev1]; exact qd9) (by rw [← ev2]; exact qd14)); go_simp; exact ⟨HPP.out, Below.refl _ _⟩)
   refine Rel.rel_end (fun vs wq hq hall => ?_)
   rw [HF.out]
   have qe0 : vs 0 = _ := Rel.fin hall 0 (by decide)
   have qe1 : vs 1 = _ := Rel.fin hall 1 (by decide)
   have qe2 : vs 2 = _ := Rel.fin hall 2 (by decide)
   have qe3 : vs 3 = _ := Rel.fin hall 3 (by decide)
   have qe4 : vs 4 = _ := Rel.fin hall 4 (by decide)
   have qe5 : vs 5 = _ := Rel.fin hall 5 (by decide)
   have qe6 : vs 6 = _ := Rel.fin hall 6 (by decide)
   have qe7 : vs 7 = _ := Rel.fin hall 7 (by decide)
   have qe8 : vs 8 = _ := Rel.fin hall 8 (by decide)
   have qe9 : IsB wq _ (vs 9) := Rel.fin hall 9 (by decide)
   have qe10 : vs 10 = _ := Rel.fin hall 10 (by decide)
   have qe11 : vs 11 = _ := Rel.fin hall 11 (by decide)
   have qe12 : vs 12 = _ := Rel.fin hall 12 (by decide)
   have qe13 : vs 13 = _ := Rel.fin hall 13 (by decide)
   have qe14 : IsB wq _ (vs 14) := Rel.fin hall 14 (by decide)
   have qe15 : IsW wq _ _ (vs 15) := Rel.fin hall 15 (by decide)
   clear hall HF uv ue
   obtain ⟨s, A1, k1, c1', A2, k2, c2', fine, fn, fd, nn, dd, ev, hpz⟩ := qe15
   have KRq := KR.out.belowS hq
   have HBq := Base.Below.nextA HB.out hq
   have HP2 := Lib.hid hpz
   clear hq hpz HP HP' K0 K1 HPW HQ
   have z0 := (KRq).frz 0
   have z1 := (KRq).frz 1
   have z2 := (KRq).frz 2
   have z3 := (KRq).frz 3
   have z4 := (KRq).frz 4
   have z5 := (KRq).frz 5
   have c0 := (KRq).at 0 (v := .bool false) rfl
   have c1 := (KRq).at 1 (v := .slice none 0 0) rfl
   have c2 := (KRq).at 2 (v := .slice none 0 0) rfl
   have c3 := (KRq).at 3 (v := .bool false) rfl
   have c4 := (KRq).at 4 (v := .int .i64 0) rfl
   have c5 := (KRq).at 5 (v := .int .i64 0) rfl
   have SS := put6_blk (KRq) (.bool s) (.slice A1 k1 c1') (.slice A2 k2 c2') (.bool fine) (.int .i64 fn) (.int .i64 fd)
   unfold put6 at SS
   have s0 := SS.at 0 rfl
   have s1 := SS.at 1 rfl
   have s2 := SS.at 2 rfl
   have s3 := SS.at 3 rfl
   have s4 := SS.at 4 rfl
   have s5 := SS.at 5 rfl
   have HFIN := Lib.hid (WRet.put (HP2.out) (KRq) (HBq) (by omega))
   clear SS
   go_wp2
   refine bodyPost_ret (v := .agg #[.bool s, .slice A1 k1 c1', .slice A2 k2 c2', .bool fine, .int .i64 fn, .int .i64 fd]) (by simp [results, Tryz.results113, go_sem, s0, s1, s2, s3, s4, s5]) rfl ?_
   exact HFIN.out
set_option maxHeartbeats 4000000 in
set_option maxRecDepth 100000 in
theorem wideMul_yes {q r : Rat} {m m' : Nat} {s s' : Bool} {A1 A2 A3 A4 : Option Addr} {k1 k2 k3 k4 c1 c2 c3 c4 n d n' d' : Nat} {fn fd gn gd : Int} (w : World) (hp : Parts w q m s (.slice A1 k1 c1) (.slice A2 k2 c2) true fn fd n d) (hp' : Parts w r m' s' (.slice A3 k3 c3) (.slice A4 k4 c4) true gn gd n' d') (hm : m ≤ 400000) (hm' : m' ≤ 400000) (h2 : 2 ≤ m) (h2' : 2 ≤ m') : Calls Tryz.prog 113 #[.agg #[.bool s, .slice A1 k1 c1, .slice A2 k2 c2, .bool true, .int .i64 fn, .int .i64 fd], .agg #[(.bool s'), .slice A3 k3 c3, .slice A4 k4 c4, (.bool true), .int .i64 gn, .int .i64 gd]] w (WRet (q * r) (m + m') w) := by
 have HP := Lib.hid hp
 have HP' := Lib.hid hp'
 have HV := Lib.hid (And.intro hp.val hp'.val)
 have HD := Lib.hid (And.intro hp.pos hp'.pos)
 have HL := Lib.hid (And.intro hp.ln (And.intro hp.ld (And.intro hp'.ln hp'.ld)))
 obtain ⟨W3, hW3⟩ : ∃ W3, W3 = ((w.alloc (.cells #[.bool s, .slice A1 k1 c1, .slice A2 k2 c2, .bool true, .int .i64 fn, .int .i64 fd] 107)).alloc (.cells #[(.bool s'), .slice A3 k3 c3, .slice A4 k4 c4, (.bool true), .int .i64 gn, .int .i64 gd] 107)).alloc (.cells #[.bool false, .slice none 0 0, .slice none 0 0, .bool false, .int .i64 0, .int .i64 0] 107) := ⟨_, rfl⟩
 have K0 : Hid (Blk W3 w.heap.size 107 #[.bool s, .slice A1 k1 c1, .slice A2 k2 c2, .bool true, .int .i64 fn, .int .i64 fd]) := Lib.hid (by rw [hW3]; exact ((Blk.new w _ _).alloc _).alloc _)
 have K1 : Hid (Blk W3 (w.heap.size + 1) 107 #[(.bool s'), .slice A3 k3 c3, .slice A4 k4 c4, (.bool true), .int .i64 gn, .int .i64 gd]) := Lib.hid (by rw [hW3]; exact (Blk.newAt _ _ (by simp)).alloc _)
 have KR : Hid (Blk W3 (w.heap.size + 1 + 1) 107 #[.bool false, .slice none 0 0, .slice none 0 0, .bool false, .int .i64 0, .int .i64 0]) := Lib.hid (by rw [hW3]; exact Blk.newAt _ _ (by simp))
 have HB : Hid (Below w.heap.size w W3) := Lib.hid (by rw [hW3]; exact (((Below.refl _ _).alloc (Nat.le_refl _) _).alloc (by simp) _).alloc (by simp; omega) _)
 have HW := Lib.hid hW3
 clear hW3 hp hp'
 obtain ⟨v1, v2, -⟩ := HP.out.small rfl
 obtain ⟨v3, v4, -⟩ := HP'.out.small rfl
 have HM := Lib.hid (fun W => fMul_any v1 v3 W)
 rw [v2, v4] at HM
 unfold FRet at HM
 clear v1 v2 v3 v4
 have x0 := (K0.out).at 0 (v := .bool s) rfl
 have x1 := (K0.out).at 1 (v := .slice A1 k1 c1) rfl
 have x2 := (K0.out).at 2 (v := .slice A2 k2 c2) rfl
 have x3 := (K0.out).at 3 (v := .bool true) rfl
 have x4 := (K0.out).at 4 (v := .int .i64 fn) rfl
 have x5 := (K0.out).at 5 (v := .int .i64 fd) rfl
 have y0 := (K1.out).at 0 (v := (.bool s')) rfl
 have y1 := (K1.out).at 1 (v := .slice A3 k3 c3) rfl
 have y2 := (K1.out).at 2 (v := .slice A4 k4 c4) rfl
 have y3 := (K1.out).at 3 (v := (.bool true)) rfl
 have y4 := (K1.out).at 4 (v := .int .i64 gn) rfl
 have y5 := (K1.out).at 5 (v := .int .i64 gd) rfl
 go_enter Tryz.func113, Tryz.ntmps113
 go_upto_region 1 with (fail)
 rw [← HW.out]
 clear HW
 have lR := KR.out.lt
 go_wp2_with fail
 refine (HM.out _).mono ?_
 rintro e w4 ⟨rfl, hb4⟩
 have K0a := K0.out.belowS hb4
 have K1a := K1.out.belowS hb4
 have KRa := KR.out.belowS hb4
 have HBa := Lib.hid (Base.Below.nextA HB.out hb4)
 have KK := Lib.hid (And.intro K0a (And.intro K1a KRa))
 clear K0a K1a KRa hb4 K0 K1 KR HB HM x0 x1 x2 x3 x4 x5 y0 y1 y2 y3 y4 y5 lR
 go_upto_region 3 with (fail)
 obtain ⟨W4, hW4⟩ : ∃ W4, W4 = w4.alloc (.cells #[.int .i64 (numQ (q * r)), .int .i64 (denQ (q * r))] 34) := ⟨_, rfl⟩
 rw [← hW4]
 have K0 : Hid (Blk W4 w.heap.size 107 #[.bool s, .slice A1 k1 c1, .slice A2 k2 c2, .bool true, .int .i64 fn, .int .i64 fd]) := Lib.hid (by rw [hW4]; exact KK.out.1.alloc _)
 have K1 : Hid (Blk W4 (w.heap.size + 1) 107 #[(.bool s'), .slice A3 k3 c3, .slice A4 k4 c4, (.bool true), .int .i64 gn, .int .i64 gd]) := Lib.hid (by rw [hW4]; exact KK.out.2.1.alloc _)
 have KR : Hid (Blk W4 (w.heap.size + 1 + 1) 107 #[.bool false, .slice none 0 0, .slice none 0 0, .bool false, .int .i64 0, .int .i64 0]) := Lib.hid (by rw [hW4]; exact KK.out.2.2.alloc _)
 have K5 : Hid (Blk W4 w4.heap.size 34 #[.int .i64 (numQ (q * r)), .int .i64 (denQ (q * r))]) := Lib.hid (by rw [hW4]; exact Blk.new w4 _ _)
 have HB : Hid (Below w.heap.size w W4) := Lib.hid (by rw [hW4]; exact HBa.out.alloc HBa.out.size _)
 clear hW4 KK HBa
 cases hs : smallQ (q * r) with
 | true =>
  have HO : Hid (∀ W, Calls Tryz.prog 64 #[.agg #[.int .i64 (numQ (q * r)), .int .i64 (denQ (q * r))]] W (WRet (q * r) 2 W)) := Lib.hid fun W => by
   obtain ⟨t1, t2⟩ := small_true hs
   obtain ⟨_, e1, e2⟩ := RatM.small_yes t1 t2
   have := wideOf_any (VF.of (q * r) hs) W
   rw [qf_self] at this
   rw [e1, e2]; exact this
  have p0 := K5.out.at 0 (v := .int .i64 (numQ (q * r))) rfl
  have p1 := K5.out.at 1 (v := .int .i64 (denQ (q * r))) rfl
  clear hs
  generalize numQ (q * r) = qn at *
  generalize denQ (q * r) = qd at *
  go_wp2_with fail
  refine (HO.out _).mono ?_
  rintro e wq ⟨v, rfl, hv, hq⟩
  obtain ⟨s, A1, k1, c1', A2, k2, c2', fine, fn, fd, nn, dd, rfl, hpz⟩ := hv
  have KRq := KR.out.belowS hq
  have HBq := Base.Below.nextA HB.out hq
  have HP2 := Lib.hid (hpz.more (show 2 ≤ m + m' by omega))
  clear hq hpz HP HP' K0 K1 K5 p0 p1 HO
  have z0 := (KRq).frz 0
  have z1 := (KRq).frz 1
  have z2 := (KRq).frz 2
  have z3 := (KRq).frz 3
  have z4 := (KRq).frz 4
  have z5 := (KRq).frz 5
  have c0 := (KRq).at 0 (v := .bool false) rfl
  have c1 := (KRq).at 1 (v := .slice none 0 0) rfl
  have c2 := (KRq).at 2 (v := .slice none 0 0) rfl
  have c3 := (KRq).at 3 (v := .bool false) rfl
  have c4 := (KRq).at 4 (v := .int .i64 0) rfl
  have c5 := (KRq).at 5 (v := .int .i64 0) rfl
  have SS := put6_blk (KRq) (.bool s) (.slice A1 k1 c1') (.slice A2 k2 c2') (.bool fine) (.int .i64 fn) (.int .i64 fd)
  unfold put6 at SS
  have s0 := SS.at 0 rfl
  have s1 := SS.at 1 rfl
  have s2 := SS.at 2 rfl
  have s3 := SS.at 3 rfl
  have s4 := SS.at 4 rfl
  have s5 := SS.at 5 rfl
  have HFIN := Lib.hid (WRet.put (HP2.out) (KRq) (HBq) (by omega))
  clear SS
  go_wp2
  refine bodyPost_ret (v := .agg #[.bool s, .slice A1 k1 c1', .slice A2 k2 c2', .bool fine, .int .i64 fn, .int .i64 fd]) (by simp [results, Tryz.results113, go_sem, s0, s1, s2, s3, s4, s5]) rfl ?_
  exact HFIN.out
 | false =>
  clear hs
  generalize numQ (q * r) = qn at *
  generalize denQ (q * r) = qd at *
  go_wp2_with fail
  have HPW : Hid (∀ W, Below W4.heap.size W4 W → IsB W n (.slice A1 k1 c1) ∧ IsB W n' (.slice A3 k3 c3) ∧ IsB W d (.slice A2 k2 c2) ∧ IsB W d' (.slice A4 k4 c4)) := Lib.hid fun W hb => by
   have hb2 := Base.Below.nextA HB.out hb
   exact ⟨HP.out.num.below hb2, HP'.out.num.below hb2, HP.out.den.below hb2, HP'.out.den.below hb2⟩
  have HQ : Hid (∀ W sb B1 B2 j1 j2 e1 e2, sb = (s != s') → IsB W (n * n') (.slice B1 j1 e1) → IsB W (d * d') (.slice B2 j2 e2) → IsW W (q * r) (m + m') (.agg #[.bool sb, .slice B1 j1 e1, .slice B2 j2 e2, .bool false, .int .i64 0, .int .i64 0])) := Lib.hid fun W sb B1 B2 j1 j2 e1 e2 hs g1 g2 =>
   ⟨sb, B1, j1, e1, B2, j2, e2, false, 0, 0, _, _, rfl, ⟨g1, g2, Nat.mul_pos HD.out.1 HD.out.2, by rw [hs, qv_mul _ _ (Nat.ne_of_gt HD.out.1) (Nat.ne_of_gt HD.out.2), HV.out.1, HV.out.2], Nat.le_trans (len_mul _ _) (by have := HL.out; omega), Nat.le_trans (len_mul _ _) (by have := HL.out; omega), fun h => by cases h⟩⟩
  refine Rel.wp_region_rel 16 (by kernel_rfl) (by kernel_rfl) (fun F hF => ?_)
  simp only [List.take_succ_cons, List.take_zero, List.drop_succ_cons, List.drop_zero, Rel.putL] at hF ⊢
  have HF := Lib.hid hF
  clear hF
  have uv := @Rel.upon_value Tryz.prog
  have ue := @Rel.upon_enter Tryz.prog
  apply Rel.rel_pure
  apply Exists.intro
  refine ⟨fun vs wq hq hdp R hR => ?_, ?_⟩
  ·(rw [HF.out, Rel.stepAt_eq]; clear hdp; skip; go_simp; exact hR)
  apply Rel.rel_pure
  apply Exists.intro
  refine ⟨fun vs wq hq hdp R hR => ?_, ?_⟩
  ·(rw [HF.out, Rel.stepAt_eq]; have qd0 : vs 0 = _ := Rel.dep hdp 0 (by kernel_rfl); clear hdp; have x0 := (K0.out.belowS hq).at 0 (v := .bool s) rfl; have x1 := (K0.out.belowS hq).at 1 (v := .slice A1 k1 c1) rfl; have x2 := (K0.out.belowS hq).at 2 (v := .slice A2 k2 c2) rfl; have y0 := (K1.out.belowS hq).at 0 (v := (.bool s')) rfl; have y1 := (K1.out.belowS hq).at 1 (v := .slice A3 k3 c3) rfl; have y2 := (K1.out.belowS hq).at 2 (v := .slice A4 k4 c4) rfl; go_simp; exact hR)
  apply Rel.rel_pure
  apply Exists.intro
  refine ⟨fun vs wq hq hdp R hR => ?_, ?_⟩
  ·(rw [HF.out, Rel.stepAt_eq]; clear hdp; skip; go_simp; exact hR)
  apply Rel.rel_pure
  apply Exists.intro
  refine ⟨fun vs wq hq hdp R hR => ?_, ?_⟩
  ·(rw [HF.out, Rel.stepAt_eq]; have qd2 : vs 2 = _ := Rel.dep hdp 2 (by kernel_rfl); clear hdp; have x0 := (K0.out.belowS hq).at 0 (v := .bool s) rfl; have x1 := (K0.out.belowS hq).at 1 (v := .slice A1 k1 c1) rfl; have x2 := (K0.out.belowS hq).at 2 (v := .slice A2 k2 c2) rfl; have y0 := (K1.out.belowS hq).at 0 (v := (.bool s')) rfl; have y1 := (K1.out.belowS hq).at 1 (v := .slice A3 k3 c3) rfl; have y2 := (K1.out.belowS hq).at 2 (v := .slice A4 k4 c4) rfl; go_simp; exact hR)
  apply Rel.rel_pure
  apply Exists.intro
  refine ⟨fun vs wq hq hdp R hR => ?_, ?_⟩
  ·(rw [HF.out, Rel.stepAt_eq]; have qd1 : vs 1 = _ := Rel.dep hdp 1 (by kernel_rfl); have qd3 : vs 3 = _ := Rel.dep hdp 3 (by kernel_rfl); clear hdp; skip; go_simp; exact hR)
  apply Rel.rel_pure
  apply Exists.intro
  refine ⟨fun vs wq hq hdp R hR => ?_, ?_⟩
  ·(rw [HF.out, Rel.stepAt_eq]; clear hdp; skip; go_simp; exact hR)
  apply Rel.rel_pure
  apply Exists.intro
  refine ⟨fun vs wq hq hdp R hR => ?_, ?_⟩
  ·(rw [HF.out, Rel.stepAt_eq]; have qd5 : vs 5 = _ := Rel.dep hdp 5 (by kernel_rfl); clear hdp; have x0 := (K0.out.belowS hq).at 0 (v := .bool s) rfl; have x1 := (K0.out.belowS hq).at 1 (v := .slice A1 k1 c1) rfl; have x2 := (K0.out.belowS hq).at 2 (v := .slice A2 k2 c2) rfl; have y0 := (K1.out.belowS hq).at 0 (v := (.bool s')) rfl; have y1 := (K1.out.belowS hq).at 1 (v := .slice A3 k3 c3) rfl; have y2 := (K1.out.belowS hq).at 2 (v := .slice A4 k4 c4) rfl; go_simp; exact hR)
  apply Rel.rel_pure
  apply Exists.intro
  refine ⟨fun vs wq hq hdp R hR => ?_, ?_⟩
  ·(rw [HF.out, Rel.stepAt_eq]; clear hdp; skip; go_simp; exact hR)
  apply Rel.rel_pure
  apply Exists.intro
  refine ⟨fun vs wq hq hdp R hR => ?_, ?_⟩
  ·(rw [HF.out, Rel.stepAt_eq]; have qd7 : vs 7 = _ := Rel.dep hdp 7 (by kernel_rfl); clear hdp; have x0 := (K0.out.belowS hq).at 0 (v := .bool s) rfl; have x1 := (K0.out.belowS hq).at 1 (v := .slice A1 k1 c1) rfl; have x2 := (K0.out.belowS hq).at 2 (v := .slice A2 k2 c2) rfl; have y0 := (K1.out.belowS hq).at 0 (v := (.bool s')) rfl; have y1 := (K1.out.belowS hq).at 1 (v := .slice A3 k3 c3) rfl; have y2 := (K1.out.belowS hq).at 2 (v := .slice A4 k4 c4) rfl; go_simp; exact hR)
  refine Rel.rel_law (S := fun v w' => IsB w' (n * n') v) (isB_mono _) (fun vs wq hq hdp => ?_) ?_
  ·(rw [HF.out, Rel.stepAt_eq]; have qd6 : vs 6 = _ := Rel.dep hdp 6 (by kernel_rfl); have qd8 : vs 8 = _ := Rel.dep hdp 8 (by kernel_rfl); clear hdp; skip; go_simp; refine (bigTimes_any wq (HPW.out wq hq).1 (HPW.out wq hq).2.1 (Nat.le_trans HL.out.1 (by omega)) (Nat.le_trans HL.out.2.2.1 (by omega))).mono ?_; rintro e w7 ⟨v, rfl, hv, hb⟩; exact ⟨_, rfl, hv, hb⟩)
  apply Rel.rel_pure
  apply Exists.intro
  refine ⟨fun vs wq hq hdp R hR => ?_, ?_⟩
  ·(rw [HF.out, Rel.stepAt_eq]; clear hdp; skip; go_simp; exact hR)
  apply Rel.rel_pure
  apply Exists.intro
  refine ⟨fun vs wq hq hdp R hR => ?_, ?_⟩
  ·(rw [HF.out, Rel.stepAt_eq]; have qd10 : vs 10 = _ := Rel.dep hdp 10 (by kernel_rfl); clear hdp; have x0 := (K0.out.belowS hq).at 0 (v := .bool s) rfl; have x1 := (K0.out.belowS hq).at 1 (v := .slice A1 k1 c1) rfl; have x2 := (K0.out.belowS hq).at 2 (v := .slice A2 k2 c2) rfl; have y0 := (K1.out.belowS hq).at 0 (v := (.bool s')) rfl; have y1 := (K1.out.belowS hq).at 1 (v := .slice A3 k3 c3) rfl; have y2 := (K1.out.belowS hq).at 2 (v := .slice A4 k4 c4) rfl; go_simp; exact hR)
  apply Rel.rel_pure
  apply Exists.intro
  refine ⟨fun vs wq hq hdp R hR => ?_, ?_⟩
  ·(rw [HF.out, Rel.stepAt_eq]; clear hdp; skip; go_simp; exact hR)
  apply Rel.rel_pure
  apply Exists.intro
  refine ⟨fun vs wq hq hdp R hR => ?_, ?_⟩
  ·(rw [HF.out, Rel.stepAt_eq]; have qd12 : vs 12 = _ := Rel.dep hdp 12 (by kernel_rfl); clear hdp; have x0 := (K0.out.belowS hq).at 0 (v := .bool s) rfl; have x1 := (K0.out.belowS hq).at 1 (v := .slice A1 k1 c1) rfl; have x2 := (K0.out.belowS hq).at 2 (v := .slice A2 k2 c2) rfl; have y0 := (K1.out.belowS hq).at 0 (v := (.bool s')) rfl; have y1 := (K1.out.belowS hq).at 1 (v := .slice A3 k3 c3) rfl; have y2 := (K1.out.belowS hq).at 2 (v := .slice A4 k4 c4) rfl; go_simp; exact hR)
  refine Rel.rel_law (S := fun v w' => IsB w' (d * d') v) (isB_mono _) (fun vs wq hq hdp => ?_) ?_
  ·(rw [HF.out, Rel.stepAt_eq]; have qd11 : vs 11 = _ := Rel.dep hdp 11 (by kernel_rfl); have qd13 : vs 13 = _ := Rel.dep hdp 13 (by kernel_rfl); clear hdp; skip; go_simp; refine (bigTimes_any wq (HPW.out wq hq).2.2.1 (HPW.out wq hq).2.2.2 (Nat.le_trans HL.out.2.1 (by omega)) (Nat.le_trans HL.out.2.2.2 (by omega))).mono ?_; rintro e w7 ⟨v, rfl, hv, hb⟩; exact ⟨_, rfl, hv, hb⟩)
  refine Rel.rel_law (S := fun v w' => IsW w' (q * r) (m + m') v) (isW_mono _ _) (fun vs wq hq hdp => ?_) ?_
  ·(rw [HF.out, Rel.stepAt_eq]; have qd4 : vs 4 = _ := Rel.dep hdp 4 (by kernel_rfl); have qd9 : IsB wq _ (vs 9) := Rel.dep hdp 9 (by kernel_rfl); have qd14 : IsB wq _ (vs 14) := Rel.dep hdp 14 (by kernel_rfl); clear hdp; obtain ⟨B1, e1, ev1, _⟩ := Dig.form qd9; obtain ⟨B2, e2, ev2, _⟩ := Dig.form qd14; have HPP := Lib.hid (HQ.out wq (s != s') B1 B2 _ _ e1 e2 rfl (by rw [← ev1]; exact qd9) (by rw [← ev2]; exact qd14)); go_simp; exact ⟨HPP.out, Below.refl _ _⟩)
  refine Rel.rel_end (fun vs wq hq hall => ?_)
  rw [HF.out]
  have qe0 : vs 0 = _ := Rel.fin hall 0 (by decide)
  have qe1 : vs 1 = _ := Rel.fin hall 1 (by decide)
  have qe2 : vs 2 = _ := Rel.fin hall 2 (by decide)
  have qe3 : vs 3 = _ := Rel.fin hall 3 (by decide)
  have qe4 : vs 4 = _ := Rel.fin hall 4 (by decide)
  have qe5 : vs 5 = _ := Rel.fin hall 5 (by decide)
  have qe6 : vs 6 = _ := Rel.fin hall 6 (by decide)
  have qe7 : vs 7 = _ := Rel.fin hall 7 (by decide)
  have qe8 : vs 8 = _ := Rel.fin hall 8 (by decide)
  have qe9 : IsB wq _ (vs 9) := Rel.fin hall 9 (by decide)
  have qe10 : vs 10 = _ := Rel.fin hall 10 (by decide)
  have qe11 : vs 11 = _ := Rel.fin hall 11 (by decide)
  have qe12 : vs 12 = _ := Rel.fin hall 12 (by decide)
  have qe13 : vs 13 = _ := Rel.fin hall 13 (by decide)
  have qe14 : IsB wq _ (vs 14) := Rel.fin hall 14 (by decide)
  have qe15 : IsW wq _ _ (vs 15) := Rel.fin hall 15 (by decide)
  clear hall HF uv ue
  obtain ⟨s, A1, k1, c1', A2, k2, c2', fine, fn, fd, nn, dd, ev, hpz⟩ := qe15
  have KRq := KR.out.belowS hq
  have HBq := Base.Below.nextA HB.out hq
  have HP2 := Lib.hid hpz
  clear hq hpz HP HP' K0 K1 HPW HQ
  have z0 := (KRq).frz 0
  have z1 := (KRq).frz 1
  have z2 := (KRq).frz 2
  have z3 := (KRq).frz 3
  have z4 := (KRq).frz 4
  have z5 := (KRq).frz 5
  have c0 := (KRq).at 0 (v := .bool false) rfl
  have c1 := (KRq).at 1 (v := .slice none 0 0) rfl
  have c2 := (KRq).at 2 (v := .slice none 0 0) rfl
  have c3 := (KRq).at 3 (v := .bool false) rfl
  have c4 := (KRq).at 4 (v := .int .i64 0) rfl
  have c5 := (KRq).at 5 (v := .int .i64 0) rfl
  have SS := put6_blk (KRq) (.bool s) (.slice A1 k1 c1') (.slice A2 k2 c2') (.bool fine) (.int .i64 fn) (.int .i64 fd)
  unfold put6 at SS
  have s0 := SS.at 0 rfl
  have s1 := SS.at 1 rfl
  have s2 := SS.at 2 rfl
  have s3 := SS.at 3 rfl
  have s4 := SS.at 4 rfl
  have s5 := SS.at 5 rfl
  have HFIN := Lib.hid (WRet.put (HP2.out) (KRq) (HBq) (by omega))
  clear SS
  go_wp2
  refine bodyPost_ret (v := .agg #[.bool s, .slice A1 k1 c1', .slice A2 k2 c2', .bool fine, .int .i64 fn, .int .i64 fd]) (by simp [results, Tryz.results113, go_sem, s0, s1, s2, s3, s4, s5]) rfl ?_
  exact HFIN.out
theorem wideMul_any {q r : Rat} {m m' : Nat} {v u : Value} (w : World) (hv : IsW w q m v) (hu : IsW w r m' u) (hm : m ≤ 400000) (hm' : m' ≤ 400000) (h2 : 2 ≤ m) (h2' : 2 ≤ m') : Calls Tryz.prog 113 #[v, u] w (WRet (q * r) (m + m') w) := by
 obtain ⟨s, A1, k1, c1, A2, k2, c2, fa, fn, fd, n, d, rfl, hp⟩ := hv
 obtain ⟨s', A3, k3, c3, A4, k4, c4, fb, gn, gd, n', d', rfl, hp'⟩ := hu
 cases hf : (fa && fb) with
 | false => exact wideMul_no w hp hp' hf hm hm' h2 h2'
 | true =>
  rw [Bool.and_eq_true] at hf
  obtain ⟨rfl, rfl⟩ := hf
  exact wideMul_yes w hp hp' hm hm' h2 h2'
end Go.Proofs.YthagenodiofgnaaGreat.Wide
namespace Go.Proofs.YthagenodiofgnaaGreat.Wide
open Go.RowKit Go.Proofs.YthagenodiofgnaaGreat Go.Proofs.YthagenodiofgnaaGreat.Base Go.Proofs.YthagenodiofgnaaGreat.Mem Go.Proofs.YthagenodiofgnaaGreat.RatM Go.Proofs.YthagenodiofgnaaGreat.BigM Go.Proofs.YthagenodiofgnaaGreat.Big Go.Proofs.YthagenodiofgnaaGreat.Fine Go.Proofs.YthagenodiofgnaaGreat.Blk Go.Proofs.YthagenodiofgnaaGreat.GaussM Go.Proofs.YthagenodiofgnaaGreat.MemF Go.Proofs.YthagenodiofgnaaGreat.ChM
set_option linter.unusedVariables false
theorem isL_mono (q : Rat) (m : Nat) : Rel.Mono (fun v w => IsL w q m v) := fun v w w' h hb => h.below hb
def WidesRel (fs : List Int) (n : Nat) (w : World) (iv ov : Value) (wr : World) : Prop :=
 ∃ (i : Nat) (cs : List Value), iv = .int .i64 (i : Int) ∧ i ≤ n ∧ Hid (OwnW wr w.heap.size ov i (fq fs) 2 cs) ∧ Hid (Below w.heap.size w wr)
theorem WidesRel.next {fs : List Int} {n i : Nat} {w wr w1 w2 : World} {v v' : Value} {cs : List Value} {s fine : Bool} {A1 A2 : Option Addr} {k1 c1 k2 c2 nn dd : Nat} {fn fd : Int} {ca : Array Value} {t : TypeId} (hi : i < n) (h : OwnW wr w.heap.size v i (fq fs) 2 cs) (hb : Below w.heap.size w wr) (h1 : Below wr.heap.size wr w1)
  (hp : Parts w1 (fq fs i) 2 s (.slice A1 k1 c1) (.slice A2 k2 c2) fine fn fd nn dd) (hown : w2.ownsRow w.heap.size 107 6 v' (i + 1) (cs ++ six s (.slice A1 k1 c1) (.slice A2 k2 c2) fine fn fd)) (hg : (w1.alloc (.cells ca t)).grownBy w2 v.ownBlock) : WidesRel fs n w (.int .i64 ((i : Int) + 1)) v' w2 := by
 have hb1 : Below wr.heap.size wr (w1.alloc (.cells ca t)) := h1.alloc h1.size _
 refine ⟨i + 1, _, by simp, hi, Lib.hid (h.push h1 hp hown hg), Lib.hid ?_⟩
 exact (hb.trans (hb1.mono hb.size)).trans (grown_below hg (fun g e => (ownsRow_block h.row e).choose_spec.2.1) (Nat.le_trans hb.size hb1.size))
set_option maxHeartbeats 2000000 in
set_option maxRecDepth 100000 in
theorem wides_any {A : Option Addr} {c B n : Nat} {fs : List Int} (w : World) (hx : RdF w B A n fs) (hB : B ≤ w.heap.size) (hv : AllVF fs n) (hn : n ≤ 1000) : Calls Tryz.prog 76 #[.slice A n c] w (WsRet n (fq fs) 2 w) := by
 obtain ⟨iw, wi, wz0, wz1, wz2⟩ := info_parts infoW
 have HX := Lib.hid (hx.more hB)
 have HV := Lib.hid hv
 have H0 : Hid (WidesRel fs n w (.int .i64 0) (.slice (some ⟨w.heap.size, 0, none⟩) 0 0) (w.alloc (.cells #[] 107))) := Lib.hid ⟨0, [], rfl, Nat.zero_le _, Lib.hid (OwnW.lit0 w _ _), Lib.hid ((Below.refl _ _).alloc (Nat.le_refl _) _)⟩
 clear hx hv
 go_enter Tryz.func76, Tryz.ntmps76
 go_wp2
 go_loopw [4, 3] (fun iv ov wr => WidesRel fs n w iv ov wr) (fun iv _ _ => n - (intOf iv).toNat)
 case atStart => exact H0.out
 case round =>
  obtain ⟨i, cs, rfl, hi, HO, HB⟩ := hrel
  clear H0
  by_cases hlt : i < n
  ·obtain ⟨b, off, rfl, hbl, g1, g2⟩ := (HX.out.below HB.out (Nat.le_refl _)).at hlt
   have HW := Lib.hid (fun W => wideOf_any (HV.out i hlt) W)
   have hfq : qf (fs.getD (2 * i) 0) (fs.getD (2 * i + 1) 0) = fq fs i := rfl
   rw [hfq] at HW
   have HFQ := Lib.hid hfq
   clear hfq
   generalize fs.getD (2 * i) 0 = x0 at *
   generalize fs.getD (2 * i + 1) 0 = x1 at *
   have hsz := HB.out.size
   go_wp2_with fail
   refine (HW.out _).mono ?_
   rintro e w1 ⟨v, rfl, hv, hb1⟩
   obtain ⟨s, A1, k1, c1, A2, k2, c2, fine, fn, fd, nn, dd, rfl, hp⟩ := hv
   have hsz1 := hb1.size
   have HN := Lib.hid (fun w2 v' ca t hown hg => WidesRel.next (w2 := w2) (v' := v') (ca := ca) (t := t) hlt HO.out HB.out hb1 hp hown hg)
   have HOA := Lib.hid (World.ownsRow.alloc (ownsRow_below HO.out.row hb1) (.cells #[.bool s, .slice A1 k1 c1, .slice A2 k2 c2, .bool fine, .int .i64 fn, .int .i64 fd] 107))
   clear hp hb1 HO HB g1 g2 HW
   go_wp2_with (at_builtin; refine wpList_append_own_at _ rfl (.tmp 12) (.tmp 18) 58 rfl w.heap.size 107 iw (.agg #[.bool false, .slice none 0 0, .slice none 0 0, .bool false, .int .i64 0, .int .i64 0]) 6 80 Tryz.underlying58 wi wz0 wz1 wz2 rfl (by decide) _ _ _ rfl HOA.out ⟨w1.heap.size, 0, none⟩ 1 1 [.bool s, .slice A1 k1 c1, .slice A2 k2 c2, .bool fine, .int .i64 fn, .int .i64 fd] rfl rfl ?p1a ?p2a ?p3a ?p4a ?p5a ?_)
   try case p1a => exact news_six _ _ (by simp)
   try case p2a => exact ones_six
   try case p3a => first | (simp only [maxLen]; omega) | omega
   try case p4a => omega
   try case p5a => first | (simp only [World.size_alloc]; omega) | omega
   intro v' w2 hown' hg' _ he
   have HN3 := Lib.hid (HN.out w2 v' _ _ hown' hg')
   clear hown' hg' he HN HOA
   go_wp2
   go_roundw
   case rel => exact HN3.out
   case measure => simp [intOf]; omega
  ·obtain rfl : i = n := by omega
   obtain ⟨A', c', rfl, _⟩ := HO.out.form
   have HR : Hid (WsRet i (fq fs) 2 w (.returned (.slice A' i c')) wr) := Lib.hid ⟨_, cs, rfl, HO.out, HB.out⟩
   clear HO HB
   go_wp2
   go_ret
   exact HR.out
def SumRel (f : Nat → Rat) (n m g : Nat) (w : World) (iv : Value) (wr : World) : Prop :=
 ∃ (i : Nat) (s : Bool) (A1 : Option Addr) (k1 c1 : Nat) (A2 : Option Addr) (k2 c2 : Nat) (fa : Bool) (fn fd : Int) (nn dd : Nat), iv = .int .i64 (i : Int) ∧ i ≤ n ∧ Hid (Blk wr g 107 #[.bool s, .slice A1 k1 c1, .slice A2 k2 c2, .bool fa, .int .i64 fn, .int .i64 fd]) ∧ Hid (Parts wr (sumR i f) (2 + i * (m + 1)) s (.slice A1 k1 c1) (.slice A2 k2 c2) fa fn fd nn dd) ∧
  Hid (Blk wr w.heap.size 107 #[.bool false, .slice none 0 0, .slice none 0 0, .bool false, .int .i64 0, .int .i64 0]) ∧ Hid (Below w.heap.size w wr)
theorem size_le {i n m : Nat} (h : i < n) (hM : 2 + n * (m + 1) ≤ 400000) : 2 + i * (m + 1) + m + 1 ≤ 400000 ∧ 2 + (i + 1) * (m + 1) = 2 + i * (m + 1) + m + 1 := by
 have h1 : (i + 1) * (m + 1) ≤ n * (m + 1) := Nat.mul_le_mul_right _ h
 rw [Nat.add_mul, Nat.one_mul] at *
 omega
set_option maxHeartbeats 4000000 in
set_option maxRecDepth 100000 in
theorem sum_any {v : Value} {n m : Nat} {f : Nat → Rat} {cs : List Value} (w : World) (hx : OwnW w 0 v n f m cs) (hm2 : 2 ≤ m) (hM : 2 + n * (m + 1) ≤ 400000) (hn : n ≤ 1000) : Calls Tryz.prog 117 #[v] w (WRet (sumR n f) (2 + n * (m + 1)) w) := by
 obtain ⟨A, c, rfl, _⟩ := hx.form
 have HX := Lib.hid hx
 have HM0 := Lib.hid hM
 have HWZ := Lib.hid (fun W => wideOf_any vf_zero W)
 rw [qf_zero] at HWZ
 clear hx hM
 go_enter Tryz.func117, Tryz.ntmps117
 go_wp2_with fail
 refine (zero_any _).mono ?_
 rintro e w1 ⟨rfl, hb1⟩
 have KR1 := Lib.hid ((Blk.new w 107 #[.bool false, .slice none 0 0, .slice none 0 0, .bool false, .int .i64 0, .int .i64 0]).belowS hb1)
 have HB1 := Lib.hid (Base.Below.boxed hb1)
 clear hb1
 go_wp2_with fail
 refine (HWZ.out _).mono ?_
 rintro e w2 ⟨v, rfl, hv, hb2⟩
 obtain ⟨s, A1, k1, c1, A2, k2, c2, fa, fn, fd, nn, dd, rfl, hp⟩ := hv
 have KR2 := Lib.hid (KR1.out.belowS hb2)
 have HB2 := Lib.hid (Base.Below.nextA HB1.out hb2)
 have HP2 := Lib.hid hp
 clear hp hb2 KR1 HB1 HWZ
 go_upto_region 2 with (fail)
 obtain ⟨W3, hW3⟩ : ∃ W3, W3 = w2.alloc (.cells #[.bool s, .slice A1 k1 c1, .slice A2 k2 c2, .bool fa, .int .i64 fn, .int .i64 fd] 107) := ⟨_, rfl⟩
 rw [← hW3]
 obtain ⟨g3, hg3⟩ : ∃ g3, g3 = w2.heap.size := ⟨_, rfl⟩
 rw [← hg3]
 have hlt3 : w.heap.size < g3 := by rw [hg3]; exact KR2.out.lt
 have H0 : Hid (SumRel f n m g3 w (.int .i64 0) W3) := Lib.hid (by
  have hb3 : Below w2.heap.size w2 W3 := by rw [hW3]; exact (Below.refl _ _).alloc (Nat.le_refl _) _
  have hz := HP2.out
  refine ⟨0, s, A1, k1, c1, A2, k2, c2, fa, fn, fd, nn, dd, rfl, Nat.zero_le _, Lib.hid (by rw [hW3, hg3]; exact Blk.new w2 _ _), Lib.hid ?_, Lib.hid (KR2.out.belowS hb3), Lib.hid (Base.Below.nextA HB2.out hb3)⟩
  rw [Nat.zero_mul]; exact hz.below hb3)
 clear hW3 hg3 KR2 HB2 HP2
 go_wp2
 go_loopw [4] (fun iv wr => SumRel f n m g3 w iv wr) (fun iv _ => n - (intOf iv).toNat)
 case atStart => exact H0.out
 case round =>
  obtain ⟨i, s, A1, k1, c1, A2, k2, c2, fa, fn, fd, nn, dd, rfl, hi, K3, HP, KR, HB⟩ := hrel
  clear H0
  by_cases hlt : i < n
  ·obtain ⟨hM1, hM2⟩ := size_le hlt HM0.out
   have HM := Lib.hid hM1
   have HMM := Lib.hid hM2
   clear hM1 hM2
   obtain ⟨g, s', B1, j1, e1, B2, j2, e2, fb, gn, gd, n', d', rfl, hgl, y0, y1, y2, y3, y4, y5, hp'⟩ := (HX.out.below HB.out).at hlt
   have HY : Hid (∀ W, Below wr.heap.size wr W → W.cell? ⟨g, i * 6, none⟩ = some (.bool s') ∧ W.cell? ⟨g, i * 6 + 1, none⟩ = some (.slice B1 j1 e1) ∧ W.cell? ⟨g, i * 6 + 2, none⟩ = some (.slice B2 j2 e2) ∧ W.cell? ⟨g, i * 6 + 3, none⟩ = some (.bool fb) ∧ W.cell? ⟨g, i * 6 + 4, none⟩ = some (.int .i64 gn) ∧ W.cell? ⟨g, i * 6 + 5, none⟩ = some (.int .i64 gd)) := Lib.hid fun W hb =>
    ⟨(hb.cell hgl).trans y0, (hb.cell hgl).trans y1, (hb.cell hgl).trans y2, (hb.cell hgl).trans y3, (hb.cell hgl).trans y4, (hb.cell hgl).trans y5⟩
   have HE : Hid (IsW wr (f i) m (.agg #[.bool s', .slice B1 j1 e1, .slice B2 j2 e2, .bool fb, .int .i64 gn, .int .i64 gd])) := Lib.hid ⟨_, _, _, _, _, _, _, _, _, _, _, _, rfl, hp'⟩
   have HS : Hid (IsW wr (sumR i f) (2 + i * (m + 1)) (.agg #[.bool s, .slice A1 k1 c1, .slice A2 k2 c2, .bool fa, .int .i64 fn, .int .i64 fd])) := Lib.hid ⟨_, _, _, _, _, _, _, _, _, _, _, _, rfl, HP.out⟩
   clear y0 y1 y2 y3 y4 y5 hp' HP
   go_wp2
   refine Rel.wp_region_rel 7 (by kernel_rfl) (by kernel_rfl) (fun F hF => ?_)
   simp only [List.take_succ_cons, List.take_zero, List.drop_succ_cons, List.drop_zero, Rel.putL] at hF ⊢
   have HF := Lib.hid hF
   clear hF
   have uv := @Rel.upon_value Tryz.prog
   have ue := @Rel.upon_enter Tryz.prog
   apply Rel.rel_pure
   apply Exists.intro
   refine ⟨fun vs wq hq hdp R hR => ?_, ?_⟩
   ·(rw [HF.out, Rel.stepAt_eq]; clear hdp; have x0 := (K3.out.belowS hq).at 0 (v := .bool s) rfl; have x1 := (K3.out.belowS hq).at 1 (v := .slice A1 k1 c1) rfl; have x2 := (K3.out.belowS hq).at 2 (v := .slice A2 k2 c2) rfl; have x3 := (K3.out.belowS hq).at 3 (v := .bool fa) rfl; have x4 := (K3.out.belowS hq).at 4 (v := .int .i64 fn) rfl; have x5 := (K3.out.belowS hq).at 5 (v := .int .i64 fd) rfl; go_simp; exact hR)
   apply Rel.rel_pure
   apply Exists.intro
   refine ⟨fun vs wq hq hdp R hR => ?_, ?_⟩
   ·(rw [HF.out, Rel.stepAt_eq]; clear hdp; skip; go_simp; exact hR)
   apply Rel.rel_pure
   apply Exists.intro
   refine ⟨fun vs wq hq hdp R hR => ?_, ?_⟩
   ·(rw [HF.out, Rel.stepAt_eq]; clear hdp; skip; go_simp; exact hR)
   apply Rel.rel_pure
   apply Exists.intro
   refine ⟨fun vs wq hq hdp R hR => ?_, ?_⟩
   ·(rw [HF.out, Rel.stepAt_eq]; have qd1 : vs 1 = _ := Rel.dep hdp 1 (by kernel_rfl); have qd2 : vs 2 = _ := Rel.dep hdp 2 (by kernel_rfl); clear hdp; skip; go_simp; exact hR)
   apply Rel.rel_pure
   apply Exists.intro
   refine ⟨fun vs wq hq hdp R hR => ?_, ?_⟩
   ·(rw [HF.out, Rel.stepAt_eq]; have qd3 : vs 3 = _ := Rel.dep hdp 3 (by kernel_rfl); clear hdp; obtain ⟨y0, y1, y2, y3, y4, y5⟩ := HY.out wq hq; go_simp; exact hR)
   refine Rel.rel_law (S := fun v w' => IsW w' (sumR i f + f i) (2 + i * (m + 1) + m + 1) v) (isW_mono _ _) (fun vs wq hq hdp => ?_) ?_
   ·(rw [HF.out, Rel.stepAt_eq]; have qd0 : vs 0 = _ := Rel.dep hdp 0 (by kernel_rfl); have qd4 : vs 4 = _ := Rel.dep hdp 4 (by kernel_rfl); clear hdp; skip; go_simp; refine (wideAdd_any wq (HS.out.below hq) (HE.out.below hq) (by have := HM.out; omega) (by have := HM.out; omega) (by omega) hm2).mono ?_; rintro e w7 ⟨v, rfl, hv, hb⟩; exact ⟨_, rfl, hv, hb⟩)
   refine Rel.rel_law (S := fun v w' => IsL w' (sumR i f + f i) (2 + i * (m + 1) + m + 1) v) (isL_mono _ _) (fun vs wq hq hdp => ?_) ?_
   ·(rw [HF.out, Rel.stepAt_eq]; have qd5 : IsW wq _ _ (vs 5) := Rel.dep hdp 5 (by kernel_rfl); clear hdp; skip; go_simp; refine (lowest_any wq qd5 (by have := HM.out; omega)).mono ?_; rintro e w7 ⟨v, rfl, hv, hb⟩; exact ⟨_, rfl, hv, hb⟩)
   refine Rel.rel_end (fun vs wq hq hall => ?_)
   rw [HF.out]
   have qe0 : vs 0 = _ := Rel.fin hall 0 (by decide)
   have qe1 : vs 1 = _ := Rel.fin hall 1 (by decide)
   have qe2 : vs 2 = _ := Rel.fin hall 2 (by decide)
   have qe3 : vs 3 = _ := Rel.fin hall 3 (by decide)
   have qe4 : vs 4 = _ := Rel.fin hall 4 (by decide)
   have qe5 : IsW wq _ _ (vs 5) := Rel.fin hall 5 (by decide)
   have qe6 : IsL wq _ _ (vs 6) := Rel.fin hall 6 (by decide)
   clear hall HF uv ue
   obtain ⟨t, C1, l1, f1, C2, l2, f2, fc, hn1, hd1, n2, d2, ev, hp2⟩ := qe6.wide
   have K3q := K3.out.belowS hq
   have KRq := KR.out.belowS hq
   have HBq := Base.Below.nextA HB.out hq
   have hP2 := hp2.put6 K3q (by decide) (.bool t) (.slice C1 l1 f1) (.slice C2 l2 f2) (.bool fc) (.int .i64 hn1) (.int .i64 hd1)
   have HN : Hid (SumRel f n m g3 w (.int .i64 ((i : Int) + 1)) (put6 wq g3 (.bool t) (.slice C1 l1 f1) (.slice C2 l2 f2) (.bool fc) (.int .i64 hn1) (.int .i64 hd1))) := Lib.hid
    ⟨i + 1, t, C1, l1, f1, C2, l2, f2, fc, hn1, hd1, n2, d2, by simp, hlt, Lib.hid (put6_blk K3q _ _ _ _ _ _), Lib.hid (by rw [HMM.out]; exact hP2), Lib.hid (put6_other KRq (by omega) _ _ _ _ _ _), Lib.hid (put6_below HBq (by omega) _ _ _ _ _ _)⟩
   have z0 := K3q.frz 0
   have z1 := K3q.frz 1
   have z2 := K3q.frz 2
   have z3 := K3q.frz 3
   have z4 := K3q.frz 4
   have z5 := K3q.frz 5
   have c0 := K3q.at 0 (v := .bool s) rfl
   have c1 := K3q.at 1 (v := .slice A1 k1 c1) rfl
   have c2 := K3q.at 2 (v := .slice A2 k2 c2) rfl
   have c3 := K3q.at 3 (v := .bool fa) rfl
   have c4 := K3q.at 4 (v := .int .i64 fn) rfl
   have c5 := K3q.at 5 (v := .int .i64 fd) rfl
   unfold put6 at HN
   clear K3q KRq HBq hP2 hp2 hq K3 KR HB HY HE HS HM HMM
   go_wp2
   go_roundw
   case rel => exact HN.out
   case measure => simp [intOf]; omega
  ·obtain rfl : i = n := by omega
   obtain ⟨c1', hc1⟩ : ∃ c1', c1' = c1 := ⟨_, rfl⟩
   obtain ⟨c2', hc2⟩ : ∃ c2', c2' = c2 := ⟨_, rfl⟩
   obtain ⟨fine, hfa⟩ : ∃ fine, fine = fa := ⟨_, rfl⟩
   subst hc1 hc2 hfa
   have x0 := K3.out.at 0 (v := .bool s) rfl; have x1 := K3.out.at 1 (v := .slice A1 k1 c1') rfl; have x2 := K3.out.at 2 (v := .slice A2 k2 c2') rfl; have x3 := K3.out.at 3 (v := .bool fine) rfl; have x4 := K3.out.at 4 (v := .int .i64 fn) rfl; have x5 := K3.out.at 5 (v := .int .i64 fd) rfl
   have z0 := (KR.out).frz 0
   have z1 := (KR.out).frz 1
   have z2 := (KR.out).frz 2
   have z3 := (KR.out).frz 3
   have z4 := (KR.out).frz 4
   have z5 := (KR.out).frz 5
   have c0 := (KR.out).at 0 (v := .bool false) rfl
   have c1 := (KR.out).at 1 (v := .slice none 0 0) rfl
   have c2 := (KR.out).at 2 (v := .slice none 0 0) rfl
   have c3 := (KR.out).at 3 (v := .bool false) rfl
   have c4 := (KR.out).at 4 (v := .int .i64 0) rfl
   have c5 := (KR.out).at 5 (v := .int .i64 0) rfl
   have SS := put6_blk (KR.out) (.bool s) (.slice A1 k1 c1') (.slice A2 k2 c2') (.bool fine) (.int .i64 fn) (.int .i64 fd)
   unfold put6 at SS
   have s0 := SS.at 0 rfl
   have s1 := SS.at 1 rfl
   have s2 := SS.at 2 rfl
   have s3 := SS.at 3 rfl
   have s4 := SS.at 4 rfl
   have s5 := SS.at 5 rfl
   have HFIN := Lib.hid (WRet.put (HP.out) (KR.out) (HB.out) (Nat.le_refl _))
   clear SS
   go_wp2
   refine bodyPost_ret (v := .agg #[.bool s, .slice A1 k1 c1', .slice A2 k2 c2', .bool fine, .int .i64 fn, .int .i64 fd]) (by simp [results, Tryz.results117, go_sem, s0, s1, s2, s3, s4, s5]) rfl ?_
   exact HFIN.out
end Go.Proofs.YthagenodiofgnaaGreat.Wide
namespace Go.Proofs.YthagenodiofgnaaGreat.Wide
open Go.RowKit Go.Proofs.YthagenodiofgnaaGreat Go.Proofs.YthagenodiofgnaaGreat.Base Go.Proofs.YthagenodiofgnaaGreat.Mem Go.Proofs.YthagenodiofgnaaGreat.RatM Go.Proofs.YthagenodiofgnaaGreat.BigM Go.Proofs.YthagenodiofgnaaGreat.Big Go.Proofs.YthagenodiofgnaaGreat.Fine Go.Proofs.YthagenodiofgnaaGreat.Blk
set_option linter.unusedVariables false
def cmpW (q r : Rat) : Int := if q = r then 0 else if q < r then -1 else 1
theorem vf_minus : VF (-1) 1 := ⟨by decide, by decide, by decide, by decide, by decide⟩
theorem vf_one : VF 1 1 := ⟨by decide, by decide, by decide, by decide, by decide⟩
theorem qf_minus : qf (-1) 1 = -1 := by decide +kernel
theorem qf_one : qf 1 1 = 1 := by decide +kernel
theorem cmpW_sub (q r : Rat) : cmpW q r = if q + -1 * r = 0 then 0 else if q + -1 * r < 0 then -1 else 1 := by
 unfold cmpW
 have h1 : q = r ↔ q + -1 * r = 0 := by grind
 have h2 : q < r ↔ q + -1 * r < 0 := by grind
 simp only [h1, h2]
theorem Parts.zero {w : World} {q : Rat} {m : Nat} {s fine : Bool} {vn vd : Value} {fn fd : Int} {n d : Nat} (h : Parts w q m s vn vd fine fn fd n d) : (n = 0 ↔ q = 0) ∧ (n ≠ 0 → (q < 0 ↔ s = true)) := by
 have hd := Nat.ne_of_gt h.pos
 rw [← h.val]
 refine ⟨(qv_eq_zero hd).symm, fun hn => ?_⟩
 have := qv_neg (s := s) hn hd
 constructor
 ·intro hx; rw [← this]; simpa using hx
 ·intro hx; rw [hx] at this ⊢; simpa using this
set_option maxHeartbeats 4000000 in
set_option maxRecDepth 100000 in
theorem cmp_any {q r : Rat} {m m' : Nat} {v u : Value} (w : World) (hv : IsW w q m v) (hu : IsW w r m' u) (h2 : 2 ≤ m) (h2' : 2 ≤ m') (hm : m + m' ≤ 300000) : Calls Tryz.prog 116 #[v, u] w fun e w' => e = .returned (.int .i64 (cmpW q r)) ∧ Below w.heap.size w w' := by
 have HC := Lib.hid (cmpW_sub q r)
 generalize cmpW q r = cw at *
 have HV0 := Lib.hid hv
 have HU0 := Lib.hid hu
 have HM1 := Lib.hid (fun W => wideOf_any vf_minus W)
 rw [qf_minus] at HM1
 obtain ⟨s, A1, k1, c1, A2, k2, c2, fa, fn, fd, n, d, rfl, hp⟩ := hv
 obtain ⟨s', A3, k3, c3, A4, k4, c4, fb, gn, gd, n', d', rfl, hp'⟩ := hu
 obtain ⟨W3, hW3⟩ : ∃ W3, W3 = (w.alloc (.cells #[.bool s, .slice A1 k1 c1, .slice A2 k2 c2, .bool fa, .int .i64 fn, .int .i64 fd] 107)).alloc (.cells #[.bool s', .slice A3 k3 c3, .slice A4 k4 c4, .bool fb, .int .i64 gn, .int .i64 gd] 107) := ⟨_, rfl⟩
 have K0 : Hid (Blk W3 w.heap.size 107 #[.bool s, .slice A1 k1 c1, .slice A2 k2 c2, .bool fa, .int .i64 fn, .int .i64 fd]) := Lib.hid (by rw [hW3]; exact (Blk.new w _ _).alloc _)
 have K1 : Hid (Blk W3 (w.heap.size + 1) 107 #[.bool s', .slice A3 k3 c3, .slice A4 k4 c4, .bool fb, .int .i64 gn, .int .i64 gd]) := Lib.hid (by rw [hW3]; exact Blk.newAt _ _ (by simp))
 have HB : Hid (Below w.heap.size w W3) := Lib.hid (by rw [hW3]; exact ((Below.refl _ _).alloc (Nat.le_refl _) _).alloc (by simp) _)
 have HV := Lib.hid (fun W (h : Below W3.heap.size W3 W) => HV0.out.below (Base.Below.nextA HB.out h))
 have HU := Lib.hid (fun W (h : Below W3.heap.size W3 W) => HU0.out.below (Base.Below.nextA HB.out h))
 have HW := Lib.hid hW3
 clear hW3 hp hp' HV0 HU0
 go_enter Tryz.func116, Tryz.ntmps116
 go_upto_region 1 with (fail)
 rw [← HW.out]
 clear HW
 refine Rel.wp_region_rel 7 (by kernel_rfl) (by kernel_rfl) (fun F hF => ?_)
 simp only [List.take_succ_cons, List.take_zero, List.drop_succ_cons, List.drop_zero, Rel.putL] at hF ⊢
 have HF := Lib.hid hF
 clear hF
 have uv := @Rel.upon_value Tryz.prog
 have ue := @Rel.upon_enter Tryz.prog
 apply Rel.rel_pure
 apply Exists.intro
 refine ⟨fun vs wq hq hdp R hR => ?_, ?_⟩
 ·(rw [HF.out, Rel.stepAt_eq]; clear hdp; have x0 := (K0.out.belowS hq).at 0 (v := .bool s) rfl; have x1 := (K0.out.belowS hq).at 1 (v := .slice A1 k1 c1) rfl; have x2 := (K0.out.belowS hq).at 2 (v := .slice A2 k2 c2) rfl; have x3 := (K0.out.belowS hq).at 3 (v := .bool fa) rfl; have x4 := (K0.out.belowS hq).at 4 (v := .int .i64 fn) rfl; have x5 := (K0.out.belowS hq).at 5 (v := .int .i64 fd) rfl; go_simp; exact hR)
 apply Rel.rel_pure
 apply Exists.intro
 refine ⟨fun vs wq hq hdp R hR => ?_, ?_⟩
 ·(rw [HF.out, Rel.stepAt_eq]; clear hdp; skip; go_simp; exact hR)
 refine Rel.rel_law (S := fun v w' => IsW w' (-1) 2 v) (isW_mono _ _) (fun vs wq hq hdp => ?_) ?_
 ·(rw [HF.out, Rel.stepAt_eq]; have qd1 : vs 1 = _ := Rel.dep hdp 1 (by kernel_rfl); clear hdp; skip; go_simp; refine (HM1.out _).mono ?_; rintro e w7 ⟨v, rfl, hv, hb⟩; exact ⟨_, rfl, hv, hb⟩)
 apply Rel.rel_pure
 apply Exists.intro
 refine ⟨fun vs wq hq hdp R hR => ?_, ?_⟩
 ·(rw [HF.out, Rel.stepAt_eq]; clear hdp; have x0 := (K1.out.belowS hq).at 0 (v := .bool s') rfl; have x1 := (K1.out.belowS hq).at 1 (v := .slice A3 k3 c3) rfl; have x2 := (K1.out.belowS hq).at 2 (v := .slice A4 k4 c4) rfl; have x3 := (K1.out.belowS hq).at 3 (v := .bool fb) rfl; have x4 := (K1.out.belowS hq).at 4 (v := .int .i64 gn) rfl; have x5 := (K1.out.belowS hq).at 5 (v := .int .i64 gd) rfl; go_simp; exact hR)
 refine Rel.rel_law (S := fun v w' => IsW w' (-1 * r) (2 + m') v) (isW_mono _ _) (fun vs wq hq hdp => ?_) ?_
 ·(rw [HF.out, Rel.stepAt_eq]; have qd2 : IsW wq _ _ (vs 2) := Rel.dep hdp 2 (by kernel_rfl); have qd3 : vs 3 = _ := Rel.dep hdp 3 (by kernel_rfl); clear hdp; skip; go_simp; refine (wideMul_any wq qd2 (HU.out wq hq) (by decide) (by omega) (by decide) h2').mono ?_; rintro e w7 ⟨v, rfl, hv, hb⟩; exact ⟨_, rfl, hv, hb⟩)
 refine Rel.rel_law (S := fun v w' => IsW w' (q + -1 * r) (m + (2 + m') + 1) v) (isW_mono _ _) (fun vs wq hq hdp => ?_) ?_
 ·(rw [HF.out, Rel.stepAt_eq]; have qd0 : vs 0 = _ := Rel.dep hdp 0 (by kernel_rfl); have qd4 : IsW wq _ _ (vs 4) := Rel.dep hdp 4 (by kernel_rfl); clear hdp; skip; go_simp; refine (wideAdd_any wq (HV.out wq hq) qd4 (by omega) (by omega) h2 (by omega)).mono ?_; rintro e w7 ⟨v, rfl, hv, hb⟩; exact ⟨_, rfl, hv, hb⟩)
 refine Rel.rel_alloc (cs := #[.bool false, .slice none 0 0, .slice none 0 0, .bool false, .int .i64 0, .int .i64 0]) (t := 107) (fun vs wq hq hdp R hR => ?_) ?_
 ·(rw [HF.out, Rel.stepAt_eq]; clear hdp; go_simp; exact hR)
 refine Rel.rel_end (fun vs wq hq hall => ?_)
 rw [HF.out]
 have qe0 : vs 0 = _ := Rel.fin hall 0 (by decide)
 have qe1 : vs 1 = _ := Rel.fin hall 1 (by decide)
 have qe2 : IsW wq _ _ (vs 2) := Rel.fin hall 2 (by decide)
 have qe3 : vs 3 = _ := Rel.fin hall 3 (by decide)
 have qe4 : IsW wq _ _ (vs 4) := Rel.fin hall 4 (by decide)
 have qe5 : IsW wq _ _ (vs 5) := Rel.fin hall 5 (by decide)
 have qe6 : Rel.NewB _ _ _ (vs 6) wq := Rel.fin hall 6 (by decide)
 clear hall HF uv ue
 obtain ⟨g5, eg5, hg5, hblk⟩ := qe6
 obtain ⟨t, B1, j1, e1, B2, j2, e2, fi, tn, td, nn, dd, ev5, hpz⟩ := qe5
 have K5 : Blk wq g5 107 #[.bool false, .slice none 0 0, .slice none 0 0, .bool false, .int .i64 0, .int .i64 0] := hblk
 obtain ⟨W6, hW6⟩ : ∃ W6, W6 = put6 wq g5 (.bool t) (.slice B1 j1 e1) (.slice B2 j2 e2) (.bool fi) (.int .i64 tn) (.int .i64 td) := ⟨_, rfl⟩
 have K6 : Hid (Blk W6 g5 107 #[.bool t, .slice B1 j1 e1, .slice B2 j2 e2, .bool fi, .int .i64 tn, .int .i64 td]) := Lib.hid (by rw [hW6]; exact put6_blk K5 _ _ _ _ _ _)
 have HBF : Hid (Below w.heap.size w W6) := Lib.hid (by rw [hW6]; exact put6_below (Base.Below.nextA HB.out hq) (show w.heap.size ≤ g5 by have := HB.out.size; omega) _ _ _ _ _ _)
 unfold put6 at hW6
 have z0 := K5.frz 0
 have z1 := K5.frz 1
 have z2 := K5.frz 2
 have z3 := K5.frz 3
 have z4 := K5.frz 4
 have z5 := K5.frz 5
 have c0 := K5.at 0 (v := .bool false) rfl
 have c1 := K5.at 1 (v := .slice none 0 0) rfl
 have c2 := K5.at 2 (v := .slice none 0 0) rfl
 have c3 := K5.at 3 (v := .bool false) rfl
 have c4 := K5.at 4 (v := .int .i64 0) rfl
 have c5 := K5.at 5 (v := .int .i64 0) rfl
 obtain ⟨hz, hneg⟩ := hpz.zero
 obtain ⟨_, _, ef, -⟩ := Dig.form hpz.num
 replace ef := (Value.slice.inj ef).2.1
 have hlen : j1 = 0 ↔ q + -1 * r = 0 := by
  rw [← hz, ef]
  constructor
  ·intro h0
   rcases Nat.eq_zero_or_pos nn with g | g
   ·exact g
   ·have := len_pos g; omega
  ·intro h0; rw [h0, bigL_zero]; rfl
 have H0 := Lib.hid (fun h : j1 = 0 => (show cw = 0 by rw [HC.out, if_pos (hlen.1 h)]))
 have H1 := Lib.hid (fun (h : ¬ j1 = 0) (ht : t = true) => (show cw = -1 by rw [HC.out, if_neg (fun g => h (hlen.2 g)), if_pos ((hneg (fun g => h (hlen.2 (hz.1 g)))).2 ht)]))
 have H2 := Lib.hid (fun (h : ¬ j1 = 0) (ht : t = false) => (show cw = 1 by rw [HC.out, if_neg (fun g => h (hlen.2 g)), if_neg (fun g => by have := (hneg (fun g => h (hlen.2 (hz.1 g)))).1 g; rw [ht] at this; cases this)]))
 clear hblk K5 hpz ef hq K0 K1 HV HU hlen hneg hz HC HB qe0 qe1 qe2 qe3 qe4 HM1
 go_upto_region 2 with (fail)
 rw [← hW6]
 clear hW6 z0 z1 z2 z3 z4 z5 c0 c1 c2 c3 c4 c5
 have s0 := K6.out.at 0 (v := .bool t) rfl
 have s1 := K6.out.at 1 (v := .slice B1 j1 e1) rfl
 by_cases h0 : j1 = 0
 ·have HE := Lib.hid (H0.out h0)
  subst h0
  clear H0 H1 H2
  go_wp2
  go_ret
  exact ⟨by rw [HE.out]; rfl, HBF.out⟩
 ·cases t with
  | true =>
   have HE := Lib.hid (H1.out h0 rfl)
   clear H0 H1 H2
   go_wp2
   go_ret
   exact ⟨by rw [HE.out]; rfl, HBF.out⟩
  | false =>
   have HE := Lib.hid (H2.out h0 rfl)
   clear H0 H1 H2
   go_wp2
   go_ret
   exact ⟨by rw [HE.out]; rfl, HBF.out⟩
end Go.Proofs.YthagenodiofgnaaGreat.Wide
