/- The reference's fractions of any size: sums. -/
import Derived.Test.YthagenodiofgnaaGreatMgMix15
import Derived.Test.YthagenodiofgnaaGreatMgMix17
import Derived.Deep.Cut
namespace Go.Proofs.YthagenodiofgnaaGreat.Wide
open Go.RowKit Go.Proofs.YthagenodiofgnaaGreat Go.Proofs.YthagenodiofgnaaGreat.Base Go.Proofs.YthagenodiofgnaaGreat.Mem Go.Proofs.YthagenodiofgnaaGreat.RatM Go.Proofs.YthagenodiofgnaaGreat.BigM Go.Proofs.YthagenodiofgnaaGreat.Big Go.Proofs.YthagenodiofgnaaGreat.Fine Go.Proofs.YthagenodiofgnaaGreat.Blk
set_option linter.unusedVariables false
theorem len_sum {x y k : Nat} (hx : (bigL x).length ≤ k) (hy : (bigL y).length ≤ k) : (bigL (x + y)).length ≤ k + 1 := by
 refine bigL_len_le ?_
 have h1 := Nat.lt_of_lt_of_le (big_lt_pow x) (Nat.pow_le_pow_right (show 0 < D30 by decide) hx)
 have h2 := Nat.lt_of_lt_of_le (big_lt_pow y) (Nat.pow_le_pow_right (show 0 < D30 by decide) hy)
 rw [Nat.pow_succ]
 have : D30 ^ k * 2 ≤ D30 ^ k * D30 := Nat.mul_le_mul_left _ (by decide)
 omega
set_option maxHeartbeats 4000000 in
set_option maxRecDepth 100000 in
theorem wideAdd_no {q r : Rat} {m m' : Nat} {s s' fa fb : Bool} {A1 A2 A3 A4 : Option Addr} {k1 k2 k3 k4 c1 c2 c3 c4 n d n' d' : Nat} {fn fd gn gd : Int} (w : World) (hp : Parts w q m s (.slice A1 k1 c1) (.slice A2 k2 c2) fa fn fd n d) (hp' : Parts w r m' s' (.slice A3 k3 c3) (.slice A4 k4 c4) fb gn gd n' d') (hf : (fa && fb) = false) (hm : m ≤ 400000) (hm' : m' ≤ 400000) (h2 : 2 ≤ m) (h2' : 2 ≤ m') : Calls Tryz.prog 67 #[.agg #[.bool s, .slice A1 k1 c1, .slice A2 k2 c2, .bool fa, .int .i64 fn, .int .i64 fd], .agg #[(.bool s'), .slice A3 k3 c3, .slice A4 k4 c4, (.bool fb), .int .i64 gn, .int .i64 gd]] w (WRet (q + r) (m + m' + 1) w) := by
 have HP := Lib.hid hp
 have HP' := Lib.hid hp'
 have HV := Lib.hid (And.intro hp.val hp'.val)
 have HD := Lib.hid (And.intro hp.pos hp'.pos)
 have HL := Lib.hid (And.intro hp.ln (And.intro hp.ld (And.intro hp'.ln hp'.ld)))
 obtain ⟨W3, hW3⟩ : ∃ W3, W3 = ((w.alloc (.cells #[.bool s, .slice A1 k1 c1, .slice A2 k2 c2, .bool fa, .int .i64 fn, .int .i64 fd] 107)).alloc (.cells #[(.bool s'), .slice A3 k3 c3, .slice A4 k4 c4, (.bool fb), .int .i64 gn, .int .i64 gd] 107)).alloc (.cells #[.bool false, .slice none 0 0, .slice none 0 0, .bool false, .int .i64 0, .int .i64 0] 107) := ⟨_, rfl⟩
 have K0 : Hid (Blk W3 w.heap.size 107 #[.bool s, .slice A1 k1 c1, .slice A2 k2 c2, .bool fa, .int .i64 fn, .int .i64 fd]) := Lib.hid (by rw [hW3]; exact ((Blk.new w _ _).alloc _).alloc _)
 have K1 : Hid (Blk W3 (w.heap.size + 1) 107 #[(.bool s'), .slice A3 k3 c3, .slice A4 k4 c4, (.bool fb), .int .i64 gn, .int .i64 gd]) := Lib.hid (by rw [hW3]; exact (Blk.newAt _ _ (by simp)).alloc _)
 have KR : Hid (Blk W3 (w.heap.size + 1 + 1) 107 #[.bool false, .slice none 0 0, .slice none 0 0, .bool false, .int .i64 0, .int .i64 0]) := Lib.hid (by rw [hW3]; exact Blk.newAt _ _ (by simp))
 have HB : Hid (Below w.heap.size w W3) := Lib.hid (by rw [hW3]; exact (((Below.refl _ _).alloc (Nat.le_refl _) _).alloc (by simp) _).alloc (by simp; omega) _)
 have HW := Lib.hid hW3
 clear hW3 hp hp'
 have hfin : (fa && fb) = false := hf
 have HH := Lib.hid hfin
 clear hfin hf
 have x3 := K0.out.at 3 (v := .bool fa) rfl
 have y3 := K1.out.at 3 (v := .bool fb) rfl
 go_enter Tryz.func67, Tryz.ntmps67
 go_upto_region 1 with (fail)
 rw [← HW.out]
 clear HW
 cases fa with
 | false =>
  have x0 := (K0.out).at 0 (v := .bool s) rfl
  have x1 := (K0.out).at 1 (v := .slice A1 k1 c1) rfl
  have x2 := (K0.out).at 2 (v := .slice A2 k2 c2) rfl
  have y0 := (K1.out).at 0 (v := (.bool s')) rfl
  have y1 := (K1.out).at 1 (v := .slice A3 k3 c3) rfl
  have y2 := (K1.out).at 2 (v := .slice A4 k4 c4) rfl
  go_wp2_with fail
  refine (bigTimes_any _ (HP.out.num.below HB.out) (HP'.out.den.below HB.out) (Nat.le_trans HL.out.1 (by omega)) (Nat.le_trans HL.out.2.2.2 (by omega))).mono ?_
  rintro e wa ⟨vx, rfl, hx, hb⟩
  clear x0 x1 x2 y0 y1 y2
  replace K0 := Lib.hid (K0.out.belowS hb)
  replace K1 := Lib.hid (K1.out.belowS hb)
  replace KR := Lib.hid (KR.out.belowS hb)
  replace HB := Lib.hid (Base.Below.nextA HB.out hb)
  have HXX := Lib.hid hx
  clear hb hx
  have x0 := (K0.out).at 0 (v := .bool s) rfl
  have x1 := (K0.out).at 1 (v := .slice A1 k1 c1) rfl
  have x2 := (K0.out).at 2 (v := .slice A2 k2 c2) rfl
  have y0 := (K1.out).at 0 (v := (.bool s')) rfl
  have y1 := (K1.out).at 1 (v := .slice A3 k3 c3) rfl
  have y2 := (K1.out).at 2 (v := .slice A4 k4 c4) rfl
  go_wp2_with fail
  refine (bigTimes_any _ (HP'.out.num.below HB.out) (HP.out.den.below HB.out) (Nat.le_trans HL.out.2.2.1 (by omega)) (Nat.le_trans HL.out.2.1 (by omega))).mono ?_
  rintro e wb ⟨vy, rfl, hy, hb⟩
  clear x0 x1 x2 y0 y1 y2
  replace K0 := Lib.hid (K0.out.belowS hb)
  replace K1 := Lib.hid (K1.out.belowS hb)
  replace KR := Lib.hid (KR.out.belowS hb)
  replace HB := Lib.hid (Base.Below.nextA HB.out hb)
  replace HXX := Lib.hid (HXX.out.below hb)
  have HYY := Lib.hid hy
  clear hb hy
  have x0 := (K0.out).at 0 (v := .bool s) rfl
  have x1 := (K0.out).at 1 (v := .slice A1 k1 c1) rfl
  have x2 := (K0.out).at 2 (v := .slice A2 k2 c2) rfl
  have y0 := (K1.out).at 0 (v := (.bool s')) rfl
  have y1 := (K1.out).at 1 (v := .slice A3 k3 c3) rfl
  have y2 := (K1.out).at 2 (v := .slice A4 k4 c4) rfl
  go_wp2_with fail
  refine (bigTimes_any _ (HP.out.den.below HB.out) (HP'.out.den.below HB.out) (Nat.le_trans HL.out.2.1 (by omega)) (Nat.le_trans HL.out.2.2.2 (by omega))).mono ?_
  rintro e wc ⟨vd, rfl, hd, hb⟩
  clear x0 x1 x2 y0 y1 y2
  replace K0 := Lib.hid (K0.out.belowS hb)
  replace K1 := Lib.hid (K1.out.belowS hb)
  replace KR := Lib.hid (KR.out.belowS hb)
  replace HB := Lib.hid (Base.Below.nextA HB.out hb)
  replace HXX := Lib.hid (HXX.out.below hb)
  replace HYY := Lib.hid (HYY.out.below hb)
  obtain ⟨Ad, cd, rfl, _⟩ := Dig.form hd
  have HDD := Lib.hid hd
  clear hb hd
  have x0 := K0.out.at 0 (v := .bool s) rfl
  have y0 := K1.out.at 0 (v := .bool s') rfl
  have HLX : Hid ((bigL (n * d')).length ≤ m + m') := Lib.hid (Nat.le_trans (len_mul _ _) (by have := HL.out; omega))
  have HLY : Hid ((bigL (n' * d)).length ≤ m + m') := Lib.hid (Nat.le_trans (len_mul _ _) (by have := HL.out; omega))
  have hqa := qv_add (s := s) (s' := s') (n := n) (n' := n') (Nat.ne_of_gt HD.out.1) (Nat.ne_of_gt HD.out.2)
  rw [HV.out.1, HV.out.2] at hqa
  have HQA := Lib.hid hqa
  clear hqa
  by_cases hs : s = s'
  ·have hsb : (s == s') = true := by rw [hs]; simp
   have HVAL : Hid (qv s (n * d' + n' * d) (d * d') = q + r) := Lib.hid (by rw [HQA.out, if_pos hs])
   have HLEN : Hid ((bigL (n * d' + n' * d)).length ≤ m + m' + 1) := Lib.hid (len_sum HLX.out HLY.out)
   clear hs HQA
   go_wp2_with fail
   clear x0 y0 hsb
   have HQ : Hid (∀ W B1 j1 e1, IsB W (n * d' + n' * d) (.slice B1 j1 e1) → IsB W (d * d') (.slice Ad (bigL (d * d')).length cd) → IsW W (q + r) (m + m' + 1) (.agg #[.bool s, .slice B1 j1 e1, .slice Ad (bigL (d * d')).length cd, .bool false, .int .i64 0, .int .i64 0])) := Lib.hid fun W B1 j1 e1 g1 g2 =>
    ⟨_, B1, j1, e1, Ad, _, cd, false, 0, 0, _, _, rfl, ⟨g1, g2, Nat.mul_pos HD.out.1 HD.out.2, HVAL.out, HLEN.out, Nat.le_trans (len_mul _ _) (by have := HL.out; omega), fun h => by cases h⟩⟩
   refine Rel.wp_region_rel 7 (by kernel_rfl) (by kernel_rfl) (fun F hF => ?_)
   simp only [List.take_succ_cons, List.take_zero, List.drop_succ_cons, List.drop_zero, Rel.putL] at hF ⊢
   have HF := Lib.hid hF
   clear hF
   have uv := @Rel.upon_value Tryz.prog
   have ue := @Rel.upon_enter Tryz.prog
   apply Rel.rel_pure
   apply Exists.intro
   refine ⟨fun vs wq hq hdp R hR => ?_, ?_⟩
   ·(rw [HF.out, Rel.stepAt_eq]; clear hdp; skip; go_simp; exact hR)
   apply Rel.rel_pure
   apply Exists.intro
   refine ⟨fun vs wq hq hdp R hR => ?_, ?_⟩
   ·(rw [HF.out, Rel.stepAt_eq]; have qd0 : vs 0 = _ := Rel.dep hdp 0 (by kernel_rfl); clear hdp; have x0 := (K0.out.belowS hq).at 0 (v := .bool s) rfl; go_simp; exact hR)
   apply Rel.rel_pure
   apply Exists.intro
   refine ⟨fun vs wq hq hdp R hR => ?_, ?_⟩
   ·(rw [HF.out, Rel.stepAt_eq]; clear hdp; skip; go_simp; exact hR)
   apply Rel.rel_pure
   apply Exists.intro
   refine ⟨fun vs wq hq hdp R hR => ?_, ?_⟩
   ·(rw [HF.out, Rel.stepAt_eq]; clear hdp; skip; go_simp; exact hR)
   refine Rel.rel_law (S := fun v w' => IsB w' (n * d' + n' * d) v) (isB_mono _) (fun vs wq hq hdp => ?_) ?_
   ·(rw [HF.out, Rel.stepAt_eq]; have qd2 : vs 2 = _ := Rel.dep hdp 2 (by kernel_rfl); have qd3 : vs 3 = _ := Rel.dep hdp 3 (by kernel_rfl); clear hdp; skip; go_simp; refine (bigPlus_any wq (HXX.out.below hq) (HYY.out.below hq) (Nat.le_trans HLX.out (by omega)) (Nat.le_trans HLY.out (by omega))).mono ?_; rintro e w7 ⟨v, rfl, hv, hb⟩; exact ⟨_, rfl, hv, hb⟩)
   apply Rel.rel_pure
   apply Exists.intro
   refine ⟨fun vs wq hq hdp R hR => ?_, ?_⟩
   ·(rw [HF.out, Rel.stepAt_eq]; clear hdp; skip; go_simp; exact hR)
   refine Rel.rel_law (S := fun v w' => IsW w' (q + r) (m + m' + 1) v) (isW_mono _ _) (fun vs wq hq hdp => ?_) ?_
   ·(rw [HF.out, Rel.stepAt_eq]; have qd1 : vs 1 = _ := Rel.dep hdp 1 (by kernel_rfl); have qd4 : IsB wq _ (vs 4) := Rel.dep hdp 4 (by kernel_rfl); have qd5 : vs 5 = _ := Rel.dep hdp 5 (by kernel_rfl); clear hdp; obtain ⟨B1, e1, ev1, _⟩ := Dig.form qd4; have HPP := Lib.hid (HQ.out wq B1 _ e1 (by rw [← ev1]; exact qd4) (HDD.out.below hq)); go_simp; exact ⟨HPP.out, Below.refl _ _⟩)
   refine Rel.rel_end (fun vs wq hq hall => ?_)
   rw [HF.out]
   have qe0 : vs 0 = _ := Rel.fin hall 0 (by decide)
   have qe1 : vs 1 = _ := Rel.fin hall 1 (by decide)
   have qe2 : vs 2 = _ := Rel.fin hall 2 (by decide)
   have qe3 : vs 3 = _ := Rel.fin hall 3 (by decide)
   have qe4 : IsB wq _ (vs 4) := Rel.fin hall 4 (by decide)
   have qe5 : vs 5 = _ := Rel.fin hall 5 (by decide)
   have qe6 : IsW wq _ _ (vs 6) := Rel.fin hall 6 (by decide)
   clear hall HF uv ue
   obtain ⟨s, A1, k1, c1', A2, k2, c2', fine, fn, fd, nn, dd, ev, hpz⟩ := qe6
   have KRq := KR.out.belowS hq
   have HBq := Base.Below.nextA HB.out hq
   have HP2 := Lib.hid hpz
   clear hq hpz HP HP' K0 K1 HQ HDD HXX HYY
   have z0 := (KRq).frz 0
   have z1 := (KRq).frz 1
   have z2 := (KRq).frz 2
   have z3 := (KRq).frz 3
   have z4 := (KRq).frz 4
   have z5 := (KRq).frz 5
   have c0 := (KRq).at 0 (v := .bool false) rfl
   have c1 := (KRq).at 1 (v := .slice none 0 0) rfl
   have c2 := (KRq).at 2 (v := .slice none 0 0) rfl
   have c3 := (KRq).at 3 (v := .bool false) rfl
   have c4 := (KRq).at 4 (v := .int .i64 0) rfl
   have c5 := (KRq).at 5 (v := .int .i64 0) rfl
   have SS := put6_blk (KRq) (.bool s) (.slice A1 k1 c1') (.slice A2 k2 c2') (.bool fine) (.int .i64 fn) (.int .i64 fd)
   unfold put6 at SS
   have s0 := SS.at 0 rfl
   have s1 := SS.at 1 rfl
   have s2 := SS.at 2 rfl
   have s3 := SS.at 3 rfl
   have s4 := SS.at 4 rfl
   have s5 := SS.at 5 rfl
   have HFIN := Lib.hid (WRet.put (HP2.out) (KRq) (HBq) (by omega))
   clear SS
   go_wp2
   refine bodyPost_ret (v := .agg #[.bool s, .slice A1 k1 c1', .slice A2 k2 c2', .bool fine, .int .i64 fn, .int .i64 fd]) (by simp [results, Tryz.results67, go_sem, s0, s1, s2, s3, s4, s5]) rfl ?_
   exact HFIN.out
  ·have hsb : (s == s') = false := by simpa using hs
   go_wp2_with fail
   refine (bigCmp_any _ HXX.out HYY.out (Nat.le_trans HLX.out (by omega)) (Nat.le_trans HLY.out (by omega))).mono ?_
   rintro e wd ⟨rfl, hD⟩
   have hb := hD.below (B := wc.heap.size)
   clear hD x0 y0 hsb
   replace K0 := Lib.hid (K0.out.belowS hb)
   replace K1 := Lib.hid (K1.out.belowS hb)
   replace KR := Lib.hid (KR.out.belowS hb)
   replace HB := Lib.hid (Base.Below.nextA HB.out hb)
   replace HXX := Lib.hid (HXX.out.below hb)
   replace HYY := Lib.hid (HYY.out.below hb)
   replace HDD := Lib.hid (HDD.out.below hb)
   clear hb
   by_cases hl : n * d' < n' * d
   ·have hcm := cmpN_lt hl
    have HVAL : Hid (qv s' (n' * d - n * d') (d * d') = q + r) := Lib.hid (by rw [HQA.out, if_neg hs, if_pos hl])
    have HLEN : Hid ((bigL (n' * d - n * d')).length ≤ m + m' + 1) := Lib.hid (Nat.le_trans (len_mono (Nat.sub_le _ _)) (by have := HLY.out; omega))
    have HLL := Lib.hid (Nat.le_of_lt hl)
    generalize cmpN (n * d') (n' * d) = cm at *
    subst hcm
    clear hl hs HQA
    go_wp2_with fail
    have HQ : Hid (∀ W B1 j1 e1, IsB W (n' * d - n * d') (.slice B1 j1 e1) → IsB W (d * d') (.slice Ad (bigL (d * d')).length cd) → IsW W (q + r) (m + m' + 1) (.agg #[.bool s', .slice B1 j1 e1, .slice Ad (bigL (d * d')).length cd, .bool false, .int .i64 0, .int .i64 0])) := Lib.hid fun W B1 j1 e1 g1 g2 =>
     ⟨_, B1, j1, e1, Ad, _, cd, false, 0, 0, _, _, rfl, ⟨g1, g2, Nat.mul_pos HD.out.1 HD.out.2, HVAL.out, HLEN.out, Nat.le_trans (len_mul _ _) (by have := HL.out; omega), fun h => by cases h⟩⟩
    refine Rel.wp_region_rel 7 (by kernel_rfl) (by kernel_rfl) (fun F hF => ?_)
    simp only [List.take_succ_cons, List.take_zero, List.drop_succ_cons, List.drop_zero, Rel.putL] at hF ⊢
    have HF := Lib.hid hF
    clear hF
    have uv := @Rel.upon_value Tryz.prog
    have ue := @Rel.upon_enter Tryz.prog
    apply Rel.rel_pure
    apply Exists.intro
    refine ⟨fun vs wq hq hdp R hR => ?_, ?_⟩
    ·(rw [HF.out, Rel.stepAt_eq]; clear hdp; skip; go_simp; exact hR)
    apply Rel.rel_pure
    apply Exists.intro
    refine ⟨fun vs wq hq hdp R hR => ?_, ?_⟩
    ·(rw [HF.out, Rel.stepAt_eq]; have qd0 : vs 0 = _ := Rel.dep hdp 0 (by kernel_rfl); clear hdp; have x0 := (K1.out.belowS hq).at 0 (v := .bool s') rfl; go_simp; exact hR)
    apply Rel.rel_pure
    apply Exists.intro
    refine ⟨fun vs wq hq hdp R hR => ?_, ?_⟩
    ·(rw [HF.out, Rel.stepAt_eq]; clear hdp; skip; go_simp; exact hR)
    apply Rel.rel_pure
    apply Exists.intro
    refine ⟨fun vs wq hq hdp R hR => ?_, ?_⟩
    ·(rw [HF.out, Rel.stepAt_eq]; clear hdp; skip; go_simp; exact hR)
    refine Rel.rel_law (S := fun v w' => IsB w' (n' * d - n * d') v) (isB_mono _) (fun vs wq hq hdp => ?_) ?_
    ·(rw [HF.out, Rel.stepAt_eq]; have qd2 : vs 2 = _ := Rel.dep hdp 2 (by kernel_rfl); have qd3 : vs 3 = _ := Rel.dep hdp 3 (by kernel_rfl); clear hdp; skip; go_simp; refine (bigMinus_any wq (HYY.out.below hq) (HXX.out.below hq) (Nat.le_trans HLY.out (by omega)) HLL.out).mono ?_; rintro e w7 ⟨v, rfl, hv, hb⟩; exact ⟨_, rfl, hv, hb⟩)
    apply Rel.rel_pure
    apply Exists.intro
    refine ⟨fun vs wq hq hdp R hR => ?_, ?_⟩
    ·(rw [HF.out, Rel.stepAt_eq]; clear hdp; skip; go_simp; exact hR)
    refine Rel.rel_law (S := fun v w' => IsW w' (q + r) (m + m' + 1) v) (isW_mono _ _) (fun vs wq hq hdp => ?_) ?_
    ·(rw [HF.out, Rel.stepAt_eq]; have qd1 : vs 1 = _ := Rel.dep hdp 1 (by kernel_rfl); have qd4 : IsB wq _ (vs 4) := Rel.dep hdp 4 (by kernel_rfl); have qd5 : vs 5 = _ := Rel.dep hdp 5 (by kernel_rfl); clear hdp; obtain ⟨B1, e1, ev1, _⟩ := Dig.form qd4; have HPP := Lib.hid (HQ.out wq B1 _ e1 (by rw [← ev1]; exact qd4) (HDD.out.below hq)); go_simp; exact ⟨HPP.out, Below.refl _ _⟩)
    refine Rel.rel_end (fun vs wq hq hall => ?_)
    rw [HF.out]
    have qe0 : vs 0 = _ := Rel.fin hall 0 (by decide)
    have qe1 : vs 1 = _ := Rel.fin hall 1 (by decide)
    have qe2 : vs 2 = _ := Rel.fin hall 2 (by decide)
    have qe3 : vs 3 = _ := Rel.fin hall 3 (by decide)
    have qe4 : IsB wq _ (vs 4) := Rel.fin hall 4 (by decide)
    have qe5 : vs 5 = _ := Rel.fin hall 5 (by decide)
    have qe6 : IsW wq _ _ (vs 6) := Rel.fin hall 6 (by decide)
    clear hall HF uv ue
    obtain ⟨s, A1, k1, c1', A2, k2, c2', fine, fn, fd, nn, dd, ev, hpz⟩ := qe6
    have KRq := KR.out.belowS hq
    have HBq := Base.Below.nextA HB.out hq
    have HP2 := Lib.hid hpz
    clear hq hpz HP HP' K0 K1 HQ HDD HXX HYY
    have z0 := (KRq).frz 0
    have z1 := (KRq).frz 1
    have z2 := (KRq).frz 2
    have z3 := (KRq).frz 3
    have z4 := (KRq).frz 4
    have z5 := (KRq).frz 5
    have c0 := (KRq).at 0 (v := .bool false) rfl
    have c1 := (KRq).at 1 (v := .slice none 0 0) rfl
    have c2 := (KRq).at 2 (v := .slice none 0 0) rfl
    have c3 := (KRq).at 3 (v := .bool false) rfl
    have c4 := (KRq).at 4 (v := .int .i64 0) rfl
    have c5 := (KRq).at 5 (v := .int .i64 0) rfl
    have SS := put6_blk (KRq) (.bool s) (.slice A1 k1 c1') (.slice A2 k2 c2') (.bool fine) (.int .i64 fn) (.int .i64 fd)
    unfold put6 at SS
    have s0 := SS.at 0 rfl
    have s1 := SS.at 1 rfl
    have s2 := SS.at 2 rfl
    have s3 := SS.at 3 rfl
    have s4 := SS.at 4 rfl
    have s5 := SS.at 5 rfl
    have HFIN := Lib.hid (WRet.put (HP2.out) (KRq) (HBq) (by omega))
    clear SS
    go_wp2
    refine bodyPost_ret (v := .agg #[.bool s, .slice A1 k1 c1', .slice A2 k2 c2', .bool fine, .int .i64 fn, .int .i64 fd]) (by simp [results, Tryz.results67, go_sem, s0, s1, s2, s3, s4, s5]) rfl ?_
    exact HFIN.out
   ·have hcm := cmpN_ge (show n' * d ≤ n * d' by omega)
    have HVAL : Hid (qv s (n * d' - n' * d) (d * d') = q + r) := Lib.hid (by rw [HQA.out, if_neg hs, if_neg hl])
    have HLEN : Hid ((bigL (n * d' - n' * d)).length ≤ m + m' + 1) := Lib.hid (Nat.le_trans (len_mono (Nat.sub_le _ _)) (by have := HLX.out; omega))
    have HLL := Lib.hid (show n' * d ≤ n * d' by omega)
    have hcm2 : ¬ cmpN (n * d') (n' * d) < 0 := by omega
    generalize cmpN (n * d') (n' * d) = cm at *
    clear hl hs HQA
    go_wp2_with fail
    have HQ : Hid (∀ W B1 j1 e1, IsB W (n * d' - n' * d) (.slice B1 j1 e1) → IsB W (d * d') (.slice Ad (bigL (d * d')).length cd) → IsW W (q + r) (m + m' + 1) (.agg #[.bool s, .slice B1 j1 e1, .slice Ad (bigL (d * d')).length cd, .bool false, .int .i64 0, .int .i64 0])) := Lib.hid fun W B1 j1 e1 g1 g2 =>
     ⟨_, B1, j1, e1, Ad, _, cd, false, 0, 0, _, _, rfl, ⟨g1, g2, Nat.mul_pos HD.out.1 HD.out.2, HVAL.out, HLEN.out, Nat.le_trans (len_mul _ _) (by have := HL.out; omega), fun h => by cases h⟩⟩
    refine Rel.wp_region_rel 7 (by kernel_rfl) (by kernel_rfl) (fun F hF => ?_)
    simp only [List.take_succ_cons, List.take_zero, List.drop_succ_cons, List.drop_zero, Rel.putL] at hF ⊢
    have HF := Lib.hid hF
    clear hF
    have uv := @Rel.upon_value Tryz.prog
    have ue := @Rel.upon_enter Tryz.prog
    apply Rel.rel_pure
    apply Exists.intro
    refine ⟨fun vs wq hq hdp R hR => ?_, ?_⟩
    ·(rw [HF.out, Rel.stepAt_eq]; clear hdp; skip; go_simp; exact hR)
    apply Rel.rel_pure
    apply Exists.intro
    refine ⟨fun vs wq hq hdp R hR => ?_, ?_⟩
    ·(rw [HF.out, Rel.stepAt_eq]; have qd0 : vs 0 = _ := Rel.dep hdp 0 (by kernel_rfl); clear hdp; have x0 := (K0.out.belowS hq).at 0 (v := .bool s) rfl; go_simp; exact hR)
    apply Rel.rel_pure
    apply Exists.intro
    refine ⟨fun vs wq hq hdp R hR => ?_, ?_⟩
    ·(rw [HF.out, Rel.stepAt_eq]; clear hdp; skip; go_simp; exact hR)
    apply Rel.rel_pure
    apply Exists.intro
    refine ⟨fun vs wq hq hdp R hR => ?_, ?_⟩
    ·(rw [HF.out, Rel.stepAt_eq]; clear hdp; skip; go_simp; exact hR)
    refine Rel.rel_law (S := fun v w' => IsB w' (n * d' - n' * d) v) (isB_mono _) (fun vs wq hq hdp => ?_) ?_
    ·(rw [HF.out, Rel.stepAt_eq]; have qd2 : vs 2 = _ := Rel.dep hdp 2 (by kernel_rfl); have qd3 : vs 3 = _ := Rel.dep hdp 3 (by kernel_rfl); clear hdp; skip; go_simp; refine (bigMinus_any wq (HXX.out.below hq) (HYY.out.below hq) (Nat.le_trans HLX.out (by omega)) HLL.out).mono ?_; rintro e w7 ⟨v, rfl, hv, hb⟩; exact ⟨_, rfl, hv, hb⟩)
    apply Rel.rel_pure
    apply Exists.intro
    refine ⟨fun vs wq hq hdp R hR => ?_, ?_⟩
    ·(rw [HF.out, Rel.stepAt_eq]; clear hdp; skip; go_simp; exact hR)
    refine Rel.rel_law (S := fun v w' => IsW w' (q + r) (m + m' + 1) v) (isW_mono _ _) (fun vs wq hq hdp => ?_) ?_
    ·(rw [HF.out, Rel.stepAt_eq]; have qd1 : vs 1 = _ := Rel.dep hdp 1 (by kernel_rfl); have qd4 : IsB wq _ (vs 4) := Rel.dep hdp 4 (by kernel_rfl); have qd5 : vs 5 = _ := Rel.dep hdp 5 (by kernel_rfl); clear hdp; obtain ⟨B1, e1, ev1, _⟩ := Dig.form qd4; have HPP := Lib.hid (HQ.out wq B1 _ e1 (by rw [← ev1]; exact qd4) (HDD.out.below hq)); go_simp; exact ⟨HPP.out, Below.refl _ _⟩)
    refine Rel.rel_end (fun vs wq hq hall => ?_)
    rw [HF.out]
    have qe0 : vs 0 = _ := Rel.fin hall 0 (by decide)
    have qe1 : vs 1 = _ := Rel.fin hall 1 (by decide)
    have qe2 : vs 2 = _ := Rel.fin hall 2 (by decide)
    have qe3 : vs 3 = _ := Rel.fin hall 3 (by decide)
    have qe4 : IsB wq _ (vs 4) := Rel.fin hall 4 (by decide)
    have qe5 : vs 5 = _ := Rel.fin hall 5 (by decide)
    have qe6 : IsW wq _ _ (vs 6) := Rel.fin hall 6 (by decide)
    clear hall HF uv ue
    obtain ⟨s, A1, k1, c1', A2, k2, c2', fine, fn, fd, nn, dd, ev, hpz⟩ := qe6
    have KRq := KR.out.belowS hq
    have HBq := Base.Below.nextA HB.out hq
    have HP2 := Lib.hid hpz
    clear hq hpz HP HP' K0 K1 HQ HDD HXX HYY
    have z0 := (KRq).frz 0
    have z1 := (KRq).frz 1
    have z2 := (KRq).frz 2
    have z3 := (KRq).frz 3
    have z4 := (KRq).frz 4
    have z5 := (KRq).frz 5
    have c0 := (KRq).at 0 (v := .bool false) rfl
    have c1 := (KRq).at 1 (v := .slice none 0 0) rfl
    have c2 := (KRq).at 2 (v := .slice none 0 0) rfl
    have c3 := (KRq).at 3 (v := .bool false) rfl
    have c4 := (KRq).at 4 (v := .int .i64 0) rfl
    have c5 := (KRq).at 5 (v := .int .i64 0) rfl
    have SS := put6_blk (KRq) (.bool s) (.slice A1 k1 c1') (.slice A2 k2 c2') (.bool fine) (.int .i64 fn) (.int .i64 fd)
    unfold put6 at SS
    have s0 := SS.at 0 rfl
    have s1 := SS.at 1 rfl
    have s2 := SS.at 2 rfl
    have s3 := SS.at 3 rfl
    have s4 := SS.at 4 rfl
    have s5 := SS.at 5 rfl
    have HFIN := Lib.hid (WRet.put (HP2.out) (KRq) (HBq) (by omega))
    clear SS
    go_wp2
    refine bodyPost_ret (v := .agg #[.bool s, .slice A1 k1 c1', .slice A2 k2 c2', .bool fine, .int .i64 fn, .int .i64 fd]) (by simp [results, Tryz.results67, go_sem, s0, s1, s2, s3, s4, s5]) rfl ?_
    exact HFIN.out
 | true =>
  cases fb with
  | true => exact absurd HH.out (by decide)
  | false =>
   have x0 := (K0.out).at 0 (v := .bool s) rfl
   have x1 := (K0.out).at 1 (v := .slice A1 k1 c1) rfl
   have x2 := (K0.out).at 2 (v := .slice A2 k2 c2) rfl
   have y0 := (K1.out).at 0 (v := (.bool s')) rfl
   have y1 := (K1.out).at 1 (v := .slice A3 k3 c3) rfl
   have y2 := (K1.out).at 2 (v := .slice A4 k4 c4) rfl
   go_wp2_with fail
   refine (bigTimes_any _ (HP.out.num.below HB.out) (HP'.out.den.below HB.out) (Nat.le_trans HL.out.1 (by omega)) (Nat.le_trans HL.out.2.2.2 (by omega))).mono ?_
   rintro e wa ⟨vx, rfl, hx, hb⟩
   clear x0 x1 x2 y0 y1 y2
   replace K0 := Lib.hid (K0.out.belowS hb)
   replace K1 := Lib.hid (K1.out.belowS hb)
   replace KR := Lib.hid (KR.out.belowS hb)
   replace HB := Lib.hid (Base.Below.nextA HB.out hb)
   have HXX := Lib.hid hx
   clear hb hx
   have x0 := (K0.out).at 0 (v := .bool s) rfl
   have x1 := (K0.out).at 1 (v := .slice A1 k1 c1) rfl
   have x2 := (K0.out).at 2 (v := .slice A2 k2 c2) rfl
   have y0 := (K1.out).at 0 (v := (.bool s')) rfl
   have y1 := (K1.out).at 1 (v := .slice A3 k3 c3) rfl
   have y2 := (K1.out).at 2 (v := .slice A4 k4 c4) rfl
   go_wp2_with fail
   refine (bigTimes_any _ (HP'.out.num.below HB.out) (HP.out.den.below HB.out) (Nat.le_trans HL.out.2.2.1 (by omega)) (Nat.le_trans HL.out.2.1 (by omega))).mono ?_
   rintro e wb ⟨vy, rfl, hy, hb⟩
   clear x0 x1 x2 y0 y1 y2
   replace K0 := Lib.hid (K0.out.belowS hb)
   replace K1 := Lib.hid (K1.out.belowS hb)
   replace KR := Lib.hid (KR.out.belowS hb)
   replace HB := Lib.hid (Base.Below.nextA HB.out hb)
   replace HXX := Lib.hid (HXX.out.below hb)
   have HYY := Lib.hid hy
   clear hb hy
   have x0 := (K0.out).at 0 (v := .bool s) rfl
   have x1 := (K0.out).at 1 (v := .slice A1 k1 c1) rfl
   have x2 := (K0.out).at 2 (v := .slice A2 k2 c2) rfl
   have y0 := (K1.out).at 0 (v := (.bool s')) rfl
   have y1 := (K1.out).at 1 (v := .slice A3 k3 c3) rfl
   have y2 := (K1.out).at 2 (v := .slice A4 k4 c4) rfl
   go_wp2_with fail
   refine (bigTimes_any _ (HP.out.den.below HB.out) (HP'.out.den.below HB.out) (Nat.le_trans HL.out.2.1 (by omega)) (Nat.le_trans HL.out.2.2.2 (by omega))).mono ?_
   rintro e wc ⟨vd, rfl, hd, hb⟩
   clear x0 x1 x2 y0 y1 y2
   replace K0 := Lib.hid (K0.out.belowS hb)
   replace K1 := Lib.hid (K1.out.belowS hb)
   replace KR := Lib.hid (KR.out.belowS hb)
   replace HB := Lib.hid (Base.Below.nextA HB.out hb)
   replace HXX := Lib.hid (HXX.out.below hb)
   replace HYY := Lib.hid (HYY.out.below hb)
   obtain ⟨Ad, cd, rfl, _⟩ := Dig.form hd
   have HDD := Lib.hid hd
   clear hb hd
   have x0 := K0.out.at 0 (v := .bool s) rfl
   have y0 := K1.out.at 0 (v := .bool s') rfl
   have HLX : Hid ((bigL (n * d')).length ≤ m + m') := Lib.hid (Nat.le_trans (len_mul _ _) (by have := HL.out; omega))
   have HLY : Hid ((bigL (n' * d)).length ≤ m + m') := Lib.hid (Nat.le_trans (len_mul _ _) (by have := HL.out; omega))
   have hqa := qv_add (s := s) (s' := s') (n := n) (n' := n') (Nat.ne_of_gt HD.out.1) (Nat.ne_of_gt HD.out.2)
   rw [HV.out.1, HV.out.2] at hqa
   have HQA := Lib.hid hqa
   clear hqa
   by_cases hs : s = s'
   ·have hsb : (s == s') = true := by rw [hs]; simp
    have HVAL : Hid (qv s (n * d' + n' * d) (d * d') = q + r) := Lib.hid (by rw [HQA.out, if_pos hs])
    have HLEN : Hid ((bigL (n * d' + n' * d)).length ≤ m + m' + 1) := Lib.hid (len_sum HLX.out HLY.out)
    clear hs HQA
    go_wp2_with fail
    clear x0 y0 hsb
    have HQ : Hid (∀ W B1 j1 e1, IsB W (n * d' + n' * d) (.slice B1 j1 e1) → IsB W (d * d') (.slice Ad (bigL (d * d')).length cd) → IsW W (q + r) (m + m' + 1) (.agg #[.bool s, .slice B1 j1 e1, .slice Ad (bigL (d * d')).length cd, .bool false, .int .i64 0, .int .i64 0])) := Lib.hid fun W B1 j1 e1 g1 g2 =>
     ⟨_, B1, j1, e1, Ad, _, cd, false, 0, 0, _, _, rfl, ⟨g1, g2, Nat.mul_pos HD.out.1 HD.out.2, HVAL.out, HLEN.out, Nat.le_trans (len_mul _ _) (by have := HL.out; omega), fun h => by cases h⟩⟩
    refine Rel.wp_region_rel 7 (by kernel_rfl) (by kernel_rfl) (fun F hF => ?_)
    simp only [List.take_succ_cons, List.take_zero, List.drop_succ_cons, List.drop_zero, Rel.putL] at hF ⊢
    have HF := Lib.hid hF
    clear hF
    have uv := @Rel.upon_value Tryz.prog
    have ue := @Rel.upon_enter Tryz.prog
    apply Rel.rel_pure
    apply Exists.intro
    refine ⟨fun vs wq hq hdp R hR => ?_, ?_⟩
    ·(rw [HF.out, Rel.stepAt_eq]; clear hdp; skip; go_simp; exact hR)
    apply Rel.rel_pure
    apply Exists.intro
    refine ⟨fun vs wq hq hdp R hR => ?_, ?_⟩
    ·(rw [HF.out, Rel.stepAt_eq]; have qd0 : vs 0 = _ := Rel.dep hdp 0 (by kernel_rfl); clear hdp; have x0 := (K0.out.belowS hq).at 0 (v := .bool s) rfl; go_simp; exact hR)
    apply Rel.rel_pure
    apply Exists.intro
    refine ⟨fun vs wq hq hdp R hR => ?_, ?_⟩
    ·(rw [HF.out, Rel.stepAt_eq]; clear hdp; skip; go_simp; exact hR)
    apply Rel.rel_pure
    apply Exists.intro
    refine ⟨fun vs wq hq hdp R hR => ?_, ?_⟩
    ·(rw [HF.out, Rel.stepAt_eq]; clear hdp; skip; go_simp; exact hR)
    refine Rel.rel_law (S := fun v w' => IsB w' (n * d' + n' * d) v) (isB_mono _) (fun vs wq hq hdp => ?_) ?_
    ·(rw [HF.out, Rel.stepAt_eq]; have qd2 : vs 2 = _ := Rel.dep hdp 2 (by kernel_rfl); have qd3 : vs 3 = _ := Rel.dep hdp 3 (by kernel_rfl); clear hdp; skip; go_simp; refine (bigPlus_any wq (HXX.out.below hq) (HYY.out.below hq) (Nat.le_trans HLX.out (by omega)) (Nat.le_trans HLY.out (by omega))).mono ?_; rintro e w7 ⟨v, rfl, hv, hb⟩; exact ⟨_, rfl, hv, hb⟩)
    apply Rel.rel_pure
    apply Exists.intro
    refine ⟨fun vs wq hq hdp R hR => ?_, ?_⟩
    ·(rw [HF.out, Rel.stepAt_eq]; clear hdp; skip; go_simp; exact hR)
    refine Rel.rel_law (S := fun v w' => IsW w' (q + r) (m + m' + 1) v) (isW_mono _ _) (fun vs wq hq hdp => ?_) ?_
    ·(rw [HF.out, Rel.stepAt_eq]; have qd1 : vs 1 = _ := Rel.dep hdp 1 (by kernel_rfl); have qd4 : IsB wq _ (vs 4) := Rel.dep hdp 4 (by kernel_rfl); have qd5 : vs 5 = _ := Rel.dep hdp 5 (by kernel_rfl); clear hdp; obtain ⟨B1, e1, ev1, _⟩ := Dig.form qd4; have HPP := Lib.hid (HQ.out wq B1 _ e1 (by rw [← ev1]; exact qd4) (HDD.out.below hq)); go_simp; exact ⟨HPP.out, Below.refl _ _⟩)
    refine Rel.rel_end (fun vs wq hq hall => ?_)
    rw [HF.out]
    have qe0 : vs 0 = _ := Rel.fin hall 0 (by decide)
    have qe1 : vs 1 = _ := Rel.fin hall 1 (by decide)
    have qe2 : vs 2 = _ := Rel.fin hall 2 (by decide)
    have qe3 : vs 3 = _ := Rel.fin hall 3 (by decide)
    have qe4 : IsB wq _ (vs 4) := Rel.fin hall 4 (by decide)
    have qe5 : vs 5 = _ := Rel.fin hall 5 (by decide)
    have qe6 : IsW wq _ _ (vs 6) := Rel.fin hall 6 (by decide)
    clear hall HF uv ue
    obtain ⟨s, A1, k1, c1', A2, k2, c2', fine, fn, fd, nn, dd, ev, hpz⟩ := qe6
    have KRq := KR.out.belowS hq
    have HBq := Base.Below.nextA HB.out hq
    have HP2 := Lib.hid hpz
    clear hq hpz HP HP' K0 K1 HQ HDD HXX HYY
    have z0 := (KRq).frz 0
    have z1 := (KRq).frz 1
    have z2 := (KRq).frz 2
    have z3 := (KRq).frz 3
    have z4 := (KRq).frz 4
    have z5 := (KRq).frz 5
    have c0 := (KRq).at 0 (v := .bool false) rfl
    have c1 := (KRq).at 1 (v := .slice none 0 0) rfl
    have c2 := (KRq).at 2 (v := .slice none 0 0) rfl
    have c3 := (KRq).at 3 (v := .bool false) rfl
    have c4 := (KRq).at 4 (v := .int .i64 0) rfl
    have c5 := (KRq).at 5 (v := .int .i64 0) rfl
    have SS := put6_blk (KRq) (.bool s) (.slice A1 k1 c1') (.slice A2 k2 c2') (.bool fine) (.int .i64 fn) (.int .i64 fd)
    unfold put6 at SS
    have s0 := SS.at 0 rfl
    have s1 := SS.at 1 rfl
    have s2 := SS.at 2 rfl
    have s3 := SS.at 3 rfl
    have s4 := SS.at 4 rfl
    have s5 := SS.at 5 rfl
    have HFIN := Lib.hid (WRet.put (HP2.out) (KRq) (HBq) (by omega))
    clear SS
    go_wp2
    refine bodyPost_ret (v := .agg #[.bool s, .slice A1 k1 c1', .slice A2 k2 c2', .bool fine, .int .i64 fn, .int .i64 fd]) (by simp [results, Tryz.results67, go_sem, s0, s1, s2, s3, s4, s5]) rfl ?_
    exact HFIN.out
   ·have hsb : (s == s') = false := by simpa using hs
    go_wp2_with fail
    refine (bigCmp_any _ HXX.out HYY.out (Nat.le_trans HLX.out (by omega)) (Nat.le_trans HLY.out (by omega))).mono ?_
    rintro e wd ⟨rfl, hD⟩
    have hb := hD.below (B := wc.heap.size)
    clear hD x0 y0 hsb
    replace K0 := Lib.hid (K0.out.belowS hb)
    replace K1 := Lib.hid (K1.out.belowS hb)
    replace KR := Lib.hid (KR.out.belowS hb)
    replace HB := Lib.hid (Base.Below.nextA HB.out hb)
    replace HXX := Lib.hid (HXX.out.below hb)
    replace HYY := Lib.hid (HYY.out.below hb)
    replace HDD := Lib.hid (HDD.out.below hb)
    clear hb
    by_cases hl : n * d' < n' * d
    ·have hcm := cmpN_lt hl
     have HVAL : Hid (qv s' (n' * d - n * d') (d * d') = q + r) := Lib.hid (by rw [HQA.out, if_neg hs, if_pos hl])
     have HLEN : Hid ((bigL (n' * d - n * d')).length ≤ m + m' + 1) := Lib.hid (Nat.le_trans (len_mono (Nat.sub_le _ _)) (by have := HLY.out; omega))
     have HLL := Lib.hid (Nat.le_of_lt hl)
     generalize cmpN (n * d') (n' * d) = cm at *
     subst hcm
     clear hl hs HQA
     go_wp2_with fail
     have HQ : Hid (∀ W B1 j1 e1, IsB W (n' * d - n * d') (.slice B1 j1 e1) → IsB W (d * d') (.slice Ad (bigL (d * d')).length cd) → IsW W (q + r) (m + m' + 1) (.agg #[.bool s', .slice B1 j1 e1, .slice Ad (bigL (d * d')).length cd, .bool false, .int .i64 0, .int .i64 0])) := Lib.hid fun W B1 j1 e1 g1 g2 =>
      ⟨_, B1, j1, e1, Ad, _, cd, false, 0, 0, _, _, rfl, ⟨g1, g2, Nat.mul_pos HD.out.1 HD.out.2, HVAL.out, HLEN.out, Nat.le_trans (len_mul _ _) (by have := HL.out; omega), fun h => by cases h⟩⟩
     refine Rel.wp_region_rel 7 (by kernel_rfl) (by kernel_rfl) (fun F hF => ?_)
     simp only [List.take_succ_cons, List.take_zero, List.drop_succ_cons, List.drop_zero, Rel.putL] at hF ⊢
     have HF := Lib.hid hF
     clear hF
     have uv := @Rel.upon_value Tryz.prog
     have ue := @Rel.upon_enter Tryz.prog
     apply Rel.rel_pure
     apply Exists.intro
     refine ⟨fun vs wq hq hdp R hR => ?_, ?_⟩
     ·(rw [HF.out, Rel.stepAt_eq]; clear hdp; skip; go_simp; exact hR)
     apply Rel.rel_pure
     apply Exists.intro
     refine ⟨fun vs wq hq hdp R hR => ?_, ?_⟩
     ·(rw [HF.out, Rel.stepAt_eq]; have qd0 : vs 0 = _ := Rel.dep hdp 0 (by kernel_rfl); clear hdp; have x0 := (K1.out.belowS hq).at 0 (v := .bool s') rfl; go_simp; exact hR)
     apply Rel.rel_pure
     apply Exists.intro
     refine ⟨fun vs wq hq hdp R hR => ?_, ?_⟩
     ·(rw [HF.out, Rel.stepAt_eq]; clear hdp; skip; go_simp; exact hR)
     apply Rel.rel_pure
     apply Exists.intro
     refine ⟨fun vs wq hq hdp R hR => ?_, ?_⟩
     ·(rw [HF.out, Rel.stepAt_eq]; clear hdp; skip; go_simp; exact hR)
     refine Rel.rel_law (S := fun v w' => IsB w' (n' * d - n * d') v) (isB_mono _) (fun vs wq hq hdp => ?_) ?_
     ·(rw [HF.out, Rel.stepAt_eq]; have qd2 : vs 2 = _ := Rel.dep hdp 2 (by kernel_rfl); have qd3 : vs 3 = _ := Rel.dep hdp 3 (by kernel_rfl); clear hdp; skip; go_simp; refine (bigMinus_any wq (HYY.out.below hq) (HXX.out.below hq) (Nat.le_trans HLY.out (by omega)) HLL.out).mono ?_; rintro e w7 ⟨v, rfl, hv, hb⟩; exact ⟨_, rfl, hv, hb⟩)
     apply Rel.rel_pure
     apply Exists.intro
     refine ⟨fun vs wq hq hdp R hR => ?_, ?_⟩
     ·(rw [HF.out, Rel.stepAt_eq]; clear hdp; skip; go_simp; exact hR)
     refine Rel.rel_law (S := fun v w' => IsW w' (q + r) (m + m' + 1) v) (isW_mono _ _) (fun vs wq hq hdp => ?_) ?_
     ·(rw [HF.out, Rel.stepAt_eq]; have qd1 : vs 1 = _ := Rel.dep hdp 1 (by kernel_rfl); have qd4 : IsB wq _ (vs 4) := Rel.dep hdp 4 (by kernel_rfl); have qd5 : vs 5 = _ := Rel.dep hdp 5 (by kernel_rfl); clear hdp; obtain ⟨B1, e1, ev1, _⟩ := Dig.form qd4; have HPP := Lib.hid (HQ.out wq B1 _ e1 (by rw [← ev1]; exact qd4) (HDD.out.below hq)); go_simp; exact ⟨HPP.out, Below.refl _ _⟩)
     refine Rel.rel_end (fun vs wq hq hall => ?_)
     rw [HF.out]
     have qe0 : vs 0 = _ := Rel.fin hall 0 (by decide)
     have qe1 : vs 1 = _ := Rel.fin hall 1 (by decide)
     have qe2 : vs 2 = _ := Rel.fin hall 2 (by decide)
     have qe3 : vs 3 = _ := Rel.fin hall 3 (by decide)
     have qe4 : IsB wq _ (vs 4) := Rel.fin hall 4 (by decide)
     have qe5 : vs 5 = _ := Rel.fin hall 5 (by decide)
     have qe6 : IsW wq _ _ (vs 6) := Rel.fin hall 6 (by decide)
     clear hall HF uv ue
     obtain ⟨s, A1, k1, c1', A2, k2, c2', fine, fn, fd, nn, dd, ev, hpz⟩ := qe6
     have KRq := KR.out.belowS hq
     have HBq := Base.Below.nextA HB.out hq
     have HP2 := Lib.hid hpz
     clear hq hpz HP HP' K0 K1 HQ HDD HXX HYY
     have z0 := (KRq).frz 0
     have z1 := (KRq).frz 1
     have z2 := (KRq).frz 2
     have z3 := (KRq).frz 3
     have z4 := (KRq).frz 4
     have z5 := (KRq).frz 5
     have c0 := (KRq).at 0 (v := .bool false) rfl
     have c1 := (KRq).at 1 (v := .slice none 0 0) rfl
     have c2 := (KRq).at 2 (v := .slice none 0 0) rfl
     have c3 := (KRq).at 3 (v := .bool false) rfl
     have c4 := (KRq).at 4 (v := .int .i64 0) rfl
     have c5 := (KRq).at 5 (v := .int .i64 0) rfl
     have SS := put6_blk (KRq) (.bool s) (.slice A1 k1 c1') (.slice A2 k2 c2') (.bool fine) (.int .i64 fn) (.int .i64 fd)
     unfold put6 at SS
     have s0 := SS.at 0 rfl
     have s1 := SS.at 1 rfl
     have s2 := SS.at 2 rfl
     have s3 := SS.at 3 rfl
     have s4 := SS.at 4 rfl
     have s5 := SS.at 5 rfl
     have HFIN := Lib.hid (WRet.put (HP2.out) (KRq) (HBq) (by omega))
     clear SS
     go_wp2
     refine bodyPost_ret (v := .agg #[.bool s, .slice A1 k1 c1', .slice A2 k2 c2', .bool fine, .int .i64 fn, .int .i64 fd]) (by simp [results, Tryz.results67, go_sem, s0, s1, s2, s3, s4, s5]) rfl ?_
     exact HFIN.out
    ·have hcm := cmpN_ge (show n' * d ≤ n * d' by omega)
     have HVAL : Hid (qv s (n * d' - n' * d) (d * d') = q + r) := Lib.hid (by rw [HQA.out, if_neg hs, if_neg hl])
     have HLEN : Hid ((bigL (n * d' - n' * d)).length ≤ m + m' + 1) := Lib.hid (Nat.le_trans (len_mono (Nat.sub_le _ _)) (by have := HLX.out; omega))
     have HLL := Lib.hid (show n' * d ≤ n * d' by omega)
     have hcm2 : ¬ cmpN (n * d') (n' * d) < 0 := by omega
     generalize cmpN (n * d') (n' * d) = cm at *
     clear hl hs HQA
     go_wp2_with fail
     have HQ : Hid (∀ W B1 j1 e1, IsB W (n * d' - n' * d) (.slice B1 j1 e1) → IsB W (d * d') (.slice Ad (bigL (d * d')).length cd) → IsW W (q + r) (m + m' + 1) (.agg #[.bool s, .slice B1 j1 e1, .slice Ad (bigL (d * d')).length cd, .bool false, .int .i64 0, .int .i64 0])) := Lib.hid fun W B1 j1 e1 g1 g2 =>
      ⟨_, B1, j1, e1, Ad, _, cd, false, 0, 0, _, _, rfl, ⟨g1, g2, Nat.mul_pos HD.out.1 HD.out.2, HVAL.out, HLEN.out, Nat.le_trans (len_mul _ _) (by have := HL.out; omega), fun h => by cases h⟩⟩
     refine Rel.wp_region_rel 7 (by kernel_rfl) (by kernel_rfl) (fun F hF => ?_)
     simp only [List.take_succ_cons, List.take_zero, List.drop_succ_cons, List.drop_zero, Rel.putL] at hF ⊢
     have HF := Lib.hid hF
     clear hF
     have uv := @Rel.upon_value Tryz.prog
     have ue := @Rel.upon_enter Tryz.prog
     apply Rel.rel_pure
     apply Exists.intro
     refine ⟨fun vs wq hq hdp R hR => ?_, ?_⟩
     ·(rw [HF.out, Rel.stepAt_eq]; clear hdp; skip; go_simp; exact hR)
     apply Rel.rel_pure
     apply Exists.intro
     refine ⟨fun vs wq hq hdp R hR => ?_, ?_⟩
     ·(rw [HF.out, Rel.stepAt_eq]; have qd0 : vs 0 = _ := Rel.dep hdp 0 (by kernel_rfl); clear hdp; have x0 := (K0.out.belowS hq).at 0 (v := .bool s) rfl; go_simp; exact hR)
     apply Rel.rel_pure
     apply Exists.intro
     refine ⟨fun vs wq hq hdp R hR => ?_, ?_⟩
     ·(rw [HF.out, Rel.stepAt_eq]; clear hdp; skip; go_simp; exact hR)
     apply Rel.rel_pure
     apply Exists.intro
     refine ⟨fun vs wq hq hdp R hR => ?_, ?_⟩
     ·(rw [HF.out, Rel.stepAt_eq]; clear hdp; skip; go_simp; exact hR)
     refine Rel.rel_law (S := fun v w' => IsB w' (n * d' - n' * d) v) (isB_mono _) (fun vs wq hq hdp => ?_) ?_
     ·(rw [HF.out, Rel.stepAt_eq]; have qd2 : vs 2 = _ := Rel.dep hdp 2 (by kernel_rfl); have qd3 : vs 3 = _ := Rel.dep hdp 3 (by kernel_rfl); clear hdp; skip; go_simp; refine (bigMinus_any wq (HXX.out.below hq) (HYY.out.below hq) (Nat.le_trans HLX.out (by omega)) HLL.out).mono ?_; rintro e w7 ⟨v, rfl, hv, hb⟩; exact ⟨_, rfl, hv, hb⟩)
     apply Rel.rel_pure
     apply Exists.intro
     refine ⟨fun vs wq hq hdp R hR => ?_, ?_⟩
     ·(rw [HF.out, Rel.stepAt_eq]; clear hdp; skip; go_simp; exact hR)
     refine Rel.rel_law (S := fun v w' => IsW w' (q + r) (m + m' + 1) v) (isW_mono _ _) (fun vs wq hq hdp => ?_) ?_
     ·(rw [HF.out, Rel.stepAt_eq]; have qd1 : vs 1 = _ := Rel.dep hdp 1 (by kernel_rfl); have qd4 : IsB wq _ (vs 4) := Rel.dep hdp 4 (by kernel_rfl); have qd5 : vs 5 = _ := Rel.dep hdp 5 (by kernel_rfl); clear hdp; obtain ⟨B1, e1, ev1, _⟩ := Dig.form qd4; have HPP := Lib.hid (HQ.out wq B1 _ e1 (by rw [← ev1]; exact qd4) (HDD.out.below hq)); go_simp; exact ⟨HPP.out, Below.refl _ _⟩)
     refine Rel.rel_end (fun vs wq hq hall => ?_)
     rw [HF.out]
     have qe0 : vs 0 = _ := Rel.fin hall 0 (by decide)
     have qe1 : vs 1 = _ := Rel.fin hall 1 (by decide)
     have qe2 : vs 2 = _ := Rel.fin hall 2 (by decide)
     have qe3 : vs 3 = _ := Rel.fin hall 3 (by decide)
     have qe4 : IsB wq _ (vs 4) := Rel.fin hall 4 (by decide)
     have qe5 : vs 5 = _ := Rel.fin hall 5 (by decide)
     have qe6 : IsW wq _ _ (vs 6) := Rel.fin hall 6 (by decide)
     clear hall HF uv ue
     obtain ⟨s, A1, k1, c1', A2, k2, c2', fine, fn, fd, nn, dd, ev, hpz⟩ := qe6
     have KRq := KR.out.belowS hq
     have HBq := Base.Below.nextA HB.out hq
     have HP2 := Lib.hid hpz
     clear hq hpz HP HP' K0 K1 HQ HDD HXX HYY
     have z0 := (KRq).frz 0
     have z1 := (KRq).frz 1
     have z2 := (KRq).frz 2
     have z3 := (KRq).frz 3
     have z4 := (KRq).frz 4
     have z5 := (KRq).frz 5
     have c0 := (KRq).at 0 (v := .bool false) rfl
     have c1 := (KRq).at 1 (v := .slice none 0 0) rfl
     have c2 := (KRq).at 2 (v := .slice none 0 0) rfl
     have c3 := (KRq).at 3 (v := .bool false) rfl
     have c4 := (KRq).at 4 (v := .int .i64 0) rfl
     have c5 := (KRq).at 5 (v := .int .i64 0) rfl
     have SS := put6_blk (KRq) (.bool s) (.slice A1 k1 c1') (.slice A2 k2 c2') (.bool fine) (.int .i64 fn) (.int .i64 fd)
     unfold put6 at SS
     have s0 := SS.at 0 rfl
     have s1 := SS.at 1 rfl
     have s2 := SS.at 2 rfl
     have s3 := SS.at 3 rfl
     have s4 := SS.at 4 rfl
     have s5 := SS.at 5 rfl
     have HFIN := Lib.hid (WRet.put (HP2.out) (KRq) (HBq) (by omega))
     clear SS
     go_wp2
     refine bodyPost_ret (v := .agg #[.bool s, .slice A1 k1 c1', .slice A2 k2 c2', .bool fine, .int .i64 fn, .int .i64 fd]) (by simp [results, Tryz.results67, go_sem, s0, s1, s2, s3, s4, s5]) rfl ?_
     exact HFIN.out
set_option maxHeartbeats 4000000 in
set_option maxRecDepth 100000 in
theorem wideAdd_yes {q r : Rat} {m m' : Nat} {s s' : Bool} {A1 A2 A3 A4 : Option Addr} {k1 k2 k3 k4 c1 c2 c3 c4 n d n' d' : Nat} {fn fd gn gd : Int} (w : World) (hp : Parts w q m s (.slice A1 k1 c1) (.slice A2 k2 c2) true fn fd n d) (hp' : Parts w r m' s' (.slice A3 k3 c3) (.slice A4 k4 c4) true gn gd n' d') (hm : m ≤ 400000) (hm' : m' ≤ 400000) (h2 : 2 ≤ m) (h2' : 2 ≤ m') : Calls Tryz.prog 67 #[.agg #[.bool s, .slice A1 k1 c1, .slice A2 k2 c2, .bool true, .int .i64 fn, .int .i64 fd], .agg #[(.bool s'), .slice A3 k3 c3, .slice A4 k4 c4, (.bool true), .int .i64 gn, .int .i64 gd]] w (WRet (q + r) (m + m' + 1) w) := by
 have HP := Lib.hid hp
 have HP' := Lib.hid hp'
 have HV := Lib.hid (And.intro hp.val hp'.val)
 have HD := Lib.hid (And.intro hp.pos hp'.pos)
 have HL := Lib.hid (And.intro hp.ln (And.intro hp.ld (And.intro hp'.ln hp'.ld)))
 obtain ⟨W3, hW3⟩ : ∃ W3, W3 = ((w.alloc (.cells #[.bool s, .slice A1 k1 c1, .slice A2 k2 c2, .bool true, .int .i64 fn, .int .i64 fd] 107)).alloc (.cells #[(.bool s'), .slice A3 k3 c3, .slice A4 k4 c4, (.bool true), .int .i64 gn, .int .i64 gd] 107)).alloc (.cells #[.bool false, .slice none 0 0, .slice none 0 0, .bool false, .int .i64 0, .int .i64 0] 107) := ⟨_, rfl⟩
 have K0 : Hid (Blk W3 w.heap.size 107 #[.bool s, .slice A1 k1 c1, .slice A2 k2 c2, .bool true, .int .i64 fn, .int .i64 fd]) := Lib.hid (by rw [hW3]; exact ((Blk.new w _ _).alloc _).alloc _)
 have K1 : Hid (Blk W3 (w.heap.size + 1) 107 #[(.bool s'), .slice A3 k3 c3, .slice A4 k4 c4, (.bool true), .int .i64 gn, .int .i64 gd]) := Lib.hid (by rw [hW3]; exact (Blk.newAt _ _ (by simp)).alloc _)
 have KR : Hid (Blk W3 (w.heap.size + 1 + 1) 107 #[.bool false, .slice none 0 0, .slice none 0 0, .bool false, .int .i64 0, .int .i64 0]) := Lib.hid (by rw [hW3]; exact Blk.newAt _ _ (by simp))
 have HB : Hid (Below w.heap.size w W3) := Lib.hid (by rw [hW3]; exact (((Below.refl _ _).alloc (Nat.le_refl _) _).alloc (by simp) _).alloc (by simp; omega) _)
 have HW := Lib.hid hW3
 clear hW3 hp hp'
 obtain ⟨v1, v2, -⟩ := HP.out.small rfl
 obtain ⟨v3, v4, -⟩ := HP'.out.small rfl
 have HM := Lib.hid (fun W => fAdd_any v1 v3 W)
 rw [v2, v4] at HM
 unfold FRet at HM
 clear v1 v2 v3 v4
 have x0 := (K0.out).at 0 (v := .bool s) rfl
 have x1 := (K0.out).at 1 (v := .slice A1 k1 c1) rfl
 have x2 := (K0.out).at 2 (v := .slice A2 k2 c2) rfl
 have x3 := (K0.out).at 3 (v := .bool true) rfl
 have x4 := (K0.out).at 4 (v := .int .i64 fn) rfl
 have x5 := (K0.out).at 5 (v := .int .i64 fd) rfl
 have y0 := (K1.out).at 0 (v := (.bool s')) rfl
 have y1 := (K1.out).at 1 (v := .slice A3 k3 c3) rfl
 have y2 := (K1.out).at 2 (v := .slice A4 k4 c4) rfl
 have y3 := (K1.out).at 3 (v := (.bool true)) rfl
 have y4 := (K1.out).at 4 (v := .int .i64 gn) rfl
 have y5 := (K1.out).at 5 (v := .int .i64 gd) rfl
 go_enter Tryz.func67, Tryz.ntmps67
 go_upto_region 1 with (fail)
 rw [← HW.out]
 clear HW
 have lR := KR.out.lt
 go_wp2_with fail
 refine (HM.out _).mono ?_
 rintro e w4 ⟨rfl, hb4⟩
 have K0a := K0.out.belowS hb4
 have K1a := K1.out.belowS hb4
 have KRa := KR.out.belowS hb4
 have HBa := Lib.hid (Base.Below.nextA HB.out hb4)
 have KK := Lib.hid (And.intro K0a (And.intro K1a KRa))
 clear K0a K1a KRa hb4 K0 K1 KR HB HM x0 x1 x2 x3 x4 x5 y0 y1 y2 y3 y4 y5 lR
 go_upto_region 3 with (fail)
 obtain ⟨W4, hW4⟩ : ∃ W4, W4 = w4.alloc (.cells #[.int .i64 (numQ (q + r)), .int .i64 (denQ (q + r))] 34) := ⟨_, rfl⟩
 rw [← hW4]
 have K0 : Hid (Blk W4 w.heap.size 107 #[.bool s, .slice A1 k1 c1, .slice A2 k2 c2, .bool true, .int .i64 fn, .int .i64 fd]) := Lib.hid (by rw [hW4]; exact KK.out.1.alloc _)
 have K1 : Hid (Blk W4 (w.heap.size + 1) 107 #[(.bool s'), .slice A3 k3 c3, .slice A4 k4 c4, (.bool true), .int .i64 gn, .int .i64 gd]) := Lib.hid (by rw [hW4]; exact KK.out.2.1.alloc _)
 have KR : Hid (Blk W4 (w.heap.size + 1 + 1) 107 #[.bool false, .slice none 0 0, .slice none 0 0, .bool false, .int .i64 0, .int .i64 0]) := Lib.hid (by rw [hW4]; exact KK.out.2.2.alloc _)
 have K5 : Hid (Blk W4 w4.heap.size 34 #[.int .i64 (numQ (q + r)), .int .i64 (denQ (q + r))]) := Lib.hid (by rw [hW4]; exact Blk.new w4 _ _)
 have HB : Hid (Below w.heap.size w W4) := Lib.hid (by rw [hW4]; exact HBa.out.alloc HBa.out.size _)
 clear hW4 KK HBa
 cases hs : smallQ (q + r) with
 | true =>
  have HO : Hid (∀ W, Calls Tryz.prog 64 #[.agg #[.int .i64 (numQ (q + r)), .int .i64 (denQ (q + r))]] W (WRet (q + r) 2 W)) := Lib.hid fun W => by
   obtain ⟨t1, t2⟩ := small_true hs
   obtain ⟨_, e1, e2⟩ := RatM.small_yes t1 t2
   have := wideOf_any (VF.of (q + r) hs) W
   rw [qf_self] at this
   rw [e1, e2]; exact this
  have p0 := K5.out.at 0 (v := .int .i64 (numQ (q + r))) rfl
  have p1 := K5.out.at 1 (v := .int .i64 (denQ (q + r))) rfl
  clear hs
  generalize numQ (q + r) = qn at *
  generalize denQ (q + r) = qd at *
  go_wp2_with fail
  refine (HO.out _).mono ?_
  rintro e wq ⟨v, rfl, hv, hq⟩
  obtain ⟨s, A1, k1, c1', A2, k2, c2', fine, fn, fd, nn, dd, rfl, hpz⟩ := hv
  have KRq := KR.out.belowS hq
  have HBq := Base.Below.nextA HB.out hq
  have HP2 := Lib.hid (hpz.more (show 2 ≤ m + m' + 1 by omega))
  clear hq hpz HP HP' K0 K1 K5 p0 p1 HO
  have z0 := (KRq).frz 0
  have z1 := (KRq).frz 1
  have z2 := (KRq).frz 2
  have z3 := (KRq).frz 3
  have z4 := (KRq).frz 4
  have z5 := (KRq).frz 5
  have c0 := (KRq).at 0 (v := .bool false) rfl
  have c1 := (KRq).at 1 (v := .slice none 0 0) rfl
  have c2 := (KRq).at 2 (v := .slice none 0 0) rfl
  have c3 := (KRq).at 3 (v := .bool false) rfl
  have c4 := (KRq).at 4 (v := .int .i64 0) rfl
  have c5 := (KRq).at 5 (v := .int .i64 0) rfl
  have SS := put6_blk (KRq) (.bool s) (.slice A1 k1 c1') (.slice A2 k2 c2') (.bool fine) (.int .i64 fn) (.int .i64 fd)
  unfold put6 at SS
  have s0 := SS.at 0 rfl
  have s1 := SS.at 1 rfl
  have s2 := SS.at 2 rfl
  have s3 := SS.at 3 rfl
  have s4 := SS.at 4 rfl
  have s5 := SS.at 5 rfl
  have HFIN := Lib.hid (WRet.put (HP2.out) (KRq) (HBq) (by omega))
  clear SS
  go_wp2
  refine bodyPost_ret (v := .agg #[.bool s, .slice A1 k1 c1', .slice A2 k2 c2', .bool fine, .int .i64 fn, .int .i64 fd]) (by simp [results, Tryz.results67, go_sem, s0, s1, s2, s3, s4, s5]) rfl ?_
  exact HFIN.out
 | false =>
  clear hs
  generalize numQ (q + r) = qn at *
  generalize denQ (q + r) = qd at *
  clear K5
  have x0 := (K0.out).at 0 (v := .bool s) rfl
  have x1 := (K0.out).at 1 (v := .slice A1 k1 c1) rfl
  have x2 := (K0.out).at 2 (v := .slice A2 k2 c2) rfl
  have y0 := (K1.out).at 0 (v := (.bool s')) rfl
  have y1 := (K1.out).at 1 (v := .slice A3 k3 c3) rfl
  have y2 := (K1.out).at 2 (v := .slice A4 k4 c4) rfl
  go_wp2_with fail
  refine (bigTimes_any _ (HP.out.num.below HB.out) (HP'.out.den.below HB.out) (Nat.le_trans HL.out.1 (by omega)) (Nat.le_trans HL.out.2.2.2 (by omega))).mono ?_
  rintro e wa ⟨vx, rfl, hx, hb⟩
  clear x0 x1 x2 y0 y1 y2
  replace K0 := Lib.hid (K0.out.belowS hb)
  replace K1 := Lib.hid (K1.out.belowS hb)
  replace KR := Lib.hid (KR.out.belowS hb)
  replace HB := Lib.hid (Base.Below.nextA HB.out hb)
  have HXX := Lib.hid hx
  clear hb hx
  have x0 := (K0.out).at 0 (v := .bool s) rfl
  have x1 := (K0.out).at 1 (v := .slice A1 k1 c1) rfl
  have x2 := (K0.out).at 2 (v := .slice A2 k2 c2) rfl
  have y0 := (K1.out).at 0 (v := (.bool s')) rfl
  have y1 := (K1.out).at 1 (v := .slice A3 k3 c3) rfl
  have y2 := (K1.out).at 2 (v := .slice A4 k4 c4) rfl
  go_wp2_with fail
  refine (bigTimes_any _ (HP'.out.num.below HB.out) (HP.out.den.below HB.out) (Nat.le_trans HL.out.2.2.1 (by omega)) (Nat.le_trans HL.out.2.1 (by omega))).mono ?_
  rintro e wb ⟨vy, rfl, hy, hb⟩
  clear x0 x1 x2 y0 y1 y2
  replace K0 := Lib.hid (K0.out.belowS hb)
  replace K1 := Lib.hid (K1.out.belowS hb)
  replace KR := Lib.hid (KR.out.belowS hb)
  replace HB := Lib.hid (Base.Below.nextA HB.out hb)
  replace HXX := Lib.hid (HXX.out.below hb)
  have HYY := Lib.hid hy
  clear hb hy
  have x0 := (K0.out).at 0 (v := .bool s) rfl
  have x1 := (K0.out).at 1 (v := .slice A1 k1 c1) rfl
  have x2 := (K0.out).at 2 (v := .slice A2 k2 c2) rfl
  have y0 := (K1.out).at 0 (v := (.bool s')) rfl
  have y1 := (K1.out).at 1 (v := .slice A3 k3 c3) rfl
  have y2 := (K1.out).at 2 (v := .slice A4 k4 c4) rfl
  go_wp2_with fail
  refine (bigTimes_any _ (HP.out.den.below HB.out) (HP'.out.den.below HB.out) (Nat.le_trans HL.out.2.1 (by omega)) (Nat.le_trans HL.out.2.2.2 (by omega))).mono ?_
  rintro e wc ⟨vd, rfl, hd, hb⟩
  clear x0 x1 x2 y0 y1 y2
  replace K0 := Lib.hid (K0.out.belowS hb)
  replace K1 := Lib.hid (K1.out.belowS hb)
  replace KR := Lib.hid (KR.out.belowS hb)
  replace HB := Lib.hid (Base.Below.nextA HB.out hb)
  replace HXX := Lib.hid (HXX.out.below hb)
  replace HYY := Lib.hid (HYY.out.below hb)
  obtain ⟨Ad, cd, rfl, _⟩ := Dig.form hd
  have HDD := Lib.hid hd
  clear hb hd
  have x0 := K0.out.at 0 (v := .bool s) rfl
  have y0 := K1.out.at 0 (v := .bool s') rfl
  have HLX : Hid ((bigL (n * d')).length ≤ m + m') := Lib.hid (Nat.le_trans (len_mul _ _) (by have := HL.out; omega))
  have HLY : Hid ((bigL (n' * d)).length ≤ m + m') := Lib.hid (Nat.le_trans (len_mul _ _) (by have := HL.out; omega))
  have hqa := qv_add (s := s) (s' := s') (n := n) (n' := n') (Nat.ne_of_gt HD.out.1) (Nat.ne_of_gt HD.out.2)
  rw [HV.out.1, HV.out.2] at hqa
  have HQA := Lib.hid hqa
  clear hqa
  by_cases hs : s = s'
  ·have hsb : (s == s') = true := by rw [hs]; simp
   have HVAL : Hid (qv s (n * d' + n' * d) (d * d') = q + r) := Lib.hid (by rw [HQA.out, if_pos hs])
   have HLEN : Hid ((bigL (n * d' + n' * d)).length ≤ m + m' + 1) := Lib.hid (len_sum HLX.out HLY.out)
   clear hs HQA
   go_wp2_with fail
   clear x0 y0 hsb
   have HQ : Hid (∀ W B1 j1 e1, IsB W (n * d' + n' * d) (.slice B1 j1 e1) → IsB W (d * d') (.slice Ad (bigL (d * d')).length cd) → IsW W (q + r) (m + m' + 1) (.agg #[.bool s, .slice B1 j1 e1, .slice Ad (bigL (d * d')).length cd, .bool false, .int .i64 0, .int .i64 0])) := Lib.hid fun W B1 j1 e1 g1 g2 =>
    ⟨_, B1, j1, e1, Ad, _, cd, false, 0, 0, _, _, rfl, ⟨g1, g2, Nat.mul_pos HD.out.1 HD.out.2, HVAL.out, HLEN.out, Nat.le_trans (len_mul _ _) (by have := HL.out; omega), fun h => by cases h⟩⟩
   refine Rel.wp_region_rel 7 (by kernel_rfl) (by kernel_rfl) (fun F hF => ?_)
   simp only [List.take_succ_cons, List.take_zero, List.drop_succ_cons, List.drop_zero, Rel.putL] at hF ⊢
   have HF := Lib.hid hF
   clear hF
   have uv := @Rel.upon_value Tryz.prog
   have ue := @Rel.upon_enter Tryz.prog
   apply Rel.rel_pure
   apply Exists.intro
   refine ⟨fun vs wq hq hdp R hR => ?_, ?_⟩
   ·(rw [HF.out, Rel.stepAt_eq]; clear hdp; skip; go_simp; exact hR)
   apply Rel.rel_pure
   apply Exists.intro
   refine ⟨fun vs wq hq hdp R hR => ?_, ?_⟩
   ·(rw [HF.out, Rel.stepAt_eq]; have qd0 : vs 0 = _ := Rel.dep hdp 0 (by kernel_rfl); clear hdp; have x0 := (K0.out.belowS hq).at 0 (v := .bool s) rfl; go_simp; exact hR)
   apply Rel.rel_pure
   apply Exists.intro
   refine ⟨fun vs wq hq hdp R hR => ?_, ?_⟩
   ·(rw [HF.out, Rel.stepAt_eq]; clear hdp; skip; go_simp; exact hR)
   apply Rel.rel_pure
   apply Exists.intro
   refine ⟨fun vs wq hq hdp R hR => ?_, ?_⟩
   ·(rw [HF.out, Rel.stepAt_eq]; clear hdp; skip; go_simp; exact hR)
   refine Rel.rel_law (S := fun v w' => IsB w' (n * d' + n' * d) v) (isB_mono _) (fun vs wq hq hdp => ?_) ?_
   ·(rw [HF.out, Rel.stepAt_eq]; have qd2 : vs 2 = _ := Rel.dep hdp 2 (by kernel_rfl); have qd3 : vs 3 = _ := Rel.dep hdp 3 (by kernel_rfl); clear hdp; skip; go_simp; refine (bigPlus_any wq (HXX.out.below hq) (HYY.out.below hq) (Nat.le_trans HLX.out (by omega)) (Nat.le_trans HLY.out (by omega))).mono ?_; rintro e w7 ⟨v, rfl, hv, hb⟩; exact ⟨_, rfl, hv, hb⟩)
   apply Rel.rel_pure
   apply Exists.intro
   refine ⟨fun vs wq hq hdp R hR => ?_, ?_⟩
   ·(rw [HF.out, Rel.stepAt_eq]; clear hdp; skip; go_simp; exact hR)
   refine Rel.rel_law (S := fun v w' => IsW w' (q + r) (m + m' + 1) v) (isW_mono _ _) (fun vs wq hq hdp => ?_) ?_
   ·(rw [HF.out, Rel.stepAt_eq]; have qd1 : vs 1 = _ := Rel.dep hdp 1 (by kernel_rfl); have qd4 : IsB wq _ (vs 4) := Rel.dep hdp 4 (by kernel_rfl); have qd5 : vs 5 = _ := Rel.dep hdp 5 (by kernel_rfl); clear hdp; obtain ⟨B1, e1, ev1, _⟩ := Dig.form qd4; have HPP := Lib.hid (HQ.out wq B1 _ e1 (by rw [← ev1]; exact qd4) (HDD.out.below hq)); go_simp; exact ⟨HPP.out, Below.refl _ _⟩)
   refine Rel.rel_end (fun vs wq hq hall => ?_)
   rw [HF.out]
   have qe0 : vs 0 = _ := Rel.fin hall 0 (by decide)
   have qe1 : vs 1 = _ := Rel.fin hall 1 (by decide)
   have qe2 : vs 2 = _ := Rel.fin hall 2 (by decide)
   have qe3 : vs 3 = _ := Rel.fin hall 3 (by decide)
   have qe4 : IsB wq _ (vs 4) := Rel.fin hall 4 (by decide)
   have qe5 : vs 5 = _ := Rel.fin hall 5 (by decide)
   have qe6 : IsW wq _ _ (vs 6) := Rel.fin hall 6 (by decide)
   clear hall HF uv ue
   obtain ⟨s, A1, k1, c1', A2, k2, c2', fine, fn, fd, nn, dd, ev, hpz⟩ := qe6
   have KRq := KR.out.belowS hq
   have HBq := Base.Below.nextA HB.out hq
   have HP2 := Lib.hid hpz
   clear hq hpz HP HP' K0 K1 HQ HDD HXX HYY
   have z0 := (KRq).frz 0
   have z1 := (KRq).frz 1
   have z2 := (KRq).frz 2
   have z3 := (KRq).frz 3
   have z4 := (KRq).frz 4
   have z5 := (KRq).frz 5
   have c0 := (KRq).at 0 (v := .bool false) rfl
   have c1 := (KRq).at 1 (v := .slice none 0 0) rfl
   have c2 := (KRq).at 2 (v := .slice none 0 0) rfl
   have c3 := (KRq).at 3 (v := .bool false) rfl
   have c4 := (KRq).at 4 (v := .int .i64 0) rfl
   have c5 := (KRq).at 5 (v := .int .i64 0) rfl
   have SS := put6_blk (KRq) (.bool s) (.slice A1 k1 c1') (.slice A2 k2 c2') (.bool fine) (.int .i64 fn) (.int .i64 fd)
   unfold put6 at SS
   have s0 := SS.at 0 rfl
   have s1 := SS.at 1 rfl
   have s2 := SS.at 2 rfl
   have s3 := SS.at 3 rfl
   have s4 := SS.at 4 rfl
   have s5 := SS.at 5 rfl
   have HFIN := Lib.hid (WRet.put (HP2.out) (KRq) (HBq) (by omega))
   clear SS
   go_wp2
   refine bodyPost_ret (v := .agg #[.bool s, .slice A1 k1 c1', .slice A2 k2 c2', .bool fine, .int .i64 fn, .int .i64 fd]) (by simp [results, Tryz.results67, go_sem, s0, s1, s2, s3, s4, s5]) rfl ?_
   exact HFIN.out
  ·have hsb : (s == s') = false := by simpa using hs
   go_wp2_with fail
   refine (bigCmp_any _ HXX.out HYY.out (Nat.le_trans HLX.out (by omega)) (Nat.le_trans HLY.out (by omega))).mono ?_
   rintro e wd ⟨rfl, hD⟩
   have hb := hD.below (B := wc.heap.size)
   clear hD x0 y0 hsb
   replace K0 := Lib.hid (K0.out.belowS hb)
   replace K1 := Lib.hid (K1.out.belowS hb)
   replace KR := Lib.hid (KR.out.belowS hb)
   replace HB := Lib.hid (Base.Below.nextA HB.out hb)
   replace HXX := Lib.hid (HXX.out.below hb)
   replace HYY := Lib.hid (HYY.out.below hb)
   replace HDD := Lib.hid (HDD.out.below hb)
   clear hb
   by_cases hl : n * d' < n' * d
   ·have hcm := cmpN_lt hl
    have HVAL : Hid (qv s' (n' * d - n * d') (d * d') = q + r) := Lib.hid (by rw [HQA.out, if_neg hs, if_pos hl])
    have HLEN : Hid ((bigL (n' * d - n * d')).length ≤ m + m' + 1) := Lib.hid (Nat.le_trans (len_mono (Nat.sub_le _ _)) (by have := HLY.out; omega))
    have HLL := Lib.hid (Nat.le_of_lt hl)
    generalize cmpN (n * d') (n' * d) = cm at *
    subst hcm
    clear hl hs HQA
    go_wp2_with fail
    have HQ : Hid (∀ W B1 j1 e1, IsB W (n' * d - n * d') (.slice B1 j1 e1) → IsB W (d * d') (.slice Ad (bigL (d * d')).length cd) → IsW W (q + r) (m + m' + 1) (.agg #[.bool s', .slice B1 j1 e1, .slice Ad (bigL (d * d')).length cd, .bool false, .int .i64 0, .int .i64 0])) := Lib.hid fun W B1 j1 e1 g1 g2 =>
     ⟨_, B1, j1, e1, Ad, _, cd, false, 0, 0, _, _, rfl, ⟨g1, g2, Nat.mul_pos HD.out.1 HD.out.2, HVAL.out, HLEN.out, Nat.le_trans (len_mul _ _) (by have := HL.out; omega), fun h => by cases h⟩⟩
    refine Rel.wp_region_rel 7 (by kernel_rfl) (by kernel_rfl) (fun F hF => ?_)
    simp only [List.take_succ_cons, List.take_zero, List.drop_succ_cons, List.drop_zero, Rel.putL] at hF ⊢
    have HF := Lib.hid hF
    clear hF
    have uv := @Rel.upon_value Tryz.prog
    have ue := @Rel.upon_enter Tryz.prog
    apply Rel.rel_pure
    apply Exists.intro
    refine ⟨fun vs wq hq hdp R hR => ?_, ?_⟩
    ·(rw [HF.out, Rel.stepAt_eq]; clear hdp; skip; go_simp; exact hR)
    apply Rel.rel_pure
    apply Exists.intro
    refine ⟨fun vs wq hq hdp R hR => ?_, ?_⟩
    ·(rw [HF.out, Rel.stepAt_eq]; have qd0 : vs 0 = _ := Rel.dep hdp 0 (by kernel_rfl); clear hdp; have x0 := (K1.out.belowS hq).at 0 (v := .bool s') rfl; go_simp; exact hR)
    apply Rel.rel_pure
    apply Exists.intro
    refine ⟨fun vs wq hq hdp R hR => ?_, ?_⟩
    ·(rw [HF.out, Rel.stepAt_eq]; clear hdp; skip; go_simp; exact hR)
    apply Rel.rel_pure
    apply Exists.intro
    refine ⟨fun vs wq hq hdp R hR => ?_, ?_⟩
    ·(rw [HF.out, Rel.stepAt_eq]; clear hdp; skip; go_simp; exact hR)
    refine Rel.rel_law (S := fun v w' => IsB w' (n' * d - n * d') v) (isB_mono _) (fun vs wq hq hdp => ?_) ?_
    ·(rw [HF.out, Rel.stepAt_eq]; have qd2 : vs 2 = _ := Rel.dep hdp 2 (by kernel_rfl); have qd3 : vs 3 = _ := Rel.dep hdp 3 (by kernel_rfl); clear hdp; skip; go_simp; refine (bigMinus_any wq (HYY.out.below hq) (HXX.out.below hq) (Nat.le_trans HLY.out (by omega)) HLL.out).mono ?_; rintro e w7 ⟨v, rfl, hv, hb⟩; exact ⟨_, rfl, hv, hb⟩)
    apply Rel.rel_pure
    apply Exists.intro
    refine ⟨fun vs wq hq hdp R hR => ?_, ?_⟩
    ·(rw [HF.out, Rel.stepAt_eq]; clear hdp; skip; go_simp; exact hR)
    refine Rel.rel_law (S := fun v w' => IsW w' (q + r) (m + m' + 1) v) (isW_mono _ _) (fun vs wq hq hdp => ?_) ?_
    ·(rw [HF.out, Rel.stepAt_eq]; have qd1 : vs 1 = _ := Rel.dep hdp 1 (by kernel_rfl); have qd4 : IsB wq _ (vs 4) := Rel.dep hdp 4 (by kernel_rfl); have qd5 : vs 5 = _ := Rel.dep hdp 5 (by kernel_rfl); clear hdp; obtain ⟨B1, e1, ev1, _⟩ := Dig.form qd4; have HPP := Lib.hid (HQ.out wq B1 _ e1 (by rw [← ev1]; exact qd4) (HDD.out.below hq)); go_simp; exact ⟨HPP.out, Below.refl _ _⟩)
    refine Rel.rel_end (fun vs wq hq hall => ?_)
    rw [HF.out]
    have qe0 : vs 0 = _ := Rel.fin hall 0 (by decide)
    have qe1 : vs 1 = _ := Rel.fin hall 1 (by decide)
    have qe2 : vs 2 = _ := Rel.fin hall 2 (by decide)
    have qe3 : vs 3 = _ := Rel.fin hall 3 (by decide)
    have qe4 : IsB wq _ (vs 4) := Rel.fin hall 4 (by decide)
    have qe5 : vs 5 = _ := Rel.fin hall 5 (by decide)
    have qe6 : IsW wq _ _ (vs 6) := Rel.fin hall 6 (by decide)
    clear hall HF uv ue
    obtain ⟨s, A1, k1, c1', A2, k2, c2', fine, fn, fd, nn, dd, ev, hpz⟩ := qe6
    have KRq := KR.out.belowS hq
    have HBq := Base.Below.nextA HB.out hq
    have HP2 := Lib.hid hpz
    clear hq hpz HP HP' K0 K1 HQ HDD HXX HYY
    have z0 := (KRq).frz 0
    have z1 := (KRq).frz 1
    have z2 := (KRq).frz 2
    have z3 := (KRq).frz 3
    have z4 := (KRq).frz 4
    have z5 := (KRq).frz 5
    have c0 := (KRq).at 0 (v := .bool false) rfl
    have c1 := (KRq).at 1 (v := .slice none 0 0) rfl
    have c2 := (KRq).at 2 (v := .slice none 0 0) rfl
    have c3 := (KRq).at 3 (v := .bool false) rfl
    have c4 := (KRq).at 4 (v := .int .i64 0) rfl
    have c5 := (KRq).at 5 (v := .int .i64 0) rfl
    have SS := put6_blk (KRq) (.bool s) (.slice A1 k1 c1') (.slice A2 k2 c2') (.bool fine) (.int .i64 fn) (.int .i64 fd)
    unfold put6 at SS
    have s0 := SS.at 0 rfl
    have s1 := SS.at 1 rfl
    have s2 := SS.at 2 rfl
    have s3 := SS.at 3 rfl
    have s4 := SS.at 4 rfl
    have s5 := SS.at 5 rfl
    have HFIN := Lib.hid (WRet.put (HP2.out) (KRq) (HBq) (by omega))
    clear SS
    go_wp2
    refine bodyPost_ret (v := .agg #[.bool s, .slice A1 k1 c1', .slice A2 k2 c2', .bool fine, .int .i64 fn, .int .i64 fd]) (by simp [results, Tryz.results67, go_sem, s0, s1, s2, s3, s4, s5]) rfl ?_
    exact HFIN.out
   ·have hcm := cmpN_ge (show n' * d ≤ n * d' by omega)
    have HVAL : Hid (qv s (n * d' - n' * d) (d * d') = q + r) := Lib.hid (by rw [HQA.out, if_neg hs, if_neg hl])
    have HLEN : Hid ((bigL (n * d' - n' * d)).length ≤ m + m' + 1) := Lib.hid (Nat.le_trans (len_mono (Nat.sub_le _ _)) (by have := HLX.out; omega))
    have HLL := Lib.hid (show n' * d ≤ n * d' by omega)
    have hcm2 : ¬ cmpN (n * d') (n' * d) < 0 := by omega
    generalize cmpN (n * d') (n' * d) = cm at *
    clear hl hs HQA
    go_wp2_with fail
    have HQ : Hid (∀ W B1 j1 e1, IsB W (n * d' - n' * d) (.slice B1 j1 e1) → IsB W (d * d') (.slice Ad (bigL (d * d')).length cd) → IsW W (q + r) (m + m' + 1) (.agg #[.bool s, .slice B1 j1 e1, .slice Ad (bigL (d * d')).length cd, .bool false, .int .i64 0, .int .i64 0])) := Lib.hid fun W B1 j1 e1 g1 g2 =>
     ⟨_, B1, j1, e1, Ad, _, cd, false, 0, 0, _, _, rfl, ⟨g1, g2, Nat.mul_pos HD.out.1 HD.out.2, HVAL.out, HLEN.out, Nat.le_trans (len_mul _ _) (by have := HL.out; omega), fun h => by cases h⟩⟩
    refine Rel.wp_region_rel 7 (by kernel_rfl) (by kernel_rfl) (fun F hF => ?_)
    simp only [List.take_succ_cons, List.take_zero, List.drop_succ_cons, List.drop_zero, Rel.putL] at hF ⊢
    have HF := Lib.hid hF
    clear hF
    have uv := @Rel.upon_value Tryz.prog
    have ue := @Rel.upon_enter Tryz.prog
    apply Rel.rel_pure
    apply Exists.intro
    refine ⟨fun vs wq hq hdp R hR => ?_, ?_⟩
    ·(rw [HF.out, Rel.stepAt_eq]; clear hdp; skip; go_simp; exact hR)
    apply Rel.rel_pure
    apply Exists.intro
    refine ⟨fun vs wq hq hdp R hR => ?_, ?_⟩
    ·(rw [HF.out, Rel.stepAt_eq]; have qd0 : vs 0 = _ := Rel.dep hdp 0 (by kernel_rfl); clear hdp; have x0 := (K0.out.belowS hq).at 0 (v := .bool s) rfl; go_simp; exact hR)
    apply Rel.rel_pure
    apply Exists.intro
    refine ⟨fun vs wq hq hdp R hR => ?_, ?_⟩
    ·(rw [HF.out, Rel.stepAt_eq]; clear hdp; skip; go_simp; exact hR)
    apply Rel.rel_pure
    apply Exists.intro
    refine ⟨fun vs wq hq hdp R hR => ?_, ?_⟩
    ·(rw [HF.out, Rel.stepAt_eq]; clear hdp; skip; go_simp; exact hR)
    refine Rel.rel_law (S := fun v w' => IsB w' (n * d' - n' * d) v) (isB_mono _) (fun vs wq hq hdp => ?_) ?_
    ·(rw [HF.out, Rel.stepAt_eq]; have qd2 : vs 2 = _ := Rel.dep hdp 2 (by kernel_rfl); have qd3 : vs 3 = _ := Rel.dep hdp 3 (by kernel_rfl); clear hdp; skip; go_simp; refine (bigMinus_any wq (HXX.out.below hq) (HYY.out.below hq) (Nat.le_trans HLX.out (by omega)) HLL.out).mono ?_; rintro e w7 ⟨v, rfl, hv, hb⟩; exact ⟨_, rfl, hv, hb⟩)
    apply Rel.rel_pure
    apply Exists.intro
    refine ⟨fun vs wq hq hdp R hR => ?_, ?_⟩
    ·(rw [HF.out, Rel.stepAt_eq]; clear hdp; skip; go_simp; exact hR)
    refine Rel.rel_law (S := fun v w' => IsW w' (q + r) (m + m' + 1) v) (isW_mono _ _) (fun vs wq hq hdp => ?_) ?_
    ·(rw [HF.out, Rel.stepAt_eq]; have qd1 : vs 1 = _ := Rel.dep hdp 1 (by kernel_rfl); have qd4 : IsB wq _ (vs 4) := Rel.dep hdp 4 (by kernel_rfl); have qd5 : vs 5 = _ := Rel.dep hdp 5 (by kernel_rfl); clear hdp; obtain ⟨B1, e1, ev1, _⟩ := Dig.form qd4; have HPP := Lib.hid (HQ.out wq B1 _ e1 (by rw [← ev1]; exact qd4) (HDD.out.below hq)); go_simp; exact ⟨HPP.out, Below.refl _ _⟩)
    refine Rel.rel_end (fun vs wq hq hall => ?_)
    rw [HF.out]
    have qe0 : vs 0 = _ := Rel.fin hall 0 (by decide)
    have qe1 : vs 1 = _ := Rel.fin hall 1 (by decide)
    have qe2 : vs 2 = _ := Rel.fin hall 2 (by decide)
    have qe3 : vs 3 = _ := Rel.fin hall 3 (by decide)
    have qe4 : IsB wq _ (vs 4) := Rel.fin hall 4 (by decide)
    have qe5 : vs 5 = _ := Rel.fin hall 5 (by decide)
    have qe6 : IsW wq _ _ (vs 6) := Rel.fin hall 6 (by decide)
    clear hall HF uv ue
    obtain ⟨s, A1, k1, c1', A2, k2, c2', fine, fn, fd, nn, dd, ev, hpz⟩ := qe6
    have KRq := KR.out.belowS hq
    have HBq := Base.Below.nextA HB.out hq
    have HP2 := Lib.hid hpz
    clear hq hpz HP HP' K0 K1 HQ HDD HXX HYY
    have z0 := (KRq).frz 0
    have z1 := (KRq).frz 1
    have z2 := (KRq).frz 2
    have z3 := (KRq).frz 3
    have z4 := (KRq).frz 4
    have z5 := (KRq).frz 5
    have c0 := (KRq).at 0 (v := .bool false) rfl
    have c1 := (KRq).at 1 (v := .slice none 0 0) rfl
    have c2 := (KRq).at 2 (v := .slice none 0 0) rfl
    have c3 := (KRq).at 3 (v := .bool false) rfl
    have c4 := (KRq).at 4 (v := .int .i64 0) rfl
    have c5 := (KRq).at 5 (v := .int .i64 0) rfl
    have SS := put6_blk (KRq) (.bool s) (.slice A1 k1 c1') (.slice A2 k2 c2') (.bool fine) (.int .i64 fn) (.int .i64 fd)
    unfold put6 at SS
    have s0 := SS.at 0 rfl
    have s1 := SS.at 1 rfl
    have s2 := SS.at 2 rfl
    have s3 := SS.at 3 rfl
    have s4 := SS.at 4 rfl
    have s5 := SS.at 5 rfl
    have HFIN := Lib.hid (WRet.put (HP2.out) (KRq) (HBq) (by omega))
    clear SS
    go_wp2
    refine bodyPost_ret (v := .agg #[.bool s, .slice A1 k1 c1', .slice A2 k2 c2', .bool fine, .int .i64 fn, .int .i64 fd]) (by simp [results, Tryz.results67, go_sem, s0, s1, s2, s3, s4, s5]) rfl ?_
    exact HFIN.out
theorem wideAdd_any {q r : Rat} {m m' : Nat} {v u : Value} (w : World) (hv : IsW w q m v) (hu : IsW w r m' u) (hm : m ≤ 400000) (hm' : m' ≤ 400000) (h2 : 2 ≤ m) (h2' : 2 ≤ m') : Calls Tryz.prog 67 #[v, u] w (WRet (q + r) (m + m' + 1) w) := by
 obtain ⟨s, A1, k1, c1, A2, k2, c2, fa, fn, fd, n, d, rfl, hp⟩ := hv
 obtain ⟨s', A3, k3, c3, A4, k4, c4, fb, gn, gd, n', d', rfl, hp'⟩ := hu
 cases hf : (fa && fb) with
 | false => exact wideAdd_no w hp hp' hf hm hm' h2 h2'
 | true =>
  rw [Bool.and_eq_true] at hf
  obtain ⟨rfl, rfl⟩ := hf
  exact wideAdd_yes w hp hp' hm hm' h2 h2'
end Go.Proofs.YthagenodiofgnaaGreat.Wide
