/- The reference's small fractions: sums. -/
import Derived.Test.YtcimmgpmkfbpdaaGreatDoorMgStr14
import Derived.Deep.Cut
namespace Go.Proofs.YtcimmgpmkfbpdaaGreatDoor.Fine
open Go.RowKit Go.Proofs.YtcimmgpmkfbpdaaGreatDoor Go.Proofs.YtcimmgpmkfbpdaaGreatDoor.Base Go.Proofs.YtcimmgpmkfbpdaaGreatDoor.Mem Go.Proofs.YtcimmgpmkfbpdaaGreatDoor.RatM Go.Proofs.YtcimmgpmkfbpdaaGreatDoor.Two Go.Proofs.YtcimmgpmkfbpdaaGreatDoor.Blk
set_option linter.unusedVariables false
def addT (s1 s2 : Bool) (x y : Nat) : Nat := if s1 = s2 then x + y else if x < y then y - x else x - y
def addS (s1 s2 : Bool) (x y : Nat) : Bool := if s1 = s2 then s1 else if x < y then s2 else s1
theorem add_parts {n1 n2 : Int} {d1 d2 : Nat} (h1 : VF n1 d1) (h2 : VF n2 d2) {D x y t R G Q M b1 b2 c : Nat} (hD : D = Nat.gcd d1 d2) (hb2 : b2 = d2 / D) (hb1 : b1 = d1 / D) (hx : x = n1.natAbs * b2) (hy : y = n2.natAbs * b1)
    (ht : t = addT (decide (n1 < 0)) (decide (n2 < 0)) x y) (hR : R = t % D) (hG : G = Nat.gcd D R) (hQ : Q = t / G) (hc : c = d2 / G) (hM : M = b1 * c) :
    0 < D ∧ D ≤ 1000000000000000000 ∧ b1 ≤ 1000000000000000000 ∧ b2 ≤ 1000000000000000000 ∧ x ≤ 1000000000000000000000000000000000000 ∧ y ≤ 1000000000000000000000000000000000000 ∧ t ≤ 2000000000000000000000000000000000000 ∧ R ≤ 1000000000000000000 ∧ 0 < G ∧ G ≤ 1000000000000000000 ∧ c ≤ 1000000000000000000 ∧
    (qf n1 d1 + qf n2 d2).num.natAbs = Q ∧ (qf n1 d1 + qf n2 d2).den = M ∧ (addS (decide (n1 < 0)) (decide (n2 < 0)) x y = false → (qf n1 d1 + qf n2 d2).num = (Q : Int)) ∧ (addS (decide (n1 < 0)) (decide (n2 < 0)) x y = true → (qf n1 d1 + qf n2 d2).num = -(Q : Int)) ∧ (Q = 0 → M = 1) := by
  obtain ⟨a1, a2, a3, a4, a5⟩ := h1
  obtain ⟨g1, g2, g3, g4, g5⟩ := h2
  rw [Int.toNat_natCast] at a5 g5
  have hd1 : 0 < d1 := by omega
  have hd2 : 0 < d2 := by omega
  have hD0 : 0 < D := by rw [hD]; exact Nat.gcd_pos_of_pos_left _ hd1
  have hDle : D ≤ d1 := by rw [hD]; exact Nat.gcd_le_left _ hd1
  have hG0 : 0 < G := by rw [hG]; exact Nat.gcd_pos_of_pos_left _ hD0
  have hGle : G ≤ D := by rw [hG]; exact Nat.gcd_le_left _ hD0
  have l1 : b1 ≤ d1 := by rw [hb1]; exact Nat.div_le_self _ _
  have l2 : b2 ≤ d2 := by rw [hb2]; exact Nat.div_le_self _ _
  have l3 : c ≤ d2 := by rw [hc]; exact Nat.div_le_self _ _
  have lx : x ≤ 1000000000000000000 * 1000000000000000000 := by rw [hx]; exact Nat.mul_le_mul (by omega) (by omega)
  have ly : y ≤ 1000000000000000000 * 1000000000000000000 := by rw [hy]; exact Nat.mul_le_mul (by omega) (by omega)
  have lt : t ≤ x + y := by rw [ht]; unfold addT; split; · omega
                            · split <;> omega
  have lR : R < D := by rw [hR]; exact Nat.mod_lt _ hD0
  obtain ⟨t1, t2⟩ := sum_t (n1 := n1.natAbs) (n2 := n2.natAbs) hd1 hD
  rw [← hb2, ← hx] at t1
  rw [← hb1, ← hy] at t2
  have hcop : Nat.gcd Q M = 1 := by
    rw [hQ, hM, hc, hG, hR, hb1]
    refine sum_cop hd1 hd2 a5 g5 hD ?_
    rw [← hb2, ← hb1, ← hx, ← hy, ht]
    unfold addT
    split
    · exact .inl rfl
    · split
      · exact .inr (.inr (by omega))
      · exact .inr (.inl (by omega))
  have hval : qf n1 d1 + qf n2 d2 = qv (addS (decide (n1 < 0)) (decide (n2 < 0)) x y) Q M := by
    have e := sum_val (addS (decide (n1 < 0)) (decide (n2 < 0)) x y) (t := t) hd1 hd2 hD
    rw [← hR, ← hG, ← hQ, ← hb1, ← hc, ← hM] at e
    rw [e]
    unfold qf
    rw [Int.toNat_natCast, Int.toNat_natCast, qv_add (by omega) (by omega), ← t1, ← t2, ht]
    unfold addS addT
    by_cases hs : decide (n1 < 0) = decide (n2 < 0)
    · simp only [hs, if_true]
      rw [Nat.add_mul]
    · simp only [hs, if_false]
      by_cases hl : x < y
      · have : x * D < y * D := (Nat.mul_lt_mul_right hD0).2 hl
        simp only [hl, this, if_true]
        rw [Nat.sub_mul]
      · have : ¬ x * D < y * D := fun h => hl ((Nat.mul_lt_mul_right hD0).1 h)
        simp only [hl, this, if_false]
        rw [Nat.sub_mul]
  have hM0 : M ≠ 0 := by
    rw [hM]
    refine Nat.mul_ne_zero ?_ ?_
    · rw [hb1]; exact Nat.ne_of_gt (Nat.div_pos hDle hD0)
    · rw [hc]; refine Nat.ne_of_gt (Nat.div_pos ?_ hG0)
      have : D ≤ d2 := by rw [hD]; exact Nat.gcd_le_right _ hd2
      omega
  obtain ⟨k1, k2⟩ := low_of (s := addS (decide (n1 < 0)) (decide (n2 < 0)) x y) hM0 hcop
  have k0 := (own_num (s := addS (decide (n1 < 0)) (decide (n2 < 0)) x y) hM0 hcop).1
  refine ⟨hD0, by omega, by omega, by omega, lx, ly, by omega, by omega, hG0, by omega, by omega, by rw [hval, k0], by rw [hval, k2], fun h => ?_, fun h => ?_, fun h => ?_⟩
  · rw [hval, k1, h]; rfl
  · rw [hval, k1, h]; rfl
  · rw [h, Nat.gcd_zero_left] at hcop; exact hcop
theorem addEnd {q : Rat} {Q M : Nat} {i1 i2 : Int} {o1 o2 s : Bool} (hnum : q.num.natAbs = Q) (hden : q.den = M) (f1 : o1 = decide (Q ≤ 1000000000000000000)) (f2 : o1 = true → i1 = (Q : Int)) (f3 : o2 = decide (M ≤ 1000000000000000000)) (f4 : o2 = true → i2 = (M : Int))
  (hpos : s = false → q.num = (Q : Int)) (hneg : s = true → q.num = -(Q : Int)) (hone : Q = 0 → M = 1) :
  (o1 = false ∨ o2 = false → smallQ q = false ∧ numQ q = 0 ∧ denQ q = 0) ∧ (o1 = true → o2 = true → smallQ q = true ∧ denQ q = i2 ∧ (s = false → numQ q = i1) ∧ (s = true → numQ q = -i1) ∧ 0 ≤ i1 ∧ i1 ≤ 1000000000000000000 ∧ (i1 = 0 → i2 = 1)) := by
 refine ⟨fun h => small_no ?_, fun e1 e2 => ?_⟩
 ·rw [hnum, hden]
  rcases h with h | h
  ·rw [f1] at h; exact .inl (of_decide_eq_false h)
  ·rw [f3] at h; exact .inr (of_decide_eq_false h)
 ·have k1 := f2 e1
  have k2 := f4 e2
  rw [f1] at e1
  rw [f3] at e2
  have l1 := of_decide_eq_true e1
  have l2 := of_decide_eq_true e2
  obtain ⟨g1, g2, g3⟩ := small_yes (q := q) (by rw [hnum]; exact l1) (by rw [hden]; exact l2)
  refine ⟨g1, by rw [g3, k2, hden], fun hs => ?_, fun hs => ?_, by omega, by omega, fun h => ?_⟩
  ·rw [g2, hpos hs, k1]
  ·rw [g2, hneg hs, k1]
  ·rw [k2, hone (by omega)]; rfl
set_option maxHeartbeats 4000000 in
set_option maxRecDepth 100000 in
theorem fAdd_same {n1 n2 : Int} {d1 d2 : Nat} (h1 : VF n1 d1) (h2 : VF n2 d2) (hs : decide (n1 < 0) = decide (n2 < 0)) (w : World) : Calls Tryz.prog 111 #[.agg #[.int .i64 n1, .int .i64 (d1 : Int)], .agg #[.int .i64 n2, .int .i64 (d2 : Int)]] w (FRet (qf n1 d1 + qf n2 d2) w) := by
 obtain ⟨D, hD⟩ : ∃ D, D = Nat.gcd d1 d2 := ⟨_, rfl⟩
 obtain ⟨b2, hb2⟩ : ∃ b2, b2 = d2 / D := ⟨_, rfl⟩
 obtain ⟨b1, hb1⟩ : ∃ b1, b1 = d1 / D := ⟨_, rfl⟩
 obtain ⟨x, hx⟩ : ∃ x, x = n1.natAbs * b2 := ⟨_, rfl⟩
 obtain ⟨y, hy⟩ : ∃ y, y = n2.natAbs * b1 := ⟨_, rfl⟩
 obtain ⟨t, ht⟩ : ∃ t, t = addT (decide (n1 < 0)) (decide (n2 < 0)) x y := ⟨_, rfl⟩
 obtain ⟨R, hR⟩ : ∃ R, R = t % D := ⟨_, rfl⟩
 obtain ⟨G, hG⟩ : ∃ G, G = Nat.gcd D R := ⟨_, rfl⟩
 obtain ⟨Q, hQ⟩ : ∃ Q, Q = t / G := ⟨_, rfl⟩
 obtain ⟨c, hc⟩ : ∃ c, c = d2 / G := ⟨_, rfl⟩
 obtain ⟨M, hM⟩ : ∃ M, M = b1 * c := ⟨_, rfl⟩
 obtain ⟨p1, p2, p3, p4, p5, p6, p7, p8, p9, p10, p11, hnum, hden, hpos, hneg, hone⟩ := add_parts h1 h2 hD hb2 hb1 hx hy ht hR hG hQ hc hM
 obtain ⟨i1, o1, f1, f2, HS1⟩ := smallE Q
 obtain ⟨i2, o2, f3, f4, HS2⟩ := smallE M
 have hb120 := And.intro p5 p6
 have HG1 := Lib.hid (fun W => gcdG d1 d2 (by have := h1.2.1; omega) (by have := h2.2.1; omega) W)
 have HG2 := Lib.hid (fun W => gcdG D R p2 p8 W)
 have HX1 := Lib.hid (fun W => maxG n1 h1.2.2.1 h1.2.2.2.1 W)
 have HX2 := Lib.hid (fun W => maxG n2 h2.2.2.1 h2.2.2.2.1 W)
 have HT1 := Lib.hid (fun W => times_any n1.natAbs b2 (by have := h1.2.2.1; have := h1.2.2.2.1; omega) p4 W)
 have HT2 := Lib.hid (fun W => times_any n2.natAbs b1 (by have := h2.2.2.1; have := h2.2.2.2.1; omega) p3 W)
 have HT3 := Lib.hid (fun W => times_any b1 c p3 p11 W)
 have HSp1 := Lib.hid (fun W => split_any t D (Nat.lt_of_le_of_lt p7 (by decide)) p1 p2 W)
 have HSp2 := Lib.hid (fun W => split_any t G (Nat.lt_of_le_of_lt p7 (by decide)) p9 p10 W)
 rw [← hD] at HG1
 rw [← hG] at HG2
 rw [← hx] at HT1
 rw [← hy] at HT2
 rw [← hM] at HT3
 rw [← hR] at HSp1
 rw [← hQ] at HSp2
 have hq1 : (d2 : Int) / (D : Int) = (b2 : Int) := by rw [hb2]; simp
 have hq2 : (d1 : Int) / (D : Int) = (b1 : Int) := by rw [hb1]; simp
 have hq3 : (d2 : Int) / (G : Int) = (c : Int) := by rw [hc]; simp
 have HE := Lib.hid (addEnd hnum hden f1 f2 f3 f4 hpos hneg hone)
 have HTT := Lib.hid ht
 have r1 := h1.2.2.1
 have r2 := h1.2.2.2.1
 have r3 := h2.2.2.1
 have r4 := h2.2.2.2.1
 have r5 := h1.1
 have r6 := h2.1
 have r7 : d1 ≤ 1000000000000000000 := by have := h1.2.1; omega
 have r8 : d2 ≤ 1000000000000000000 := by have := h2.2.1; omega
 have HSG := Lib.hid hs
 clear hs
 clear hnum hden f1 f2 f3 f4 hpos hneg hone hD hb2 hb1 hx hy ht hR hG hQ hc hM h1 h2 p5 p6 p7
 generalize qf n1 d1 + qf n2 d2 = q at *
 generalize n1.natAbs = A1 at *
 generalize n2.natAbs = A2 at *
 have vb1 : IntKind.i64.wrap (b1 : Int) = (b1 : Int) := by rw [IntKind.wrap_i64]; omega
 have vb2 : IntKind.i64.wrap (b2 : Int) = (b2 : Int) := by rw [IntKind.wrap_i64]; omega
 have vc : IntKind.i64.wrap (c : Int) = (c : Int) := by rw [IntKind.wrap_i64]; omega
 have hw1 : IntKind.i64.wrap (-n1) = -n1 := by rw [IntKind.wrap_i64]; omega
 have hw2 : IntKind.i64.wrap (-n2) = -n2 := by rw [IntKind.wrap_i64]; omega
 obtain ⟨W3, hW3⟩ : ∃ W3, W3 = ((w.alloc (.cells #[.int .i64 n1, .int .i64 (d1 : Int)] 52)).alloc (.cells #[.int .i64 n2, .int .i64 (d2 : Int)] 52)).alloc (.cells #[.int .i64 0, .int .i64 0] 52) := ⟨_, rfl⟩
 have K0 : Hid (Blk W3 w.heap.size 52 #[.int .i64 n1, .int .i64 (d1 : Int)]) := Lib.hid (by rw [hW3]; exact ((Blk.new w _ _).alloc _).alloc _)
 have K1 : Hid (Blk W3 (w.heap.size + 1) 52 #[.int .i64 n2, .int .i64 (d2 : Int)]) := Lib.hid (by rw [hW3]; exact (Blk.newAt _ _ (by simp)).alloc _)
 have KR : Hid (Blk W3 (w.heap.size + 1 + 1) 52 #[.int .i64 0, .int .i64 0]) := Lib.hid (by rw [hW3]; exact Blk.newAt _ _ (by simp))
 have HB : Hid (Below w.heap.size w W3) := Lib.hid (by rw [hW3]; exact (((Below.refl _ _).alloc (Nat.le_refl _) _).alloc (by simp) _).alloc (by simp; omega) _)
 have HW := Lib.hid hW3
 clear hW3
 obtain ⟨xh, xl, ex⟩ : ∃ xh xl : Nat, two x = .agg #[.int .u64 (xh : Int), .int .u64 (xl : Int)] := ⟨_, _, rfl⟩
 obtain ⟨yh, yl, ey⟩ : ∃ yh yl : Nat, two y = .agg #[.int .u64 (yh : Int), .int .u64 (yl : Int)] := ⟨_, _, rfl⟩
 obtain ⟨th, tl, et⟩ : ∃ th tl : Nat, two t = .agg #[.int .u64 (th : Int), .int .u64 (tl : Int)] := ⟨_, _, rfl⟩
 obtain ⟨qh, ql, eq2⟩ : ∃ qh ql : Nat, two Q = .agg #[.int .u64 (qh : Int), .int .u64 (ql : Int)] := ⟨_, _, rfl⟩
 obtain ⟨mh, ml, em⟩ : ∃ mh ml : Nat, two M = .agg #[.int .u64 (mh : Int), .int .u64 (ml : Int)] := ⟨_, _, rfl⟩
 obtain ⟨kh, kl, ek⟩ : ∃ kh kl : Nat, two (t / D) = .agg #[.int .u64 (kh : Int), .int .u64 (kl : Int)] := ⟨_, _, rfl⟩
 obtain ⟨R2, hR2⟩ : ∃ R2, R2 = t % G := ⟨_, rfl⟩
 rw [ex] at HT1
 rw [ey] at HT2
 rw [em] at HT3 HS2
 rw [et, ek] at HSp1
 rw [et, eq2, ← hR2] at HSp2
 rw [eq2] at HS1
 have HMid := Lib.hid (fun W => plus_any x y (by have := hb120.1; omega) (by have := hb120.2; omega) W)
 rw [show x + y = t by rw [HTT.out]; unfold addT; rw [if_pos HSG.out]] at HMid
 rw [ex, ey, et] at HMid
 have hsb : (decide (n1 < 0) == decide (n2 < 0)) = true := by rw [HSG.out]; simp
 clear ex ey et eq2 em ek hR2
 have hD0 : ¬ D = 0 := by omega
 have hG0 : ¬ G = 0 := by omega
 go_enter Tryz.func111, Tryz.ntmps111
 go_wp2_with fail
 rw [← HW.out]
 refine (HG1.out _).mono ?_
 rintro e w' ⟨rfl, rfl⟩
 have a0 := K0.out.at 0 (v := .int .i64 n1) rfl
 have a1 := K0.out.at 1 (v := .int .i64 (d1 : Int)) rfl
 have a2 := K1.out.at 0 (v := .int .i64 n2) rfl
 have a3 := K1.out.at 1 (v := .int .i64 (d2 : Int)) rfl
 go_wp2_with fail
 refine Rel.wp_region_rel 12 (by kernel_rfl) (by kernel_rfl) (fun F hF => ?_)
 simp only [List.take_succ_cons, List.take_zero, List.drop_succ_cons, List.drop_zero, Rel.putL] at hF ⊢
 have HF := Lib.hid hF
 clear hF
 have uv := @Rel.upon_value Tryz.prog
 have ue := @Rel.upon_enter Tryz.prog
 apply Rel.rel_pure
 apply Exists.intro
 refine ⟨fun vs wq hq hdp R hR => ?_, ?_⟩
 ·(rw [HF.out, Rel.stepAt_eq]; clear hdp; skip; go_simp; exact hR)
 apply Rel.rel_pure
 apply Exists.intro
 refine ⟨fun vs wq hq hdp R hR => ?_, ?_⟩
 ·(rw [HF.out, Rel.stepAt_eq]; have qd0 : vs 0 = _ := Rel.dep hdp 0 (by kernel_rfl); clear hdp; have x0 := (K0.out.belowS hq).at 0 (v := .int .i64 n1) rfl; have x1 := (K1.out.belowS hq).at 1 (v := .int .i64 (d2 : Int)) rfl; go_simp; exact hR)
 apply Rel.rel_pure
 apply Exists.intro
 refine ⟨fun vs wq hq hdp R hR => ?_, ?_⟩
 ·(rw [HF.out, Rel.stepAt_eq]; clear hdp; skip; go_simp; exact hR)
 apply Rel.rel_pure
 apply Exists.intro
 refine ⟨fun vs wq hq hdp R hR => ?_, ?_⟩
 ·(rw [HF.out, Rel.stepAt_eq]; have qd2 : vs 2 = _ := Rel.dep hdp 2 (by kernel_rfl); clear hdp; have x0 := (K0.out.belowS hq).at 0 (v := .int .i64 n1) rfl; have x1 := (K1.out.belowS hq).at 1 (v := .int .i64 (d2 : Int)) rfl; go_simp; exact hR)
 apply Rel.rel_pure
 apply Exists.intro
 refine ⟨fun vs wq hq hdp R hR => ?_, ?_⟩
 ·(rw [HF.out, Rel.stepAt_eq]; have qd3 : vs 3 = _ := Rel.dep hdp 3 (by kernel_rfl); clear hdp; skip; go_simp; exact hR)
 apply Rel.rel_same
 apply Exists.intro
 refine ⟨fun vs wq hq hdp => ?_, ?_⟩
 ·(rw [HF.out, Rel.stepAt_eq]; have qd1 : vs 1 = _ := Rel.dep hdp 1 (by kernel_rfl); have qd4 : vs 4 = _ := Rel.dep hdp 4 (by kernel_rfl); clear hdp; skip; go_simp; refine (HX1.out _).mono ?_; rintro e w7 ⟨rfl, rfl⟩; exact ⟨_, rfl, rfl, Below.refl _ _⟩)
 apply Rel.rel_pure
 apply Exists.intro
 refine ⟨fun vs wq hq hdp R hR => ?_, ?_⟩
 ·(rw [HF.out, Rel.stepAt_eq]; clear hdp; skip; go_simp; exact hR)
 apply Rel.rel_pure
 apply Exists.intro
 refine ⟨fun vs wq hq hdp R hR => ?_, ?_⟩
 ·(rw [HF.out, Rel.stepAt_eq]; have qd6 : vs 6 = _ := Rel.dep hdp 6 (by kernel_rfl); clear hdp; have x0 := (K0.out.belowS hq).at 0 (v := .int .i64 n1) rfl; have x1 := (K1.out.belowS hq).at 1 (v := .int .i64 (d2 : Int)) rfl; go_simp; exact hR)
 apply Rel.rel_pure
 apply Exists.intro
 refine ⟨fun vs wq hq hdp R hR => ?_, ?_⟩
 ·(rw [HF.out, Rel.stepAt_eq]; clear hdp; skip; go_simp; exact hR)
 apply Rel.rel_pure
 apply Exists.intro
 refine ⟨fun vs wq hq hdp R hR => ?_, ?_⟩
 ·(rw [HF.out, Rel.stepAt_eq]; have qd7 : vs 7 = _ := Rel.dep hdp 7 (by kernel_rfl); have qd8 : vs 8 = _ := Rel.dep hdp 8 (by kernel_rfl); clear hdp; skip; go_simp; exact hR)
 apply Rel.rel_same
 apply Exists.intro
 refine ⟨fun vs wq hq hdp => ?_, ?_⟩
 ·(rw [HF.out, Rel.stepAt_eq]; have qd5 : vs 5 = _ := Rel.dep hdp 5 (by kernel_rfl); have qd9 : vs 9 = _ := Rel.dep hdp 9 (by kernel_rfl); clear hdp; skip; go_simp; refine (HT1.out _).mono ?_; rintro e w7 ⟨rfl, hb7⟩; exact ⟨_, rfl, rfl, hb7⟩)
 refine Rel.rel_alloc (cs := #[.int .u64 0, .int .u64 0]) (t := 127) (fun vs wq hq hdp R hR => ?_) ?_
 ·(rw [HF.out, Rel.stepAt_eq]; clear hdp; go_simp; exact hR)
 refine Rel.rel_end (fun vs wq hq hall => ?_)
 rw [HF.out]
 have qe0 : vs 0 = _ := Rel.fin hall 0 (by decide)
 have qe1 : vs 1 = _ := Rel.fin hall 1 (by decide)
 have qe2 : vs 2 = _ := Rel.fin hall 2 (by decide)
 have qe3 : vs 3 = _ := Rel.fin hall 3 (by decide)
 have qe4 : vs 4 = _ := Rel.fin hall 4 (by decide)
 have qe5 : vs 5 = _ := Rel.fin hall 5 (by decide)
 have qe6 : vs 6 = _ := Rel.fin hall 6 (by decide)
 have qe7 : vs 7 = _ := Rel.fin hall 7 (by decide)
 have qe8 : vs 8 = _ := Rel.fin hall 8 (by decide)
 have qe9 : vs 9 = _ := Rel.fin hall 9 (by decide)
 have qe10 : vs 10 = _ := Rel.fin hall 10 (by decide)
 have qe11 : Rel.NewB _ _ _ (vs 11) wq := Rel.fin hall 11 (by decide)
 clear hall HF uv ue
 obtain ⟨g7, qgg7, hBg7, hkg7⟩ := qe11
 have kg7 : Blk wq g7 127 #[.int .u64 0, .int .u64 0] := hkg7
 have z0 := kg7.frz 0
 have z1 := kg7.frz 1
 have c0 := kg7.at 0 (v := .int .u64 0) rfl
 have c1 := kg7.at 1 (v := .int .u64 0) rfl
 have K0a := K0.out.belowS hq
 have K1a := K1.out.belowS hq
 have KRa := KR.out.belowS hq
 have HBa := Lib.hid (Base.Below.nextA HB.out hq)
 have l0 := K0.out.lt
 have l1 := K1.out.lt
 have lR := KR.out.lt
 have KK := Lib.hid (And.intro K0a (And.intro K1a (And.intro KRa (And.intro kg7 (And.intro hBg7 (And.intro l0 (And.intro l1 lR)))))))
 clear hkg7 kg7 K0a K1a KRa hq K0 K1 KR HB HW HG1 HX1 HT1 a0 a1 a2 a3 l0 l1 lR hBg7 hw1
 go_wp2_with fail
 obtain ⟨W4, hW4⟩ : ∃ W4, W4 = (wq.setCell ⟨g7, 0, none⟩ (.int .u64 (xh : Int))).setCell ⟨g7, 1, none⟩ (.int .u64 (xl : Int)) := ⟨_, rfl⟩
 rw [← hW4]
 have K0b : Hid (Blk W4 w.heap.size 52 #[.int .i64 n1, .int .i64 (d1 : Int)]) := Lib.hid (by have := KK.out.2.2.2.2; rw [hW4]; exact (KK.out.1.other _ (by simp; omega)).other _ (by simp; omega))
 have K1b : Hid (Blk W4 (w.heap.size + 1) 52 #[.int .i64 n2, .int .i64 (d2 : Int)]) := Lib.hid (by have := KK.out.2.2.2.2; rw [hW4]; exact (KK.out.2.1.other _ (by simp; omega)).other _ (by simp; omega))
 have KRb : Hid (Blk W4 (w.heap.size + 1 + 1) 52 #[.int .i64 0, .int .i64 0]) := Lib.hid (by have := KK.out.2.2.2.2; rw [hW4]; exact (KK.out.2.2.1.other _ (by simp; omega)).other _ (by simp; omega))
 have K7b : Hid (Blk W4 g7 127 #[.int .u64 (xh : Int), .int .u64 (xl : Int)]) := Lib.hid (by rw [hW4]; exact (KK.out.2.2.2.1.setTo 0 _ rfl).setTo 1 _ rfl)
 have HBb : Hid (Below w.heap.size w W4) := Lib.hid (by have := KK.out.2.2.2.2; rw [hW4]; exact (HBa.out.setCell (by simp; omega) _).setCell (by simp; omega) _)
 clear KK HBa z0 z1 c0 c1 hW4
 refine Rel.wp_region_rel 12 (by kernel_rfl) (by kernel_rfl) (fun F hF => ?_)
 simp only [List.take_succ_cons, List.take_zero, List.drop_succ_cons, List.drop_zero, Rel.putL] at hF ⊢
 have HF := Lib.hid hF
 clear hF
 have uv := @Rel.upon_value Tryz.prog
 have ue := @Rel.upon_enter Tryz.prog
 apply Rel.rel_pure
 apply Exists.intro
 refine ⟨fun vs wq hq hdp R hR => ?_, ?_⟩
 ·(rw [HF.out, Rel.stepAt_eq]; clear hdp; skip; go_simp; exact hR)
 apply Rel.rel_pure
 apply Exists.intro
 refine ⟨fun vs wq hq hdp R hR => ?_, ?_⟩
 ·(rw [HF.out, Rel.stepAt_eq]; have qd0 : vs 0 = _ := Rel.dep hdp 0 (by kernel_rfl); clear hdp; have x0 := (K1b.out.belowS hq).at 0 (v := .int .i64 n2) rfl; have x1 := (K0b.out.belowS hq).at 1 (v := .int .i64 (d1 : Int)) rfl; go_simp; exact hR)
 apply Rel.rel_pure
 apply Exists.intro
 refine ⟨fun vs wq hq hdp R hR => ?_, ?_⟩
 ·(rw [HF.out, Rel.stepAt_eq]; clear hdp; skip; go_simp; exact hR)
 apply Rel.rel_pure
 apply Exists.intro
 refine ⟨fun vs wq hq hdp R hR => ?_, ?_⟩
 ·(rw [HF.out, Rel.stepAt_eq]; have qd2 : vs 2 = _ := Rel.dep hdp 2 (by kernel_rfl); clear hdp; have x0 := (K1b.out.belowS hq).at 0 (v := .int .i64 n2) rfl; have x1 := (K0b.out.belowS hq).at 1 (v := .int .i64 (d1 : Int)) rfl; go_simp; exact hR)
 apply Rel.rel_pure
 apply Exists.intro
 refine ⟨fun vs wq hq hdp R hR => ?_, ?_⟩
 ·(rw [HF.out, Rel.stepAt_eq]; have qd3 : vs 3 = _ := Rel.dep hdp 3 (by kernel_rfl); clear hdp; skip; go_simp; exact hR)
 apply Rel.rel_same
 apply Exists.intro
 refine ⟨fun vs wq hq hdp => ?_, ?_⟩
 ·(rw [HF.out, Rel.stepAt_eq]; have qd1 : vs 1 = _ := Rel.dep hdp 1 (by kernel_rfl); have qd4 : vs 4 = _ := Rel.dep hdp 4 (by kernel_rfl); clear hdp; skip; go_simp; refine (HX2.out _).mono ?_; rintro e w7 ⟨rfl, rfl⟩; exact ⟨_, rfl, rfl, Below.refl _ _⟩)
 apply Rel.rel_pure
 apply Exists.intro
 refine ⟨fun vs wq hq hdp R hR => ?_, ?_⟩
 ·(rw [HF.out, Rel.stepAt_eq]; clear hdp; skip; go_simp; exact hR)
 apply Rel.rel_pure
 apply Exists.intro
 refine ⟨fun vs wq hq hdp R hR => ?_, ?_⟩
 ·(rw [HF.out, Rel.stepAt_eq]; have qd6 : vs 6 = _ := Rel.dep hdp 6 (by kernel_rfl); clear hdp; have x0 := (K1b.out.belowS hq).at 0 (v := .int .i64 n2) rfl; have x1 := (K0b.out.belowS hq).at 1 (v := .int .i64 (d1 : Int)) rfl; go_simp; exact hR)
 apply Rel.rel_pure
 apply Exists.intro
 refine ⟨fun vs wq hq hdp R hR => ?_, ?_⟩
 ·(rw [HF.out, Rel.stepAt_eq]; clear hdp; skip; go_simp; exact hR)
 apply Rel.rel_pure
 apply Exists.intro
 refine ⟨fun vs wq hq hdp R hR => ?_, ?_⟩
 ·(rw [HF.out, Rel.stepAt_eq]; have qd7 : vs 7 = _ := Rel.dep hdp 7 (by kernel_rfl); have qd8 : vs 8 = _ := Rel.dep hdp 8 (by kernel_rfl); clear hdp; skip; go_simp; exact hR)
 apply Rel.rel_same
 apply Exists.intro
 refine ⟨fun vs wq hq hdp => ?_, ?_⟩
 ·(rw [HF.out, Rel.stepAt_eq]; have qd5 : vs 5 = _ := Rel.dep hdp 5 (by kernel_rfl); have qd9 : vs 9 = _ := Rel.dep hdp 9 (by kernel_rfl); clear hdp; skip; go_simp; refine (HT2.out _).mono ?_; rintro e w7 ⟨rfl, hb7⟩; exact ⟨_, rfl, rfl, hb7⟩)
 refine Rel.rel_alloc (cs := #[.int .u64 0, .int .u64 0]) (t := 127) (fun vs wq hq hdp R hR => ?_) ?_
 ·(rw [HF.out, Rel.stepAt_eq]; clear hdp; go_simp; exact hR)
 refine Rel.rel_end (fun vt wr hq hall => ?_)
 rw [HF.out]
 have qf0 : vt 0 = _ := Rel.fin hall 0 (by decide)
 have qf1 : vt 1 = _ := Rel.fin hall 1 (by decide)
 have qf2 : vt 2 = _ := Rel.fin hall 2 (by decide)
 have qf3 : vt 3 = _ := Rel.fin hall 3 (by decide)
 have qf4 : vt 4 = _ := Rel.fin hall 4 (by decide)
 have qf5 : vt 5 = _ := Rel.fin hall 5 (by decide)
 have qf6 : vt 6 = _ := Rel.fin hall 6 (by decide)
 have qf7 : vt 7 = _ := Rel.fin hall 7 (by decide)
 have qf8 : vt 8 = _ := Rel.fin hall 8 (by decide)
 have qf9 : vt 9 = _ := Rel.fin hall 9 (by decide)
 have qf10 : vt 10 = _ := Rel.fin hall 10 (by decide)
 have qf11 : Rel.NewB _ _ _ (vt 11) wr := Rel.fin hall 11 (by decide)
 clear hall HF uv ue
 obtain ⟨g8, qg8, hBg8, hkg8⟩ := qf11
 have kg8 : Blk wr g8 127 #[.int .u64 0, .int .u64 0] := hkg8
 have z0 := kg8.frz 0
 have z1 := kg8.frz 1
 have c0 := kg8.at 0 (v := .int .u64 0) rfl
 have c1 := kg8.at 1 (v := .int .u64 0) rfl
 have K0c := K0b.out.belowS hq
 have K1c := K1b.out.belowS hq
 have KRc := KRb.out.belowS hq
 have K7c := K7b.out.belowS hq
 have HBc := Lib.hid (Base.Below.nextA HBb.out hq)
 have l0 := K0b.out.lt
 have l1 := K1b.out.lt
 have lR := KRb.out.lt
 have l7 := K7b.out.lt
 obtain ⟨W5, hW5⟩ : ∃ W5, W5 = (wr.setCell ⟨g8, 0, none⟩ (.int .u64 (yh : Int))).setCell ⟨g8, 1, none⟩ (.int .u64 (yl : Int)) := ⟨_, rfl⟩
 have K0d : Hid (Blk W5 w.heap.size 52 #[.int .i64 n1, .int .i64 (d1 : Int)]) := Lib.hid (by rw [hW5]; exact (K0c.other _ (by simp; omega)).other _ (by simp; omega))
 have K1d : Hid (Blk W5 (w.heap.size + 1) 52 #[.int .i64 n2, .int .i64 (d2 : Int)]) := Lib.hid (by rw [hW5]; exact (K1c.other _ (by simp; omega)).other _ (by simp; omega))
 have KRd : Hid (Blk W5 (w.heap.size + 1 + 1) 52 #[.int .i64 0, .int .i64 0]) := Lib.hid (by rw [hW5]; exact (KRc.other _ (by simp; omega)).other _ (by simp; omega))
 have K7d : Hid (Blk W5 g7 127 #[.int .u64 (xh : Int), .int .u64 (xl : Int)]) := Lib.hid (by rw [hW5]; exact (K7c.other _ (by simp; omega)).other _ (by simp; omega))
 have K8d : Hid (Blk W5 g8 127 #[.int .u64 (yh : Int), .int .u64 (yl : Int)]) := Lib.hid (by rw [hW5]; exact (kg8.setTo 0 _ rfl).setTo 1 _ rfl)
 have HBd : Hid (Below w.heap.size w W5) := Lib.hid (by rw [hW5]; exact (HBc.out.setCell (by simp; omega) _).setCell (by simp; omega) _)
 have HW5 := Lib.hid hW5
 clear hW5 hkg8 kg8 K0c K1c KRc K7c hq K0b K1b KRb K7b HBb HBc hBg8 l0 l1 lR l7 HX2 HT2 hw2
 go_upto_region 4 with (fail)
 rw [← HW5.out]
 have a0 := K0d.out.at 0 (v := .int .i64 n1) rfl
 have a1 := K0d.out.at 1 (v := .int .i64 (d1 : Int)) rfl
 have a2 := K1d.out.at 0 (v := .int .i64 n2) rfl
 have a3 := K1d.out.at 1 (v := .int .i64 (d2 : Int)) rfl
 have b70 := K7d.out.at 0 (v := .int .u64 (xh : Int)) rfl
 have b71 := K7d.out.at 1 (v := .int .u64 (xl : Int)) rfl
 have b80 := K8d.out.at 0 (v := .int .u64 (yh : Int)) rfl
 have b81 := K8d.out.at 1 (v := .int .u64 (yl : Int)) rfl
 have l0 := K0d.out.lt
 have l1 := K1d.out.lt
 have lR := KRd.out.lt
 have l7 := K7d.out.lt
 have l8 := K8d.out.lt
 clear HW5 z0 z1 c0 c1
 go_wp2_with fail
 obtain ⟨W6, hW6⟩ : ∃ W6, W6 = W5.alloc (.cells #[.int .u64 0, .int .u64 0] 127) := ⟨_, rfl⟩
 rw [← hW6]
 obtain ⟨gt, hgt⟩ : ∃ gt, gt = W5.heap.size := ⟨_, rfl⟩
 rw [← hgt]
 have l6 : w.heap.size + 1 + 1 < gt := by omega
 have L6 : Hid (w.heap.size < gt ∧ w.heap.size + 1 < gt ∧ g7 < gt ∧ g8 < gt) := Lib.hid (by omega)
 have K0e : Hid (Blk W6 w.heap.size 52 #[.int .i64 n1, .int .i64 (d1 : Int)]) := Lib.hid (by rw [hW6]; exact K0d.out.alloc _)
 have K1e : Hid (Blk W6 (w.heap.size + 1) 52 #[.int .i64 n2, .int .i64 (d2 : Int)]) := Lib.hid (by rw [hW6]; exact K1d.out.alloc _)
 have KRe : Hid (Blk W6 (w.heap.size + 1 + 1) 52 #[.int .i64 0, .int .i64 0]) := Lib.hid (by rw [hW6]; exact KRd.out.alloc _)
 have K7e : Hid (Blk W6 g7 127 #[.int .u64 (xh : Int), .int .u64 (xl : Int)]) := Lib.hid (by rw [hW6]; exact K7d.out.alloc _)
 have K8e : Hid (Blk W6 g8 127 #[.int .u64 (yh : Int), .int .u64 (yl : Int)]) := Lib.hid (by rw [hW6]; exact K8d.out.alloc _)
 have Kte : Hid (Blk W6 gt 127 #[.int .u64 0, .int .u64 0]) := Lib.hid (by rw [hW6, hgt]; exact Blk.new W5 _ _)
 have HBe : Hid (Below w.heap.size w W6) := Lib.hid (by rw [hW6]; exact HBd.out.alloc HBd.out.size _)
 clear hW6 K0d K1d KRd K7d K8d HBd a0 a1 a2 a3 b70 b71 b80 b81 l0 l1 lR l7 l8 hgt
 refine (HMid.out _).mono ?_
 rintro e w7 ⟨rfl, hb7⟩
 have K0f := K0e.out.belowS hb7
 have K1f := K1e.out.belowS hb7
 have KRf := KRe.out.belowS hb7
 have Ktf := Kte.out.belowS hb7
 have HBf := Lib.hid (Base.Below.nextA HBe.out hb7)
 have z0 := Ktf.frz 0
 have z1 := Ktf.frz 1
 have c0 := Ktf.at 0 (v := .int .u64 0) rfl
 have c1 := Ktf.at 1 (v := .int .u64 0) rfl
 skip
 have KK := Lib.hid (And.intro K0f (And.intro K1f (And.intro KRf Ktf)))
 clear K0f K1f KRf Ktf hb7 K0e K1e KRe K7e K8e Kte HBe
 go_wp2_with fail
 obtain ⟨W8, hW8⟩ : ∃ W8, W8 = (w7.setCell ⟨gt, 0, none⟩ (.int .u64 (th : Int))).setCell ⟨gt, 1, none⟩ (.int .u64 (tl : Int)) := ⟨_, rfl⟩
 rw [← hW8]
 have K0g : Hid (Blk W8 w.heap.size 52 #[.int .i64 n1, .int .i64 (d1 : Int)]) := Lib.hid (by have := L6.out; rw [hW8]; exact (KK.out.1.other _ (by simp; omega)).other _ (by simp; omega))
 have K1g : Hid (Blk W8 (w.heap.size + 1) 52 #[.int .i64 n2, .int .i64 (d2 : Int)]) := Lib.hid (by have := L6.out; rw [hW8]; exact (KK.out.2.1.other _ (by simp; omega)).other _ (by simp; omega))
 have KRg : Hid (Blk W8 (w.heap.size + 1 + 1) 52 #[.int .i64 0, .int .i64 0]) := Lib.hid (by have := L6.out; rw [hW8]; exact (KK.out.2.2.1.other _ (by simp; omega)).other _ (by simp; omega))
 have Ktg : Hid (Blk W8 gt 127 #[.int .u64 (th : Int), .int .u64 (tl : Int)]) := Lib.hid (by rw [hW8]; exact (KK.out.2.2.2.setTo 0 _ rfl).setTo 1 _ rfl)
 have HBg : Hid (Below w.heap.size w W8) := Lib.hid (by have := L6.out; rw [hW8]; exact (HBf.out.setCell (by simp; omega) _).setCell (by simp; omega) _)
 clear hW8 KK HBf z0 z1 c0 c1 HMid
 refine (HSp1.out _).mono ?_
 rintro e w9 ⟨rfl, hb9⟩
 have K0h := Lib.hid (K0g.out.belowS hb9)
 have K1h := Lib.hid (K1g.out.belowS hb9)
 have KRh := Lib.hid (KRg.out.belowS hb9)
 have Kth := Lib.hid (Ktg.out.belowS hb9)
 have HBh := Lib.hid (Base.Below.nextA HBg.out hb9)
 clear hb9 K0g K1g KRg Ktg HBg HSp1
 have u0 := Kth.out.at 0 (v := .int .u64 (th : Int)) rfl
 have u1 := Kth.out.at 1 (v := .int .u64 (tl : Int)) rfl
 have lt9 := Kth.out.lt
 go_wp2_with fail
 refine (HG2.out _).mono ?_
 rintro e w10 ⟨rfl, rfl⟩
 go_wp2_with fail
 obtain ⟨W10, hW10⟩ : ∃ W10, W10 = w9.alloc (.cells #[.int .u64 (kh : Int), .int .u64 (kl : Int)] 127) := ⟨_, rfl⟩
 rw [← hW10]
 have K0i : Blk W10 w.heap.size 52 #[.int .i64 n1, .int .i64 (d1 : Int)] := by rw [hW10]; exact K0h.out.alloc _
 have K1i : Blk W10 (w.heap.size + 1) 52 #[.int .i64 n2, .int .i64 (d2 : Int)] := by rw [hW10]; exact K1h.out.alloc _
 have KRi : Blk W10 (w.heap.size + 1 + 1) 52 #[.int .i64 0, .int .i64 0] := by rw [hW10]; exact KRh.out.alloc _
 have HBi : Below w.heap.size w W10 := by rw [hW10]; exact HBh.out.alloc HBh.out.size _
 have KI := Lib.hid (And.intro K0i (And.intro K1i (And.intro KRi HBi)))
 clear hW10 K0h K1h KRh Kth HBh u0 u1 lt9 K0i K1i KRi HBi HG2
 refine (HSp2.out _).mono ?_
 rintro e w11 ⟨rfl, hb11⟩
 have HB11 := Lib.hid hb11
 clear hb11 HSp2
 go_wp2_with fail
 obtain ⟨W12, hW12⟩ : ∃ W12, W12 = w11.alloc (.cells #[.int .u64 (qh : Int), .int .u64 (ql : Int)] 127) := ⟨_, rfl⟩
 rw [← hW12]
 have hB12 : Below W10.heap.size W10 W12 := by rw [hW12]; exact HB11.out.alloc HB11.out.size _
 have HB12 := Lib.hid hB12
 clear hB12 hW12
 refine (HS1.out _).mono ?_
 rintro e w13 ⟨rfl, hb13⟩
 have hb := Base.Below.nextA HB12.out hb13
 have K0h := Lib.hid (KI.out.1.belowS hb)
 have K1h := Lib.hid (KI.out.2.1.belowS hb)
 have KRh := Lib.hid (KI.out.2.2.1.belowS hb)
 have HBh := Lib.hid (Base.Below.nextA KI.out.2.2.2 hb)
 clear hb hb13 HB12 HB11 KI HS1
 go_wp2_with fail
 refine Rel.wp_region_rel 15 (by kernel_rfl) (by kernel_rfl) (fun F hF => ?_)
 simp only [List.take_succ_cons, List.take_zero, List.drop_succ_cons, List.drop_zero, Rel.putL] at hF ⊢
 have HF := Lib.hid hF
 clear hF
 have uv := @Rel.upon_value Tryz.prog
 have ue := @Rel.upon_enter Tryz.prog
 apply Rel.rel_pure
 apply Exists.intro
 refine ⟨fun vs wq hq hdp R hR => ?_, ?_⟩
 ·(rw [HF.out, Rel.stepAt_eq]; clear hdp; skip; go_simp; exact hR)
 apply Rel.rel_pure
 apply Exists.intro
 refine ⟨fun vs wq hq hdp R hR => ?_, ?_⟩
 ·(rw [HF.out, Rel.stepAt_eq]; have qd0 : vs 0 = _ := Rel.dep hdp 0 (by kernel_rfl); clear hdp; have x0 := (K0h.out.belowS hq).at 1 (v := .int .i64 (d1 : Int)) rfl; have x1 := (K1h.out.belowS hq).at 1 (v := .int .i64 (d2 : Int)) rfl; go_simp; exact hR)
 apply Rel.rel_pure
 apply Exists.intro
 refine ⟨fun vs wq hq hdp R hR => ?_, ?_⟩
 ·(rw [HF.out, Rel.stepAt_eq]; clear hdp; skip; go_simp; exact hR)
 apply Rel.rel_pure
 apply Exists.intro
 refine ⟨fun vs wq hq hdp R hR => ?_, ?_⟩
 ·(rw [HF.out, Rel.stepAt_eq]; have qd1 : vs 1 = _ := Rel.dep hdp 1 (by kernel_rfl); have qd2 : vs 2 = _ := Rel.dep hdp 2 (by kernel_rfl); clear hdp; have vv := vb1; go_simp; exact hR)
 apply Rel.rel_pure
 apply Exists.intro
 refine ⟨fun vs wq hq hdp R hR => ?_, ?_⟩
 ·(rw [HF.out, Rel.stepAt_eq]; clear hdp; skip; go_simp; exact hR)
 apply Rel.rel_pure
 apply Exists.intro
 refine ⟨fun vs wq hq hdp R hR => ?_, ?_⟩
 ·(rw [HF.out, Rel.stepAt_eq]; have qd4 : vs 4 = _ := Rel.dep hdp 4 (by kernel_rfl); clear hdp; have x0 := (K0h.out.belowS hq).at 1 (v := .int .i64 (d1 : Int)) rfl; have x1 := (K1h.out.belowS hq).at 1 (v := .int .i64 (d2 : Int)) rfl; go_simp; exact hR)
 apply Rel.rel_pure
 apply Exists.intro
 refine ⟨fun vs wq hq hdp R hR => ?_, ?_⟩
 ·(rw [HF.out, Rel.stepAt_eq]; clear hdp; skip; go_simp; exact hR)
 apply Rel.rel_pure
 apply Exists.intro
 refine ⟨fun vs wq hq hdp R hR => ?_, ?_⟩
 ·(rw [HF.out, Rel.stepAt_eq]; have qd5 : vs 5 = _ := Rel.dep hdp 5 (by kernel_rfl); have qd6 : vs 6 = _ := Rel.dep hdp 6 (by kernel_rfl); clear hdp; have vv := vc; go_simp; exact hR)
 apply Rel.rel_same
 apply Exists.intro
 refine ⟨fun vs wq hq hdp => ?_, ?_⟩
 ·(rw [HF.out, Rel.stepAt_eq]; have qd3 : vs 3 = _ := Rel.dep hdp 3 (by kernel_rfl); have qd7 : vs 7 = _ := Rel.dep hdp 7 (by kernel_rfl); clear hdp; skip; go_simp; refine (HT3.out _).mono ?_; rintro e w7 ⟨rfl, hb7⟩; exact ⟨_, rfl, rfl, hb7⟩)
 apply Rel.rel_same
 apply Exists.intro
 refine ⟨fun vs wq hq hdp => ?_, ?_⟩
 ·(rw [HF.out, Rel.stepAt_eq]; have qd8 : vs 8 = _ := Rel.dep hdp 8 (by kernel_rfl); clear hdp; skip; go_simp; refine (HS2.out _).mono ?_; rintro e w7 ⟨rfl, hb7⟩; exact ⟨_, rfl, rfl, hb7⟩)
 apply Rel.rel_pure
 apply Exists.intro
 refine ⟨fun vs wq hq hdp R hR => ?_, ?_⟩
 ·(rw [HF.out, Rel.stepAt_eq]; have qd9 : vs 9 = _ := Rel.dep hdp 9 (by kernel_rfl); clear hdp; skip; go_simp; exact hR)
 apply Rel.rel_pure
 apply Exists.intro
 refine ⟨fun vs wq hq hdp R hR => ?_, ?_⟩
 ·(rw [HF.out, Rel.stepAt_eq]; have qd10 : vs 10 = _ := Rel.dep hdp 10 (by kernel_rfl); clear hdp; skip; go_simp; exact hR)
 apply Rel.rel_pure
 apply Exists.intro
 refine ⟨fun vs wq hq hdp R hR => ?_, ?_⟩
 ·(rw [HF.out, Rel.stepAt_eq]; have qd10 : vs 10 = _ := Rel.dep hdp 10 (by kernel_rfl); clear hdp; skip; go_simp; exact hR)
 apply Rel.rel_pure
 apply Exists.intro
 refine ⟨fun vs wq hq hdp R hR => ?_, ?_⟩
 ·(rw [HF.out, Rel.stepAt_eq]; have qd11 : vs 11 = _ := Rel.dep hdp 11 (by kernel_rfl); clear hdp; skip; go_simp; exact hR)
 apply Rel.rel_pure
 apply Exists.intro
 refine ⟨fun vs wq hq hdp R hR => ?_, ?_⟩
 ·(rw [HF.out, Rel.stepAt_eq]; have qd12 : vs 12 = _ := Rel.dep hdp 12 (by kernel_rfl); clear hdp; skip; go_simp; exact hR)
 refine Rel.rel_end (fun vr wz hq hall => ?_)
 rw [HF.out]
 have qz0 : vr 0 = _ := Rel.fin hall 0 (by decide)
 have qz1 : vr 1 = _ := Rel.fin hall 1 (by decide)
 have qz2 : vr 2 = _ := Rel.fin hall 2 (by decide)
 have qz3 : vr 3 = _ := Rel.fin hall 3 (by decide)
 have qz4 : vr 4 = _ := Rel.fin hall 4 (by decide)
 have qz5 : vr 5 = _ := Rel.fin hall 5 (by decide)
 have qz6 : vr 6 = _ := Rel.fin hall 6 (by decide)
 have qz7 : vr 7 = _ := Rel.fin hall 7 (by decide)
 have qz8 : vr 8 = _ := Rel.fin hall 8 (by decide)
 have qz9 : vr 9 = _ := Rel.fin hall 9 (by decide)
 have qz10 : vr 10 = _ := Rel.fin hall 10 (by decide)
 have qz11 : vr 11 = _ := Rel.fin hall 11 (by decide)
 have qz12 : vr 12 = _ := Rel.fin hall 12 (by decide)
 have qz13 : vr 13 = _ := Rel.fin hall 13 (by decide)
 have qz14 : vr 14 = _ := Rel.fin hall 14 (by decide)
 clear hall HF uv ue
 have KRz := KRh.out.belowS hq
 have HBz := Lib.hid (Base.Below.nextA HBh.out hq)
 have z0 := KRz.frz 0
 have z1 := KRz.frz 1
 have c0 := KRz.at 0 (v := .int .i64 0) rfl
 have c1 := KRz.at 1 (v := .int .i64 0) rfl
 have KZ := Lib.hid KRz
 clear hq K0h K1h KRh HBh KRz HT3 HS2
 have LZ : Hid (w.heap.size + 1 + 1 < wz.heap.size) := Lib.hid KZ.out.lt
 have hsg : decide (n1 < 0) = false ∨ decide (n1 < 0) = true := by cases decide (n1 < 0) <;> simp
 cases o1 with
 | false =>
  have HZ := Lib.hid (HE.out.1 (.inl rfl))
  cases o2 with
  | false =>
   have S := (KZ.out.setTo 0 (.int .i64 0) rfl).setTo 1 (.int .i64 0) rfl
   have s0 := S.at 0 rfl
   have s1 := S.at 1 rfl
   clear S
   go_wp2
   refine bodyPost_ret (v := .tuple #[.agg #[.int .i64 0, .int .i64 0], .bool false]) (by simp [results, Tryz.results111, go_sem, s0, s1]) rfl ⟨by rw [HZ.out.1, HZ.out.2.1, HZ.out.2.2], (HBz.out.setCell (by simp; omega) _).setCell (by simp; omega) _⟩
  | true =>
   have S := (KZ.out.setTo 0 (.int .i64 0) rfl).setTo 1 (.int .i64 0) rfl
   have s0 := S.at 0 rfl
   have s1 := S.at 1 rfl
   clear S
   go_wp2
   refine bodyPost_ret (v := .tuple #[.agg #[.int .i64 0, .int .i64 0], .bool false]) (by simp [results, Tryz.results111, go_sem, s0, s1]) rfl ⟨by rw [HZ.out.1, HZ.out.2.1, HZ.out.2.2], (HBz.out.setCell (by simp; omega) _).setCell (by simp; omega) _⟩
 | true =>
  cases o2 with
  | false =>
   have HZ := Lib.hid (HE.out.1 (.inr rfl))
   have S := (KZ.out.setTo 0 (.int .i64 0) rfl).setTo 1 (.int .i64 0) rfl
   have s0 := S.at 0 rfl
   have s1 := S.at 1 rfl
   clear S
   go_wp2
   refine bodyPost_ret (v := .tuple #[.agg #[.int .i64 0, .int .i64 0], .bool false]) (by simp [results, Tryz.results111, go_sem, s0, s1]) rfl ⟨by rw [HZ.out.1, HZ.out.2.1, HZ.out.2.2], (HBz.out.setCell (by simp; omega) _).setCell (by simp; omega) _⟩
  | true =>
   obtain ⟨e1, e2, hp, hn, k0, k1, hone⟩ := HE.out.2 rfl rfl
   have HZ := Lib.hid (And.intro e1 (And.intro e2 (And.intro hp hn)))
   clear e1 e2 hp hn HE
   rcases hsg with hg | hg
   ·have HQ := Lib.hid (HZ.out.2.2.1 (by rw [(show addS (decide (n1 < 0)) (decide (n2 < 0)) x y = decide (n1 < 0) by unfold addS; rw [if_pos HSG.out])]; exact hg))
    by_cases hi : i1 = 0
    ·have hi2 := hone hi
     subst hi hi2
     have S := (KZ.out.setTo 0 (.int .i64 0) rfl).setTo 1 (.int .i64 1) rfl
     have s0 := S.at 0 rfl
     have s1 := S.at 1 rfl
     clear S
     go_wp2
     refine bodyPost_ret (v := .tuple #[.agg #[.int .i64 0, .int .i64 1], .bool true]) (by simp [results, Tryz.results111, go_sem, s0, s1]) rfl ⟨by rw [HZ.out.1, HZ.out.2.1, HQ.out] <;> first | rfl | simp, (HBz.out.setCell (by simp; omega) _).setCell (by simp; omega) _⟩
    ·have hib : (i1 == 0) = false := by simp only [beq_eq_false_iff_ne]; exact hi
     clear hone hi
     have S := (KZ.out.setTo 0 (.int .i64 i1) rfl).setTo 1 (.int .i64 i2) rfl
     have s0 := S.at 0 rfl
     have s1 := S.at 1 rfl
     clear S
     go_wp2
     refine bodyPost_ret (v := .tuple #[.agg #[.int .i64 i1, .int .i64 i2], .bool true]) (by simp [results, Tryz.results111, go_sem, s0, s1]) rfl ⟨by rw [HZ.out.1, HZ.out.2.1, HQ.out] <;> first | rfl | simp, (HBz.out.setCell (by simp; omega) _).setCell (by simp; omega) _⟩
   ·have HQ := Lib.hid (HZ.out.2.2.2 (by rw [(show addS (decide (n1 < 0)) (decide (n2 < 0)) x y = decide (n1 < 0) by unfold addS; rw [if_pos HSG.out])]; exact hg))
    by_cases hi : i1 = 0
    ·have hi2 := hone hi
     subst hi hi2
     have S := (KZ.out.setTo 0 (.int .i64 0) rfl).setTo 1 (.int .i64 1) rfl
     have s0 := S.at 0 rfl
     have s1 := S.at 1 rfl
     clear S
     go_wp2
     refine bodyPost_ret (v := .tuple #[.agg #[.int .i64 0, .int .i64 1], .bool true]) (by simp [results, Tryz.results111, go_sem, s0, s1]) rfl ⟨by rw [HZ.out.1, HZ.out.2.1, HQ.out] <;> first | rfl | simp, (HBz.out.setCell (by simp; omega) _).setCell (by simp; omega) _⟩
    ·have hib : (-i1 == 0) = false := by simp only [beq_eq_false_iff_ne]; omega
     clear hone hi
     have S := (KZ.out.setTo 0 (.int .i64 (-i1)) rfl).setTo 1 (.int .i64 i2) rfl
     have s0 := S.at 0 rfl
     have s1 := S.at 1 rfl
     clear S
     go_wp2
     refine bodyPost_ret (v := .tuple #[.agg #[.int .i64 (-i1), .int .i64 i2], .bool true]) (by simp [results, Tryz.results111, go_sem, s0, s1]) rfl ⟨by rw [HZ.out.1, HZ.out.2.1, HQ.out] <;> first | rfl | simp, (HBz.out.setCell (by simp; omega) _).setCell (by simp; omega) _⟩
end Go.Proofs.YtcimmgpmkfbpdaaGreatDoor.Fine
