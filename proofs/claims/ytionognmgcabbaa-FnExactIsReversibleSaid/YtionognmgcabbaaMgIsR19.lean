/- The reference's fractions of any size: compared. -/
import Derived.Test.YtionognmgcabbaaMgIsR16
import Derived.Test.YtionognmgcabbaaMgIsR18
import Derived.Deep.Cut
import Derived.Test.YtionognmgcabbaaMgIsR14
import Derived.Test.YtionognmgcabbaaMgIsR15
import Derived.Test.YtionognmgcabbaaMgIsR10
namespace Go.Proofs.Ytionognmgcabbaa.Wide
open Go.RowKit Go.Proofs.Ytionognmgcabbaa Go.Proofs.Ytionognmgcabbaa.Base Go.Proofs.Ytionognmgcabbaa.Mem Go.Proofs.Ytionognmgcabbaa.RatM Go.Proofs.Ytionognmgcabbaa.BigM Go.Proofs.Ytionognmgcabbaa.Big Go.Proofs.Ytionognmgcabbaa.Fine Go.Proofs.Ytionognmgcabbaa.Blk
set_option linter.unusedVariables false
def cmpW (q r : Rat) : Int := if q = r then 0 else if q < r then -1 else 1
theorem vf_minus : VF (-1) 1 := ⟨by decide, by decide, by decide, by decide, by decide⟩
theorem vf_one : VF 1 1 := ⟨by decide, by decide, by decide, by decide, by decide⟩
theorem qf_minus : qf (-1) 1 = -1 := by decide +kernel
theorem qf_one : qf 1 1 = 1 := by decide +kernel
theorem cmpW_sub (q r : Rat) : cmpW q r = if q + -1 * r = 0 then 0 else if q + -1 * r < 0 then -1 else 1 := by
  unfold cmpW
  have h1 : q = r ↔ q + -1 * r = 0 := by grind
  have h2 : q < r ↔ q + -1 * r < 0 := by grind
  simp only [h1, h2]
theorem Parts.zero {w : World} {q : Rat} {m : Nat} {s fine : Bool} {vn vd : Value} {fn fd : Int} {n d : Nat} (h : Parts w q m s vn vd fine fn fd n d) : (n = 0 ↔ q = 0) ∧ (n ≠ 0 → (q < 0 ↔ s = true)) := by
  have hd := Nat.ne_of_gt h.pos
  rw [← h.val]
  refine ⟨(qv_eq_zero hd).symm, fun hn => ?_⟩
  have := qv_neg (s := s) hn hd
  constructor
  · intro hx; rw [← this]; simpa using hx
  · intro hx; rw [hx] at this ⊢; simpa using this
set_option maxHeartbeats 4000000 in
set_option maxRecDepth 100000 in
theorem cmp_any {q r : Rat} {m m' : Nat} {v u : Value} (w : World) (hv : IsW w q m v) (hu : IsW w r m' u) (h2 : 2 ≤ m) (h2' : 2 ≤ m') (hm : m + m' ≤ 300000) : Calls Try.prog 49 #[v, u] w fun e w' => e = .returned (.int .i64 (cmpW q r)) ∧ Below w.heap.size w w' := by
  have HC := Lib.hid (cmpW_sub q r)
  generalize cmpW q r = cw at *
  have HV0 := Lib.hid hv
  have HU0 := Lib.hid hu
  have HM1 := Lib.hid (fun W => wideOf_any vf_minus W)
  rw [qf_minus] at HM1
  obtain ⟨s, A1, k1, c1, A2, k2, c2, fa, fn, fd, n, d, rfl, hp⟩ := hv
  obtain ⟨s', A3, k3, c3, A4, k4, c4, fb, gn, gd, n', d', rfl, hp'⟩ := hu
  obtain ⟨W3, hW3⟩ : ∃ W3, W3 = (w.alloc (.cells #[.bool s, .slice A1 k1 c1, .slice A2 k2 c2, .bool fa, .int .i64 fn, .int .i64 fd] 65)).alloc (.cells #[.bool s', .slice A3 k3 c3, .slice A4 k4 c4, .bool fb, .int .i64 gn, .int .i64 gd] 65) := ⟨_, rfl⟩
  have K0 : Hid (Blk W3 w.heap.size 65 #[.bool s, .slice A1 k1 c1, .slice A2 k2 c2, .bool fa, .int .i64 fn, .int .i64 fd]) := Lib.hid (by rw [hW3]; exact (Blk.new w _ _).alloc _)
  have K1 : Hid (Blk W3 (w.heap.size + 1) 65 #[.bool s', .slice A3 k3 c3, .slice A4 k4 c4, .bool fb, .int .i64 gn, .int .i64 gd]) := Lib.hid (by rw [hW3]; exact Blk.newAt _ _ (by simp))
  have HB : Hid (Below w.heap.size w W3) := Lib.hid (by rw [hW3]; exact ((Below.refl _ _).alloc (Nat.le_refl _) _).alloc (by simp) _)
  have HV := Lib.hid (fun W (h : Below W3.heap.size W3 W) => HV0.out.below (Base.Below.nextA HB.out h))
  have HU := Lib.hid (fun W (h : Below W3.heap.size W3 W) => HU0.out.below (Base.Below.nextA HB.out h))
  have HW := Lib.hid hW3
  clear hW3 hp hp' HV0 HU0
  go_enter Try.func49, Try.ntmps49
  go_upto_region 1 with (fail)
  rw [← HW.out]
  clear HW
  refine Rel.wp_region_rel 7 (by kernel_rfl) (by kernel_rfl) (fun F hF => ?_)
  simp only [List.take_succ_cons, List.take_zero, List.drop_succ_cons, List.drop_zero, Rel.putL] at hF ⊢
  have HF := Lib.hid hF
  clear hF
  have uv := @Rel.upon_value Try.prog
  have ue := @Rel.upon_enter Try.prog
  apply Rel.rel_pure
  apply Exists.intro
  refine ⟨fun vs wq hq hdp R hR => ?_, ?_⟩
  · (rw [HF.out, Rel.stepAt_eq]; clear hdp; have x0 := (K0.out.belowS hq).at 0 (v := .bool s) rfl; have x1 := (K0.out.belowS hq).at 1 (v := .slice A1 k1 c1) rfl; have x2 := (K0.out.belowS hq).at 2 (v := .slice A2 k2 c2) rfl; have x3 := (K0.out.belowS hq).at 3 (v := .bool fa) rfl; have x4 := (K0.out.belowS hq).at 4 (v := .int .i64 fn) rfl; have x5 := (K0.out.belowS hq).at 5 (v := .int .i64 fd) rfl; go_simp; exact hR)
  apply Rel.rel_pure
  apply Exists.intro
  refine ⟨fun vs wq hq hdp R hR => ?_, ?_⟩
  · (rw [HF.out, Rel.stepAt_eq]; clear hdp; skip; go_simp; exact hR)
  refine Rel.rel_law (S := fun v w' => IsW w' (-1) 2 v) (isW_mono _ _) (fun vs wq hq hdp => ?_) ?_
  · (rw [HF.out, Rel.stepAt_eq]; have qd1 : vs 1 = _ := Rel.dep hdp 1 (by kernel_rfl); clear hdp; skip; go_simp; refine (HM1.out _).mono ?_; rintro e w7 ⟨v, rfl, hv, hb⟩; exact ⟨_, rfl, hv, hb⟩)
  apply Rel.rel_pure
  apply Exists.intro
  refine ⟨fun vs wq hq hdp R hR => ?_, ?_⟩
  · (rw [HF.out, Rel.stepAt_eq]; clear hdp; have x0 := (K1.out.belowS hq).at 0 (v := .bool s') rfl; have x1 := (K1.out.belowS hq).at 1 (v := .slice A3 k3 c3) rfl; have x2 := (K1.out.belowS hq).at 2 (v := .slice A4 k4 c4) rfl; have x3 := (K1.out.belowS hq).at 3 (v := .bool fb) rfl; have x4 := (K1.out.belowS hq).at 4 (v := .int .i64 gn) rfl; have x5 := (K1.out.belowS hq).at 5 (v := .int .i64 gd) rfl; go_simp; exact hR)
  refine Rel.rel_law (S := fun v w' => IsW w' (-1 * r) (2 + m') v) (isW_mono _ _) (fun vs wq hq hdp => ?_) ?_
  · (rw [HF.out, Rel.stepAt_eq]; have qd2 : IsW wq _ _ (vs 2) := Rel.dep hdp 2 (by kernel_rfl); have qd3 : vs 3 = _ := Rel.dep hdp 3 (by kernel_rfl); clear hdp; skip; go_simp; refine (wideMul_any wq qd2 (HU.out wq hq) (by decide) (by omega) (by decide) h2').mono ?_; rintro e w7 ⟨v, rfl, hv, hb⟩; exact ⟨_, rfl, hv, hb⟩)
  refine Rel.rel_law (S := fun v w' => IsW w' (q + -1 * r) (m + (2 + m') + 1) v) (isW_mono _ _) (fun vs wq hq hdp => ?_) ?_
  · (rw [HF.out, Rel.stepAt_eq]; have qd0 : vs 0 = _ := Rel.dep hdp 0 (by kernel_rfl); have qd4 : IsW wq _ _ (vs 4) := Rel.dep hdp 4 (by kernel_rfl); clear hdp; skip; go_simp; refine (wideAdd_any wq (HV.out wq hq) qd4 (by omega) (by omega) h2 (by omega)).mono ?_; rintro e w7 ⟨v, rfl, hv, hb⟩; exact ⟨_, rfl, hv, hb⟩)
  refine Rel.rel_alloc (cs := #[.bool false, .slice none 0 0, .slice none 0 0, .bool false, .int .i64 0, .int .i64 0]) (t := 65) (fun vs wq hq hdp R hR => ?_) ?_
  · (rw [HF.out, Rel.stepAt_eq]; clear hdp; go_simp; exact hR)
  refine Rel.rel_end (fun vs wq hq hall => ?_)
  rw [HF.out]
  have qe0 : vs 0 = _ := Rel.fin hall 0 (by decide)
  have qe1 : vs 1 = _ := Rel.fin hall 1 (by decide)
  have qe2 : IsW wq _ _ (vs 2) := Rel.fin hall 2 (by decide)
  have qe3 : vs 3 = _ := Rel.fin hall 3 (by decide)
  have qe4 : IsW wq _ _ (vs 4) := Rel.fin hall 4 (by decide)
  have qe5 : IsW wq _ _ (vs 5) := Rel.fin hall 5 (by decide)
  have qe6 : Rel.NewB _ _ _ (vs 6) wq := Rel.fin hall 6 (by decide)
  clear hall HF uv ue
  obtain ⟨g5, eg5, hg5, hblk⟩ := qe6
  obtain ⟨t, B1, j1, e1, B2, j2, e2, fi, tn, td, nn, dd, ev5, hpz⟩ := qe5
  have K5 : Blk wq g5 65 #[.bool false, .slice none 0 0, .slice none 0 0, .bool false, .int .i64 0, .int .i64 0] := hblk
  obtain ⟨W6, hW6⟩ : ∃ W6, W6 = put6 wq g5 (.bool t) (.slice B1 j1 e1) (.slice B2 j2 e2) (.bool fi) (.int .i64 tn) (.int .i64 td) := ⟨_, rfl⟩
  have K6 : Hid (Blk W6 g5 65 #[.bool t, .slice B1 j1 e1, .slice B2 j2 e2, .bool fi, .int .i64 tn, .int .i64 td]) := Lib.hid (by rw [hW6]; exact put6_blk K5 _ _ _ _ _ _)
  have HBF : Hid (Below w.heap.size w W6) := Lib.hid (by rw [hW6]; exact put6_below (Base.Below.nextA HB.out hq) (show w.heap.size ≤ g5 by have := HB.out.size; omega) _ _ _ _ _ _)
  unfold put6 at hW6
  have z0 := K5.frz 0
  have z1 := K5.frz 1
  have z2 := K5.frz 2
  have z3 := K5.frz 3
  have z4 := K5.frz 4
  have z5 := K5.frz 5
  have c0 := K5.at 0 (v := .bool false) rfl
  have c1 := K5.at 1 (v := .slice none 0 0) rfl
  have c2 := K5.at 2 (v := .slice none 0 0) rfl
  have c3 := K5.at 3 (v := .bool false) rfl
  have c4 := K5.at 4 (v := .int .i64 0) rfl
  have c5 := K5.at 5 (v := .int .i64 0) rfl
  obtain ⟨hz, hneg⟩ := hpz.zero
  obtain ⟨_, _, ef, -⟩ := Dig.form hpz.num
  replace ef := (Value.slice.inj ef).2.1
  have hlen : j1 = 0 ↔ q + -1 * r = 0 := by
    rw [← hz, ef]
    constructor
    · intro h0
      rcases Nat.eq_zero_or_pos nn with g | g
      · exact g
      · have := len_pos g; omega
    · intro h0; rw [h0, bigL_zero]; rfl
  have H0 := Lib.hid (fun h : j1 = 0 => (show cw = 0 by rw [HC.out, if_pos (hlen.1 h)]))
  have H1 := Lib.hid (fun (h : ¬ j1 = 0) (ht : t = true) => (show cw = -1 by rw [HC.out, if_neg (fun g => h (hlen.2 g)), if_pos ((hneg (fun g => h (hlen.2 (hz.1 g)))).2 ht)]))
  have H2 := Lib.hid (fun (h : ¬ j1 = 0) (ht : t = false) => (show cw = 1 by rw [HC.out, if_neg (fun g => h (hlen.2 g)), if_neg (fun g => by have := (hneg (fun g => h (hlen.2 (hz.1 g)))).1 g; rw [ht] at this; cases this)]))
  clear hblk K5 hpz ef hq K0 K1 HV HU hlen hneg hz HC HB qe0 qe1 qe2 qe3 qe4 HM1
  go_upto_region 2 with (fail)
  rw [← hW6]
  clear hW6 z0 z1 z2 z3 z4 z5 c0 c1 c2 c3 c4 c5
  have s0 := K6.out.at 0 (v := .bool t) rfl
  have s1 := K6.out.at 1 (v := .slice B1 j1 e1) rfl
  by_cases h0 : j1 = 0
  · have HE := Lib.hid (H0.out h0)
    subst h0
    clear H0 H1 H2
    go_wp2
    go_ret
    exact ⟨by rw [HE.out]; rfl, HBF.out⟩
  · cases t with
    | true =>
      have HE := Lib.hid (H1.out h0 rfl)
      clear H0 H1 H2
      go_wp2
      go_ret
      exact ⟨by rw [HE.out]; rfl, HBF.out⟩
    | false =>
      have HE := Lib.hid (H2.out h0 rfl)
      clear H0 H1 H2
      go_wp2
      go_ret
      exact ⟨by rw [HE.out]; rfl, HBF.out⟩
end Go.Proofs.Ytionognmgcabbaa.Wide
/- The reference's fractions of any size: 1 divided by one. -/
namespace Go.Proofs.Ytionognmgcabbaa.Wide
open Go.RowKit Go.Proofs.Ytionognmgcabbaa Go.Proofs.Ytionognmgcabbaa.Base Go.Proofs.Ytionognmgcabbaa.Mem Go.Proofs.Ytionognmgcabbaa.RatM Go.Proofs.Ytionognmgcabbaa.BigM Go.Proofs.Ytionognmgcabbaa.Big Go.Proofs.Ytionognmgcabbaa.Fine Go.Proofs.Ytionognmgcabbaa.Blk
set_option linter.unusedVariables false
set_option maxHeartbeats 400000 in
set_option maxRecDepth 100000 in
theorem fMakeN (n b : Int) (d : Nat) (h1 : -1000000000000000000 ≤ n) (h2 : n ≤ 1000000000000000000) (hd : 0 < d) (hd2 : d ≤ 1000000000000000000) (hb : -b = (d : Int)) (w : World) : Calls Try.prog 107 #[.int .i64 n, .int .i64 b] w fun e w' => e = .returned (lowV (-n) d) ∧ Below w.heap.size w w' := by
  have hg0 : 0 < Nat.gcd (-n).natAbs d := Nat.gcd_pos_of_pos_right _ hd
  have hg1 : Nat.gcd (-n).natAbs d ≤ d := Nat.gcd_le_right _ hd
  have hdv := Nat.gcd_dvd_left (-n).natAbs d
  obtain ⟨e1, _, _⟩ := exact_div hdv hg0
  have e2 : (d : Int) / ((Nat.gcd (-n).natAbs d : Nat) : Int) = ((d / Nat.gcd (-n).natAbs d : Nat) : Int) := by simp
  have b2 : d / Nat.gcd (-n).natAbs d ≤ d := Nat.div_le_self _ _
  have b3 : ((-n) / ((Nat.gcd (-n).natAbs d : Nat) : Int)).natAbs ≤ 1000000000000000000 := by
    obtain ⟨_, q2, _⟩ := exact_div hdv hg0
    rw [q2]; exact Nat.le_trans (Nat.div_le_self _ _) (by omega)
  have HM := Lib.hid (fun W => maxG (-n) (by omega) (by omega) W)
  have HG := Lib.hid (fun W => gcdG (-n).natAbs d (by omega) hd2 W)
  have hlt : b < 0 := by omega
  have hw1 : IntKind.i64.wrap (-n) = -n := by rw [IntKind.wrap_i64]; omega
  have hw2 : IntKind.i64.wrap n = n := by rw [IntKind.wrap_i64]; omega
  have hw3 : IntKind.i64.wrap (-b) = d := by rw [IntKind.wrap_i64]; omega
  rw [Int.neg_neg] at HM
  unfold lowV
  clear hdv
  generalize (-n) / ((Nat.gcd (-n).natAbs d : Nat) : Int) = N at *
  generalize d / Nat.gcd (-n).natAbs d = D at *
  generalize Nat.gcd (-n).natAbs d = G at *
  rw [Int.natAbs_neg] at HM HG
  go_enter Try.func107, Try.ntmps107
  go_wp2_with fail
  have hm := HM.out (w.alloc (.cells #[.int .i64 0, .int .i64 0] 63))
  refine Calls.mono hm ?_
  rintro e w1 ⟨rfl, rfl⟩
  go_wp2_with fail
  have hg := HG.out (w.alloc (.cells #[.int .i64 0, .int .i64 0] 63))
  refine Calls.mono hg ?_
  rintro e w1 ⟨rfl, rfl⟩
  clear hm hg HM HG hw1 hw2 hw3 hb
  go_wp2_with fail
  go_region
  go_wp2
  refine bodyPost_ret (v := .agg #[.int .i64 N, .int .i64 (D : Int)]) (by simp [results, Try.results107, go_sem]) rfl ⟨rfl, ?_⟩
  exact ((Below.refl _ _).alloc (Nat.le_refl _) _).drew
theorem lowV_one {n : Int} {d : Nat} (h : Nat.gcd n.natAbs d = 1) : lowV n d = .agg #[.int .i64 n, .int .i64 (d : Int)] := by
  unfold lowV
  rw [h]
  simp
/-- 1 divided by a valid fraction other than 0 -/
theorem inv_vf {fn fd : Int} (h : VF fn fd) (h0 : fn ≠ 0) : (0 < fn → VF fd fn ∧ qf fd fn = (qf fn fd)⁻¹) ∧ (fn < 0 → VF (-fd) (-fn) ∧ qf (-fd) (-fn) = (qf fn fd)⁻¹) := by
  obtain ⟨h1, h2, h3, h4, h5⟩ := h
  have hn : fn.natAbs ≠ 0 := by omega
  have hd : fd.toNat ≠ 0 := by omega
  have hd2 : fd.natAbs = fd.toNat := by omega
  refine ⟨fun hp => ⟨⟨by omega, by omega, by omega, by omega, ?_⟩, ?_⟩, fun hp => ⟨⟨by omega, by omega, by omega, by omega, ?_⟩, ?_⟩⟩
  · rw [hd2, show fn.toNat = fn.natAbs by omega, Nat.gcd_comm]; exact h5
  · unfold qf
    rw [decide_eq_false (show ¬ fd < 0 by omega), decide_eq_false (show ¬ fn < 0 by omega), hd2, show fn.toNat = fn.natAbs by omega]
    exact qv_inv false hn hd
  · rw [show (-fd).natAbs = fd.toNat by omega, show (-fn).toNat = fn.natAbs by omega, Nat.gcd_comm]; exact h5
  · unfold qf
    rw [decide_eq_true (show -fd < 0 by omega), decide_eq_true (show fn < 0 by omega), show (-fd).natAbs = fd.toNat by omega, show (-fn).toNat = fn.natAbs by omega]
    exact qv_inv true hn hd
set_option maxHeartbeats 1000000 in
set_option maxRecDepth 100000 in
theorem over_any {q : Rat} {m : Nat} {v : Value} (w : World) (hv : IsW w q m v) (hq : q ≠ 0) (h2 : 2 ≤ m) : Calls Try.prog 106 #[v] w (WRet q⁻¹ m w) := by
  obtain ⟨s, A1, k1, c1, A2, k2, c2, fine, fn, fd, n, d, rfl, hp⟩ := hv
  obtain ⟨W2, hW2⟩ : ∃ W2, W2 = (w.alloc (.cells #[.bool s, .slice A1 k1 c1, .slice A2 k2 c2, .bool fine, .int .i64 fn, .int .i64 fd] 65)).alloc (.cells #[.bool false, .slice none 0 0, .slice none 0 0, .bool false, .int .i64 0, .int .i64 0] 65) := ⟨_, rfl⟩
  have K0 : Hid (Blk W2 w.heap.size 65 #[.bool s, .slice A1 k1 c1, .slice A2 k2 c2, .bool fine, .int .i64 fn, .int .i64 fd]) := Lib.hid (by rw [hW2]; exact (Blk.new w _ _).alloc _)
  have KR : Hid (Blk W2 (w.heap.size + 1) 65 #[.bool false, .slice none 0 0, .slice none 0 0, .bool false, .int .i64 0, .int .i64 0]) := Lib.hid (by rw [hW2]; exact Blk.newAt _ _ (by simp))
  have hb2 : Below w.heap.size w W2 := by rw [hW2]; exact ((Below.refl _ _).alloc (Nat.le_refl _) _).alloc (by simp) _
  have HB := Lib.hid hb2
  have HP := Lib.hid (hp.below hb2)
  have HW := Lib.hid hW2
  have HZ := Lib.hid (hp.zero.1)
  clear hW2 hb2 hp
  cases fine with
  | false =>
    have hn : n ≠ 0 := fun e => hq (HZ.out.1 e)
    have HPI : Hid (Parts W2 q⁻¹ m s (.slice A2 k2 c2) (.slice A1 k1 c1) false 0 0 d n) := Lib.hid ⟨HP.out.den, HP.out.num, by omega, by rw [← HP.out.val]; exact qv_inv s hn (by have := HP.out.pos; omega), HP.out.ld, HP.out.ln, fun e => by cases e⟩
    clear HP HZ hn hq
    generalize q⁻¹ = r at *
    go_enter Try.func106, Try.ntmps106
    have x0 := K0.out.at 0 (v := .bool s) rfl
    have x1 := K0.out.at 1 (v := .slice A1 k1 c1) rfl
    have x2 := K0.out.at 2 (v := .slice A2 k2 c2) rfl
    have x3 := K0.out.at 3 (v := .bool false) rfl
    go_upto_region 1 with (fail)
    rw [← HW.out]
    have z0 := (KR.out).frz 0
    have z1 := (KR.out).frz 1
    have z2 := (KR.out).frz 2
    have z3 := (KR.out).frz 3
    have z4 := (KR.out).frz 4
    have z5 := (KR.out).frz 5
    have r0 := (KR.out).at 0 (v := .bool false) rfl
    have r1 := (KR.out).at 1 (v := .slice none 0 0) rfl
    have r2 := (KR.out).at 2 (v := .slice none 0 0) rfl
    have r3 := (KR.out).at 3 (v := .bool false) rfl
    have r4 := (KR.out).at 4 (v := .int .i64 0) rfl
    have r5 := (KR.out).at 5 (v := .int .i64 0) rfl
    have SS := put6_blk (KR.out) (.bool s) (.slice A2 k2 c2) (.slice A1 k1 c1) (.bool false) (.int .i64 0) (.int .i64 0)
    unfold put6 at SS
    have s0 := SS.at 0 rfl
    have s1 := SS.at 1 rfl
    have s2 := SS.at 2 rfl
    have s3 := SS.at 3 rfl
    have s4 := SS.at 4 rfl
    have s5 := SS.at 5 rfl
    have HFIN := Lib.hid (WRet.put (HPI.out) (KR.out) (HB.out) (Nat.le_succ _))
    clear SS
    unfold put6 at HFIN
    go_wp2
    refine bodyPost_ret (v := .agg #[.bool s, .slice A2 k2 c2, .slice A1 k1 c1, .bool false, .int .i64 0, .int .i64 0]) (by simp [results, Try.results106, go_sem, s0, s1, s2, s3, s4, s5]) rfl ?_
    exact HFIN.out
  | true =>
    obtain ⟨hvf, hqf, _, _⟩ := HP.out.small rfl
    have hf0 : fn ≠ 0 := fun e => by
      subst e
      apply hq
      rw [← hqf]
      unfold qf
      exact qv_zero _ _
    obtain ⟨i1, i2⟩ := inv_vf hvf hf0
    rw [hqf] at i1 i2
    have hgc : Nat.gcd fd.natAbs fn.natAbs = 1 := by
      have := hvf.2.2.2.2
      rw [Nat.gcd_comm, show fd.natAbs = fd.toNat by have := hvf.1; omega]
      exact this
    have HMK : Hid (∃ gn gd, VF gn gd ∧ qf gn gd = q⁻¹ ∧ ∀ W, Calls Try.prog 107 #[.int .i64 fd, .int .i64 fn] W fun e w' => e = .returned (.agg #[.int .i64 gn, .int .i64 gd]) ∧ Below W.heap.size W w') := Lib.hid (by
      have b1 := hvf.1
      have b2 := hvf.2.1
      have b3 := hvf.2.2.1
      have b4 := hvf.2.2.2.1
      rcases Int.lt_or_gt_of_ne hf0 with h | h
      · refine ⟨_, _, (i2 h).1, (i2 h).2, fun W => ?_⟩
        have := fMakeN fd fn fn.natAbs (by omega) (by omega) (by omega) (by omega) (by omega) W
        rw [lowV_one (by rw [Int.natAbs_neg]; exact hgc), show ((fn.natAbs : Nat) : Int) = -fn by omega] at this
        exact this
      · refine ⟨_, _, (i1 h).1, (i1 h).2, fun W => ?_⟩
        have := fMakeG fd fn.natAbs (by omega) (by omega) (by omega) (by omega) W
        rw [lowV_one hgc, show ((fn.natAbs : Nat) : Int) = fn by omega] at this
        exact this)
    obtain ⟨gn, gd, hg1, hg2, hg3⟩ := HMK.out
    have HM := Lib.hid hg3
    have HWO := Lib.hid (fun W => wideOf_any hg1 W)
    rw [hg2] at HWO
    have HBnd := Lib.hid h2
    clear HMK hg3 hg1 hg2 i1 i2 hf0 hvf hqf hgc HP HZ hq h2
    generalize q⁻¹ = r at *
    go_enter Try.func106, Try.ntmps106
    have x3 := K0.out.at 3 (v := .bool true) rfl
    have x4 := K0.out.at 4 (v := .int .i64 fn) rfl
    have x5 := K0.out.at 5 (v := .int .i64 fd) rfl
    go_upto_region 1 with (fail)
    rw [← HW.out]
    go_wp2_with fail
    refine (HM.out _).mono ?_
    rintro e w3 ⟨rfl, hb3⟩
    have HB3 := Lib.hid (Base.Below.nextA HB.out hb3)
    have KR3 := Lib.hid (KR.out.belowS hb3)
    clear hb3 HM KR HB K0 x3 x4 x5 HW
    go_wp2_with fail
    refine (HWO.out _).mono ?_
    rintro e w4 ⟨v, rfl, hv4, hb4⟩
    obtain ⟨s', B1, j1, d1, B2, j2, d2, fine', fn', fd', nn, dd, rfl, hp4⟩ := hv4
    have HB4 := Lib.hid (Base.Below.nextA HB3.out hb4)
    have KR4 := Lib.hid (KR3.out.belowS hb4)
    have HP4 := Lib.hid (hp4.more HBnd.out)
    clear hb4 hp4 HWO KR3 HB3
    have z0 := (KR4.out).frz 0
    have z1 := (KR4.out).frz 1
    have z2 := (KR4.out).frz 2
    have z3 := (KR4.out).frz 3
    have z4 := (KR4.out).frz 4
    have z5 := (KR4.out).frz 5
    have r0 := (KR4.out).at 0 (v := .bool false) rfl
    have r1 := (KR4.out).at 1 (v := .slice none 0 0) rfl
    have r2 := (KR4.out).at 2 (v := .slice none 0 0) rfl
    have r3 := (KR4.out).at 3 (v := .bool false) rfl
    have r4 := (KR4.out).at 4 (v := .int .i64 0) rfl
    have r5 := (KR4.out).at 5 (v := .int .i64 0) rfl
    have SS := put6_blk (KR4.out) (.bool s') (.slice B1 j1 d1) (.slice B2 j2 d2) (.bool fine') (.int .i64 fn') (.int .i64 fd')
    unfold put6 at SS
    have s0 := SS.at 0 rfl
    have s1 := SS.at 1 rfl
    have s2 := SS.at 2 rfl
    have s3 := SS.at 3 rfl
    have s4 := SS.at 4 rfl
    have s5 := SS.at 5 rfl
    have HFIN := Lib.hid (WRet.put (HP4.out) (KR4.out) (HB4.out) (Nat.le_succ _))
    clear SS
    unfold put6 at HFIN
    go_wp2
    refine bodyPost_ret (v := .agg #[.bool s', .slice B1 j1 d1, .slice B2 j2 d2, .bool fine', .int .i64 fn', .int .i64 fd']) (by simp [results, Try.results106, go_sem, s0, s1, s2, s3, s4, s5]) rfl ?_
    exact HFIN.out
end Go.Proofs.Ytionognmgcabbaa.Wide
/- The reference: small laws for the solver: sizes behind lowest terms, a copied row. -/
namespace Go.Proofs.Ytionognmgcabbaa.Wide
open Go.RowKit Go.Proofs.Ytionognmgcabbaa Go.Proofs.Ytionognmgcabbaa.Base Go.Proofs.Ytionognmgcabbaa.Mem Go.Proofs.Ytionognmgcabbaa.RatM Go.Proofs.Ytionognmgcabbaa.BigM Go.Proofs.Ytionognmgcabbaa.Big Go.Proofs.Ytionognmgcabbaa.Fine Go.Proofs.Ytionognmgcabbaa.Blk Go.Proofs.Ytionognmgcabbaa.GaussM
open Go.Proofs.Ytionognmgcabbaa.Ratio (Stg solB solX sN sol_yes sol_no)
set_option linter.unusedVariables false
theorem infoWW : (Try.prog.info? 61).map (fun i => (i.zero, i.size, i.bytes)) = some (some (.slice none 0 0), 1, 24) := by kernel_rfl
/-- how many digits there are at stage k -/
def mD : Nat → Nat
  | 0 => 5
  | k + 1 => 4 * mD k + 1
theorem pow_nextD (m : Nat) : 2 * (D30 ^ m * (D30 ^ m * (D30 ^ m * D30 ^ m))) ≤ D30 ^ (4 * m + 1) := by
  have e : D30 ^ (4 * m + 1) = D30 * (D30 ^ m * (D30 ^ m * (D30 ^ m * D30 ^ m))) := by
    rw [Nat.pow_succ, Nat.mul_comm _ D30, show 4 * m = m + (m + (m + m)) by omega, Nat.pow_add, Nat.pow_add, Nat.pow_add]
  rw [e]
  exact Nat.mul_le_mul_right _ (by decide)
theorem mD_up : ∀ {a b : Nat}, a ≤ b → mD a ≤ mD b
  | a, 0, h => by
    obtain rfl : a = 0 := by omega
    exact Nat.le_refl _
  | a, b + 1, h => by
    rcases Nat.lt_or_ge a (b + 1) with h1 | h1
    · have := mD_up (show a ≤ b by omega)
      show mD a ≤ 4 * mD b + 1
      omega
    · obtain rfl : a = b + 1 := by omega
      exact Nat.le_refl _
theorem D30_pos : 0 < D30 := by decide
theorem dgD_more {m k : Nat} {q : Rat} (h : Dg (D30 ^ m) q) (hk : m ≤ k) : Dg (D30 ^ k) q := h.more (Nat.pow_le_pow_right D30_pos hk)
theorem dgD_mul {m k : Nat} {q r : Rat} (h : Dg (D30 ^ m) q) (g : Dg (D30 ^ k) r) : Dg (D30 ^ (m + k)) (q * r) := by
  rw [Nat.pow_add]; exact h.mul g
theorem IsW.parts {w : World} {q : Rat} {m : Nat} {s fi : Bool} {A1 A2 : Option Addr} {k1 c1 k2 c2 : Nat} {fn fd : Int} (h : IsW w q m (.agg #[.bool s, .slice A1 k1 c1, .slice A2 k2 c2, .bool fi, .int .i64 fn, .int .i64 fd])) : ∃ nn dd, Parts w q m s (.slice A1 k1 c1) (.slice A2 k2 c2) fi fn fd nn dd := by
  obtain ⟨s', B1, j1, d1, B2, j2, d2, fi', fn', fd', nn, dd, e, hp⟩ := h
  injection e with e
  simp only [Array.mk.injEq, List.cons.injEq, Value.slice.injEq, Value.bool.injEq, Value.int.injEq, true_and, and_true] at e
  obtain ⟨rfl, ⟨rfl, rfl, rfl⟩, ⟨rfl, rfl, rfl⟩, rfl, rfl, rfl⟩ := e
  exact ⟨nn, dd, hp⟩
theorem rat_sub (a b d : Rat) : a + -1 * b * d = a - b * d := by grind
theorem rat_zero (a : Rat) : 0 * a = 0 := by grind
/-- in lowest terms the digits are those of the rational -/
theorem IsL.le {w : World} {q : Rat} {m k : Nat} {v : Value} (h : IsL w q m v) (hk : Dg (D30 ^ k) q) : IsW w q k v := by
  obtain ⟨s, A1, k1, c1, A2, k2, c2, fine, fn, fd, n, d, e, hp, h1, h2⟩ := h
  subst h1 h2
  exact ⟨s, A1, k1, c1, A2, k2, c2, fine, fn, fd, _, _, e, hp.num, hp.den, hp.pos, hp.val, bigL_len_le hk.1, bigL_len_le hk.2, hp.small⟩
theorem len_zero {w : World} {q : Rat} {m : Nat} {s fine : Bool} {A1 : Option Addr} {k1 c1 : Nat} {vd : Value} {fn fd : Int} {n d : Nat} (h : Parts w q m s (.slice A1 k1 c1) vd fine fn fd n d) : k1 = 0 ↔ q = 0 := by
  obtain ⟨A, c, e, _⟩ := Dig.form h.num
  injection e with _ e _
  rw [← h.zero.1, e]
  constructor
  · intro h0
    rcases Nat.eq_zero_or_pos n with hn | hn
    · exact hn
    · rw [bigL_pos (by omega)] at h0; cases h0
  · intro h0
    subst h0
    rw [bigL_zero]; rfl
theorem six_take {cs : Array Value} {i : Nat} {v0 v1 v2 v3 v4 v5 : Value} (x0 : cs[i * 6]? = some v0) (x1 : cs[i * 6 + 1]? = some v1) (x2 : cs[i * 6 + 2]? = some v2) (x3 : cs[i * 6 + 3]? = some v3) (x4 : cs[i * 6 + 4]? = some v4) (x5 : cs[i * 6 + 5]? = some v5) {N : Nat} (hN : i * 6 + 6 ≤ N) : ((cs.toList.take N).drop (i * 6)).take 6 = [v0, v1, v2, v3, v4, v5] := by
  apply List.ext_getElem?
  intro j
  rw [List.getElem?_take]
  by_cases hj : j < 6
  · rw [if_pos hj, List.getElem?_drop, List.getElem?_take, if_pos (by omega), Array.getElem?_toList]
    have : j = 0 ∨ j = 1 ∨ j = 2 ∨ j = 3 ∨ j = 4 ∨ j = 5 := by omega
    rcases this with rfl | rfl | rfl | rfl | rfl | rfl <;> assumption
  · rw [if_neg hj, List.getElem?_eq_none (by simp; omega)]
/-- the cells of a row -/
def rowC (cs : Array Value) (L : Nat) : List Value := cs.toList.take (L * 6)
theorem rowC_len {w : World} {g L m : Nat} {f : Nat → Rat} {cs : Array Value} (h : RowV w g L f m cs) : (rowC cs L).length = L * 6 := by
  unfold rowC
  have := h.size
  simp
  omega
theorem rowC_news {w : World} {g L m : Nat} {f : Nat → Rat} {cs : Array Value} (h : RowV w g L f m cs) : ∀ (j : Nat) (u : Value), (rowC cs L)[j]? = some u → w.cell? ((⟨g, 0, none⟩ : Addr).add j) = some u := by
  intro j u hu
  unfold rowC at hu
  rw [List.getElem?_take] at hu
  split at hu
  · rw [Addr.add_lit, Nat.zero_add, h.blk.cell, ← Array.getElem?_toList]; exact hu
  · cases hu
theorem rowC_ones {w : World} {g L m : Nat} {f : Nat → Rat} {cs : Array Value} (h : RowV w g L f m cs) : ∀ u ∈ rowC cs L, u.oneCell' = true := by
  intro u hu
  obtain ⟨j, hj⟩ := List.getElem?_of_mem hu
  unfold rowC at hj
  rw [List.getElem?_take] at hj
  split at hj
  · rename_i hlt
    rw [Array.getElem?_toList] at hj
    have hi : j / 6 < L := by omega
    obtain ⟨s, A1, k1, c1, A2, k2, c2, fine, fn, fd, nn, dd, x0, x1, x2, x3, x4, x5, hp⟩ := h.els (j / 6) hi
    have hr : j = j / 6 * 6 ∨ j = j / 6 * 6 + 1 ∨ j = j / 6 * 6 + 2 ∨ j = j / 6 * 6 + 3 ∨ j = j / 6 * 6 + 4 ∨ j = j / 6 * 6 + 5 := by omega
    generalize j / 6 = i at *
    rcases hr with rfl | rfl | rfl | rfl | rfl | rfl
    · rw [x0] at hj; injection hj with hj; subst hj; rfl
    · rw [x1] at hj; injection hj with hj; subst hj; rfl
    · rw [x2] at hj; injection hj with hj; subst hj; rfl
    · rw [x3] at hj; injection hj with hj; subst hj; rfl
    · rw [x4] at hj; injection hj with hj; subst hj; rfl
    · rw [x5] at hj; injection hj with hj; subst hj; rfl
  · cases hj
/-- the cells of a row, appended to nothing -/
theorem RowV.copied {w w' : World} {g L m B n0 B0 : Nat} {f : Nat → Rat} {cs : Array Value} {v0 v : Value} {xs0 : List Value} (h : RowV w g L f m cs) (h0 : w.ownsRow B0 65 6 v0 n0 xs0) (hown : w'.ownsRow B 65 6 v L (rowC cs L)) (hg : w.grownBy w' v0.ownBlock) : OwnW w' B v L f m (rowC cs L) :=
  ⟨hown, fun i hi => by
    obtain ⟨s, A1, k1, c1, A2, k2, c2, fine, fn, fd, nn, dd, x0, x1, x2, x3, x4, x5, hp⟩ := h.els i hi
    exact ⟨s, A1, k1, c1, A2, k2, c2, fine, fn, fd, nn, dd, six_take x0 x1 x2 x3 x4 x5 (by omega), hp.kept h0 (by decide) hg⟩⟩
/-- the only solution is returned, if there is one -/
def SwRet (M : Nat → Nat → Rat) (n m : Nat) (w : World) (e : Ending) (w' : World) : Prop := ∃ v cs, e = .returned (.tuple #[v, .bool (solB M n n)]) ∧ OwnW w' w.heap.size v (sN M n n) (solX M n n) m cs ∧ Below w.heap.size w w'
theorem sw_no {M : Nat → Nat → Rat} {n m : Nat} {w w' : World} (h : ∀ x, ¬ Only M n n x) (hb : Below w.heap.size w w') : SwRet M n m w (.returned (.tuple #[.slice none 0 0, .bool false])) w' := by
  have h1 := sol_no h
  refine ⟨.slice none 0 0, [], by rw [h1], ?_, hb⟩
  unfold sN
  rw [h1]
  exact OwnW.nil _ _ _ _
theorem sw_yes {M : Nat → Nat → Rat} {n m : Nat} {w w' : World} {x : Nat → Rat} {v : Value} {cs : List Value} (h : Only M n n x) (ho : OwnW w' w.heap.size v n x m cs) (hb : Below w.heap.size w w') : SwRet M n m w (.returned (.tuple #[v, .bool true])) w' := by
  obtain ⟨h1, h2⟩ := sol_yes h
  refine ⟨v, cs, by rw [h1], ?_, hb⟩
  unfold sN
  rw [h1, if_pos rfl]
  exact ho.congr fun i hi => (h2 i hi).symm
end Go.Proofs.Ytionognmgcabbaa.Wide
