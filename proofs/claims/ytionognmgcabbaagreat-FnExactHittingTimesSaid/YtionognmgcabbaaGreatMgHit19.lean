/- The reference's fractions of any size: compared. -/
import Derived.Test.YtionognmgcabbaaGreatMgHit18
import Derived.Test.YtionognmgcabbaaGreatMgHit17
import Derived.Deep.Cut
import Derived.Test.YtionognmgcabbaaGreatMgHit06
import Derived.Test.YtionognmgcabbaaGreatMgHit07
import Derived.Test.YtionognmgcabbaaGreatMgHit11
import Derived.Test.YtionognmgcabbaaGreatMgHit15
import Derived.Test.YtionognmgcabbaaGreatMgHit09
namespace Go.Proofs.YtionognmgcabbaaGreat.Wide
open Go.RowKit Go.Proofs.YtionognmgcabbaaGreat Go.Proofs.YtionognmgcabbaaGreat.Base Go.Proofs.YtionognmgcabbaaGreat.Mem Go.Proofs.YtionognmgcabbaaGreat.RatM Go.Proofs.YtionognmgcabbaaGreat.BigM Go.Proofs.YtionognmgcabbaaGreat.Big Go.Proofs.YtionognmgcabbaaGreat.Fine Go.Proofs.YtionognmgcabbaaGreat.Blk
set_option linter.unusedVariables false
def cmpW (q r : Rat) : Int := if q = r then 0 else if q < r then -1 else 1
theorem vf_minus : VF (-1) 1 := ⟨by decide, by decide, by decide, by decide, by decide⟩
theorem vf_one : VF 1 1 := ⟨by decide, by decide, by decide, by decide, by decide⟩
theorem qf_minus : qf (-1) 1 = -1 := by decide +kernel
theorem qf_one : qf 1 1 = 1 := by decide +kernel
theorem cmpW_sub (q r : Rat) : cmpW q r = if q + -1 * r = 0 then 0 else if q + -1 * r < 0 then -1 else 1 := by
  unfold cmpW
  have h1 : q = r ↔ q + -1 * r = 0 := by grind
  have h2 : q < r ↔ q + -1 * r < 0 := by grind
  simp only [h1, h2]
theorem Parts.zero {w : World} {q : Rat} {m : Nat} {s fine : Bool} {vn vd : Value} {fn fd : Int} {n d : Nat} (h : Parts w q m s vn vd fine fn fd n d) : (n = 0 ↔ q = 0) ∧ (n ≠ 0 → (q < 0 ↔ s = true)) := by
  have hd := Nat.ne_of_gt h.pos
  rw [← h.val]
  refine ⟨(qv_eq_zero hd).symm, fun hn => ?_⟩
  have := qv_neg (s := s) hn hd
  constructor
  · intro hx; rw [← this]; simpa using hx
  · intro hx; rw [hx] at this ⊢; simpa using this
set_option maxHeartbeats 4000000 in
set_option maxRecDepth 100000 in
theorem cmp_any {q r : Rat} {m m' : Nat} {v u : Value} (w : World) (hv : IsW w q m v) (hu : IsW w r m' u) (h2 : 2 ≤ m) (h2' : 2 ≤ m') (hm : m + m' ≤ 300000) : Calls Tryz.prog 74 #[v, u] w fun e w' => e = .returned (.int .i64 (cmpW q r)) ∧ Below w.heap.size w w' := by
  have HC := Lib.hid (cmpW_sub q r)
  generalize cmpW q r = cw at *
  have HV0 := Lib.hid hv
  have HU0 := Lib.hid hu
  have HM1 := Lib.hid (fun W => wideOf_any vf_minus W)
  rw [qf_minus] at HM1
  obtain ⟨s, A1, k1, c1, A2, k2, c2, fa, fn, fd, n, d, rfl, hp⟩ := hv
  obtain ⟨s', A3, k3, c3, A4, k4, c4, fb, gn, gd, n', d', rfl, hp'⟩ := hu
  obtain ⟨W3, hW3⟩ : ∃ W3, W3 = (w.alloc (.cells #[.bool s, .slice A1 k1 c1, .slice A2 k2 c2, .bool fa, .int .i64 fn, .int .i64 fd] 81)).alloc (.cells #[.bool s', .slice A3 k3 c3, .slice A4 k4 c4, .bool fb, .int .i64 gn, .int .i64 gd] 81) := ⟨_, rfl⟩
  have K0 : Hid (Blk W3 w.heap.size 81 #[.bool s, .slice A1 k1 c1, .slice A2 k2 c2, .bool fa, .int .i64 fn, .int .i64 fd]) := Lib.hid (by rw [hW3]; exact (Blk.new w _ _).alloc _)
  have K1 : Hid (Blk W3 (w.heap.size + 1) 81 #[.bool s', .slice A3 k3 c3, .slice A4 k4 c4, .bool fb, .int .i64 gn, .int .i64 gd]) := Lib.hid (by rw [hW3]; exact Blk.newAt _ _ (by simp))
  have HB : Hid (Below w.heap.size w W3) := Lib.hid (by rw [hW3]; exact ((Below.refl _ _).alloc (Nat.le_refl _) _).alloc (by simp) _)
  have HV := Lib.hid (fun W (h : Below W3.heap.size W3 W) => HV0.out.below (Base.Below.nextA HB.out h))
  have HU := Lib.hid (fun W (h : Below W3.heap.size W3 W) => HU0.out.below (Base.Below.nextA HB.out h))
  have HW := Lib.hid hW3
  clear hW3 hp hp' HV0 HU0
  go_enter Tryz.func74, Tryz.ntmps74
  go_upto_region 1 with (fail)
  rw [← HW.out]
  clear HW
  refine Rel.wp_region_rel 7 (by kernel_rfl) (by kernel_rfl) (fun F hF => ?_)
  simp only [List.take_succ_cons, List.take_zero, List.drop_succ_cons, List.drop_zero, Rel.putL] at hF ⊢
  have HF := Lib.hid hF
  clear hF
  have uv := @Rel.upon_value Tryz.prog
  have ue := @Rel.upon_enter Tryz.prog
  apply Rel.rel_pure
  apply Exists.intro
  refine ⟨fun vs wq hq hdp R hR => ?_, ?_⟩
  · (rw [HF.out, Rel.stepAt_eq]; clear hdp; have x0 := (K0.out.belowS hq).at 0 (v := .bool s) rfl; have x1 := (K0.out.belowS hq).at 1 (v := .slice A1 k1 c1) rfl; have x2 := (K0.out.belowS hq).at 2 (v := .slice A2 k2 c2) rfl; have x3 := (K0.out.belowS hq).at 3 (v := .bool fa) rfl; have x4 := (K0.out.belowS hq).at 4 (v := .int .i64 fn) rfl; have x5 := (K0.out.belowS hq).at 5 (v := .int .i64 fd) rfl; go_simp; exact hR)
  apply Rel.rel_pure
  apply Exists.intro
  refine ⟨fun vs wq hq hdp R hR => ?_, ?_⟩
  · (rw [HF.out, Rel.stepAt_eq]; clear hdp; skip; go_simp; exact hR)
  refine Rel.rel_law (S := fun v w' => IsW w' (-1) 2 v) (isW_mono _ _) (fun vs wq hq hdp => ?_) ?_
  · (rw [HF.out, Rel.stepAt_eq]; have qd1 : vs 1 = _ := Rel.dep hdp 1 (by kernel_rfl); clear hdp; skip; go_simp; refine (HM1.out _).mono ?_; rintro e w7 ⟨v, rfl, hv, hb⟩; exact ⟨_, rfl, hv, hb⟩)
  apply Rel.rel_pure
  apply Exists.intro
  refine ⟨fun vs wq hq hdp R hR => ?_, ?_⟩
  · (rw [HF.out, Rel.stepAt_eq]; clear hdp; have x0 := (K1.out.belowS hq).at 0 (v := .bool s') rfl; have x1 := (K1.out.belowS hq).at 1 (v := .slice A3 k3 c3) rfl; have x2 := (K1.out.belowS hq).at 2 (v := .slice A4 k4 c4) rfl; have x3 := (K1.out.belowS hq).at 3 (v := .bool fb) rfl; have x4 := (K1.out.belowS hq).at 4 (v := .int .i64 gn) rfl; have x5 := (K1.out.belowS hq).at 5 (v := .int .i64 gd) rfl; go_simp; exact hR)
  refine Rel.rel_law (S := fun v w' => IsW w' (-1 * r) (2 + m') v) (isW_mono _ _) (fun vs wq hq hdp => ?_) ?_
  · (rw [HF.out, Rel.stepAt_eq]; have qd2 : IsW wq _ _ (vs 2) := Rel.dep hdp 2 (by kernel_rfl); have qd3 : vs 3 = _ := Rel.dep hdp 3 (by kernel_rfl); clear hdp; skip; go_simp; refine (wideMul_any wq qd2 (HU.out wq hq) (by decide) (by omega) (by decide) h2').mono ?_; rintro e w7 ⟨v, rfl, hv, hb⟩; exact ⟨_, rfl, hv, hb⟩)
  refine Rel.rel_law (S := fun v w' => IsW w' (q + -1 * r) (m + (2 + m') + 1) v) (isW_mono _ _) (fun vs wq hq hdp => ?_) ?_
  · (rw [HF.out, Rel.stepAt_eq]; have qd0 : vs 0 = _ := Rel.dep hdp 0 (by kernel_rfl); have qd4 : IsW wq _ _ (vs 4) := Rel.dep hdp 4 (by kernel_rfl); clear hdp; skip; go_simp; refine (wideAdd_any wq (HV.out wq hq) qd4 (by omega) (by omega) h2 (by omega)).mono ?_; rintro e w7 ⟨v, rfl, hv, hb⟩; exact ⟨_, rfl, hv, hb⟩)
  refine Rel.rel_alloc (cs := #[.bool false, .slice none 0 0, .slice none 0 0, .bool false, .int .i64 0, .int .i64 0]) (t := 81) (fun vs wq hq hdp R hR => ?_) ?_
  · (rw [HF.out, Rel.stepAt_eq]; clear hdp; go_simp; exact hR)
  refine Rel.rel_end (fun vs wq hq hall => ?_)
  rw [HF.out]
  have qe0 : vs 0 = _ := Rel.fin hall 0 (by decide)
  have qe1 : vs 1 = _ := Rel.fin hall 1 (by decide)
  have qe2 : IsW wq _ _ (vs 2) := Rel.fin hall 2 (by decide)
  have qe3 : vs 3 = _ := Rel.fin hall 3 (by decide)
  have qe4 : IsW wq _ _ (vs 4) := Rel.fin hall 4 (by decide)
  have qe5 : IsW wq _ _ (vs 5) := Rel.fin hall 5 (by decide)
  have qe6 : Rel.NewB _ _ _ (vs 6) wq := Rel.fin hall 6 (by decide)
  clear hall HF uv ue
  obtain ⟨g5, eg5, hg5, hblk⟩ := qe6
  obtain ⟨t, B1, j1, e1, B2, j2, e2, fi, tn, td, nn, dd, ev5, hpz⟩ := qe5
  have K5 : Blk wq g5 81 #[.bool false, .slice none 0 0, .slice none 0 0, .bool false, .int .i64 0, .int .i64 0] := hblk
  obtain ⟨W6, hW6⟩ : ∃ W6, W6 = put6 wq g5 (.bool t) (.slice B1 j1 e1) (.slice B2 j2 e2) (.bool fi) (.int .i64 tn) (.int .i64 td) := ⟨_, rfl⟩
  have K6 : Hid (Blk W6 g5 81 #[.bool t, .slice B1 j1 e1, .slice B2 j2 e2, .bool fi, .int .i64 tn, .int .i64 td]) := Lib.hid (by rw [hW6]; exact put6_blk K5 _ _ _ _ _ _)
  have HBF : Hid (Below w.heap.size w W6) := Lib.hid (by rw [hW6]; exact put6_below (Base.Below.nextA HB.out hq) (show w.heap.size ≤ g5 by have := HB.out.size; omega) _ _ _ _ _ _)
  unfold put6 at hW6
  have z0 := K5.frz 0
  have z1 := K5.frz 1
  have z2 := K5.frz 2
  have z3 := K5.frz 3
  have z4 := K5.frz 4
  have z5 := K5.frz 5
  have c0 := K5.at 0 (v := .bool false) rfl
  have c1 := K5.at 1 (v := .slice none 0 0) rfl
  have c2 := K5.at 2 (v := .slice none 0 0) rfl
  have c3 := K5.at 3 (v := .bool false) rfl
  have c4 := K5.at 4 (v := .int .i64 0) rfl
  have c5 := K5.at 5 (v := .int .i64 0) rfl
  obtain ⟨hz, hneg⟩ := hpz.zero
  obtain ⟨_, _, ef, -⟩ := Dig.form hpz.num
  replace ef := (Value.slice.inj ef).2.1
  have hlen : j1 = 0 ↔ q + -1 * r = 0 := by
    rw [← hz, ef]
    constructor
    · intro h0
      rcases Nat.eq_zero_or_pos nn with g | g
      · exact g
      · have := len_pos g; omega
    · intro h0; rw [h0, bigL_zero]; rfl
  have H0 := Lib.hid (fun h : j1 = 0 => (show cw = 0 by rw [HC.out, if_pos (hlen.1 h)]))
  have H1 := Lib.hid (fun (h : ¬ j1 = 0) (ht : t = true) => (show cw = -1 by rw [HC.out, if_neg (fun g => h (hlen.2 g)), if_pos ((hneg (fun g => h (hlen.2 (hz.1 g)))).2 ht)]))
  have H2 := Lib.hid (fun (h : ¬ j1 = 0) (ht : t = false) => (show cw = 1 by rw [HC.out, if_neg (fun g => h (hlen.2 g)), if_neg (fun g => by have := (hneg (fun g => h (hlen.2 (hz.1 g)))).1 g; rw [ht] at this; cases this)]))
  clear hblk K5 hpz ef hq K0 K1 HV HU hlen hneg hz HC HB qe0 qe1 qe2 qe3 qe4 HM1
  go_upto_region 2 with (fail)
  rw [← hW6]
  clear hW6 z0 z1 z2 z3 z4 z5 c0 c1 c2 c3 c4 c5
  have s0 := K6.out.at 0 (v := .bool t) rfl
  have s1 := K6.out.at 1 (v := .slice B1 j1 e1) rfl
  by_cases h0 : j1 = 0
  · have HE := Lib.hid (H0.out h0)
    subst h0
    clear H0 H1 H2
    go_wp2
    go_ret
    exact ⟨by rw [HE.out]; rfl, HBF.out⟩
  · cases t with
    | true =>
      have HE := Lib.hid (H1.out h0 rfl)
      clear H0 H1 H2
      go_wp2
      go_ret
      exact ⟨by rw [HE.out]; rfl, HBF.out⟩
    | false =>
      have HE := Lib.hid (H2.out h0 rfl)
      clear H0 H1 H2
      go_wp2
      go_ret
      exact ⟨by rw [HE.out]; rfl, HBF.out⟩
end Go.Proofs.YtionognmgcabbaaGreat.Wide
/- The reference: whether a list are chances; the bits of a source. -/
namespace Go.Proofs.YtionognmgcabbaaGreat.Wide
open Go.RowKit Go.Proofs.YtionognmgcabbaaGreat Go.Proofs.YtionognmgcabbaaGreat.Base Go.Proofs.YtionognmgcabbaaGreat.Mem Go.Proofs.YtionognmgcabbaaGreat.RatM Go.Proofs.YtionognmgcabbaaGreat.BigM Go.Proofs.YtionognmgcabbaaGreat.Big Go.Proofs.YtionognmgcabbaaGreat.Fine Go.Proofs.YtionognmgcabbaaGreat.Blk Go.Proofs.YtionognmgcabbaaGreat.GaussM Go.Proofs.YtionognmgcabbaaGreat.MemF Go.Proofs.YtionognmgcabbaaGreat.ValF Go.Proofs.YtionognmgcabbaaGreat.ChM
set_option linter.unusedVariables false
set_option maxHeartbeats 1000000 in
theorem fAll_any {A : Option Addr} {c B n : Nat} {fs : List Int} (w : World) (hx : RdF w B A n fs) (hB : B ≤ w.heap.size) (hn : n ≤ 1099511627776) : Calls Tryz.prog 160 #[.slice A n c] w fun e w' => e = .returned (.bool (vfAll fs n)) ∧ Below w.heap.size w w' := by
  have HX := Lib.hid (hx.more hB)
  clear hx
  go_enter Tryz.func160, Tryz.ntmps160
  go_wp2
  go_loopw [3] (fun iv wr => ∃ i : Nat, iv = .int .i64 (i : Int) ∧ i ≤ n ∧ Hid (∀ j, j < i → vfB (fs.getD (2 * j) 0) (fs.getD (2 * j + 1) 0) = true) ∧ Hid (Below w.heap.size w wr)) (fun iv _ => n - (intOf iv).toNat)
  case atStart => exact ⟨0, rfl, Nat.zero_le _, Lib.hid fun j hj => absurd hj (Nat.not_lt_zero j), Lib.hid (Below.refl _ _)⟩
  case round =>
    obtain ⟨i, rfl, hi, hall, HB⟩ := hrel
    by_cases hlt : i < n
    · obtain ⟨b, off, rfl, hbl, g1, g2⟩ := (HX.out.below HB.out (Nat.le_refl _)).at hlt
      have HV := Lib.hid (fun W => validS_any (fs.getD (2 * i) 0) (fs.getD (2 * i + 1) 0) W)
      have HNO := Lib.hid (fun h => (show vfAll fs n = false from all_no hlt h))
      have HYES := Lib.hid (fun (h : vfB (fs.getD (2 * i) 0) (fs.getD (2 * i + 1) 0) = true) j (hj : j < i + 1) => (show vfB (fs.getD (2 * j) 0) (fs.getD (2 * j + 1) 0) = true by
        rcases Nat.lt_or_ge j i with h1 | h1
        · exact hall.out j h1
        · obtain rfl : j = i := by omega
          exact h))
      have hsz := HB.out.size
      generalize fs.getD (2 * i) 0 = x0 at *
      generalize fs.getD (2 * i + 1) 0 = x1 at *
      go_wp2_with fail
      refine (HV.out _).mono ?_
      rintro e w1 ⟨rfl, hb1⟩
      have HB1 := Lib.hid (Base.Below.nextA HB.out hb1)
      cases hv : vfB x0 x1 with
      | false =>
        have HE := Lib.hid (HNO.out hv)
        clear HNO HYES HV hb1 hv HB g1 g2 hall
        go_wp2
        go_ret
        exact ⟨by rw [HE.out]; rfl, HB1.out⟩
      | true =>
        have HA := Lib.hid (HYES.out hv)
        clear HNO HYES HV hb1 hv HB g1 g2 hall
        go_wp2
        go_roundw
        case rel => exact ⟨i + 1, by simp, hlt, HA, HB1⟩
        case measure => simp [intOf]; omega
    · obtain rfl : i = n := by omega
      have HE : Hid (vfAll fs i = true) := Lib.hid (all_range.2 hall.out)
      clear hall
      go_wp2
      go_ret
      exact ⟨by rw [HE.out]; rfl, HB.out⟩
theorem cmpW_zero (q r : Rat) : (cmpW q r == 0) = decide (q = r) := by
  unfold cmpW
  by_cases h : q = r
  · simp [h]
  · by_cases h2 : q < r
    · simp [h, h2]
    · simp [h, h2]
set_option maxHeartbeats 2000000 in
set_option maxRecDepth 100000 in
theorem isS_any {A : Option Addr} {c B n : Nat} {fs : List Int} (w : World) (hx : RdF w B A n fs) (hB : B ≤ w.heap.size) (hn : n ≤ 1099511627776) : Calls Tryz.prog 115 #[.slice A n c] w fun e w' => e = .returned (.bool (chB fs n)) ∧ Below w.heap.size w w' := by
  have HX := Lib.hid (hx.more hB)
  have HFA := Lib.hid (fAll_any (c := c) w hx hB hn)
  clear hx
  by_cases h1 : n < 1
  · have HE := Lib.hid (chB_short (fs := fs) h1)
    have h1' : (n : Int) < 1 := by omega
    go_enter Tryz.func115, Tryz.ntmps115
    go_wp2
    go_ret
    exact ⟨by rw [HE.out]; rfl, Below.refl _ _⟩
  by_cases h2 : 16 < n
  · have HE := Lib.hid (chB_long (fs := fs) h2)
    have h1' : ¬ (n : Int) < 1 := by omega
    have h2' : (16 : Int) < n := by omega
    go_enter Tryz.func115, Tryz.ntmps115
    go_wp2
    go_ret
    exact ⟨by rw [HE.out]; rfl, Below.refl _ _⟩
  have h1' : ¬ (n : Int) < 1 := by omega
  have h2' : ¬ (16 : Int) < n := by omega
  go_enter Tryz.func115, Tryz.ntmps115
  go_wp2_with fail
  refine HFA.out.mono ?_
  rintro e w1 ⟨rfl, hb1⟩
  have HB1 := Lib.hid hb1
  clear hb1
  cases hv : vfAll fs n with
  | false =>
    have HE := Lib.hid (chB_vf hv)
    go_wp2
    go_ret
    exact ⟨by rw [HE.out]; rfl, HB1.out⟩
  | true =>
    have HV := Lib.hid hv
    clear hv
    go_wp2
    go_loopw [3] (fun iv wr => ∃ i : Nat, iv = .int .i64 (i : Int) ∧ i ≤ n ∧ Hid (∀ j, j < i → decide (0 ≤ fs.getD (2 * j) 0) = true) ∧ wr = w1) (fun iv _ => n - (intOf iv).toNat)
    case atStart => exact ⟨0, rfl, Nat.zero_le _, Lib.hid fun j hj => absurd hj (Nat.not_lt_zero j), rfl⟩
    case round =>
      obtain ⟨i, rfl, hi, hall, rfl⟩ := hrel
      by_cases hlt : i < n
      · obtain ⟨b, off, rfl, hbl, g1, g2⟩ := (HX.out.below HB1.out (Nat.le_refl _)).at hlt
        have HNO := Lib.hid (fun h => (show posAll fs n = false from all_no hlt h))
        have HYES := Lib.hid (fun (h : decide (0 ≤ fs.getD (2 * i) 0) = true) j (hj : j < i + 1) => (show decide (0 ≤ fs.getD (2 * j) 0) = true by
          rcases Nat.lt_or_ge j i with h1 | h1
          · exact hall.out j h1
          · obtain rfl : j = i := by omega
            exact h))
        generalize fs.getD (2 * i) 0 = x0 at *
        generalize fs.getD (2 * i + 1) 0 = x1 at *
        by_cases hx0 : x0 < 0
        · have HE := Lib.hid (chB_neg (HNO.out (by simp; omega)))
          clear HNO HYES
          go_wp2
          go_ret
          exact ⟨by rw [HE.out]; rfl, HB1.out⟩
        · have HA := Lib.hid (HYES.out (by simp; omega))
          clear HNO HYES hall
          go_wp2
          go_roundw
          case rel => exact ⟨i + 1, by simp, hlt, HA, by first | trivial | rfl⟩
          case measure => simp [intOf]; omega
      · obtain rfl : i = n := by omega
        have HE := Lib.hid (chB_sum (fs := fs) (n := i) (by omega) (by omega) HV.out (all_range.2 hall.out))
        have HW1 := Lib.hid (wides_any (c := c) wr (HX.out.below HB1.out (Nat.le_refl _)) HB1.out.size (vfAll_true.1 HV.out) (by omega))
        have HO := Lib.hid (fun W => wideOf_any vf_one W)
        rw [qf_one] at HO
        clear hall
        go_wp2_with fail
        refine HW1.out.mono ?_
        rintro e w2 ⟨v2, cs2, rfl, hv2, hb2⟩
        have HB2 := Lib.hid (Base.Below.nextA HB1.out hb2)
        have HV2 := Lib.hid (hv2.base (Nat.zero_le _))
        clear hv2 hb2
        go_wp2_with fail
        refine (sum_any w2 HV2.out (by omega) (by omega) (by omega)).mono ?_
        rintro e w3 ⟨v3, rfl, hv3, hb3⟩
        have HB3 := Lib.hid (Base.Below.nextA HB2.out hb3)
        have HV3 := Lib.hid hv3
        clear hv3 hb3
        go_wp2_with fail
        refine (HO.out w3).mono ?_
        rintro e w4 ⟨v4, rfl, hv4, hb4⟩
        have HB4 := Lib.hid (Base.Below.nextA HB3.out hb4)
        have HV4 := Lib.hid hv4
        replace HV3 := Lib.hid (HV3.out.below hb4)
        clear hv4 hb4
        go_wp2_with fail
        refine (cmp_any w4 HV3.out HV4.out (by omega) (by omega) (by omega)).mono ?_
        rintro e w5 ⟨rfl, hb5⟩
        have HB5 := Lib.hid (Base.Below.nextA HB4.out hb5)
        have HE2 := Lib.hid (HE.out.trans (cmpW_zero _ _).symm)
        clear hb5 HE
        generalize cmpW (sumR i (fq fs)) 1 = cw at *
        go_wp2
        go_ret
        exact ⟨ret_bool HE2.out.symm, HB5.out⟩
end Go.Proofs.YtionognmgcabbaaGreat.Wide
/- The reference: whether a walk is valid. -/
namespace Go.Proofs.YtionognmgcabbaaGreat.Wide
open Go.RowKit Go.Proofs.YtionognmgcabbaaGreat Go.Proofs.YtionognmgcabbaaGreat.Base Go.Proofs.YtionognmgcabbaaGreat.Mem Go.Proofs.YtionognmgcabbaaGreat.MemF Go.Proofs.YtionognmgcabbaaGreat.ChM Go.Proofs.YtionognmgcabbaaGreat.WalkM
set_option linter.unusedVariables false
set_option maxHeartbeats 2000000 in
set_option maxRecDepth 100000 in
theorem walkS_any {A : Option Addr} {c B n b0 : Nat} {L : Nat → Nat} {fs : Nat → List Int} (w : World) (h0 : w.cell? ⟨b0, 0, none⟩ = some (.slice A n c)) (hb0 : b0 < w.heap.size) (hx : RdFF w B A n L fs) (hB : B ≤ w.heap.size) (hL : ∀ i, i < n → L i ≤ 1099511627776) (hn : n ≤ 1099511627776) :
    Calls Tryz.prog 77 #[.pointer (some ⟨b0, 0, none⟩)] w fun e w' => e = .returned (.bool (wkB n L fs)) ∧ Below w.heap.size w w' := by
  have HX := Lib.hid (hx.more hB)
  clear hx
  by_cases h1 : n < 1
  · have HE := Lib.hid (wkB_out (L := L) (fs := fs) (n := n) (by omega))
    have h1' : (n : Int) < 1 := by omega
    go_enter Tryz.func77, Tryz.ntmps77
    go_wp2
    go_ret
    exact ⟨by rw [HE.out]; rfl, Below.refl _ _⟩
  by_cases h2 : 6 < n
  · have HE := Lib.hid (wkB_out (L := L) (fs := fs) (n := n) (by omega))
    have h1' : ¬ (n : Int) < 1 := by omega
    have h2' : (6 : Int) < n := by omega
    go_enter Tryz.func77, Tryz.ntmps77
    go_wp2
    go_ret
    exact ⟨by rw [HE.out]; rfl, Below.refl _ _⟩
  have h1' : ¬ (n : Int) < 1 := by omega
  have h2' : ¬ (6 : Int) < n := by omega
  have HIN := Lib.hid (wkB_in (L := L) (fs := fs) (n := n) (by omega))
  go_enter Tryz.func77, Tryz.ntmps77
  go_wp2
  go_loopw [4] (fun iv wr => ∃ i : Nat, iv = .int .i64 (i : Int) ∧ i ≤ n ∧ Hid (∀ j, j < i → rowOk n L fs j = true) ∧ Hid (Below w.heap.size w wr)) (fun iv _ => n - (intOf iv).toNat)
  case atStart => exact ⟨0, rfl, Nat.zero_le _, Lib.hid fun j hj => absurd hj (Nat.not_lt_zero j), Lib.hid (Below.refl _ _)⟩
  case round =>
    obtain ⟨i, rfl, hi, hall, HB⟩ := hrel
    have d0 := (HB.out.cell (p := ⟨b0, 0, none⟩) hb0).trans h0
    by_cases hlt : i < n
    · obtain ⟨b, off, A', c', rfl, hbl, g, hr⟩ := (HX.out.below HB.out (Nat.le_refl _)).at hlt
      have HNO := Lib.hid (fun h : rowOk n L fs i = false => (show wkB n L fs = false by rw [HIN.out]; exact all_no hlt h))
      have HYES := Lib.hid (fun (h : rowOk n L fs i = true) j (hj : j < i + 1) => (show rowOk n L fs j = true by
        rcases Nat.lt_or_ge j i with h1 | h1
        · exact hall.out j h1
        · obtain rfl : j = i := by omega
          exact h))
      have HI := Lib.hid (isS_any (c := c') wr hr HB.out.size (hL i hlt))
      have HOK : Hid (rowOk n L fs i = (decide (L i = n) && chB (fs i) (L i))) := Lib.hid rfl
      clear hr hall
      generalize L i = l at *
      by_cases hln : l = n
      · have HLN := Lib.hid hln
        have hne : ((l : Int) != (n : Int)) = false := by simp [hln]
        clear hln
        go_wp2_with fail
        refine HI.out.mono ?_
        rintro e w1 ⟨rfl, hb1⟩
        have HB1 := Lib.hid (Base.Below.nextA HB.out hb1)
        clear hb1 d0
        cases hc : chB (fs i) l with
        | false =>
          have HE := Lib.hid (HNO.out (by rw [HOK.out, hc, Bool.and_false]))
          clear HNO HYES hc HOK
          go_wp2
          go_ret
          exact ⟨by rw [HE.out]; rfl, HB1.out⟩
        | true =>
          have HA := Lib.hid (HYES.out (by rw [HOK.out, hc, Bool.and_true]; simpa using HLN.out))
          clear HNO HYES hc HOK
          go_wp2
          go_roundw
          case rel => exact ⟨i + 1, by simp, hlt, HA, HB1⟩
          case measure => simp [intOf]; omega
      · have hne : ((l : Int) != (n : Int)) = true := by simp; omega
        have HE := Lib.hid (HNO.out (by rw [HOK.out, decide_eq_false hln]; rfl))
        clear HNO HYES hln
        go_wp2
        go_ret
        exact ⟨by rw [HE.out]; rfl, HB.out⟩
    · obtain rfl : i = n := by omega
      have HE : Hid (wkB i L fs = true) := Lib.hid (by rw [HIN.out]; exact all_range.2 hall.out)
      clear hall
      go_wp2
      go_ret
      exact ⟨by rw [HE.out]; rfl, HB.out⟩
end Go.Proofs.YtionognmgcabbaaGreat.Wide
/- The reference: whether a place can be reached from each place. -/
namespace Go.Proofs.YtionognmgcabbaaGreat.RchS
open Go.RowKit Go.Proofs.YtionognmgcabbaaGreat Go.Proofs.YtionognmgcabbaaGreat.Base Go.Proofs.YtionognmgcabbaaGreat.Mem Go.Proofs.YtionognmgcabbaaGreat.RatM Go.Proofs.YtionognmgcabbaaGreat.Blk Go.Proofs.YtionognmgcabbaaGreat.MemF Go.Proofs.YtionognmgcabbaaGreat.ChM Go.Proofs.YtionognmgcabbaaGreat.GaussM Go.Proofs.YtionognmgcabbaaGreat.WalkM
open Go.Proofs.YtionognmgcabbaaGreat.Ratio (wQ Rch rchB rchB_true SetI SetI.start SetI.skip SetI.add SetI.next SetI.fin SetI.len cast_ne)
set_option linter.unusedVariables false
/-- a list of naturals as numbers -/
def toZ (S : List Nat) : List Int := S.map fun (j : Nat) => (j : Int)
theorem toZ_len (S : List Nat) : (toZ S).length = S.length := by simp [toZ]
theorem toZ_get (S : List Nat) {i : Nat} (hi : i < S.length) : (toZ S).getD i 0 = ((S.getD i 0 : Nat) : Int) := by simp [toZ, List.getD, hi]
theorem toZ_snoc (S : List Nat) (k : Nat) : toZ (S ++ [k]) = toZ S ++ [(k : Int)] := by simp [toZ]
def hasB (S : List Nat) (k : Nat) : Bool := decide (k ∈ S)
set_option maxHeartbeats 1000000 in
theorem has_any {A : Option Addr} {c B k n : Nat} {S : List Nat} (w : World) (hx : RdI w B A (toZ S)) (hl : S.length = n) (hn : n ≤ 1000) : Calls Tryz.prog 144 #[.slice A n c, .int .i64 (k : Int)] w fun e w' => e = .returned (.bool (hasB S k)) ∧ w = w' := by
  have HX := Lib.hid hx
  obtain ⟨r, hr⟩ : ∃ r, r = hasB S k := ⟨_, rfl⟩
  rw [← hr]
  have HR := Lib.hid hr
  have HL := Lib.hid hl
  clear hx hr hl
  go_enter Tryz.func144, Tryz.ntmps144
  go_wp2
  go_loop [5] (fun iv => ∃ i : Nat, iv = .int .i64 (i : Int) ∧ i ≤ n ∧ Hid (∀ j, j < i → S.getD j 0 ≠ k)) (fun iv => n - (intOf iv).toNat)
  case atStart => exact ⟨0, rfl, Nat.zero_le _, Lib.hid (fun j hj => absurd hj (Nat.not_lt_zero _))⟩
  case round =>
    obtain ⟨i, rfl, hi, HT⟩ := hrel
    by_cases hlt : i < n
    · have hls : i < S.length := by rw [HL.out]; exact hlt
      obtain ⟨b, off, rfl, _, hc⟩ := HX.out (by rw [toZ_len]; omega)
      have x0 := hc i (by rw [toZ_len]; exact hls)
      rw [toZ_get S hls] at x0
      by_cases he : S.getD i 0 = k
      · have hq : (((S.getD i 0 : Nat) : Int) == (k : Int)) = true := by rw [he]; exact beq_self_eq_true _
        have HF : Hid (r = true) := Lib.hid (by
          rw [HR.out]
          unfold hasB
          rw [decide_eq_true_eq, ← he, List.getD_eq_getElem?_getD, List.getElem?_eq_getElem hls]
          exact List.getElem_mem hls)
        clear he hc
        generalize S.getD i 0 = q at *
        go_wp2
        go_ret
        exact ⟨(by rw [HF.out]; try rfl), rfl⟩
      · have hq : (((S.getD i 0 : Nat) : Int) == (k : Int)) = false := cast_ne he
        have HN : Hid (∀ j, j < i + 1 → S.getD j 0 ≠ k) := Lib.hid (fun j hj => if e : j = i then by rw [e]; exact he else HT.out j (by omega))
        clear he hc
        generalize S.getD i 0 = q at *
        go_wp2
        go_round
        case rel => exact ⟨i + 1, by simp, hlt, HN⟩
        case measure => simp [intOf]; omega
    · have HF : Hid (r = false) := Lib.hid (by
        rw [HR.out]
        unfold hasB
        rw [decide_eq_false_iff_not]
        intro hm
        obtain ⟨j, hj, e⟩ := List.getElem_of_mem hm
        refine HT.out j (by have := HL.out; omega) ?_
        rw [List.getD_eq_getElem?_getD, List.getElem?_eq_getElem hj]
        exact e)
      go_wp2
      go_ret
      exact ⟨(by rw [HF.out]; try rfl), rfl⟩
theorem OwnI.snoc {w : World} {B : Nat} {v : Value} {S : List Nat} {k n : Nat} (h : w.ownsRow B 2 1 v n (ints (toZ S) ++ [.int .i64 (k : Int)])) (hn : n = S.length + 1) : OwnI w B v (toZ (S ++ [k])) := by
  unfold OwnI
  rw [toZ_len, List.length_append, List.length_singleton, ← hn, toZ_snoc]
  simpa [ints] using h
/-- the list of places in memory -/
def ReRel (n p : Nat) (W : Nat → Nat → Rat) (w : World) (sv iv : Value) (wr : World) : Prop :=
  ∃ (i : Nat) (S : List Nat) (A : Option Addr) (c l : Nat), iv = .int .i64 (i : Int) ∧ sv = .slice A l c ∧ l = S.length ∧ i ≤ l ∧ Hid (OwnI wr w.heap.size (.slice A S.length c) (toZ S)) ∧ Hid (SetI n W p i 0 S) ∧ Hid (Below w.heap.size w wr)
def ReRel2 (n p i : Nat) (W : Nat → Nat → Rat) (w : World) (sv kv : Value) (wr : World) : Prop :=
  ∃ (k : Nat) (S : List Nat) (A : Option Addr) (c l : Nat), kv = .int .i64 (k : Int) ∧ sv = .slice A l c ∧ l = S.length ∧ k ≤ n ∧ i < l ∧ Hid (OwnI wr w.heap.size (.slice A S.length c) (toZ S)) ∧ Hid (SetI n W p i k S) ∧ Hid (Below w.heap.size w wr)
set_option maxHeartbeats 2000000 in
set_option maxRecDepth 100000 in
theorem reachS_any {A : Option Addr} {c B n b0 p : Nat} {fs : Nat → List Int} (w : World) (h0 : w.cell? ⟨b0, 0, none⟩ = some (.slice A n c)) (hb0 : b0 < w.heap.size) (hx : RdFF w B A n (fun _ => n) fs) (hB : B ≤ w.heap.size) (hn : n ≤ 6) (hp : p < n) (hv : ∀ i, i < n → AllVF (fs i) n) (hpos : ∀ i k, i < n → k < n → 0 ≤ (fs i).getD (2 * k) 0) :
    Calls Tryz.prog 85 #[.pointer (some ⟨b0, 0, none⟩), .int .i64 (p : Int)] w fun e w' => e = .returned (.bool (rchB n (wQ fs) p)) ∧ Below w.heap.size w w' := by
  obtain ⟨i0, hi, hz0, hz1, hz2⟩ := info_parts infoI
  obtain ⟨r, hr⟩ : ∃ r, r = rchB n (wQ fs) p := ⟨_, rfl⟩
  rw [← hr]
  have HR := Lib.hid hr
  have HX := Lib.hid (hx.more hB)
  have HW : Hid (∀ i k, i < n → k < n → ((fs i).getD (2 * k) 0 = 0 ↔ wQ fs i k = 0) ∧ 0 ≤ (fs i).getD (2 * k) 0) := Lib.hid (fun i k hi hk => by
    refine ⟨?_, hpos i k hi hk⟩
    have hvf := hv i hi k hk
    obtain ⟨g1, _, _⟩ := hvf.num
    have e : wQ fs i k = qf ((fs i).getD (2 * k) 0) ((fs i).getD (2 * k + 1) 0) := rfl
    rw [e, ← Rat.num_eq_zero, g1])
  generalize wQ fs = W at *
  have HC0 := Lib.hid (fun W' (hb : Below w.heap.size w W') => (hb.cell (p := ⟨b0, 0, none⟩) hb0).trans h0)
  have H0 : Hid (ReRel n p W w (.slice (some ⟨w.heap.size, 0, none⟩) 1 1) (.int .i64 0) (w.alloc (.cells #[.int .i64 (p : Int)] 2))) := Lib.hid ⟨0, [p], some ⟨w.heap.size, 0, none⟩, 1, 1, rfl, rfl, rfl, by decide, Lib.hid (by
    have := World.ownsRow_lit (e := 2) (size := 1) (base := w.heap.size) w #[.int .i64 (p : Int)] 1 (Nat.le_refl _) (by simp [maxLen]) (by simp)
    exact this), Lib.hid (SetI.start hp), Lib.hid ((Below.refl _ _).alloc (Nat.le_refl _) _)⟩
  clear hx hv hpos hr
  go_enter Tryz.func85, Tryz.ntmps85
  go_wp2
  clear h0
  go_loopw [5, 6] (fun sv iv wr => ReRel n p W w sv iv wr) (fun _ iv _ => n - (intOf iv).toNat)
  case atStart => exact H0.out
  case round =>
    obtain ⟨i, S, AS, cS, l, rfl, rfl, hl, hil, HO, HS, HB⟩ := hrel
    clear H0
    have hln : l ≤ n := by rw [hl]; exact HS.out.len
    by_cases hli : i < l
    · have H1 : Hid (ReRel2 n p i W w (.slice AS l cS) (.int .i64 0) wr) := Lib.hid ⟨0, S, AS, cS, l, rfl, rfl, hl, Nat.zero_le _, hli, HO, HS, HB⟩
      have hin : i < n := by omega
      clear HO HS HB hl
      go_wp2
      go_loopw [5, 7] (fun sv kv w2 => ReRel2 n p i W w sv kv w2) (fun _ kv _ => n - (intOf kv).toNat)
      case atStart => exact H1.out
      case round =>
        obtain ⟨k, S, AS, cS, l, rfl, rfl, hl, hk, hil2, HO, HS, HB⟩ := hrel
        clear H1
        have p0 := HC0.out wr HB.out
        have hln : l ≤ n := by rw [hl]; exact HS.out.len
        by_cases hkn : k < n
        · have hkn2 : (k : Int) < (n : Int) := by omega
          have hil3 : (i : Int) < (l : Int) := by omega
          have hiS : i < S.length := by omega
          have hmem : S.getD i 0 ∈ S := by
            rw [List.getD_eq_getElem?_getD, List.getElem?_eq_getElem hiS]
            exact List.getElem_mem hiS
          have hjn : S.getD i 0 < n := (HS.out.right _ hmem).1
          obtain ⟨gS, oS, eAS, hgS, hcS⟩ := HO.out.rd (by rw [toZ_len]; omega)
          subst eAS
          have s0 := hcS i (by rw [toZ_len]; exact hiS)
          rw [toZ_get S hiS] at s0
          obtain ⟨bf, of, Ak, ck, rfl, hbf, y, hrow⟩ := (HX.out.below HB.out (Nat.le_refl _)).at hkn
          obtain ⟨br, or, rfl, hbr, f0, _⟩ := hrow.at hjn
          obtain ⟨hwz, hw0⟩ := HW.out k (S.getD i 0) hkn hjn
          have HHB := Lib.hid (fun W' (h : Below wr.heap.size wr W') => has_any (c := cS) (k := k) (n := l) W' ((HO.out.below h).rd) hl.symm (by omega))
          have HSK := Lib.hid (fun h => HS.out.skip h)
          have HSA := Lib.hid (fun h1 h2 => HS.out.add hiS hkn h1 h2)
          have hjn2 : ((S.getD i 0 : Nat) : Int) < (n : Int) := by omega
          have hj0 : (0 : Int) ≤ ((S.getD i 0 : Nat) : Int) := by omega
          clear hcS hrow hmem hjn HS
          generalize hj : S.getD i 0 = j at *
          generalize W k j = wkj at *
          generalize (fs k).getD (2 * j) 0 = num at *
          clear hj
          have HWZ := Lib.hid hwz
          have HL := Lib.hid hl
          have hsz := HB.out.size
          clear hwz hl hiS
          by_cases hnum : 0 < num
          · have hwne : wkj ≠ 0 := fun e => by have := HWZ.out.2 e; omega
            have HWN := Lib.hid hwne
            have hd : decide (0 < num) = true := decide_eq_true hnum
            clear hwne
            cases hhas : hasB S k with
            | true =>
              have hks : k ∈ S := of_decide_eq_true hhas
              rw [hhas] at HHB
              have HSN := Lib.hid (HSK.out (fun _ => hks))
              clear hhas hks HSA HSK
              go_upto_region 8 with (fail)
              (refine wp_region_below (by kernel_rfl) (by kernel_rfl) ?_; (repeat (refine wpQuiet_step (fun K hK => ?_); go_simp; first | (refine hK _ ?_; clear hK K) | (apply Exists.intro; refine ⟨fun wq hq => ?_, hK _ ?_⟩; (first | rfl | (have q0 := (hq.cell (p := ⟨b0, 0, none⟩) (Nat.lt_of_lt_of_le hb0 hsz)).trans p0; have q1 := (hq.cell (p := ⟨gS, oS + i, none⟩) hgS).trans s0; have q2 := (hq.cell (p := ⟨bf, of + k, none⟩) (Nat.lt_of_lt_of_le hbf hsz)).trans y; have q3 := (hq.cell (p := ⟨br, or + j * 2, none⟩) (Nat.lt_of_lt_of_le hbr hsz)).trans f0; first | (go_simp; done) | (go_simp; rfl) | (go_at_call 144; refine (HHB.out _ hq).mono ?_; rintro e w7 ⟨rfl, rfl⟩; exact ⟨rfl, hq⟩))); clear hK K))); refine wpQuiet_nil ?_; intro wq hq)
              have HN : Hid (ReRel2 n p i W w (.slice (some ⟨gS, oS, none⟩) l cS) (.int .i64 ((k : Int) + 1)) wq) := Lib.hid ⟨k + 1, S, _, cS, l, by simp, rfl, HL.out, hkn, hil2, Lib.hid (HO.out.below hq), HSN, Lib.hid (Base.Below.nextA HB.out hq)⟩
              clear hq HO HB HHB HSN p0 s0 y f0
              go_wp2
              go_roundw
              case rel => exact HN.out
              case measure => simp [intOf]; omega
            | false =>
              have hks : k ∉ S := of_decide_eq_false hhas
              rw [hhas] at HHB
              have HSN := Lib.hid (HSA.out HWN.out hks)
              clear hhas hks HSA HSK
              go_upto_region 8 with (fail)
              (refine wp_region_below (by kernel_rfl) (by kernel_rfl) ?_; (repeat (refine wpQuiet_step (fun K hK => ?_); go_simp; first | (refine hK _ ?_; clear hK K) | (apply Exists.intro; refine ⟨fun wq hq => ?_, hK _ ?_⟩; (first | rfl | (have q0 := (hq.cell (p := ⟨b0, 0, none⟩) (Nat.lt_of_lt_of_le hb0 hsz)).trans p0; have q1 := (hq.cell (p := ⟨gS, oS + i, none⟩) hgS).trans s0; have q2 := (hq.cell (p := ⟨bf, of + k, none⟩) (Nat.lt_of_lt_of_le hbf hsz)).trans y; have q3 := (hq.cell (p := ⟨br, or + j * 2, none⟩) (Nat.lt_of_lt_of_le hbr hsz)).trans f0; first | (go_simp; done) | (go_simp; rfl) | (go_at_call 144; refine (HHB.out _ hq).mono ?_; rintro e w7 ⟨rfl, rfl⟩; exact ⟨rfl, hq⟩))); clear hK K))); refine wpQuiet_nil ?_; intro wq hq)
              have HOq := Lib.hid (HO.out.below hq)
              have HBq := Lib.hid (Base.Below.nextA HB.out hq)
              have hszq := HBq.out.size
              have HOA := Lib.hid (World.ownsRow.alloc HOq.out (.cells #[.int .i64 (k : Int)] 2))
              have hll := HL.out
              rw [toZ_len, ← hll] at HOA
              clear hll hq HO HB HHB p0 s0 y f0
              go_wp2_with (at_builtin; refine wpList_append_own_at _ rfl (.tmp 46) (.tmp 48) 41 rfl w.heap.size 2 i0 (.int .i64 0) 1 8 Tryz.underlying41 hi hz0 hz1 hz2 rfl (by decide) _ _ _ rfl HOA.out ⟨wq.heap.size, 0, none⟩ 1 1 [.int .i64 (k : Int)] rfl rfl ?p1a ?p2a ?p3a ?p4a ?p5a ?_)
              try case p1a => exact news_one _ _ _ (by simp)
              try case p2a => first | exact one_int | rfl | simp
              try case p3a => first | (simp only [maxLen]; omega) | omega
              try case p4a => omega
              try case p5a => first | (simp only [World.size_alloc]; omega) | omega
              intro v' w3 hown' hg' _ he
              have ho3 := OwnI.snoc hown' (by rw [← HL.out])
              obtain ⟨A3, c3, rfl, _⟩ := ho3.form
              have hb3 : Below w.heap.size w w3 := (Base.Below.nextA HBq.out ((Below.refl wq.heap.size wq).alloc (Nat.le_refl _) (.cells #[.int .i64 (k : Int)] 2))).trans (grown_below hg' (fun g e => (ownsRow_block HOq.out e).choose_spec.2.1) (by simp; omega))
              have HN : Hid (ReRel2 n p i W w (.slice A3 (toZ (S ++ [k])).length c3) (.int .i64 ((k : Int) + 1)) w3) := Lib.hid ⟨k + 1, S ++ [k], A3, c3, _, by simp, rfl, by rw [toZ_len], hkn, by rw [toZ_len, List.length_append, ← HL.out]; simp; omega, Lib.hid (by rw [← toZ_len]; exact ho3), HSN, Lib.hid hb3⟩
              clear hown' hg' he ho3 hb3 HOA HOq HBq HSN
              generalize (toZ (S ++ [k])).length = l2 at *
              go_wp2
              go_roundw
              case rel => exact HN.out
              case measure => simp [intOf]; omega
          · have hwe : wkj = 0 := HWZ.out.1 (by omega)
            have HSN := Lib.hid (HSK.out (fun h => absurd hwe h))
            have hd : decide (0 < num) = false := decide_eq_false hnum
            clear hwe HSA HSK HHB
            go_upto_region 8 with (fail)
            (refine wp_region_below (by kernel_rfl) (by kernel_rfl) ?_; (repeat (refine wpQuiet_step (fun K hK => ?_); go_simp; first | (refine hK _ ?_; clear hK K) | (apply Exists.intro; refine ⟨fun wq hq => ?_, hK _ ?_⟩; (first | rfl | (have q0 := (hq.cell (p := ⟨b0, 0, none⟩) (Nat.lt_of_lt_of_le hb0 hsz)).trans p0; have q1 := (hq.cell (p := ⟨gS, oS + i, none⟩) hgS).trans s0; have q2 := (hq.cell (p := ⟨bf, of + k, none⟩) (Nat.lt_of_lt_of_le hbf hsz)).trans y; have q3 := (hq.cell (p := ⟨br, or + j * 2, none⟩) (Nat.lt_of_lt_of_le hbr hsz)).trans f0; first | (go_simp; done) | (go_simp; rfl) | fail)); clear hK K))); refine wpQuiet_nil ?_; intro wq hq)
            have HN : Hid (ReRel2 n p i W w (.slice (some ⟨gS, oS, none⟩) l cS) (.int .i64 ((k : Int) + 1)) wq) := Lib.hid ⟨k + 1, S, _, cS, l, by simp, rfl, HL.out, hkn, hil2, Lib.hid (HO.out.below hq), HSN, Lib.hid (Base.Below.nextA HB.out hq)⟩
            clear hq HO HB HSN p0 s0 y f0
            go_wp2
            go_roundw
            case rel => exact HN.out
            case measure => simp [intOf]; omega
        · have HN : Hid (ReRel n p W w (.slice AS l cS) (.int .i64 ((i : Int) + 1)) wr) := Lib.hid ⟨i + 1, S, AS, cS, l, by simp, rfl, hl, by omega, HO, Lib.hid (HS.out.next (by omega)), HB⟩
          clear HO HS HB hl
          go_wp2
          go_roundw
          case rel => exact HN.out
          case measure => simp [intOf]; omega
    · have p0 := HC0.out wr HB.out
      have hf := HS.out.fin (by omega)
      rw [← hl] at hf
      by_cases hen : l = n
      · have HF : Hid (r = true) := Lib.hid (by rw [HR.out]; exact rchB_true (hf.1 hen))
        have heq : ((l : Int) == (n : Int)) = true := by simp [hen]
        have HBQ := HB
        clear hf hen HO HS HB hl
        go_wp2
        go_ret
        exact ⟨(by rw [HF.out]; try rfl), HBQ.out⟩
      · have HF : Hid (r = false) := Lib.hid (by
          rw [HR.out]
          cases h : rchB n W p with
          | false => rfl
          | true =>
            unfold rchB at h
            exact absurd (hf.2 (@of_decide_eq_true _ (Classical.propDecidable _) h)) hen)
        have heq : ((l : Int) == (n : Int)) = false := by simp; omega
        have HBQ := HB
        clear hf hen HO HS HB hl
        go_wp2
        go_ret
        exact ⟨(by rw [HF.out]; try rfl), HBQ.out⟩
end Go.Proofs.YtionognmgcabbaaGreat.RchS
/- The reference: a matrix of wide fractions in memory, whose cells are set and whose rows change places. -/
namespace Go.Proofs.YtionognmgcabbaaGreat.Wide
open Go.RowKit Go.Proofs.YtionognmgcabbaaGreat Go.Proofs.YtionognmgcabbaaGreat.Base Go.Proofs.YtionognmgcabbaaGreat.Mem Go.Proofs.YtionognmgcabbaaGreat.RatM Go.Proofs.YtionognmgcabbaaGreat.BigM Go.Proofs.YtionognmgcabbaaGreat.Big Go.Proofs.YtionognmgcabbaaGreat.Fine Go.Proofs.YtionognmgcabbaaGreat.Blk Go.Proofs.YtionognmgcabbaaGreat.GaussM
open Go.Proofs.YtionognmgcabbaaGreat.Ratio (swF)
set_option linter.unusedVariables false
/-- the six cells of element i of the cells cs are a wide fraction -/
def CellW (w : World) (cs : Array Value) (i : Nat) (q : Rat) (m : Nat) : Prop := ∃ s A1 k1 c1 A2 k2 c2 fine fn fd nn dd, cs[i * 6]? = some (.bool s) ∧ cs[i * 6 + 1]? = some (.slice A1 k1 c1) ∧ cs[i * 6 + 2]? = some (.slice A2 k2 c2) ∧ cs[i * 6 + 3]? = some (.bool fine) ∧ cs[i * 6 + 4]? = some (.int .i64 fn) ∧ cs[i * 6 + 5]? = some (.int .i64 fd) ∧ Parts w q m s (.slice A1 k1 c1) (.slice A2 k2 c2) fine fn fd nn dd
/-- the block g begins with n wide fractions -/
structure RowV (w : World) (g n : Nat) (f : Nat → Rat) (m : Nat) (cs : Array Value) : Prop where
  blk : Blk w g 81 cs
  size : n * 6 ≤ cs.size
  els : ∀ i, i < n → CellW w cs i (f i) m
theorem RowV.below {w w' : World} {g n m : Nat} {f : Nat → Rat} {cs : Array Value} (h : RowV w g n f m cs) (hb : Below w.heap.size w w') : RowV w' g n f m cs :=
  ⟨h.blk.belowS hb, h.size, fun i hi => by
    obtain ⟨s, A1, k1, c1, A2, k2, c2, fine, fn, fd, nn, dd, x0, x1, x2, x3, x4, x5, hp⟩ := h.els i hi
    exact ⟨s, A1, k1, c1, A2, k2, c2, fine, fn, fd, nn, dd, x0, x1, x2, x3, x4, x5, hp.below hb⟩⟩
theorem RowV.more {w : World} {g n m m' : Nat} {f : Nat → Rat} {cs : Array Value} (h : RowV w g n f m cs) (hm : m ≤ m') : RowV w g n f m' cs :=
  ⟨h.blk, h.size, fun i hi => by
    obtain ⟨s, A1, k1, c1, A2, k2, c2, fine, fn, fd, nn, dd, x0, x1, x2, x3, x4, x5, hp⟩ := h.els i hi
    exact ⟨s, A1, k1, c1, A2, k2, c2, fine, fn, fd, nn, dd, x0, x1, x2, x3, x4, x5, hp.more hm⟩⟩
theorem RowV.congr {w : World} {g n m : Nat} {f f' : Nat → Rat} {cs : Array Value} (h : RowV w g n f m cs) (hf : ∀ i, i < n → f i = f' i) : RowV w g n f' m cs :=
  ⟨h.blk, h.size, fun i hi => by rw [← hf i hi]; exact h.els i hi⟩
/-- what was appended together -/
theorem OwnW.toV {w : World} {B g n c m : Nat} {f : Nat → Rat} {cs : List Value} (h : OwnW w B (.slice (some ⟨g, 0, none⟩) n c) n f m cs) : ∃ cur, RowV w g n f m cur := by
  obtain ⟨cur, hc, _, _⟩ := ownsRow_block h.row (g := g) rfl
  have hlen : cs.length = n * 6 := h.row.1
  have hcell : ∀ o, o < n * 6 → cur[o]? = cs[o]? := fun o ho => by
    rw [← cell_of_row w g o cur _ (0, 0) hc]
    exact World.ownsRow.cellAt h.row o (by omega)
  refine ⟨cur, hc, ?_, fun i hi => ?_⟩
  · rcases Nat.eq_zero_or_pos n with h0 | h0
    · omega
    · have := hcell (n * 6 - 1) (by omega)
      rw [List.getElem?_eq_getElem (by omega)] at this
      have := (Array.getElem?_eq_some_iff.1 this).1
      omega
  · obtain ⟨s, A1, k1, c1, A2, k2, c2, fine, fn, fd, nn, dd, e, hp⟩ := h.els i hi
    have key : ∀ k, k < 6 → cur[i * 6 + k]? = (six s (.slice A1 k1 c1) (.slice A2 k2 c2) fine fn fd)[k]? := fun k hk => by
      rw [hcell (i * 6 + k) (by omega), ← e, List.getElem?_take, if_pos hk, List.getElem?_drop]
    exact ⟨s, A1, k1, c1, A2, k2, c2, fine, fn, fd, nn, dd, key 0 (by decide), key 1 (by decide), key 2 (by decide), key 3 (by decide), key 4 (by decide), key 5 (by decide), hp⟩
/-- a row of another type grows beside -/
theorem RowV.kept {w w' : World} {g n B k m size : Nat} {f : Nat → Rat} {cs : Array Value} {v : Value} {us : List Value} {t : TypeId} (h : RowV w g n f m cs) (hr : w.ownsRow B t size v k us) (ht : t ≠ 2) (ht2 : t ≠ 81) (hg : w.grownBy w' v.ownBlock) : RowV w' g n f m cs := by
  have hne : v.ownBlock ≠ some g := fun e => by
    obtain ⟨cur, hc, _⟩ := ownsRow_block hr e
    have hb := h.blk
    unfold Blk at hb
    rw [hb] at hc
    injection hc with hc
    injection hc with _ hc _
    exact ht2 hc.symm
  refine ⟨h.blk.kept hg hne, h.size, fun i hi => ?_⟩
  obtain ⟨s, A1, k1, c1, A2, k2, c2, fine, fn, fd, nn, dd, x0, x1, x2, x3, x4, x5, hp⟩ := h.els i hi
  exact ⟨s, A1, k1, c1, A2, k2, c2, fine, fn, fd, nn, dd, x0, x1, x2, x3, x4, x5, hp.kept hr ht hg⟩
/-- six cells from o on are written -/
def put6o (w : World) (b o : Nat) (v0 v1 v2 v3 v4 v5 : Value) : World := (((((w.setCell ⟨b, o, none⟩ v0).setCell ⟨b, o + 1, none⟩ v1).setCell ⟨b, o + 2, none⟩ v2).setCell ⟨b, o + 3, none⟩ v3).setCell ⟨b, o + 4, none⟩ v4).setCell ⟨b, o + 5, none⟩ v5
theorem Parts.put6o {w : World} {q : Rat} {m b o : Nat} {s : Bool} {vn vd : Value} {fine : Bool} {fn fd : Int} {n d : Nat} {t : TypeId} {cs : Array Value} (h : Parts w q m s vn vd fine fn fd n d) (K : Blk w b t cs) (ht : t ≠ 2) (v0 v1 v2 v3 v4 v5 : Value) : Parts (Wide.put6o w b o v0 v1 v2 v3 v4 v5) q m s vn vd fine fn fd n d := by
  have K0 := K.setTo o v0 rfl
  have K1 := K0.setTo (o + 1) v1 rfl
  have K2 := K1.setTo (o + 2) v2 rfl
  have K3 := K2.setTo (o + 3) v3 rfl
  have K4 := K3.setTo (o + 4) v4 rfl
  exact (((((h.store K ht).store K0 ht).store K1 ht).store K2 ht).store K3 ht).store K4 ht
theorem put6o_below {w0 w : World} {b B o : Nat} (h : Below B w0 w) (hb : B ≤ b) (v0 v1 v2 v3 v4 v5 : Value) : Below B w0 (put6o w b o v0 v1 v2 v3 v4 v5) :=
  (((((h.setCell (p := ⟨b, o, none⟩) hb v0).setCell (p := ⟨b, o + 1, none⟩) hb v1).setCell (p := ⟨b, o + 2, none⟩) hb v2).setCell (p := ⟨b, o + 3, none⟩) hb v3).setCell (p := ⟨b, o + 4, none⟩) hb v4).setCell (p := ⟨b, o + 5, none⟩) hb v5
theorem blk_put6o {w : World} {b b' o : Nat} {t : TypeId} {cs : Array Value} (K : Blk w b' t cs) (hne : b ≠ b') (v0 v1 v2 v3 v4 v5 : Value) : Blk (put6o w b o v0 v1 v2 v3 v4 v5) b' t cs :=
  (((((K.other v0 hne).other v1 hne).other v2 hne).other v3 hne).other v4 hne).other v5 hne
def setA (cs : Array Value) (o : Nat) (v0 v1 v2 v3 v4 v5 : Value) : Array Value := (((((cs.setIfInBounds o v0).setIfInBounds (o + 1) v1).setIfInBounds (o + 2) v2).setIfInBounds (o + 3) v3).setIfInBounds (o + 4) v4).setIfInBounds (o + 5) v5
theorem setA_far {cs : Array Value} {o j : Nat} (v0 v1 v2 v3 v4 v5 : Value) (h : j < o ∨ o + 5 < j) : (setA cs o v0 v1 v2 v3 v4 v5)[j]? = cs[j]? := by
  unfold setA
  rw [Array.getElem?_setIfInBounds_ne (by omega), Array.getElem?_setIfInBounds_ne (by omega), Array.getElem?_setIfInBounds_ne (by omega), Array.getElem?_setIfInBounds_ne (by omega), Array.getElem?_setIfInBounds_ne (by omega), Array.getElem?_setIfInBounds_ne (by omega)]
theorem setA_at {cs : Array Value} {o : Nat} (v0 v1 v2 v3 v4 v5 : Value) (h : o + 5 < cs.size) : (setA cs o v0 v1 v2 v3 v4 v5)[o]? = some v0 ∧ (setA cs o v0 v1 v2 v3 v4 v5)[o + 1]? = some v1 ∧ (setA cs o v0 v1 v2 v3 v4 v5)[o + 2]? = some v2 ∧ (setA cs o v0 v1 v2 v3 v4 v5)[o + 3]? = some v3 ∧ (setA cs o v0 v1 v2 v3 v4 v5)[o + 4]? = some v4 ∧ (setA cs o v0 v1 v2 v3 v4 v5)[o + 5]? = some v5 := by
  unfold setA
  refine ⟨?_, ?_, ?_, ?_, ?_, ?_⟩
  · rw [Array.getElem?_setIfInBounds_ne (by omega), Array.getElem?_setIfInBounds_ne (by omega), Array.getElem?_setIfInBounds_ne (by omega), Array.getElem?_setIfInBounds_ne (by omega), Array.getElem?_setIfInBounds_ne (by omega), Array.getElem?_setIfInBounds_self_of_lt (by omega)]
  · rw [Array.getElem?_setIfInBounds_ne (by omega), Array.getElem?_setIfInBounds_ne (by omega), Array.getElem?_setIfInBounds_ne (by omega), Array.getElem?_setIfInBounds_ne (by omega), Array.getElem?_setIfInBounds_self_of_lt (by simp; omega)]
  · rw [Array.getElem?_setIfInBounds_ne (by omega), Array.getElem?_setIfInBounds_ne (by omega), Array.getElem?_setIfInBounds_ne (by omega), Array.getElem?_setIfInBounds_self_of_lt (by simp; omega)]
  · rw [Array.getElem?_setIfInBounds_ne (by omega), Array.getElem?_setIfInBounds_ne (by omega), Array.getElem?_setIfInBounds_self_of_lt (by simp; omega)]
  · rw [Array.getElem?_setIfInBounds_ne (by omega), Array.getElem?_setIfInBounds_self_of_lt (by simp; omega)]
  · rw [Array.getElem?_setIfInBounds_self_of_lt (by simp; omega)]
/-- an element is set -/
theorem RowV.put {w : World} {g n k m : Nat} {f : Nat → Rat} {cs : Array Value} {q : Rat} {s fine : Bool} {A1 A2 : Option Addr} {k1 c1 k2 c2 nn dd : Nat} {fn fd : Int} (h : RowV w g n f m cs) (hk : k < n) (hq : Parts w q m s (.slice A1 k1 c1) (.slice A2 k2 c2) fine fn fd nn dd) :
    RowV (put6o w g (k * 6) (.bool s) (.slice A1 k1 c1) (.slice A2 k2 c2) (.bool fine) (.int .i64 fn) (.int .i64 fd)) g n (fun i => if i = k then q else f i) m (setA cs (k * 6) (.bool s) (.slice A1 k1 c1) (.slice A2 k2 c2) (.bool fine) (.int .i64 fn) (.int .i64 fd)) := by
  have hz := h.size
  refine ⟨?_, by simp [setA]; omega, fun i hi => ?_⟩
  · exact (((((h.blk.setTo (k * 6) _ rfl).setTo (k * 6 + 1) _ rfl).setTo (k * 6 + 2) _ rfl).setTo (k * 6 + 3) _ rfl).setTo (k * 6 + 4) _ rfl).setTo (k * 6 + 5) _ rfl
  · by_cases e : i = k
    · subst e
      obtain ⟨y0, y1, y2, y3, y4, y5⟩ := setA_at (cs := cs) (o := i * 6) (.bool s) (.slice A1 k1 c1) (.slice A2 k2 c2) (.bool fine) (.int .i64 fn) (.int .i64 fd) (by omega)
      rw [if_pos rfl]
      exact ⟨s, A1, k1, c1, A2, k2, c2, fine, fn, fd, nn, dd, y0, y1, y2, y3, y4, y5, hq.put6o h.blk (by decide) _ _ _ _ _ _⟩
    · obtain ⟨s', B1, j1, e1, B2, j2, e2, fi, gn, gd, n', d', x0, x1, x2, x3, x4, x5, hp⟩ := h.els i hi
      rw [if_neg e]
      refine ⟨s', B1, j1, e1, B2, j2, e2, fi, gn, gd, n', d', ?_, ?_, ?_, ?_, ?_, ?_, hp.put6o h.blk (by decide) _ _ _ _ _ _⟩ <;> (rw [setA_far _ _ _ _ _ _ (by omega)]; assumption)
/-- another row is as it was -/
theorem RowV.beside {w : World} {g b o n m : Nat} {f : Nat → Rat} {cs cb : Array Value} {t : TypeId} (h : RowV w g n f m cs) (hb : Blk w b t cb) (ht : t ≠ 2) (hne : b ≠ g) (v0 v1 v2 v3 v4 v5 : Value) : RowV (put6o w b o v0 v1 v2 v3 v4 v5) g n f m cs :=
  ⟨blk_put6o h.blk hne _ _ _ _ _ _, h.size, fun i hi => by
    obtain ⟨s, A1, k1, c1, A2, k2, c2, fine, fn, fd, nn, dd, x0, x1, x2, x3, x4, x5, hp⟩ := h.els i hi
    exact ⟨s, A1, k1, c1, A2, k2, c2, fine, fn, fd, nn, dd, x0, x1, x2, x3, x4, x5, hp.put6o hb ht _ _ _ _ _ _⟩⟩
theorem RowV.set {w : World} {g b o n m : Nat} {f : Nat → Rat} {cs cb : Array Value} {t : TypeId} (h : RowV w g n f m cs) (hb : Blk w b t cb) (ht : t ≠ 2) (hne : b ≠ g) (u : Value) : RowV (w.setCell ⟨b, o, none⟩ u) g n f m cs :=
  ⟨h.blk.other u hne, h.size, fun i hi => by
    obtain ⟨s, A1, k1, c1, A2, k2, c2, fine, fn, fd, nn, dd, x0, x1, x2, x3, x4, x5, hp⟩ := h.els i hi
    exact ⟨s, A1, k1, c1, A2, k2, c2, fine, fn, fd, nn, dd, x0, x1, x2, x3, x4, x5, hp.store hb ht⟩⟩
/-- R rows of n wide fractions each, in blocks from B on -/
structure MatW (w : World) (B gL R n : Nat) (M : Nat → Nat → Rat) (m : Nat) (gs cp : Nat → Nat) (cl : Array Value) (css : Nat → Array Value) : Prop where
  top : Blk w gL 93 cl
  lowL : B ≤ gL
  cell : ∀ i, i < R → cl[i]? = some (.slice (some ⟨gs i, 0, none⟩) n (cp i))
  row : ∀ i, i < R → RowV w (gs i) n (M i) m (css i)
  low : ∀ i, i < R → B ≤ gs i
  inj : ∀ i j, i < R → j < R → gs i = gs j → i = j
theorem MatW.below {w w' : World} {B gL R n m : Nat} {M : Nat → Nat → Rat} {gs cp : Nat → Nat} {cl : Array Value} {css : Nat → Array Value} (h : MatW w B gL R n M m gs cp cl css) (hb : Below w.heap.size w w') : MatW w' B gL R n M m gs cp cl css :=
  ⟨h.top.belowS hb, h.lowL, h.cell, fun i hi => (h.row i hi).below hb, h.low, h.inj⟩
theorem MatW.more {w : World} {B gL R n m m' : Nat} {M : Nat → Nat → Rat} {gs cp : Nat → Nat} {cl : Array Value} {css : Nat → Array Value} (h : MatW w B gL R n M m gs cp cl css) (hm : m ≤ m') : MatW w B gL R n M m' gs cp cl css :=
  ⟨h.top, h.lowL, h.cell, fun i hi => (h.row i hi).more hm, h.low, h.inj⟩
theorem MatW.congr {w : World} {B gL R n m : Nat} {M M' : Nat → Nat → Rat} {gs cp : Nat → Nat} {cl : Array Value} {css : Nat → Array Value} (h : MatW w B gL R n M m gs cp cl css) (hM : ∀ r c, r < R → c < n → M r c = M' r c) : MatW w B gL R n M' m gs cp cl css :=
  ⟨h.top, h.lowL, h.cell, fun i hi => (h.row i hi).congr fun c hc => hM i c hi hc, h.low, h.inj⟩
theorem MatW.neL {w : World} {B gL R n m : Nat} {M : Nat → Nat → Rat} {gs cp : Nat → Nat} {cl : Array Value} {css : Nat → Array Value} (h : MatW w B gL R n M m gs cp cl css) {i : Nat} (hi : i < R) : gs i ≠ gL := fun e => by
  have h1 := (h.row i hi).blk
  have h2 := h.top
  rw [e] at h1
  unfold Blk at h1 h2
  rw [h1] at h2
  injection h2 with h2
  injection h2 with _ h2 _
  exact absurd h2 (by decide)
/-- a cell is set -/
theorem MatW.put {w : World} {B gL R n r c m : Nat} {M : Nat → Nat → Rat} {gs cp : Nat → Nat} {cl : Array Value} {css : Nat → Array Value} {q : Rat} {s fine : Bool} {A1 A2 : Option Addr} {k1 c1 k2 c2 nn dd : Nat} {fn fd : Int} (h : MatW w B gL R n M m gs cp cl css) (hr : r < R) (hc : c < n) (hq : Parts w q m s (.slice A1 k1 c1) (.slice A2 k2 c2) fine fn fd nn dd) :
    ∃ css', MatW (put6o w (gs r) (c * 6) (.bool s) (.slice A1 k1 c1) (.slice A2 k2 c2) (.bool fine) (.int .i64 fn) (.int .i64 fd)) B gL R n (fun i j => if i = r ∧ j = c then q else M i j) m gs cp cl css' := by
  have hp := (h.row r hr).put hc hq
  have hne := h.neL hr
  refine ⟨fun i => if i = r then setA (css r) (c * 6) (.bool s) (.slice A1 k1 c1) (.slice A2 k2 c2) (.bool fine) (.int .i64 fn) (.int .i64 fd) else css i, blk_put6o h.top hne _ _ _ _ _ _, h.lowL, h.cell, fun i hi => ?_, h.low, h.inj⟩
  by_cases e : i = r
  · subst e
    simp only [if_true, true_and]
    exact hp
  · simp only [e, if_false, false_and]
    exact (h.row i hi).beside (h.row r hr).blk (by decide) (fun e2 => e (h.inj i r hi hr e2.symm)) _ _ _ _ _ _
/-- two rows change places -/
theorem MatW.swap {w : World} {B gL R n i k m : Nat} {M : Nat → Nat → Rat} {gs cp : Nat → Nat} {cl : Array Value} {css : Nat → Array Value} (h : MatW w B gL R n M m gs cp cl css) (hi : i < R) (hk : k < R) :
    ∃ cl', MatW ((w.setCell ⟨gL, i, none⟩ (.slice (some ⟨gs k, 0, none⟩) n (cp k))).setCell ⟨gL, k, none⟩ (.slice (some ⟨gs i, 0, none⟩) n (cp i))) B gL R n (swapM M i k) m (swF gs i k) (swF cp i k) cl' (swF css i k) := by
  have ci := h.cell i hi
  have ck := h.cell k hk
  have K1 := h.top.setTo i (.slice (some ⟨gs k, 0, none⟩) n (cp k)) rfl
  have hck : (cl.setIfInBounds i (.slice (some ⟨gs k, 0, none⟩) n (cp k)))[k]? = some (.slice (some ⟨gs k, 0, none⟩) n (cp k)) := by
    by_cases e : i = k
    · subst e
      exact Array.getElem?_setIfInBounds_self_of_lt (Array.getElem?_eq_some_iff.1 ci).1
    · rw [Array.getElem?_setIfInBounds_ne e]; exact ck
  refine ⟨_, K1.setTo k _ rfl, h.lowL, fun r hr => ?_, fun r hr => ?_, fun r hr => ?_, fun a b ha hb e => ?_⟩
  · unfold swF
    by_cases e : r = k
    · subst e
      simp only [if_true]
      exact Array.getElem?_setIfInBounds_self_of_lt (Array.getElem?_eq_some_iff.1 hck).1
    · rw [Array.getElem?_setIfInBounds_ne (fun h => e h.symm)]
      by_cases e2 : r = i
      · subst e2
        simp only [e, if_false, if_true]
        exact Array.getElem?_setIfInBounds_self_of_lt (Array.getElem?_eq_some_iff.1 ci).1
      · rw [Array.getElem?_setIfInBounds_ne (fun h => e2 h.symm)]
        simp only [e, e2, if_false]
        exact h.cell r hr
  · have key : ∀ j, j < R → RowV ((w.setCell ⟨gL, i, none⟩ (.slice (some ⟨gs k, 0, none⟩) n (cp k))).setCell ⟨gL, k, none⟩ (.slice (some ⟨gs i, 0, none⟩) n (cp i))) (gs j) n (M j) m (css j) := fun j hj =>
      (((h.row j hj).set h.top (by decide) (fun e => h.neL hj e.symm) _).set K1 (by decide) (fun e => h.neL hj e.symm) _)
    unfold swF swapM
    by_cases e : r = k
    · subst e
      simp only [if_true]
      exact key i hi
    · by_cases e2 : r = i
      · subst e2
        simp only [e, if_false, if_true]
        exact key k hk
      · simp only [e, e2, if_false]
        exact key r hr
  · unfold swF
    split
    · exact h.low i hi
    · split
      · exact h.low k hk
      · exact h.low r hr
  · exact Ratio.swF_inj hi hk h.inj ha hb e
theorem MatW.mid {w : World} {B gL R n i k m : Nat} {M : Nat → Nat → Rat} {gs cp : Nat → Nat} {cl : Array Value} {css : Nat → Array Value} (h : MatW w B gL R n M m gs cp cl css) (hi : i < R) (hk : k < R) :
    (w.setCell ⟨gL, i, none⟩ (.slice (some ⟨gs k, 0, none⟩) n (cp k))).cell? ⟨gL, k, none⟩ = some (.slice (some ⟨gs k, 0, none⟩) n (cp k)) := by
  refine (h.top.setTo i _ rfl).at k ?_
  by_cases e : i = k
  · subst e
    exact Array.getElem?_setIfInBounds_self_of_lt (Array.getElem?_eq_some_iff.1 (h.cell i hi)).1
  · rw [Array.getElem?_setIfInBounds_ne e]; exact h.cell k hk
end Go.Proofs.YtionognmgcabbaaGreat.Wide
/- The reference: a matrix of wide fractions is made row by row. -/
namespace Go.Proofs.YtionognmgcabbaaGreat.Wide
open Go.RowKit Go.Proofs.YtionognmgcabbaaGreat Go.Proofs.YtionognmgcabbaaGreat.Base Go.Proofs.YtionognmgcabbaaGreat.Mem Go.Proofs.YtionognmgcabbaaGreat.RatM Go.Proofs.YtionognmgcabbaaGreat.BigM Go.Proofs.YtionognmgcabbaaGreat.Big Go.Proofs.YtionognmgcabbaaGreat.Fine Go.Proofs.YtionognmgcabbaaGreat.Blk Go.Proofs.YtionognmgcabbaaGreat.GaussM
set_option linter.unusedVariables false
/-- n rows of the call's own, of L wide fractions each, no two in one block -/
structure OwnWW (w : World) (B : Nat) (v : Value) (n L : Nat) (f : Nat → Nat → Rat) (m : Nat) (us : List Value) : Prop where
  row : w.ownsRow B 93 1 v n us
  els : ∀ i, i < n → ∃ g c cs, us[i]? = some (.slice (some ⟨g, 0, none⟩) L c) ∧ RowV w g L (f i) m cs ∧ B ≤ g
  inj : ∀ (i j g c d : Nat), us[i]? = some (Value.slice (some ⟨g, 0, none⟩) L c) → us[j]? = some (Value.slice (some ⟨g, 0, none⟩) L d) → i = j
theorem OwnWW.below {w w' : World} {B n L m : Nat} {v : Value} {f : Nat → Nat → Rat} {us : List Value} (h : OwnWW w B v n L f m us) (hb : Below w.heap.size w w') : OwnWW w' B v n L f m us :=
  ⟨ownsRow_below h.row hb, fun i hi => by
    obtain ⟨g, c, cs, e, hr, hB⟩ := h.els i hi
    exact ⟨g, c, cs, e, hr.below hb, hB⟩, h.inj⟩
theorem OwnWW.lit0 (w : World) (L : Nat) (f : Nat → Nat → Rat) (m : Nat) : OwnWW (w.alloc (.cells #[] 93)) w.heap.size (.slice (some ⟨w.heap.size, 0, none⟩) 0 0) 0 L f m [] :=
  ⟨World.ownsRow_made w #[] 0 (Nat.le_refl _) (Nat.zero_le _) (by simp), fun i hi => absurd hi (Nat.not_lt_zero i), fun i j g c d h => by cases h⟩
theorem OwnWW.push {wr w1 w2 : World} {B n L m g c : Nat} {v v' : Value} {f : Nat → Nat → Rat} {us : List Value} {cs : Array Value} {ca : Array Value} {t : TypeId} (h : OwnWW wr B v n L f m us) (h1 : Below wr.heap.size wr w1) (hr : RowV w1 g L (f n) m cs) (hg0 : wr.heap.size ≤ g) (hB : B ≤ wr.heap.size)
    (hown : w2.ownsRow B 93 1 v' (n + 1) (us ++ [.slice (some ⟨g, 0, none⟩) L c])) (hg : (w1.alloc (.cells ca t)).grownBy w2 v.ownBlock) : OwnWW w2 B v' (n + 1) L f m (us ++ [.slice (some ⟨g, 0, none⟩) L c]) := by
  have hb2 : Below w1.heap.size w1 (w1.alloc (.cells ca t)) := (Below.refl _ _).alloc (Nat.le_refl _) _
  have hA := (h.below h1).below hb2
  have hlen : us.length = n := by have := h.row.1; omega
  have hold : ∀ (i g' d : Nat), us[i]? = some (Value.slice (some ⟨g', 0, none⟩) L d) → g' ≠ g := fun i g' d e e2 => by
    have hi : i < n := by have := (List.getElem?_eq_some_iff.1 e).1; omega
    obtain ⟨g'', c'', cs'', e3, hr3, _⟩ := h.els i hi
    rw [e] at e3
    injection e3 with e3
    injection e3 with e3 _ _
    injection e3 with e3
    injection e3 with e3 _ _
    have := hr3.blk.lt
    omega
  refine ⟨hown, fun i hi => ?_, fun i j g' c' d' e1 e2 => ?_⟩
  · rcases Nat.lt_or_ge i n with hlt | hge
    · obtain ⟨g', c', cs', e, hr', hB'⟩ := hA.els i hlt
      exact ⟨g', c', cs', by rw [List.getElem?_append_left (by omega)]; exact e, hr'.kept hA.row (by decide) (by decide) hg, hB'⟩
    · obtain rfl : i = n := by omega
      exact ⟨g, c, cs, by rw [List.getElem?_append_right (by omega), hlen, Nat.sub_self]; rfl, (hr.below hb2).kept hA.row (by decide) (by decide) hg, by omega⟩
  · have hi := (List.getElem?_eq_some_iff.1 e1).1
    have hj := (List.getElem?_eq_some_iff.1 e2).1
    simp only [List.length_append, List.length_cons, List.length_nil] at hi hj
    rcases Nat.lt_or_ge i n with h1 | h1 <;> rcases Nat.lt_or_ge j n with h2 | h2
    · rw [List.getElem?_append_left (by omega)] at e1 e2
      exact h.inj i j g' c' d' e1 e2
    · rw [List.getElem?_append_left (by omega)] at e1
      obtain rfl : j = us.length := by omega
      rw [List.getElem?_append_right (by omega), Nat.sub_self] at e2
      simp only [List.getElem?_cons_zero, Option.some.injEq, Value.slice.injEq, Addr.mk.injEq, and_true, true_and] at e2
      exact absurd e2.1.symm (hold i g' c' e1)
    · rw [List.getElem?_append_left (by omega)] at e2
      obtain rfl : i = us.length := by omega
      rw [List.getElem?_append_right (by omega), Nat.sub_self] at e1
      simp only [List.getElem?_cons_zero, Option.some.injEq, Value.slice.injEq, Addr.mk.injEq, and_true, true_and] at e1
      exact absurd e1.1.symm (hold j g' d' e2)
    · omega
theorem OwnWW.form {w : World} {B n L m : Nat} {v : Value} {f : Nat → Nat → Rat} {us : List Value} (h : OwnWW w B v n L f m us) : ∃ A c, v = .slice A n c ∧ (0 < n → ∃ g, A = some ⟨g, 0, none⟩ ∧ B ≤ g ∧ g < w.heap.size) := ownsRow_form h.row
theorem OwnWW.congr {w : World} {B n L m : Nat} {v : Value} {f f' : Nat → Nat → Rat} {us : List Value} (h : OwnWW w B v n L f m us) (hf : ∀ i j, i < n → j < L → f i j = f' i j) : OwnWW w B v n L f' m us :=
  ⟨h.row, fun i hi => by
    obtain ⟨g, c, cs, e, hr, hB⟩ := h.els i hi
    exact ⟨g, c, cs, e, hr.congr (fun j hj => hf i j hi hj), hB⟩, h.inj⟩
/-- the rows as a matrix -/
theorem OwnWW.mat {w : World} {B n L m gL cL : Nat} {f : Nat → Nat → Rat} {us : List Value} (h : OwnWW w B (.slice (some ⟨gL, 0, none⟩) n cL) n L f m us) : ∃ gs cp cl css, MatW w B gL n L f m gs cp cl css := by
  obtain ⟨cur, hc, hBL, _⟩ := ownsRow_block h.row (g := gL) rfl
  have hlen : us.length = n := by have := h.row.1; omega
  have hcell : ∀ i, i < n → cur[i]? = us[i]? := fun i hi => by
    rw [← cell_of_row w gL i cur _ (0, 0) hc]
    exact World.ownsRow.cellAt h.row i (by omega)
  have key : ∀ i, ∃ p : Nat × Nat × Array Value, i < n → us[i]? = some (.slice (some ⟨p.1, 0, none⟩) L p.2.1) ∧ RowV w p.1 L (f i) m p.2.2 ∧ B ≤ p.1 := fun i => by
    by_cases hi : i < n
    · obtain ⟨g, c, cs, e, hr, hB⟩ := h.els i hi
      exact ⟨⟨g, c, cs⟩, fun _ => ⟨e, hr, hB⟩⟩
    · exact ⟨⟨0, 0, #[]⟩, fun h' => absurd h' hi⟩
  obtain ⟨p, hp⟩ := Classical.axiomOfChoice key
  refine ⟨fun i => (p i).1, fun i => (p i).2.1, cur, fun i => (p i).2.2, hc, hBL, fun i hi => by rw [hcell i hi]; exact (hp i hi).1, fun i hi => (hp i hi).2.1, fun i hi => (hp i hi).2.2, fun i j hi hj e => ?_⟩
  have e1 := (hp i hi).1
  have e2 := (hp j hj).1
  have e3 : (p i).1 = (p j).1 := e
  rw [← e3] at e2
  exact h.inj i j _ _ _ e1 e2
end Go.Proofs.YtionognmgcabbaaGreat.Wide
