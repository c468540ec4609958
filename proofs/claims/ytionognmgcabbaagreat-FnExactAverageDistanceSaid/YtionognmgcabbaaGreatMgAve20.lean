/- The reference's fractions of any size: compared. -/
import Derived.Test.YtionognmgcabbaaGreatMgAve19
import Derived.Test.YtionognmgcabbaaGreatMgAve18
import Derived.Deep.Cut
import Derived.Test.YtionognmgcabbaaGreatMgAve08
import Derived.Test.YtionognmgcabbaaGreatMgAve11
import Derived.Test.YtionognmgcabbaaGreatMgAve00
import Derived.Deep.AppendSrc
import Derived.Lib.SliceRun
namespace Go.Proofs.YtionognmgcabbaaGreat.Wide
open Go.RowKit Go.Proofs.YtionognmgcabbaaGreat Go.Proofs.YtionognmgcabbaaGreat.Base Go.Proofs.YtionognmgcabbaaGreat.Mem Go.Proofs.YtionognmgcabbaaGreat.RatM Go.Proofs.YtionognmgcabbaaGreat.BigM Go.Proofs.YtionognmgcabbaaGreat.Big Go.Proofs.YtionognmgcabbaaGreat.Fine Go.Proofs.YtionognmgcabbaaGreat.Blk
set_option linter.unusedVariables false
def cmpW (q r : Rat) : Int := if q = r then 0 else if q < r then -1 else 1
theorem vf_minus : VF (-1) 1 := ⟨by decide, by decide, by decide, by decide, by decide⟩
theorem vf_one : VF 1 1 := ⟨by decide, by decide, by decide, by decide, by decide⟩
theorem qf_minus : qf (-1) 1 = -1 := by decide +kernel
theorem qf_one : qf 1 1 = 1 := by decide +kernel
theorem cmpW_sub (q r : Rat) : cmpW q r = if q + -1 * r = 0 then 0 else if q + -1 * r < 0 then -1 else 1 := by
  unfold cmpW
  have h1 : q = r ↔ q + -1 * r = 0 := by grind
  have h2 : q < r ↔ q + -1 * r < 0 := by grind
  simp only [h1, h2]
theorem Parts.zero {w : World} {q : Rat} {m : Nat} {s fine : Bool} {vn vd : Value} {fn fd : Int} {n d : Nat} (h : Parts w q m s vn vd fine fn fd n d) : (n = 0 ↔ q = 0) ∧ (n ≠ 0 → (q < 0 ↔ s = true)) := by
  have hd := Nat.ne_of_gt h.pos
  rw [← h.val]
  refine ⟨(qv_eq_zero hd).symm, fun hn => ?_⟩
  have := qv_neg (s := s) hn hd
  constructor
  · intro hx; rw [← this]; simpa using hx
  · intro hx; rw [hx] at this ⊢; simpa using this
set_option maxHeartbeats 4000000 in
set_option maxRecDepth 100000 in
theorem cmp_any {q r : Rat} {m m' : Nat} {v u : Value} (w : World) (hv : IsW w q m v) (hu : IsW w r m' u) (h2 : 2 ≤ m) (h2' : 2 ≤ m') (hm : m + m' ≤ 300000) : Calls Tryz.prog 74 #[v, u] w fun e w' => e = .returned (.int .i64 (cmpW q r)) ∧ Below w.heap.size w w' := by
  have HC := Lib.hid (cmpW_sub q r)
  generalize cmpW q r = cw at *
  have HV0 := Lib.hid hv
  have HU0 := Lib.hid hu
  have HM1 := Lib.hid (fun W => wideOf_any vf_minus W)
  rw [qf_minus] at HM1
  obtain ⟨s, A1, k1, c1, A2, k2, c2, fa, fn, fd, n, d, rfl, hp⟩ := hv
  obtain ⟨s', A3, k3, c3, A4, k4, c4, fb, gn, gd, n', d', rfl, hp'⟩ := hu
  obtain ⟨W3, hW3⟩ : ∃ W3, W3 = (w.alloc (.cells #[.bool s, .slice A1 k1 c1, .slice A2 k2 c2, .bool fa, .int .i64 fn, .int .i64 fd] 81)).alloc (.cells #[.bool s', .slice A3 k3 c3, .slice A4 k4 c4, .bool fb, .int .i64 gn, .int .i64 gd] 81) := ⟨_, rfl⟩
  have K0 : Hid (Blk W3 w.heap.size 81 #[.bool s, .slice A1 k1 c1, .slice A2 k2 c2, .bool fa, .int .i64 fn, .int .i64 fd]) := Lib.hid (by rw [hW3]; exact (Blk.new w _ _).alloc _)
  have K1 : Hid (Blk W3 (w.heap.size + 1) 81 #[.bool s', .slice A3 k3 c3, .slice A4 k4 c4, .bool fb, .int .i64 gn, .int .i64 gd]) := Lib.hid (by rw [hW3]; exact Blk.newAt _ _ (by simp))
  have HB : Hid (Below w.heap.size w W3) := Lib.hid (by rw [hW3]; exact ((Below.refl _ _).alloc (Nat.le_refl _) _).alloc (by simp) _)
  have HV := Lib.hid (fun W (h : Below W3.heap.size W3 W) => HV0.out.below (Base.Below.nextA HB.out h))
  have HU := Lib.hid (fun W (h : Below W3.heap.size W3 W) => HU0.out.below (Base.Below.nextA HB.out h))
  have HW := Lib.hid hW3
  clear hW3 hp hp' HV0 HU0
  go_enter Tryz.func74, Tryz.ntmps74
  go_upto_region 1 with (fail)
  rw [← HW.out]
  clear HW
  refine Rel.wp_region_rel 7 (by kernel_rfl) (by kernel_rfl) (fun F hF => ?_)
  simp only [List.take_succ_cons, List.take_zero, List.drop_succ_cons, List.drop_zero, Rel.putL] at hF ⊢
  have HF := Lib.hid hF
  clear hF
  have uv := @Rel.upon_value Tryz.prog
  have ue := @Rel.upon_enter Tryz.prog
  apply Rel.rel_pure
  apply Exists.intro
  refine ⟨fun vs wq hq hdp R hR => ?_, ?_⟩
  · (rw [HF.out, Rel.stepAt_eq]; clear hdp; have x0 := (K0.out.belowS hq).at 0 (v := .bool s) rfl; have x1 := (K0.out.belowS hq).at 1 (v := .slice A1 k1 c1) rfl; have x2 := (K0.out.belowS hq).at 2 (v := .slice A2 k2 c2) rfl; have x3 := (K0.out.belowS hq).at 3 (v := .bool fa) rfl; have x4 := (K0.out.belowS hq).at 4 (v := .int .i64 fn) rfl; have x5 := (K0.out.belowS hq).at 5 (v := .int .i64 fd) rfl; go_simp; exact hR)
  apply Rel.rel_pure
  apply Exists.intro
  refine ⟨fun vs wq hq hdp R hR => ?_, ?_⟩
  · (rw [HF.out, Rel.stepAt_eq]; clear hdp; skip; go_simp; exact hR)
  refine Rel.rel_law (S := fun v w' => IsW w' (-1) 2 v) (isW_mono _ _) (fun vs wq hq hdp => ?_) ?_
  · (rw [HF.out, Rel.stepAt_eq]; have qd1 : vs 1 = _ := Rel.dep hdp 1 (by kernel_rfl); clear hdp; skip; go_simp; refine (HM1.out _).mono ?_; rintro e w7 ⟨v, rfl, hv, hb⟩; exact ⟨_, rfl, hv, hb⟩)
  apply Rel.rel_pure
  apply Exists.intro
  refine ⟨fun vs wq hq hdp R hR => ?_, ?_⟩
  · (rw [HF.out, Rel.stepAt_eq]; clear hdp; have x0 := (K1.out.belowS hq).at 0 (v := .bool s') rfl; have x1 := (K1.out.belowS hq).at 1 (v := .slice A3 k3 c3) rfl; have x2 := (K1.out.belowS hq).at 2 (v := .slice A4 k4 c4) rfl; have x3 := (K1.out.belowS hq).at 3 (v := .bool fb) rfl; have x4 := (K1.out.belowS hq).at 4 (v := .int .i64 gn) rfl; have x5 := (K1.out.belowS hq).at 5 (v := .int .i64 gd) rfl; go_simp; exact hR)
  refine Rel.rel_law (S := fun v w' => IsW w' (-1 * r) (2 + m') v) (isW_mono _ _) (fun vs wq hq hdp => ?_) ?_
  · (rw [HF.out, Rel.stepAt_eq]; have qd2 : IsW wq _ _ (vs 2) := Rel.dep hdp 2 (by kernel_rfl); have qd3 : vs 3 = _ := Rel.dep hdp 3 (by kernel_rfl); clear hdp; skip; go_simp; refine (wideMul_any wq qd2 (HU.out wq hq) (by decide) (by omega) (by decide) h2').mono ?_; rintro e w7 ⟨v, rfl, hv, hb⟩; exact ⟨_, rfl, hv, hb⟩)
  refine Rel.rel_law (S := fun v w' => IsW w' (q + -1 * r) (m + (2 + m') + 1) v) (isW_mono _ _) (fun vs wq hq hdp => ?_) ?_
  · (rw [HF.out, Rel.stepAt_eq]; have qd0 : vs 0 = _ := Rel.dep hdp 0 (by kernel_rfl); have qd4 : IsW wq _ _ (vs 4) := Rel.dep hdp 4 (by kernel_rfl); clear hdp; skip; go_simp; refine (wideAdd_any wq (HV.out wq hq) qd4 (by omega) (by omega) h2 (by omega)).mono ?_; rintro e w7 ⟨v, rfl, hv, hb⟩; exact ⟨_, rfl, hv, hb⟩)
  refine Rel.rel_alloc (cs := #[.bool false, .slice none 0 0, .slice none 0 0, .bool false, .int .i64 0, .int .i64 0]) (t := 81) (fun vs wq hq hdp R hR => ?_) ?_
  · (rw [HF.out, Rel.stepAt_eq]; clear hdp; go_simp; exact hR)
  refine Rel.rel_end (fun vs wq hq hall => ?_)
  rw [HF.out]
  have qe0 : vs 0 = _ := Rel.fin hall 0 (by decide)
  have qe1 : vs 1 = _ := Rel.fin hall 1 (by decide)
  have qe2 : IsW wq _ _ (vs 2) := Rel.fin hall 2 (by decide)
  have qe3 : vs 3 = _ := Rel.fin hall 3 (by decide)
  have qe4 : IsW wq _ _ (vs 4) := Rel.fin hall 4 (by decide)
  have qe5 : IsW wq _ _ (vs 5) := Rel.fin hall 5 (by decide)
  have qe6 : Rel.NewB _ _ _ (vs 6) wq := Rel.fin hall 6 (by decide)
  clear hall HF uv ue
  obtain ⟨g5, eg5, hg5, hblk⟩ := qe6
  obtain ⟨t, B1, j1, e1, B2, j2, e2, fi, tn, td, nn, dd, ev5, hpz⟩ := qe5
  have K5 : Blk wq g5 81 #[.bool false, .slice none 0 0, .slice none 0 0, .bool false, .int .i64 0, .int .i64 0] := hblk
  obtain ⟨W6, hW6⟩ : ∃ W6, W6 = put6 wq g5 (.bool t) (.slice B1 j1 e1) (.slice B2 j2 e2) (.bool fi) (.int .i64 tn) (.int .i64 td) := ⟨_, rfl⟩
  have K6 : Hid (Blk W6 g5 81 #[.bool t, .slice B1 j1 e1, .slice B2 j2 e2, .bool fi, .int .i64 tn, .int .i64 td]) := Lib.hid (by rw [hW6]; exact put6_blk K5 _ _ _ _ _ _)
  have HBF : Hid (Below w.heap.size w W6) := Lib.hid (by rw [hW6]; exact put6_below (Base.Below.nextA HB.out hq) (show w.heap.size ≤ g5 by have := HB.out.size; omega) _ _ _ _ _ _)
  unfold put6 at hW6
  have z0 := K5.frz 0
  have z1 := K5.frz 1
  have z2 := K5.frz 2
  have z3 := K5.frz 3
  have z4 := K5.frz 4
  have z5 := K5.frz 5
  have c0 := K5.at 0 (v := .bool false) rfl
  have c1 := K5.at 1 (v := .slice none 0 0) rfl
  have c2 := K5.at 2 (v := .slice none 0 0) rfl
  have c3 := K5.at 3 (v := .bool false) rfl
  have c4 := K5.at 4 (v := .int .i64 0) rfl
  have c5 := K5.at 5 (v := .int .i64 0) rfl
  obtain ⟨hz, hneg⟩ := hpz.zero
  obtain ⟨_, _, ef, -⟩ := Dig.form hpz.num
  replace ef := (Value.slice.inj ef).2.1
  have hlen : j1 = 0 ↔ q + -1 * r = 0 := by
    rw [← hz, ef]
    constructor
    · intro h0
      rcases Nat.eq_zero_or_pos nn with g | g
      · exact g
      · have := len_pos g; omega
    · intro h0; rw [h0, bigL_zero]; rfl
  have H0 := Lib.hid (fun h : j1 = 0 => (show cw = 0 by rw [HC.out, if_pos (hlen.1 h)]))
  have H1 := Lib.hid (fun (h : ¬ j1 = 0) (ht : t = true) => (show cw = -1 by rw [HC.out, if_neg (fun g => h (hlen.2 g)), if_pos ((hneg (fun g => h (hlen.2 (hz.1 g)))).2 ht)]))
  have H2 := Lib.hid (fun (h : ¬ j1 = 0) (ht : t = false) => (show cw = 1 by rw [HC.out, if_neg (fun g => h (hlen.2 g)), if_neg (fun g => by have := (hneg (fun g => h (hlen.2 (hz.1 g)))).1 g; rw [ht] at this; cases this)]))
  clear hblk K5 hpz ef hq K0 K1 HV HU hlen hneg hz HC HB qe0 qe1 qe2 qe3 qe4 HM1
  go_upto_region 2 with (fail)
  rw [← hW6]
  clear hW6 z0 z1 z2 z3 z4 z5 c0 c1 c2 c3 c4 c5
  have s0 := K6.out.at 0 (v := .bool t) rfl
  have s1 := K6.out.at 1 (v := .slice B1 j1 e1) rfl
  by_cases h0 : j1 = 0
  · have HE := Lib.hid (H0.out h0)
    subst h0
    clear H0 H1 H2
    go_wp2
    go_ret
    exact ⟨by rw [HE.out]; rfl, HBF.out⟩
  · cases t with
    | true =>
      have HE := Lib.hid (H1.out h0 rfl)
      clear H0 H1 H2
      go_wp2
      go_ret
      exact ⟨by rw [HE.out]; rfl, HBF.out⟩
    | false =>
      have HE := Lib.hid (H2.out h0 rfl)
      clear H0 H1 H2
      go_wp2
      go_ret
      exact ⟨by rw [HE.out]; rfl, HBF.out⟩
end Go.Proofs.YtionognmgcabbaaGreat.Wide
/- The reference: whether a list are chances; the bits of a source. -/
namespace Go.Proofs.YtionognmgcabbaaGreat.Wide
open Go.RowKit Go.Proofs.YtionognmgcabbaaGreat Go.Proofs.YtionognmgcabbaaGreat.Base Go.Proofs.YtionognmgcabbaaGreat.Mem Go.Proofs.YtionognmgcabbaaGreat.RatM Go.Proofs.YtionognmgcabbaaGreat.BigM Go.Proofs.YtionognmgcabbaaGreat.Big Go.Proofs.YtionognmgcabbaaGreat.Fine Go.Proofs.YtionognmgcabbaaGreat.Blk Go.Proofs.YtionognmgcabbaaGreat.GaussM Go.Proofs.YtionognmgcabbaaGreat.MemF Go.Proofs.YtionognmgcabbaaGreat.ValF Go.Proofs.YtionognmgcabbaaGreat.ChM
set_option linter.unusedVariables false
set_option maxHeartbeats 1000000 in
theorem fAll_any {A : Option Addr} {c B n : Nat} {fs : List Int} (w : World) (hx : RdF w B A n fs) (hB : B ≤ w.heap.size) (hn : n ≤ 1099511627776) : Calls Tryz.prog 160 #[.slice A n c] w fun e w' => e = .returned (.bool (vfAll fs n)) ∧ Below w.heap.size w w' := by
  have HX := Lib.hid (hx.more hB)
  clear hx
  go_enter Tryz.func160, Tryz.ntmps160
  go_wp2
  go_loopw [3] (fun iv wr => ∃ i : Nat, iv = .int .i64 (i : Int) ∧ i ≤ n ∧ Hid (∀ j, j < i → vfB (fs.getD (2 * j) 0) (fs.getD (2 * j + 1) 0) = true) ∧ Hid (Below w.heap.size w wr)) (fun iv _ => n - (intOf iv).toNat)
  case atStart => exact ⟨0, rfl, Nat.zero_le _, Lib.hid fun j hj => absurd hj (Nat.not_lt_zero j), Lib.hid (Below.refl _ _)⟩
  case round =>
    obtain ⟨i, rfl, hi, hall, HB⟩ := hrel
    by_cases hlt : i < n
    · obtain ⟨b, off, rfl, hbl, g1, g2⟩ := (HX.out.below HB.out (Nat.le_refl _)).at hlt
      have HV := Lib.hid (fun W => validS_any (fs.getD (2 * i) 0) (fs.getD (2 * i + 1) 0) W)
      have HNO := Lib.hid (fun h => (show vfAll fs n = false from all_no hlt h))
      have HYES := Lib.hid (fun (h : vfB (fs.getD (2 * i) 0) (fs.getD (2 * i + 1) 0) = true) j (hj : j < i + 1) => (show vfB (fs.getD (2 * j) 0) (fs.getD (2 * j + 1) 0) = true by
        rcases Nat.lt_or_ge j i with h1 | h1
        · exact hall.out j h1
        · obtain rfl : j = i := by omega
          exact h))
      have hsz := HB.out.size
      generalize fs.getD (2 * i) 0 = x0 at *
      generalize fs.getD (2 * i + 1) 0 = x1 at *
      go_wp2_with fail
      refine (HV.out _).mono ?_
      rintro e w1 ⟨rfl, hb1⟩
      have HB1 := Lib.hid (Base.Below.nextA HB.out hb1)
      cases hv : vfB x0 x1 with
      | false =>
        have HE := Lib.hid (HNO.out hv)
        clear HNO HYES HV hb1 hv HB g1 g2 hall
        go_wp2
        go_ret
        exact ⟨by rw [HE.out]; rfl, HB1.out⟩
      | true =>
        have HA := Lib.hid (HYES.out hv)
        clear HNO HYES HV hb1 hv HB g1 g2 hall
        go_wp2
        go_roundw
        case rel => exact ⟨i + 1, by simp, hlt, HA, HB1⟩
        case measure => simp [intOf]; omega
    · obtain rfl : i = n := by omega
      have HE : Hid (vfAll fs i = true) := Lib.hid (all_range.2 hall.out)
      clear hall
      go_wp2
      go_ret
      exact ⟨by rw [HE.out]; rfl, HB.out⟩
theorem cmpW_zero (q r : Rat) : (cmpW q r == 0) = decide (q = r) := by
  unfold cmpW
  by_cases h : q = r
  · simp [h]
  · by_cases h2 : q < r
    · simp [h, h2]
    · simp [h, h2]
set_option maxHeartbeats 2000000 in
set_option maxRecDepth 100000 in
theorem isS_any {A : Option Addr} {c B n : Nat} {fs : List Int} (w : World) (hx : RdF w B A n fs) (hB : B ≤ w.heap.size) (hn : n ≤ 1099511627776) : Calls Tryz.prog 115 #[.slice A n c] w fun e w' => e = .returned (.bool (chB fs n)) ∧ Below w.heap.size w w' := by
  have HX := Lib.hid (hx.more hB)
  have HFA := Lib.hid (fAll_any (c := c) w hx hB hn)
  clear hx
  by_cases h1 : n < 1
  · have HE := Lib.hid (chB_short (fs := fs) h1)
    have h1' : (n : Int) < 1 := by omega
    go_enter Tryz.func115, Tryz.ntmps115
    go_wp2
    go_ret
    exact ⟨by rw [HE.out]; rfl, Below.refl _ _⟩
  by_cases h2 : 16 < n
  · have HE := Lib.hid (chB_long (fs := fs) h2)
    have h1' : ¬ (n : Int) < 1 := by omega
    have h2' : (16 : Int) < n := by omega
    go_enter Tryz.func115, Tryz.ntmps115
    go_wp2
    go_ret
    exact ⟨by rw [HE.out]; rfl, Below.refl _ _⟩
  have h1' : ¬ (n : Int) < 1 := by omega
  have h2' : ¬ (16 : Int) < n := by omega
  go_enter Tryz.func115, Tryz.ntmps115
  go_wp2_with fail
  refine HFA.out.mono ?_
  rintro e w1 ⟨rfl, hb1⟩
  have HB1 := Lib.hid hb1
  clear hb1
  cases hv : vfAll fs n with
  | false =>
    have HE := Lib.hid (chB_vf hv)
    go_wp2
    go_ret
    exact ⟨by rw [HE.out]; rfl, HB1.out⟩
  | true =>
    have HV := Lib.hid hv
    clear hv
    go_wp2
    go_loopw [3] (fun iv wr => ∃ i : Nat, iv = .int .i64 (i : Int) ∧ i ≤ n ∧ Hid (∀ j, j < i → decide (0 ≤ fs.getD (2 * j) 0) = true) ∧ wr = w1) (fun iv _ => n - (intOf iv).toNat)
    case atStart => exact ⟨0, rfl, Nat.zero_le _, Lib.hid fun j hj => absurd hj (Nat.not_lt_zero j), rfl⟩
    case round =>
      obtain ⟨i, rfl, hi, hall, rfl⟩ := hrel
      by_cases hlt : i < n
      · obtain ⟨b, off, rfl, hbl, g1, g2⟩ := (HX.out.below HB1.out (Nat.le_refl _)).at hlt
        have HNO := Lib.hid (fun h => (show posAll fs n = false from all_no hlt h))
        have HYES := Lib.hid (fun (h : decide (0 ≤ fs.getD (2 * i) 0) = true) j (hj : j < i + 1) => (show decide (0 ≤ fs.getD (2 * j) 0) = true by
          rcases Nat.lt_or_ge j i with h1 | h1
          · exact hall.out j h1
          · obtain rfl : j = i := by omega
            exact h))
        generalize fs.getD (2 * i) 0 = x0 at *
        generalize fs.getD (2 * i + 1) 0 = x1 at *
        by_cases hx0 : x0 < 0
        · have HE := Lib.hid (chB_neg (HNO.out (by simp; omega)))
          clear HNO HYES
          go_wp2
          go_ret
          exact ⟨by rw [HE.out]; rfl, HB1.out⟩
        · have HA := Lib.hid (HYES.out (by simp; omega))
          clear HNO HYES hall
          go_wp2
          go_roundw
          case rel => exact ⟨i + 1, by simp, hlt, HA, by first | trivial | rfl⟩
          case measure => simp [intOf]; omega
      · obtain rfl : i = n := by omega
        have HE := Lib.hid (chB_sum (fs := fs) (n := i) (by omega) (by omega) HV.out (all_range.2 hall.out))
        have HW1 := Lib.hid (wides_any (c := c) wr (HX.out.below HB1.out (Nat.le_refl _)) HB1.out.size (vfAll_true.1 HV.out) (by omega))
        have HO := Lib.hid (fun W => wideOf_any vf_one W)
        rw [qf_one] at HO
        clear hall
        go_wp2_with fail
        refine HW1.out.mono ?_
        rintro e w2 ⟨v2, cs2, rfl, hv2, hb2⟩
        have HB2 := Lib.hid (Base.Below.nextA HB1.out hb2)
        have HV2 := Lib.hid (hv2.base (Nat.zero_le _))
        clear hv2 hb2
        go_wp2_with fail
        refine (sum_any w2 HV2.out (by omega) (by omega) (by omega)).mono ?_
        rintro e w3 ⟨v3, rfl, hv3, hb3⟩
        have HB3 := Lib.hid (Base.Below.nextA HB2.out hb3)
        have HV3 := Lib.hid hv3
        clear hv3 hb3
        go_wp2_with fail
        refine (HO.out w3).mono ?_
        rintro e w4 ⟨v4, rfl, hv4, hb4⟩
        have HB4 := Lib.hid (Base.Below.nextA HB3.out hb4)
        have HV4 := Lib.hid hv4
        replace HV3 := Lib.hid (HV3.out.below hb4)
        clear hv4 hb4
        go_wp2_with fail
        refine (cmp_any w4 HV3.out HV4.out (by omega) (by omega) (by omega)).mono ?_
        rintro e w5 ⟨rfl, hb5⟩
        have HB5 := Lib.hid (Base.Below.nextA HB4.out hb5)
        have HE2 := Lib.hid (HE.out.trans (cmpW_zero _ _).symm)
        clear hb5 HE
        generalize cmpW (sumR i (fq fs)) 1 = cw at *
        go_wp2
        go_ret
        exact ⟨ret_bool HE2.out.symm, HB5.out⟩
set_option maxHeartbeats 2000000 in
set_option maxRecDepth 100000 in
theorem bitsS_any {A : Option Addr} {c B n : Nat} {fs : List Int} (w : World) (hx : RdF w B A n fs) (hB : B ≤ w.heap.size) (hn : n ≤ 1099511627776) : Calls Tryz.prog 55 #[.slice A n c] w fun e w' => e = .returned (.int .i64 ((bitsQ fs n : Nat) : Int)) ∧ Below w.heap.size w w' := by
  have HX := Lib.hid (hx.more hB)
  have HI := Lib.hid (fun W (h : Below w.heap.size w W) => isS_any (c := c) W (hx.below h hB) (Nat.le_trans hB h.size) hn)
  clear hx
  go_enter Tryz.func55, Tryz.ntmps55
  go_wp2
  go_loopw [3] (fun iv wr => ∃ i : Nat, iv = .int .i64 (i : Int) ∧ 1 ≤ i ∧ i ≤ 5 ∧ Hid (∀ j, 1 ≤ j → j < i → n = 2 ^ j → chB fs n = false) ∧ Hid (Below w.heap.size w wr)) (fun iv _ => 5 - (intOf iv).toNat)
  case atStart => exact ⟨1, rfl, by omega, by omega, Lib.hid fun j hj hj2 => by omega, Lib.hid (Below.refl _ _)⟩
  case round =>
    obtain ⟨i, rfl, hi1, hi, hall, HB⟩ := hrel
    have hcase : i = 1 ∨ i = 2 ∨ i = 3 ∨ i = 4 ∨ i = 5 := by omega
    rcases hcase with rfl | rfl | rfl | rfl | rfl
    · have hN : Hid (∀ b : Prop, (n = 2 → chB fs n = false) → ∀ j, 1 ≤ j → j < 1 + 1 → n = 2 ^ j → chB fs n = false) := Lib.hid fun _ hb j h1 h2 h3 => by
        rcases Nat.lt_or_ge j 1 with g | g
        · exact hall.out j h1 g h3
        · obtain rfl : j = 1 := by omega
          exact hb h3
      clear hall
      by_cases hp : n = 2
      · have hp' : ((n : Int) == 2) = true := by rw [hp]; rfl
        have HP := Lib.hid hp
        clear hp
        go_wp2_with fail
        refine (HI.out _ HB.out).mono ?_
        rintro e w1 ⟨rfl, hb1⟩
        have HB1 := Lib.hid (Base.Below.nextA HB.out hb1)
        clear hb1
        cases hc : chB fs n with
        | true =>
          have HE : Hid (bitsQ fs n = 1) := Lib.hid (by unfold bitsQ; rw [if_pos hc, HP.out]; rfl)
          clear hN
          go_wp2
          go_ret
          exact ⟨by rw [HE.out]; rfl, HB1.out⟩
        | false =>
          have HA := Lib.hid (hN.out True (fun _ => hc))
          clear hN hc
          go_wp2
          go_roundw
          case rel => exact ⟨1 + 1, by first | rfl | simp, by omega, by omega, HA, HB1⟩
          case measure => simp [intOf]
      · have hp' : ((n : Int) == 2) = false := by simp only [beq_eq_false_iff_ne]; omega
        have HA := Lib.hid (hN.out True (fun h => absurd h hp))
        clear hN hp
        go_wp2
        go_roundw
        case rel => exact ⟨1 + 1, by first | rfl | simp, by omega, by omega, HA, HB⟩
        case measure => simp [intOf]
    · have hN : Hid (∀ b : Prop, (n = 4 → chB fs n = false) → ∀ j, 1 ≤ j → j < 2 + 1 → n = 2 ^ j → chB fs n = false) := Lib.hid fun _ hb j h1 h2 h3 => by
        rcases Nat.lt_or_ge j 2 with g | g
        · exact hall.out j h1 g h3
        · obtain rfl : j = 2 := by omega
          exact hb h3
      clear hall
      by_cases hp : n = 4
      · have hp' : ((n : Int) == 4) = true := by rw [hp]; rfl
        have HP := Lib.hid hp
        clear hp
        go_wp2_with fail
        refine (HI.out _ HB.out).mono ?_
        rintro e w1 ⟨rfl, hb1⟩
        have HB1 := Lib.hid (Base.Below.nextA HB.out hb1)
        clear hb1
        cases hc : chB fs n with
        | true =>
          have HE : Hid (bitsQ fs n = 2) := Lib.hid (by unfold bitsQ; rw [if_pos hc, HP.out]; rfl)
          clear hN
          go_wp2
          go_ret
          exact ⟨by rw [HE.out]; rfl, HB1.out⟩
        | false =>
          have HA := Lib.hid (hN.out True (fun _ => hc))
          clear hN hc
          go_wp2
          go_roundw
          case rel => exact ⟨2 + 1, by first | rfl | simp, by omega, by omega, HA, HB1⟩
          case measure => simp [intOf]
      · have hp' : ((n : Int) == 4) = false := by simp only [beq_eq_false_iff_ne]; omega
        have HA := Lib.hid (hN.out True (fun h => absurd h hp))
        clear hN hp
        go_wp2
        go_roundw
        case rel => exact ⟨2 + 1, by first | rfl | simp, by omega, by omega, HA, HB⟩
        case measure => simp [intOf]
    · have hN : Hid (∀ b : Prop, (n = 8 → chB fs n = false) → ∀ j, 1 ≤ j → j < 3 + 1 → n = 2 ^ j → chB fs n = false) := Lib.hid fun _ hb j h1 h2 h3 => by
        rcases Nat.lt_or_ge j 3 with g | g
        · exact hall.out j h1 g h3
        · obtain rfl : j = 3 := by omega
          exact hb h3
      clear hall
      by_cases hp : n = 8
      · have hp' : ((n : Int) == 8) = true := by rw [hp]; rfl
        have HP := Lib.hid hp
        clear hp
        go_wp2_with fail
        refine (HI.out _ HB.out).mono ?_
        rintro e w1 ⟨rfl, hb1⟩
        have HB1 := Lib.hid (Base.Below.nextA HB.out hb1)
        clear hb1
        cases hc : chB fs n with
        | true =>
          have HE : Hid (bitsQ fs n = 3) := Lib.hid (by unfold bitsQ; rw [if_pos hc, HP.out]; rfl)
          clear hN
          go_wp2
          go_ret
          exact ⟨by rw [HE.out]; rfl, HB1.out⟩
        | false =>
          have HA := Lib.hid (hN.out True (fun _ => hc))
          clear hN hc
          go_wp2
          go_roundw
          case rel => exact ⟨3 + 1, by first | rfl | simp, by omega, by omega, HA, HB1⟩
          case measure => simp [intOf]
      · have hp' : ((n : Int) == 8) = false := by simp only [beq_eq_false_iff_ne]; omega
        have HA := Lib.hid (hN.out True (fun h => absurd h hp))
        clear hN hp
        go_wp2
        go_roundw
        case rel => exact ⟨3 + 1, by first | rfl | simp, by omega, by omega, HA, HB⟩
        case measure => simp [intOf]
    · have hN : Hid (∀ b : Prop, (n = 16 → chB fs n = false) → ∀ j, 1 ≤ j → j < 4 + 1 → n = 2 ^ j → chB fs n = false) := Lib.hid fun _ hb j h1 h2 h3 => by
        rcases Nat.lt_or_ge j 4 with g | g
        · exact hall.out j h1 g h3
        · obtain rfl : j = 4 := by omega
          exact hb h3
      clear hall
      by_cases hp : n = 16
      · have hp' : ((n : Int) == 16) = true := by rw [hp]; rfl
        have HP := Lib.hid hp
        clear hp
        go_wp2_with fail
        refine (HI.out _ HB.out).mono ?_
        rintro e w1 ⟨rfl, hb1⟩
        have HB1 := Lib.hid (Base.Below.nextA HB.out hb1)
        clear hb1
        cases hc : chB fs n with
        | true =>
          have HE : Hid (bitsQ fs n = 4) := Lib.hid (by unfold bitsQ; rw [if_pos hc, HP.out]; rfl)
          clear hN
          go_wp2
          go_ret
          exact ⟨by rw [HE.out]; rfl, HB1.out⟩
        | false =>
          have HA := Lib.hid (hN.out True (fun _ => hc))
          clear hN hc
          go_wp2
          go_roundw
          case rel => exact ⟨4 + 1, by first | rfl | simp, by omega, by omega, HA, HB1⟩
          case measure => simp [intOf]
      · have hp' : ((n : Int) == 16) = false := by simp only [beq_eq_false_iff_ne]; omega
        have HA := Lib.hid (hN.out True (fun h => absurd h hp))
        clear hN hp
        go_wp2
        go_roundw
        case rel => exact ⟨4 + 1, by first | rfl | simp, by omega, by omega, HA, HB⟩
        case measure => simp [intOf]
    · have HE : Hid (bitsQ fs n = 0) := Lib.hid (by
        have h1 := hall.out 1 (by omega) (by omega)
        have h2 := hall.out 2 (by omega) (by omega)
        have h3 := hall.out 3 (by omega) (by omega)
        have h4 := hall.out 4 (by omega) (by omega)
        unfold bitsQ
        by_cases hc : chB fs n = true
        · rw [hc] at h1 h2 h3 h4
          rw [if_pos hc, if_neg (fun e => by have := h1 e; cases this), if_neg (fun e => by have := h2 e; cases this), if_neg (fun e => by have := h3 e; cases this), if_neg (fun e => by have := h4 e; cases this)]
        · rw [if_neg hc])
      clear hall
      go_wp2
      go_ret
      exact ⟨by rw [HE.out]; rfl, HB.out⟩
end Go.Proofs.YtionognmgcabbaaGreat.Wide
/- The reference: whether a number of rows and a source are taken. -/
namespace Go.Proofs.YtionognmgcabbaaGreat.CntS
open Go.RowKit Go.Proofs.YtionognmgcabbaaGreat Go.Proofs.YtionognmgcabbaaGreat.Base Go.Proofs.YtionognmgcabbaaGreat.Mem Go.Proofs.YtionognmgcabbaaGreat.MemF Go.Proofs.YtionognmgcabbaaGreat.ChM Go.Proofs.YtionognmgcabbaaGreat.AllI Go.Proofs.YtionognmgcabbaaGreat.Wide
set_option linter.unusedVariables false
set_option maxHeartbeats 2000000 in
theorem count_any {A : Option Addr} {c B n : Nat} {fs : List Int} (t : Int) (w : World) (hx : RdF w B A n fs) (hB : B ≤ w.heap.size) (hn : n ≤ 1099511627776) :
    Calls Tryz.prog 63 #[.int .i64 t, .slice A n c] w fun e w' => e = .returned (.tuple #[.int .i64 ((bitsQ fs n : Nat) : Int), .bool (okA t fs n)]) ∧ Below w.heap.size w w' := by
  have HBS := Lib.hid (bitsS_any (c := c) w hx hB hn)
  have hb4 := bits_le fs n
  unfold okA
  generalize bitsQ fs n = N at *
  clear hx
  have hN5 : N = 0 ∨ N = 1 ∨ N = 2 ∨ N = 3 ∨ N = 4 := by omega
  clear hb4
  have HIR : Hid (∀ r, inR t 1 3 = r → ∀ W, Calls Tryz.prog 84 #[.int .i64 t, .int .i64 1, .int .i64 3] W fun e w' => e = .returned (.bool r) ∧ w' = W) := Lib.hid (fun r hr W => l00In_qb hr W)
  cases hr : inR t 1 3 with
  | false =>
    have HI := Lib.hid (fun W => HIR.out _ hr W)
    clear HIR hr
    rcases hN5 with rfl | rfl | rfl | rfl | rfl
    all_goals
      go_enter Tryz.func63, Tryz.ntmps63
      go_wp2_with fail
      refine HBS.out.mono ?_
      rintro e w1 ⟨rfl, hb1⟩
      have HB := Lib.hid hb1
      clear hb1 HBS
      go_wp2_with fail
      try
        refine (HI.out _).mono ?_
        rintro e w' ⟨rfl, rfl⟩
        go_wp2
      go_ret2
      exact ⟨by simp, HB.out⟩
  | true =>
    have HI := Lib.hid (fun W => HIR.out _ hr W)
    simp only [inR, Bool.and_eq_true, decide_eq_true_eq] at hr
    clear HIR
    rcases hN5 with rfl | rfl | rfl | rfl | rfl
    all_goals
      go_enter Tryz.func63, Tryz.ntmps63
      go_wp2_with fail
      refine HBS.out.mono ?_
      rintro e w1 ⟨rfl, hb1⟩
      have HB := Lib.hid hb1
      clear hb1 HBS
      go_wp2_with fail
      try
        refine (HI.out _).mono ?_
        rintro e w' ⟨rfl, rfl⟩
        go_wp2
      go_ret2
      exact ⟨by simp, HB.out⟩
end Go.Proofs.YtionognmgcabbaaGreat.CntS
/- The reference: the list of rows behind a list. -/
namespace Go.Proofs.YtionognmgcabbaaGreat.NextS
open Go.RowKit Go.Proofs.YtionognmgcabbaaGreat Go.Proofs.YtionognmgcabbaaGreat.Base Go.Proofs.YtionognmgcabbaaGreat.Mem Go.Proofs.YtionognmgcabbaaGreat.NextM
set_option linter.unusedVariables false
def ListMade (R : List Int) (w : World) (e : Ending) (w' : World) : Prop := ∃ A c, e = .returned (.slice A R.length c) ∧ OwnI w' w.heap.size (.slice A R.length c) R ∧ Below w.heap.size w w'
theorem made_list {w w' : World} {v : Value} {xs : List Int} {o : Obj} (hown : w'.ownsRow w.heap.size 2 1 v xs.length (ints xs)) (hg : (w.alloc o).grownBy w' (some w.heap.size)) : ListMade xs w (.returned v) w' := by
  have h2 : OwnI w' w.heap.size v xs := hown
  obtain ⟨A, c, rfl, _⟩ := h2.form
  exact ⟨A, c, rfl, h2, ((Below.refl _ _).alloc (Nat.le_refl _) o).trans (grown_below hg (fun g e => by injection e with e; omega) (by simp))⟩
theorem rd_news {w : World} {b off : Nat} {xs : List Int} (hc : ∀ j, j < xs.length → w.cell? ⟨b, off + j, none⟩ = some (.int .i64 (xs.getD j 0))) : ∀ j u, (ints xs)[j]? = some u → w.cell? ((⟨b, off, none⟩ : Addr).add j) = some u := fun j u hj => by
  have hl : j < xs.length := by
    have := (List.getElem?_eq_some_iff.1 hj).1
    rwa [ints_len] at this
  rw [Addr.add_lit, hc j hl, ← hj, ints_get xs j hl]
theorem rd_news_alloc {w : World} {B : Nat} {A : Option Addr} {xs : List Int} (h : RdI w B A xs) {ad : Addr} (e : A = some ad) (hB : B ≤ w.heap.size) (o : Obj) : ∀ j u, (ints xs)[j]? = some u → (w.alloc o).cell? (ad.add j) = some u := fun j u hj => by
  have hl : j < xs.length := by
    have := (List.getElem?_eq_some_iff.1 hj).1
    rwa [ints_len] at this
  obtain ⟨b, off, e2, _, hc⟩ := (h.below ((Below.refl w.heap.size w).alloc (Nat.le_refl _) o) hB) (by omega)
  rw [e] at e2
  injection e2 with e2
  subst e2
  exact rd_news hc j u hj
set_option maxHeartbeats 1000000 in
theorem own_any (A : Option Addr) (c B : Nat) (xs : List Int) (w : World) (hx : RdI w B A xs) (hB : B ≤ w.heap.size) (hl : xs.length ≤ 1048576) :
    Calls Tryz.prog 131 #[.slice A xs.length c] w (ListMade xs w) := by
  obtain ⟨i0, hi, hz0, hz1, hz2⟩ := info_parts infoI
  have HW := Lib.hid (World.ownsRow_made (base := w.heap.size) (e := 2) (size := 1) w #[] 0 (Nat.le_refl _) (Nat.zero_le _) rfl)
  cases A with
  | none =>
    have h0 : xs = [] := by
      rcases xs with _ | ⟨x, xs⟩
      · rfl
      · obtain ⟨b, off, e, _⟩ := hx (by simp)
        cases e
    subst h0
    clear hx
    go_enter Tryz.func131, Tryz.ntmps131
    go_wp2_with (at_builtin; refine wpList_append_nil _ rfl (.tmp 3) (.tmp 4) 41 rfl 2 i0 Tryz.underlying41 hi w.heap.size 0 rfl c rfl ?_)
    go_wp2
    go_ret
    exact ⟨_, 0, rfl, HW.out, (Below.refl _ _).alloc (Nat.le_refl _) _⟩
  | some ad =>
    have HN := Lib.hid (rd_news_alloc hx rfl hB (.cells #[] 2))
    clear hx
    go_enter Tryz.func131, Tryz.ntmps131
    go_wp2_with (at_builtin; refine wpList_append_own_at _ rfl (.tmp 3) (.tmp 4) 41 rfl w.heap.size 2 i0 (.int .i64 0) 1 8 Tryz.underlying41 hi hz0 hz1 hz2 rfl (by decide) _ _ _ rfl HW.out ad xs.length c (ints xs) rfl ?p1 ?p2 ?p3 ?p4 ?p5 ?p6 ?_)
    try case p1 => simp [ints_len]
    try case p2 => exact HN.out
    try case p3 => exact ints_one xs
    try case p4 => first | (simp only [maxLen]; omega) | omega
    try case p5 => omega
    try case p6 => first | (simp only [World.size_alloc]; omega) | omega
    intro v' w2 hown' hg' _ he
    have HN2 := Lib.hid (made_list hown' hg')
    clear hown' hg' he
    go_wp2
    go_ret
    exact HN2.out
theorem set_own {w : World} {B c0 g i : Nat} {l : List Int} (h : OwnI w B (.slice (some ⟨g, 0, none⟩) l.length c0) l) (x : Int) :
    OwnI (w.setCell ⟨g, i, none⟩ (.int .i64 x)) B (.slice (some ⟨g, 0, none⟩) l.length c0) (l.set i x) ∧ w.grownBy (w.setCell ⟨g, i, none⟩ (.int .i64 x)) (some g) := by
  unfold OwnI at *
  obtain ⟨h1, g1⟩ := h.stored i (.int .i64 x)
  rw [ints_set] at h1
  refine ⟨?_, g1⟩
  rw [List.length_set]
  exact h1
def NxRel (m : Int) (xs : List Int) (g c0 n : Nat) (w : World) (iv : Value) (wr : World) : Prop := ∃ (a : Nat) (ys : List Int), iv = .int .i64 ((a : Int) - 1) ∧ a ≤ n ∧ ys.length = n ∧ (∀ i, i < n → 0 ≤ ys.getD i 0 ∧ ys.getD i 0 ≤ 15) ∧ nx m a ys = nx m n xs ∧ Hid (OwnI wr w.heap.size (.slice (some ⟨g, 0, none⟩) n c0) ys) ∧ Hid (Below w.heap.size w wr)
theorem getD_set0 {l : List Int} {a i : Nat} {x : Int} (h : 0 ≤ l.getD i 0 ∧ l.getD i 0 ≤ 15) (hx : 0 ≤ x ∧ x ≤ 15) : 0 ≤ (l.set a x).getD i 0 ∧ (l.set a x).getD i 0 ≤ 15 := by
  simp only [List.getD_eq_getElem?_getD, List.getElem?_set] at h ⊢
  split
  · split
    · exact hx
    · simp
  · exact h
set_option maxHeartbeats 2000000 in
set_option maxRecDepth 100000 in
theorem nextS_n1 (A : Option Addr) (c B n : Nat) (xs : List Int) (w : World) (hx : RdI w B A xs) (hB : B ≤ w.heap.size) (hl : xs.length = n) (h1 : 1 ≤ n) (h3 : n ≤ 3) (hr : ∀ i, i < n → 0 ≤ xs.getD i 0 ∧ xs.getD i 0 ≤ 15) :
    Calls Tryz.prog 64 #[.slice A n c, .int .i64 1] w (ListMade (nextL 1 xs) w) := by
  have HO := Lib.hid (own_any A c B xs w hx hB (by omega))
  rw [hl] at HO
  have hnl : nextL 1 xs = nx 1 n xs := by
    unfold nextL
    rw [hl]
    rfl
  rw [hnl]
  clear hx hnl
  go_enter Tryz.func64, Tryz.ntmps64
  go_wp2_with fail
  refine HO.out.mono ?_
  rintro e w1 ⟨A1, c1, rfl, ho, hb1⟩
  rw [hl] at ho
  obtain ⟨A1', c1', e1, hg⟩ := ho.form
  obtain ⟨g, e2, hg1, hg2⟩ := hg (by omega)
  injection e1 with e3 e4 e5
  rw [← e3] at e2
  subst e2
  have H0 : Hid (NxRel 1 xs g c1 n w (.int .i64 ((n : Int) - 1)) w1) := Lib.hid ⟨n, xs, rfl, Nat.le_refl _, hl, hr, rfl, Lib.hid ho, Lib.hid hb1⟩
  have hw1 := hb1.size
  clear ho hb1 HO e3 e4 e5 hr
  go_wp2_with fail
  go_loopw [6] (fun iv wr => NxRel 1 xs g c1 n w iv wr) (fun iv _ => (intOf iv + 1).toNat)
  case atStart => exact H0.out
  case round =>
    obtain ⟨a, ys, rfl, ha, hys, hr, hnx, HO, HB⟩ := hrel
    clear H0
    have hz := HB.out.size
    cases a with
    | zero =>
      have HR : Hid (ListMade (nx 1 n xs) w (.returned (.slice (some ⟨wr.heap.size, 0, none⟩) 0 0)) (wr.alloc (.cells #[] 2))) := Lib.hid (by
        rw [← hnx]
        exact ⟨_, 0, rfl, World.ownsRow_made wr #[] 0 hz (Nat.zero_le _) (by simp), HB.out.alloc hz _⟩)
      clear hnx HO HB
      rw [show (((0 : Nat) : Int) - 1) = -1 from rfl]
      go_wp2
      go_ret
      exact HR.out
    | succ a =>
      have hO2 := HO.out
      rw [← hys] at hO2
      have hO : wr.ownsRow w.heap.size 2 1 (.slice (some ⟨g, 0, none⟩) ys.length c1) ys.length (ints ys) := hO2
      have e1 := World.ownsRow.cellAt hO a (by omega)
      rw [ints_get ys a (by omega)] at e1
      have f1 := hO.frozenAt a
      obtain ⟨q1, q2⟩ := hr a (by omega)
      obtain ⟨S0, g0⟩ := set_own hO2 (i := a) 0
      obtain ⟨S1, g1'⟩ := set_own hO2 (i := a) (ys.getD a 0 + 1)
      rw [hys] at S0 S1
      have HS0 := Lib.hid (And.intro S0 (HB.out.trans (grown_below g0 (fun q e => by injection e with e; omega) hz)))
      have HS1 := Lib.hid (And.intro S1 (HB.out.trans (grown_below g1' (fun q e => by injection e with e; omega) hz)))
      have HNX : Hid ((if ys.getD a 0 = 1 then nx 1 a (ys.set a 0) else ys.set a (ys.getD a 0 + 1)) = nx 1 n xs) := Lib.hid hnx
      have HY0 := Lib.hid (fun i (hi : i < n) => getD_set0 (a := a) (x := 0) (hr i hi) (by omega))
      clear hO hO2 S0 S1 g0 g1' hnx HO HB hr
      rw [show (((a + 1 : Nat) : Int) - 1) = (a : Int) by omega]
      generalize ys.getD a 0 = y at *
      have han : (a : Int) < (n : Int) := by omega
      by_cases hy : y = 1
      · subst hy
        have HN : Hid (NxRel 1 xs g c1 n w (.int .i64 ((a : Int) - 1)) (wr.setCell ⟨g, a, none⟩ (.int .i64 0))) := Lib.hid ⟨a, ys.set a 0, rfl, by omega, by rw [List.length_set]; exact hys, HY0.out, (by have := HNX.out; rwa [if_pos rfl] at this), Lib.hid HS0.out.1, Lib.hid HS0.out.2⟩
        clear HS0 HS1 HNX HY0
        go_wp2
        go_roundw
        case rel => exact HN.out
        case measure => first | (simp [intOf]; done) | (simp [intOf]; omega)
      · have HR : Hid (ListMade (nx 1 n xs) w (.returned (.slice (some ⟨g, 0, none⟩) n c1)) (wr.setCell ⟨g, a, none⟩ (.int .i64 (y + 1)))) := Lib.hid (by
          have := HNX.out
          rw [if_neg hy] at this
          rw [← this]
          have hL : (ys.set a (y + 1)).length = n := by rw [List.length_set]; exact hys
          exact ⟨some ⟨g, 0, none⟩, c1, by rw [hL], by rw [hL]; exact HS1.out.1, HS1.out.2⟩)
        clear HS0 HS1 HNX HY0
        go_wp2
        go_ret
        exact HR.out
set_option maxHeartbeats 2000000 in
set_option maxRecDepth 100000 in
theorem nextS_n2 (A : Option Addr) (c B n : Nat) (xs : List Int) (w : World) (hx : RdI w B A xs) (hB : B ≤ w.heap.size) (hl : xs.length = n) (h1 : 1 ≤ n) (h3 : n ≤ 3) (hr : ∀ i, i < n → 0 ≤ xs.getD i 0 ∧ xs.getD i 0 ≤ 15) :
    Calls Tryz.prog 64 #[.slice A n c, .int .i64 2] w (ListMade (nextL 2 xs) w) := by
  have HO := Lib.hid (own_any A c B xs w hx hB (by omega))
  rw [hl] at HO
  have hnl : nextL 2 xs = nx 3 n xs := by
    unfold nextL
    rw [hl]
    rfl
  rw [hnl]
  clear hx hnl
  go_enter Tryz.func64, Tryz.ntmps64
  go_wp2_with fail
  refine HO.out.mono ?_
  rintro e w1 ⟨A1, c1, rfl, ho, hb1⟩
  rw [hl] at ho
  obtain ⟨A1', c1', e1, hg⟩ := ho.form
  obtain ⟨g, e2, hg1, hg2⟩ := hg (by omega)
  injection e1 with e3 e4 e5
  rw [← e3] at e2
  subst e2
  have H0 : Hid (NxRel 3 xs g c1 n w (.int .i64 ((n : Int) - 1)) w1) := Lib.hid ⟨n, xs, rfl, Nat.le_refl _, hl, hr, rfl, Lib.hid ho, Lib.hid hb1⟩
  have hw1 := hb1.size
  clear ho hb1 HO e3 e4 e5 hr
  go_wp2_with fail
  go_loopw [6] (fun iv wr => NxRel 3 xs g c1 n w iv wr) (fun iv _ => (intOf iv + 1).toNat)
  case atStart => exact H0.out
  case round =>
    obtain ⟨a, ys, rfl, ha, hys, hr, hnx, HO, HB⟩ := hrel
    clear H0
    have hz := HB.out.size
    cases a with
    | zero =>
      have HR : Hid (ListMade (nx 3 n xs) w (.returned (.slice (some ⟨wr.heap.size, 0, none⟩) 0 0)) (wr.alloc (.cells #[] 2))) := Lib.hid (by
        rw [← hnx]
        exact ⟨_, 0, rfl, World.ownsRow_made wr #[] 0 hz (Nat.zero_le _) (by simp), HB.out.alloc hz _⟩)
      clear hnx HO HB
      rw [show (((0 : Nat) : Int) - 1) = -1 from rfl]
      go_wp2
      go_ret
      exact HR.out
    | succ a =>
      have hO2 := HO.out
      rw [← hys] at hO2
      have hO : wr.ownsRow w.heap.size 2 1 (.slice (some ⟨g, 0, none⟩) ys.length c1) ys.length (ints ys) := hO2
      have e1 := World.ownsRow.cellAt hO a (by omega)
      rw [ints_get ys a (by omega)] at e1
      have f1 := hO.frozenAt a
      obtain ⟨q1, q2⟩ := hr a (by omega)
      obtain ⟨S0, g0⟩ := set_own hO2 (i := a) 0
      obtain ⟨S1, g1'⟩ := set_own hO2 (i := a) (ys.getD a 0 + 1)
      rw [hys] at S0 S1
      have HS0 := Lib.hid (And.intro S0 (HB.out.trans (grown_below g0 (fun q e => by injection e with e; omega) hz)))
      have HS1 := Lib.hid (And.intro S1 (HB.out.trans (grown_below g1' (fun q e => by injection e with e; omega) hz)))
      have HNX : Hid ((if ys.getD a 0 = 3 then nx 3 a (ys.set a 0) else ys.set a (ys.getD a 0 + 1)) = nx 3 n xs) := Lib.hid hnx
      have HY0 := Lib.hid (fun i (hi : i < n) => getD_set0 (a := a) (x := 0) (hr i hi) (by omega))
      clear hO hO2 S0 S1 g0 g1' hnx HO HB hr
      rw [show (((a + 1 : Nat) : Int) - 1) = (a : Int) by omega]
      generalize ys.getD a 0 = y at *
      have han : (a : Int) < (n : Int) := by omega
      by_cases hy : y = 3
      · subst hy
        have HN : Hid (NxRel 3 xs g c1 n w (.int .i64 ((a : Int) - 1)) (wr.setCell ⟨g, a, none⟩ (.int .i64 0))) := Lib.hid ⟨a, ys.set a 0, rfl, by omega, by rw [List.length_set]; exact hys, HY0.out, (by have := HNX.out; rwa [if_pos rfl] at this), Lib.hid HS0.out.1, Lib.hid HS0.out.2⟩
        clear HS0 HS1 HNX HY0
        go_wp2
        go_roundw
        case rel => exact HN.out
        case measure => first | (simp [intOf]; done) | (simp [intOf]; omega)
      · have HR : Hid (ListMade (nx 3 n xs) w (.returned (.slice (some ⟨g, 0, none⟩) n c1)) (wr.setCell ⟨g, a, none⟩ (.int .i64 (y + 1)))) := Lib.hid (by
          have := HNX.out
          rw [if_neg hy] at this
          rw [← this]
          have hL : (ys.set a (y + 1)).length = n := by rw [List.length_set]; exact hys
          exact ⟨some ⟨g, 0, none⟩, c1, by rw [hL], by rw [hL]; exact HS1.out.1, HS1.out.2⟩)
        clear HS0 HS1 HNX HY0
        go_wp2
        go_ret
        exact HR.out
set_option maxHeartbeats 2000000 in
set_option maxRecDepth 100000 in
theorem nextS_n3 (A : Option Addr) (c B n : Nat) (xs : List Int) (w : World) (hx : RdI w B A xs) (hB : B ≤ w.heap.size) (hl : xs.length = n) (h1 : 1 ≤ n) (h3 : n ≤ 3) (hr : ∀ i, i < n → 0 ≤ xs.getD i 0 ∧ xs.getD i 0 ≤ 15) :
    Calls Tryz.prog 64 #[.slice A n c, .int .i64 3] w (ListMade (nextL 3 xs) w) := by
  have HO := Lib.hid (own_any A c B xs w hx hB (by omega))
  rw [hl] at HO
  have hnl : nextL 3 xs = nx 7 n xs := by
    unfold nextL
    rw [hl]
    rfl
  rw [hnl]
  clear hx hnl
  go_enter Tryz.func64, Tryz.ntmps64
  go_wp2_with fail
  refine HO.out.mono ?_
  rintro e w1 ⟨A1, c1, rfl, ho, hb1⟩
  rw [hl] at ho
  obtain ⟨A1', c1', e1, hg⟩ := ho.form
  obtain ⟨g, e2, hg1, hg2⟩ := hg (by omega)
  injection e1 with e3 e4 e5
  rw [← e3] at e2
  subst e2
  have H0 : Hid (NxRel 7 xs g c1 n w (.int .i64 ((n : Int) - 1)) w1) := Lib.hid ⟨n, xs, rfl, Nat.le_refl _, hl, hr, rfl, Lib.hid ho, Lib.hid hb1⟩
  have hw1 := hb1.size
  clear ho hb1 HO e3 e4 e5 hr
  go_wp2_with fail
  go_loopw [6] (fun iv wr => NxRel 7 xs g c1 n w iv wr) (fun iv _ => (intOf iv + 1).toNat)
  case atStart => exact H0.out
  case round =>
    obtain ⟨a, ys, rfl, ha, hys, hr, hnx, HO, HB⟩ := hrel
    clear H0
    have hz := HB.out.size
    cases a with
    | zero =>
      have HR : Hid (ListMade (nx 7 n xs) w (.returned (.slice (some ⟨wr.heap.size, 0, none⟩) 0 0)) (wr.alloc (.cells #[] 2))) := Lib.hid (by
        rw [← hnx]
        exact ⟨_, 0, rfl, World.ownsRow_made wr #[] 0 hz (Nat.zero_le _) (by simp), HB.out.alloc hz _⟩)
      clear hnx HO HB
      rw [show (((0 : Nat) : Int) - 1) = -1 from rfl]
      go_wp2
      go_ret
      exact HR.out
    | succ a =>
      have hO2 := HO.out
      rw [← hys] at hO2
      have hO : wr.ownsRow w.heap.size 2 1 (.slice (some ⟨g, 0, none⟩) ys.length c1) ys.length (ints ys) := hO2
      have e1 := World.ownsRow.cellAt hO a (by omega)
      rw [ints_get ys a (by omega)] at e1
      have f1 := hO.frozenAt a
      obtain ⟨q1, q2⟩ := hr a (by omega)
      obtain ⟨S0, g0⟩ := set_own hO2 (i := a) 0
      obtain ⟨S1, g1'⟩ := set_own hO2 (i := a) (ys.getD a 0 + 1)
      rw [hys] at S0 S1
      have HS0 := Lib.hid (And.intro S0 (HB.out.trans (grown_below g0 (fun q e => by injection e with e; omega) hz)))
      have HS1 := Lib.hid (And.intro S1 (HB.out.trans (grown_below g1' (fun q e => by injection e with e; omega) hz)))
      have HNX : Hid ((if ys.getD a 0 = 7 then nx 7 a (ys.set a 0) else ys.set a (ys.getD a 0 + 1)) = nx 7 n xs) := Lib.hid hnx
      have HY0 := Lib.hid (fun i (hi : i < n) => getD_set0 (a := a) (x := 0) (hr i hi) (by omega))
      clear hO hO2 S0 S1 g0 g1' hnx HO HB hr
      rw [show (((a + 1 : Nat) : Int) - 1) = (a : Int) by omega]
      generalize ys.getD a 0 = y at *
      have han : (a : Int) < (n : Int) := by omega
      by_cases hy : y = 7
      · subst hy
        have HN : Hid (NxRel 7 xs g c1 n w (.int .i64 ((a : Int) - 1)) (wr.setCell ⟨g, a, none⟩ (.int .i64 0))) := Lib.hid ⟨a, ys.set a 0, rfl, by omega, by rw [List.length_set]; exact hys, HY0.out, (by have := HNX.out; rwa [if_pos rfl] at this), Lib.hid HS0.out.1, Lib.hid HS0.out.2⟩
        clear HS0 HS1 HNX HY0
        go_wp2
        go_roundw
        case rel => exact HN.out
        case measure => first | (simp [intOf]; done) | (simp [intOf]; omega)
      · have HR : Hid (ListMade (nx 7 n xs) w (.returned (.slice (some ⟨g, 0, none⟩) n c1)) (wr.setCell ⟨g, a, none⟩ (.int .i64 (y + 1)))) := Lib.hid (by
          have := HNX.out
          rw [if_neg hy] at this
          rw [← this]
          have hL : (ys.set a (y + 1)).length = n := by rw [List.length_set]; exact hys
          exact ⟨some ⟨g, 0, none⟩, c1, by rw [hL], by rw [hL]; exact HS1.out.1, HS1.out.2⟩)
        clear HS0 HS1 HNX HY0
        go_wp2
        go_ret
        exact HR.out
set_option maxHeartbeats 2000000 in
set_option maxRecDepth 100000 in
theorem nextS_n4 (A : Option Addr) (c B n : Nat) (xs : List Int) (w : World) (hx : RdI w B A xs) (hB : B ≤ w.heap.size) (hl : xs.length = n) (h1 : 1 ≤ n) (h3 : n ≤ 3) (hr : ∀ i, i < n → 0 ≤ xs.getD i 0 ∧ xs.getD i 0 ≤ 15) :
    Calls Tryz.prog 64 #[.slice A n c, .int .i64 4] w (ListMade (nextL 4 xs) w) := by
  have HO := Lib.hid (own_any A c B xs w hx hB (by omega))
  rw [hl] at HO
  have hnl : nextL 4 xs = nx 15 n xs := by
    unfold nextL
    rw [hl]
    rfl
  rw [hnl]
  clear hx hnl
  go_enter Tryz.func64, Tryz.ntmps64
  go_wp2_with fail
  refine HO.out.mono ?_
  rintro e w1 ⟨A1, c1, rfl, ho, hb1⟩
  rw [hl] at ho
  obtain ⟨A1', c1', e1, hg⟩ := ho.form
  obtain ⟨g, e2, hg1, hg2⟩ := hg (by omega)
  injection e1 with e3 e4 e5
  rw [← e3] at e2
  subst e2
  have H0 : Hid (NxRel 15 xs g c1 n w (.int .i64 ((n : Int) - 1)) w1) := Lib.hid ⟨n, xs, rfl, Nat.le_refl _, hl, hr, rfl, Lib.hid ho, Lib.hid hb1⟩
  have hw1 := hb1.size
  clear ho hb1 HO e3 e4 e5 hr
  go_wp2_with fail
  go_loopw [6] (fun iv wr => NxRel 15 xs g c1 n w iv wr) (fun iv _ => (intOf iv + 1).toNat)
  case atStart => exact H0.out
  case round =>
    obtain ⟨a, ys, rfl, ha, hys, hr, hnx, HO, HB⟩ := hrel
    clear H0
    have hz := HB.out.size
    cases a with
    | zero =>
      have HR : Hid (ListMade (nx 15 n xs) w (.returned (.slice (some ⟨wr.heap.size, 0, none⟩) 0 0)) (wr.alloc (.cells #[] 2))) := Lib.hid (by
        rw [← hnx]
        exact ⟨_, 0, rfl, World.ownsRow_made wr #[] 0 hz (Nat.zero_le _) (by simp), HB.out.alloc hz _⟩)
      clear hnx HO HB
      rw [show (((0 : Nat) : Int) - 1) = -1 from rfl]
      go_wp2
      go_ret
      exact HR.out
    | succ a =>
      have hO2 := HO.out
      rw [← hys] at hO2
      have hO : wr.ownsRow w.heap.size 2 1 (.slice (some ⟨g, 0, none⟩) ys.length c1) ys.length (ints ys) := hO2
      have e1 := World.ownsRow.cellAt hO a (by omega)
      rw [ints_get ys a (by omega)] at e1
      have f1 := hO.frozenAt a
      obtain ⟨q1, q2⟩ := hr a (by omega)
      obtain ⟨S0, g0⟩ := set_own hO2 (i := a) 0
      obtain ⟨S1, g1'⟩ := set_own hO2 (i := a) (ys.getD a 0 + 1)
      rw [hys] at S0 S1
      have HS0 := Lib.hid (And.intro S0 (HB.out.trans (grown_below g0 (fun q e => by injection e with e; omega) hz)))
      have HS1 := Lib.hid (And.intro S1 (HB.out.trans (grown_below g1' (fun q e => by injection e with e; omega) hz)))
      have HNX : Hid ((if ys.getD a 0 = 15 then nx 15 a (ys.set a 0) else ys.set a (ys.getD a 0 + 1)) = nx 15 n xs) := Lib.hid hnx
      have HY0 := Lib.hid (fun i (hi : i < n) => getD_set0 (a := a) (x := 0) (hr i hi) (by omega))
      clear hO hO2 S0 S1 g0 g1' hnx HO HB hr
      rw [show (((a + 1 : Nat) : Int) - 1) = (a : Int) by omega]
      generalize ys.getD a 0 = y at *
      have han : (a : Int) < (n : Int) := by omega
      by_cases hy : y = 15
      · subst hy
        have HN : Hid (NxRel 15 xs g c1 n w (.int .i64 ((a : Int) - 1)) (wr.setCell ⟨g, a, none⟩ (.int .i64 0))) := Lib.hid ⟨a, ys.set a 0, rfl, by omega, by rw [List.length_set]; exact hys, HY0.out, (by have := HNX.out; rwa [if_pos rfl] at this), Lib.hid HS0.out.1, Lib.hid HS0.out.2⟩
        clear HS0 HS1 HNX HY0
        go_wp2
        go_roundw
        case rel => exact HN.out
        case measure => first | (simp [intOf]; done) | (simp [intOf]; omega)
      · have HR : Hid (ListMade (nx 15 n xs) w (.returned (.slice (some ⟨g, 0, none⟩) n c1)) (wr.setCell ⟨g, a, none⟩ (.int .i64 (y + 1)))) := Lib.hid (by
          have := HNX.out
          rw [if_neg hy] at this
          rw [← this]
          have hL : (ys.set a (y + 1)).length = n := by rw [List.length_set]; exact hys
          exact ⟨some ⟨g, 0, none⟩, c1, by rw [hL], by rw [hL]; exact HS1.out.1, HS1.out.2⟩)
        clear HS0 HS1 HNX HY0
        go_wp2
        go_ret
        exact HR.out
end Go.Proofs.YtionognmgcabbaaGreat.NextS
/- The reference's fractions of any size: half of one. -/
namespace Go.Proofs.YtionognmgcabbaaGreat.Wide
open Go.RowKit Go.Proofs.YtionognmgcabbaaGreat Go.Proofs.YtionognmgcabbaaGreat.Base Go.Proofs.YtionognmgcabbaaGreat.Mem Go.Proofs.YtionognmgcabbaaGreat.RatM Go.Proofs.YtionognmgcabbaaGreat.BigM Go.Proofs.YtionognmgcabbaaGreat.Big Go.Proofs.YtionognmgcabbaaGreat.Fine Go.Proofs.YtionognmgcabbaaGreat.Blk
set_option linter.unusedVariables false
theorem vf_half : VF 1 2 := ⟨by decide, by decide, by decide, by decide, by decide⟩
set_option maxHeartbeats 4000000 in
set_option maxRecDepth 100000 in
theorem half_any {q : Rat} {m : Nat} {v : Value} (w : World) (hv : IsW w q m v) (hm : m ≤ 400000) (h2 : 2 ≤ m) : Calls Tryz.prog 161 #[v] w (WRet (q * qf 1 2) (m + 2) w) := by
  have HV0 := Lib.hid hv
  have HM1 := Lib.hid (fun W => wideOf_any vf_half W)
  obtain ⟨s, A1, k1, c1, A2, k2, c2, fa, fn, fd, n, d, rfl, hp⟩ := hv
  obtain ⟨W2, hW2⟩ : ∃ W2, W2 = (w.alloc (.cells #[.bool s, .slice A1 k1 c1, .slice A2 k2 c2, .bool fa, .int .i64 fn, .int .i64 fd] 81)).alloc (.cells #[.bool false, .slice none 0 0, .slice none 0 0, .bool false, .int .i64 0, .int .i64 0] 81) := ⟨_, rfl⟩
  have K0 : Hid (Blk W2 w.heap.size 81 #[.bool s, .slice A1 k1 c1, .slice A2 k2 c2, .bool fa, .int .i64 fn, .int .i64 fd]) := Lib.hid (by rw [hW2]; exact (Blk.new w _ _).alloc _)
  have KR : Hid (Blk W2 (w.heap.size + 1) 81 #[.bool false, .slice none 0 0, .slice none 0 0, .bool false, .int .i64 0, .int .i64 0]) := Lib.hid (by rw [hW2]; exact Blk.newAt _ _ (by simp))
  have HB : Hid (Below w.heap.size w W2) := Lib.hid (by rw [hW2]; exact ((Below.refl _ _).alloc (Nat.le_refl _) _).alloc (by simp) _)
  have HV := Lib.hid (fun W (h : Below W2.heap.size W2 W) => HV0.out.below (Base.Below.nextA HB.out h))
  have HW := Lib.hid hW2
  clear hW2 hp HV0
  go_enter Tryz.func161, Tryz.ntmps161
  go_upto_region 1 with (fail)
  rw [← HW.out]
  clear HW
  refine Rel.wp_region_rel 4 (by kernel_rfl) (by kernel_rfl) (fun F hF => ?_)
  simp only [List.take_succ_cons, List.take_zero, List.drop_succ_cons, List.drop_zero, Rel.putL] at hF ⊢
  have HF := Lib.hid hF
  clear hF
  have uv := @Rel.upon_value Tryz.prog
  have ue := @Rel.upon_enter Tryz.prog
  apply Rel.rel_pure
  apply Exists.intro
  refine ⟨fun vs wq hq hdp R hR => ?_, ?_⟩
  · (rw [HF.out, Rel.stepAt_eq]; clear hdp; have x0 := (K0.out.belowS hq).at 0 (v := .bool s) rfl; have x1 := (K0.out.belowS hq).at 1 (v := .slice A1 k1 c1) rfl; have x2 := (K0.out.belowS hq).at 2 (v := .slice A2 k2 c2) rfl; have x3 := (K0.out.belowS hq).at 3 (v := .bool fa) rfl; have x4 := (K0.out.belowS hq).at 4 (v := .int .i64 fn) rfl; have x5 := (K0.out.belowS hq).at 5 (v := .int .i64 fd) rfl; go_simp; exact hR)
  apply Rel.rel_pure
  apply Exists.intro
  refine ⟨fun vs wq hq hdp R hR => ?_, ?_⟩
  · (rw [HF.out, Rel.stepAt_eq]; clear hdp; skip; go_simp; exact hR)
  refine Rel.rel_law (S := fun v w' => IsW w' (qf 1 2) 2 v) (isW_mono _ _) (fun vs wq hq hdp => ?_) ?_
  · (rw [HF.out, Rel.stepAt_eq]; have qd1 : vs 1 = _ := Rel.dep hdp 1 (by kernel_rfl); clear hdp; skip; go_simp; refine (HM1.out _).mono ?_; rintro e w7 ⟨v, rfl, hv, hb⟩; exact ⟨_, rfl, hv, hb⟩)
  refine Rel.rel_law (S := fun v w' => IsW w' (q * qf 1 2) (m + 2) v) (isW_mono _ _) (fun vs wq hq hdp => ?_) ?_
  · (rw [HF.out, Rel.stepAt_eq]; have qd0 : vs 0 = _ := Rel.dep hdp 0 (by kernel_rfl); have qd2 : IsW wq _ _ (vs 2) := Rel.dep hdp 2 (by kernel_rfl); clear hdp; skip; go_simp; refine (wideMul_any wq (HV.out wq hq) qd2 hm (by decide) h2 (by decide)).mono ?_; rintro e w7 ⟨v, rfl, hv, hb⟩; exact ⟨_, rfl, hv, hb⟩)
  refine Rel.rel_end (fun vs wq hq hall => ?_)
  rw [HF.out]
  have qe0 : vs 0 = _ := Rel.fin hall 0 (by decide)
  have qe1 : vs 1 = _ := Rel.fin hall 1 (by decide)
  have qe2 : IsW wq _ _ (vs 2) := Rel.fin hall 2 (by decide)
  have qe3 : IsW wq _ _ (vs 3) := Rel.fin hall 3 (by decide)
  clear hall HF uv ue
  obtain ⟨s, A1, k1, c1', A2, k2, c2', fine, fn, fd, nn, dd, ev, hpz⟩ := qe3
  have KRq := KR.out.belowS hq
  have HBq := Base.Below.nextA HB.out hq
  have HP2 := Lib.hid hpz
  clear hq hpz K0 HV HM1 qe0 qe1 qe2
  have z0 := (KRq).frz 0
  have z1 := (KRq).frz 1
  have z2 := (KRq).frz 2
  have z3 := (KRq).frz 3
  have z4 := (KRq).frz 4
  have z5 := (KRq).frz 5
  have c0 := (KRq).at 0 (v := .bool false) rfl
  have c1 := (KRq).at 1 (v := .slice none 0 0) rfl
  have c2 := (KRq).at 2 (v := .slice none 0 0) rfl
  have c3 := (KRq).at 3 (v := .bool false) rfl
  have c4 := (KRq).at 4 (v := .int .i64 0) rfl
  have c5 := (KRq).at 5 (v := .int .i64 0) rfl
  have SS := put6_blk (KRq) (.bool s) (.slice A1 k1 c1') (.slice A2 k2 c2') (.bool fine) (.int .i64 fn) (.int .i64 fd)
  unfold put6 at SS
  have s0 := SS.at 0 rfl
  have s1 := SS.at 1 rfl
  have s2 := SS.at 2 rfl
  have s3 := SS.at 3 rfl
  have s4 := SS.at 4 rfl
  have s5 := SS.at 5 rfl
  have HFIN := Lib.hid (WRet.put (HP2.out) (KRq) (HBq) (by omega))
  clear SS
  go_wp2
  refine bodyPost_ret (v := .agg #[.bool s, .slice A1 k1 c1', .slice A2 k2 c2', .bool fine, .int .i64 fn, .int .i64 fd]) (by simp [results, Tryz.results161, go_sem, s0, s1, s2, s3, s4, s5]) rfl ?_
  exact HFIN.out
end Go.Proofs.YtionognmgcabbaaGreat.Wide
