/- The reference's fractions of any size: compared. -/
import Derived.Test.YtionognmgcabbaaMgRun20
import Derived.Test.YtionognmgcabbaaMgRun19
import Derived.Deep.Cut
import Derived.Test.YtionognmgcabbaaMgRun08
import Derived.Test.YtionognmgcabbaaMgRun09
import Derived.Test.YtionognmgcabbaaMgRun07
import Derived.Test.YtionognmgcabbaaMgRun16
import Derived.Test.YtionognmgcabbaaMgRun17
import Derived.Test.YtionognmgcabbaaMgRun12
namespace Go.Proofs.Ytionognmgcabbaa.Wide
open Go.RowKit Go.Proofs.Ytionognmgcabbaa Go.Proofs.Ytionognmgcabbaa.Base Go.Proofs.Ytionognmgcabbaa.Mem Go.Proofs.Ytionognmgcabbaa.RatM Go.Proofs.Ytionognmgcabbaa.BigM Go.Proofs.Ytionognmgcabbaa.Big Go.Proofs.Ytionognmgcabbaa.Fine Go.Proofs.Ytionognmgcabbaa.Blk
set_option linter.unusedVariables false
def cmpW (q r : Rat) : Int := if q = r then 0 else if q < r then -1 else 1
theorem vf_minus : VF (-1) 1 := ⟨by decide, by decide, by decide, by decide, by decide⟩
theorem vf_one : VF 1 1 := ⟨by decide, by decide, by decide, by decide, by decide⟩
theorem qf_minus : qf (-1) 1 = -1 := by decide +kernel
theorem qf_one : qf 1 1 = 1 := by decide +kernel
theorem cmpW_sub (q r : Rat) : cmpW q r = if q + -1 * r = 0 then 0 else if q + -1 * r < 0 then -1 else 1 := by
  unfold cmpW
  have h1 : q = r ↔ q + -1 * r = 0 := by grind
  have h2 : q < r ↔ q + -1 * r < 0 := by grind
  simp only [h1, h2]
theorem Parts.zero {w : World} {q : Rat} {m : Nat} {s fine : Bool} {vn vd : Value} {fn fd : Int} {n d : Nat} (h : Parts w q m s vn vd fine fn fd n d) : (n = 0 ↔ q = 0) ∧ (n ≠ 0 → (q < 0 ↔ s = true)) := by
  have hd := Nat.ne_of_gt h.pos
  rw [← h.val]
  refine ⟨(qv_eq_zero hd).symm, fun hn => ?_⟩
  have := qv_neg (s := s) hn hd
  constructor
  · intro hx; rw [← this]; simpa using hx
  · intro hx; rw [hx] at this ⊢; simpa using this
set_option maxHeartbeats 4000000 in
set_option maxRecDepth 100000 in
theorem cmp_any {q r : Rat} {m m' : Nat} {v u : Value} (w : World) (hv : IsW w q m v) (hu : IsW w r m' u) (h2 : 2 ≤ m) (h2' : 2 ≤ m') (hm : m + m' ≤ 300000) : Calls Try.prog 49 #[v, u] w fun e w' => e = .returned (.int .i64 (cmpW q r)) ∧ Below w.heap.size w w' := by
  have HC := Lib.hid (cmpW_sub q r)
  generalize cmpW q r = cw at *
  have HV0 := Lib.hid hv
  have HU0 := Lib.hid hu
  have HM1 := Lib.hid (fun W => wideOf_any vf_minus W)
  rw [qf_minus] at HM1
  obtain ⟨s, A1, k1, c1, A2, k2, c2, fa, fn, fd, n, d, rfl, hp⟩ := hv
  obtain ⟨s', A3, k3, c3, A4, k4, c4, fb, gn, gd, n', d', rfl, hp'⟩ := hu
  obtain ⟨W3, hW3⟩ : ∃ W3, W3 = (w.alloc (.cells #[.bool s, .slice A1 k1 c1, .slice A2 k2 c2, .bool fa, .int .i64 fn, .int .i64 fd] 65)).alloc (.cells #[.bool s', .slice A3 k3 c3, .slice A4 k4 c4, .bool fb, .int .i64 gn, .int .i64 gd] 65) := ⟨_, rfl⟩
  have K0 : Hid (Blk W3 w.heap.size 65 #[.bool s, .slice A1 k1 c1, .slice A2 k2 c2, .bool fa, .int .i64 fn, .int .i64 fd]) := Lib.hid (by rw [hW3]; exact (Blk.new w _ _).alloc _)
  have K1 : Hid (Blk W3 (w.heap.size + 1) 65 #[.bool s', .slice A3 k3 c3, .slice A4 k4 c4, .bool fb, .int .i64 gn, .int .i64 gd]) := Lib.hid (by rw [hW3]; exact Blk.newAt _ _ (by simp))
  have HB : Hid (Below w.heap.size w W3) := Lib.hid (by rw [hW3]; exact ((Below.refl _ _).alloc (Nat.le_refl _) _).alloc (by simp) _)
  have HV := Lib.hid (fun W (h : Below W3.heap.size W3 W) => HV0.out.below (Base.Below.nextA HB.out h))
  have HU := Lib.hid (fun W (h : Below W3.heap.size W3 W) => HU0.out.below (Base.Below.nextA HB.out h))
  have HW := Lib.hid hW3
  clear hW3 hp hp' HV0 HU0
  go_enter Try.func49, Try.ntmps49
  go_upto_region 1 with (fail)
  rw [← HW.out]
  clear HW
  refine Rel.wp_region_rel 7 (by kernel_rfl) (by kernel_rfl) (fun F hF => ?_)
  simp only [List.take_succ_cons, List.take_zero, List.drop_succ_cons, List.drop_zero, Rel.putL] at hF ⊢
  have HF := Lib.hid hF
  clear hF
  have uv := @Rel.upon_value Try.prog
  have ue := @Rel.upon_enter Try.prog
  apply Rel.rel_pure
  apply Exists.intro
  refine ⟨fun vs wq hq hdp R hR => ?_, ?_⟩
  · (rw [HF.out, Rel.stepAt_eq]; clear hdp; have x0 := (K0.out.belowS hq).at 0 (v := .bool s) rfl; have x1 := (K0.out.belowS hq).at 1 (v := .slice A1 k1 c1) rfl; have x2 := (K0.out.belowS hq).at 2 (v := .slice A2 k2 c2) rfl; have x3 := (K0.out.belowS hq).at 3 (v := .bool fa) rfl; have x4 := (K0.out.belowS hq).at 4 (v := .int .i64 fn) rfl; have x5 := (K0.out.belowS hq).at 5 (v := .int .i64 fd) rfl; go_simp; exact hR)
  apply Rel.rel_pure
  apply Exists.intro
  refine ⟨fun vs wq hq hdp R hR => ?_, ?_⟩
  · (rw [HF.out, Rel.stepAt_eq]; clear hdp; skip; go_simp; exact hR)
  refine Rel.rel_law (S := fun v w' => IsW w' (-1) 2 v) (isW_mono _ _) (fun vs wq hq hdp => ?_) ?_
  · (rw [HF.out, Rel.stepAt_eq]; have qd1 : vs 1 = _ := Rel.dep hdp 1 (by kernel_rfl); clear hdp; skip; go_simp; refine (HM1.out _).mono ?_; rintro e w7 ⟨v, rfl, hv, hb⟩; exact ⟨_, rfl, hv, hb⟩)
  apply Rel.rel_pure
  apply Exists.intro
  refine ⟨fun vs wq hq hdp R hR => ?_, ?_⟩
  · (rw [HF.out, Rel.stepAt_eq]; clear hdp; have x0 := (K1.out.belowS hq).at 0 (v := .bool s') rfl; have x1 := (K1.out.belowS hq).at 1 (v := .slice A3 k3 c3) rfl; have x2 := (K1.out.belowS hq).at 2 (v := .slice A4 k4 c4) rfl; have x3 := (K1.out.belowS hq).at 3 (v := .bool fb) rfl; have x4 := (K1.out.belowS hq).at 4 (v := .int .i64 gn) rfl; have x5 := (K1.out.belowS hq).at 5 (v := .int .i64 gd) rfl; go_simp; exact hR)
  refine Rel.rel_law (S := fun v w' => IsW w' (-1 * r) (2 + m') v) (isW_mono _ _) (fun vs wq hq hdp => ?_) ?_
  · (rw [HF.out, Rel.stepAt_eq]; have qd2 : IsW wq _ _ (vs 2) := Rel.dep hdp 2 (by kernel_rfl); have qd3 : vs 3 = _ := Rel.dep hdp 3 (by kernel_rfl); clear hdp; skip; go_simp; refine (wideMul_any wq qd2 (HU.out wq hq) (by decide) (by omega) (by decide) h2').mono ?_; rintro e w7 ⟨v, rfl, hv, hb⟩; exact ⟨_, rfl, hv, hb⟩)
  refine Rel.rel_law (S := fun v w' => IsW w' (q + -1 * r) (m + (2 + m') + 1) v) (isW_mono _ _) (fun vs wq hq hdp => ?_) ?_
  · (rw [HF.out, Rel.stepAt_eq]; have qd0 : vs 0 = _ := Rel.dep hdp 0 (by kernel_rfl); have qd4 : IsW wq _ _ (vs 4) := Rel.dep hdp 4 (by kernel_rfl); clear hdp; skip; go_simp; refine (wideAdd_any wq (HV.out wq hq) qd4 (by omega) (by omega) h2 (by omega)).mono ?_; rintro e w7 ⟨v, rfl, hv, hb⟩; exact ⟨_, rfl, hv, hb⟩)
  refine Rel.rel_alloc (cs := #[.bool false, .slice none 0 0, .slice none 0 0, .bool false, .int .i64 0, .int .i64 0]) (t := 65) (fun vs wq hq hdp R hR => ?_) ?_
  · (rw [HF.out, Rel.stepAt_eq]; clear hdp; go_simp; exact hR)
  refine Rel.rel_end (fun vs wq hq hall => ?_)
  rw [HF.out]
  have qe0 : vs 0 = _ := Rel.fin hall 0 (by decide)
  have qe1 : vs 1 = _ := Rel.fin hall 1 (by decide)
  have qe2 : IsW wq _ _ (vs 2) := Rel.fin hall 2 (by decide)
  have qe3 : vs 3 = _ := Rel.fin hall 3 (by decide)
  have qe4 : IsW wq _ _ (vs 4) := Rel.fin hall 4 (by decide)
  have qe5 : IsW wq _ _ (vs 5) := Rel.fin hall 5 (by decide)
  have qe6 : Rel.NewB _ _ _ (vs 6) wq := Rel.fin hall 6 (by decide)
  clear hall HF uv ue
  obtain ⟨g5, eg5, hg5, hblk⟩ := qe6
  obtain ⟨t, B1, j1, e1, B2, j2, e2, fi, tn, td, nn, dd, ev5, hpz⟩ := qe5
  have K5 : Blk wq g5 65 #[.bool false, .slice none 0 0, .slice none 0 0, .bool false, .int .i64 0, .int .i64 0] := hblk
  obtain ⟨W6, hW6⟩ : ∃ W6, W6 = put6 wq g5 (.bool t) (.slice B1 j1 e1) (.slice B2 j2 e2) (.bool fi) (.int .i64 tn) (.int .i64 td) := ⟨_, rfl⟩
  have K6 : Hid (Blk W6 g5 65 #[.bool t, .slice B1 j1 e1, .slice B2 j2 e2, .bool fi, .int .i64 tn, .int .i64 td]) := Lib.hid (by rw [hW6]; exact put6_blk K5 _ _ _ _ _ _)
  have HBF : Hid (Below w.heap.size w W6) := Lib.hid (by rw [hW6]; exact put6_below (Base.Below.nextA HB.out hq) (show w.heap.size ≤ g5 by have := HB.out.size; omega) _ _ _ _ _ _)
  unfold put6 at hW6
  have z0 := K5.frz 0
  have z1 := K5.frz 1
  have z2 := K5.frz 2
  have z3 := K5.frz 3
  have z4 := K5.frz 4
  have z5 := K5.frz 5
  have c0 := K5.at 0 (v := .bool false) rfl
  have c1 := K5.at 1 (v := .slice none 0 0) rfl
  have c2 := K5.at 2 (v := .slice none 0 0) rfl
  have c3 := K5.at 3 (v := .bool false) rfl
  have c4 := K5.at 4 (v := .int .i64 0) rfl
  have c5 := K5.at 5 (v := .int .i64 0) rfl
  obtain ⟨hz, hneg⟩ := hpz.zero
  obtain ⟨_, _, ef, -⟩ := Dig.form hpz.num
  replace ef := (Value.slice.inj ef).2.1
  have hlen : j1 = 0 ↔ q + -1 * r = 0 := by
    rw [← hz, ef]
    constructor
    · intro h0
      rcases Nat.eq_zero_or_pos nn with g | g
      · exact g
      · have := len_pos g; omega
    · intro h0; rw [h0, bigL_zero]; rfl
  have H0 := Lib.hid (fun h : j1 = 0 => (show cw = 0 by rw [HC.out, if_pos (hlen.1 h)]))
  have H1 := Lib.hid (fun (h : ¬ j1 = 0) (ht : t = true) => (show cw = -1 by rw [HC.out, if_neg (fun g => h (hlen.2 g)), if_pos ((hneg (fun g => h (hlen.2 (hz.1 g)))).2 ht)]))
  have H2 := Lib.hid (fun (h : ¬ j1 = 0) (ht : t = false) => (show cw = 1 by rw [HC.out, if_neg (fun g => h (hlen.2 g)), if_neg (fun g => by have := (hneg (fun g => h (hlen.2 (hz.1 g)))).1 g; rw [ht] at this; cases this)]))
  clear hblk K5 hpz ef hq K0 K1 HV HU hlen hneg hz HC HB qe0 qe1 qe2 qe3 qe4 HM1
  go_upto_region 2 with (fail)
  rw [← hW6]
  clear hW6 z0 z1 z2 z3 z4 z5 c0 c1 c2 c3 c4 c5
  have s0 := K6.out.at 0 (v := .bool t) rfl
  have s1 := K6.out.at 1 (v := .slice B1 j1 e1) rfl
  by_cases h0 : j1 = 0
  · have HE := Lib.hid (H0.out h0)
    subst h0
    clear H0 H1 H2
    go_wp2
    go_ret
    exact ⟨by rw [HE.out]; rfl, HBF.out⟩
  · cases t with
    | true =>
      have HE := Lib.hid (H1.out h0 rfl)
      clear H0 H1 H2
      go_wp2
      go_ret
      exact ⟨by rw [HE.out]; rfl, HBF.out⟩
    | false =>
      have HE := Lib.hid (H2.out h0 rfl)
      clear H0 H1 H2
      go_wp2
      go_ret
      exact ⟨by rw [HE.out]; rfl, HBF.out⟩
end Go.Proofs.Ytionognmgcabbaa.Wide
/- The reference: whether a list are chances; the bits of a source. -/
namespace Go.Proofs.Ytionognmgcabbaa.Wide
open Go.RowKit Go.Proofs.Ytionognmgcabbaa Go.Proofs.Ytionognmgcabbaa.Base Go.Proofs.Ytionognmgcabbaa.Mem Go.Proofs.Ytionognmgcabbaa.RatM Go.Proofs.Ytionognmgcabbaa.BigM Go.Proofs.Ytionognmgcabbaa.Big Go.Proofs.Ytionognmgcabbaa.Fine Go.Proofs.Ytionognmgcabbaa.Blk Go.Proofs.Ytionognmgcabbaa.GaussM Go.Proofs.Ytionognmgcabbaa.MemF Go.Proofs.Ytionognmgcabbaa.ValF Go.Proofs.Ytionognmgcabbaa.ChM
set_option linter.unusedVariables false
set_option maxHeartbeats 1000000 in
theorem fAll_any {A : Option Addr} {c B n : Nat} {fs : List Int} (w : World) (hx : RdF w B A n fs) (hB : B ≤ w.heap.size) (hn : n ≤ 1099511627776) : Calls Try.prog 59 #[.slice A n c] w fun e w' => e = .returned (.bool (vfAll fs n)) ∧ Below w.heap.size w w' := by
  have HX := Lib.hid (hx.more hB)
  clear hx
  go_enter Try.func59, Try.ntmps59
  go_wp2
  go_loopw [3] (fun iv wr => ∃ i : Nat, iv = .int .i64 (i : Int) ∧ i ≤ n ∧ Hid (∀ j, j < i → vfB (fs.getD (2 * j) 0) (fs.getD (2 * j + 1) 0) = true) ∧ Hid (Below w.heap.size w wr)) (fun iv _ => n - (intOf iv).toNat)
  case atStart => exact ⟨0, rfl, Nat.zero_le _, Lib.hid fun j hj => absurd hj (Nat.not_lt_zero j), Lib.hid (Below.refl _ _)⟩
  case round =>
    obtain ⟨i, rfl, hi, hall, HB⟩ := hrel
    by_cases hlt : i < n
    · obtain ⟨b, off, rfl, hbl, g1, g2⟩ := (HX.out.below HB.out (Nat.le_refl _)).at hlt
      have HV := Lib.hid (fun W => validS_any (fs.getD (2 * i) 0) (fs.getD (2 * i + 1) 0) W)
      have HNO := Lib.hid (fun h => (show vfAll fs n = false from all_no hlt h))
      have HYES := Lib.hid (fun (h : vfB (fs.getD (2 * i) 0) (fs.getD (2 * i + 1) 0) = true) j (hj : j < i + 1) => (show vfB (fs.getD (2 * j) 0) (fs.getD (2 * j + 1) 0) = true by
        rcases Nat.lt_or_ge j i with h1 | h1
        · exact hall.out j h1
        · obtain rfl : j = i := by omega
          exact h))
      have hsz := HB.out.size
      generalize fs.getD (2 * i) 0 = x0 at *
      generalize fs.getD (2 * i + 1) 0 = x1 at *
      go_wp2_with fail
      refine (HV.out _).mono ?_
      rintro e w1 ⟨rfl, hb1⟩
      have HB1 := Lib.hid (Base.Below.nextA HB.out hb1)
      cases hv : vfB x0 x1 with
      | false =>
        have HE := Lib.hid (HNO.out hv)
        clear HNO HYES HV hb1 hv HB g1 g2 hall
        go_wp2
        go_ret
        exact ⟨by rw [HE.out]; rfl, HB1.out⟩
      | true =>
        have HA := Lib.hid (HYES.out hv)
        clear HNO HYES HV hb1 hv HB g1 g2 hall
        go_wp2
        go_roundw
        case rel => exact ⟨i + 1, by simp, hlt, HA, HB1⟩
        case measure => simp [intOf]; omega
    · obtain rfl : i = n := by omega
      have HE : Hid (vfAll fs i = true) := Lib.hid (all_range.2 hall.out)
      clear hall
      go_wp2
      go_ret
      exact ⟨by rw [HE.out]; rfl, HB.out⟩
theorem cmpW_zero (q r : Rat) : (cmpW q r == 0) = decide (q = r) := by
  unfold cmpW
  by_cases h : q = r
  · simp [h]
  · by_cases h2 : q < r
    · simp [h, h2]
    · simp [h, h2]
set_option maxHeartbeats 2000000 in
set_option maxRecDepth 100000 in
theorem isS_any {A : Option Addr} {c B n : Nat} {fs : List Int} (w : World) (hx : RdF w B A n fs) (hB : B ≤ w.heap.size) (hn : n ≤ 1099511627776) : Calls Try.prog 26 #[.slice A n c] w fun e w' => e = .returned (.bool (chB fs n)) ∧ Below w.heap.size w w' := by
  have HX := Lib.hid (hx.more hB)
  have HFA := Lib.hid (fAll_any (c := c) w hx hB hn)
  clear hx
  by_cases h1 : n < 1
  · have HE := Lib.hid (chB_short (fs := fs) h1)
    have h1' : (n : Int) < 1 := by omega
    go_enter Try.func26, Try.ntmps26
    go_wp2
    go_ret
    exact ⟨by rw [HE.out]; rfl, Below.refl _ _⟩
  by_cases h2 : 16 < n
  · have HE := Lib.hid (chB_long (fs := fs) h2)
    have h1' : ¬ (n : Int) < 1 := by omega
    have h2' : (16 : Int) < n := by omega
    go_enter Try.func26, Try.ntmps26
    go_wp2
    go_ret
    exact ⟨by rw [HE.out]; rfl, Below.refl _ _⟩
  have h1' : ¬ (n : Int) < 1 := by omega
  have h2' : ¬ (16 : Int) < n := by omega
  go_enter Try.func26, Try.ntmps26
  go_wp2_with fail
  refine HFA.out.mono ?_
  rintro e w1 ⟨rfl, hb1⟩
  have HB1 := Lib.hid hb1
  clear hb1
  cases hv : vfAll fs n with
  | false =>
    have HE := Lib.hid (chB_vf hv)
    go_wp2
    go_ret
    exact ⟨by rw [HE.out]; rfl, HB1.out⟩
  | true =>
    have HV := Lib.hid hv
    clear hv
    go_wp2
    go_loopw [3] (fun iv wr => ∃ i : Nat, iv = .int .i64 (i : Int) ∧ i ≤ n ∧ Hid (∀ j, j < i → decide (0 ≤ fs.getD (2 * j) 0) = true) ∧ wr = w1) (fun iv _ => n - (intOf iv).toNat)
    case atStart => exact ⟨0, rfl, Nat.zero_le _, Lib.hid fun j hj => absurd hj (Nat.not_lt_zero j), rfl⟩
    case round =>
      obtain ⟨i, rfl, hi, hall, rfl⟩ := hrel
      by_cases hlt : i < n
      · obtain ⟨b, off, rfl, hbl, g1, g2⟩ := (HX.out.below HB1.out (Nat.le_refl _)).at hlt
        have HNO := Lib.hid (fun h => (show posAll fs n = false from all_no hlt h))
        have HYES := Lib.hid (fun (h : decide (0 ≤ fs.getD (2 * i) 0) = true) j (hj : j < i + 1) => (show decide (0 ≤ fs.getD (2 * j) 0) = true by
          rcases Nat.lt_or_ge j i with h1 | h1
          · exact hall.out j h1
          · obtain rfl : j = i := by omega
            exact h))
        generalize fs.getD (2 * i) 0 = x0 at *
        generalize fs.getD (2 * i + 1) 0 = x1 at *
        by_cases hx0 : x0 < 0
        · have HE := Lib.hid (chB_neg (HNO.out (by simp; omega)))
          clear HNO HYES
          go_wp2
          go_ret
          exact ⟨by rw [HE.out]; rfl, HB1.out⟩
        · have HA := Lib.hid (HYES.out (by simp; omega))
          clear HNO HYES hall
          go_wp2
          go_roundw
          case rel => exact ⟨i + 1, by simp, hlt, HA, by first | trivial | rfl⟩
          case measure => simp [intOf]; omega
      · obtain rfl : i = n := by omega
        have HE := Lib.hid (chB_sum (fs := fs) (n := i) (by omega) (by omega) HV.out (all_range.2 hall.out))
        have HW1 := Lib.hid (wides_any (c := c) wr (HX.out.below HB1.out (Nat.le_refl _)) HB1.out.size (vfAll_true.1 HV.out) (by omega))
        have HO := Lib.hid (fun W => wideOf_any vf_one W)
        rw [qf_one] at HO
        clear hall
        go_wp2_with fail
        refine HW1.out.mono ?_
        rintro e w2 ⟨v2, cs2, rfl, hv2, hb2⟩
        have HB2 := Lib.hid (Base.Below.nextA HB1.out hb2)
        have HV2 := Lib.hid (hv2.base (Nat.zero_le _))
        clear hv2 hb2
        go_wp2_with fail
        refine (sum_any w2 HV2.out (by omega) (by omega) (by omega)).mono ?_
        rintro e w3 ⟨v3, rfl, hv3, hb3⟩
        have HB3 := Lib.hid (Base.Below.nextA HB2.out hb3)
        have HV3 := Lib.hid hv3
        clear hv3 hb3
        go_wp2_with fail
        refine (HO.out w3).mono ?_
        rintro e w4 ⟨v4, rfl, hv4, hb4⟩
        have HB4 := Lib.hid (Base.Below.nextA HB3.out hb4)
        have HV4 := Lib.hid hv4
        replace HV3 := Lib.hid (HV3.out.below hb4)
        clear hv4 hb4
        go_wp2_with fail
        refine (cmp_any w4 HV3.out HV4.out (by omega) (by omega) (by omega)).mono ?_
        rintro e w5 ⟨rfl, hb5⟩
        have HB5 := Lib.hid (Base.Below.nextA HB4.out hb5)
        have HE2 := Lib.hid (HE.out.trans (cmpW_zero _ _).symm)
        clear hb5 HE
        generalize cmpW (sumR i (fq fs)) 1 = cw at *
        go_wp2
        go_ret
        exact ⟨ret_bool HE2.out.symm, HB5.out⟩
set_option maxHeartbeats 2000000 in
set_option maxRecDepth 100000 in
theorem bitsS_any {A : Option Addr} {c B n : Nat} {fs : List Int} (w : World) (hx : RdF w B A n fs) (hB : B ≤ w.heap.size) (hn : n ≤ 1099511627776) : Calls Try.prog 54 #[.slice A n c] w fun e w' => e = .returned (.int .i64 ((bitsQ fs n : Nat) : Int)) ∧ Below w.heap.size w w' := by
  have HX := Lib.hid (hx.more hB)
  have HI := Lib.hid (fun W (h : Below w.heap.size w W) => isS_any (c := c) W (hx.below h hB) (Nat.le_trans hB h.size) hn)
  clear hx
  go_enter Try.func54, Try.ntmps54
  go_wp2
  go_loopw [3] (fun iv wr => ∃ i : Nat, iv = .int .i64 (i : Int) ∧ 1 ≤ i ∧ i ≤ 5 ∧ Hid (∀ j, 1 ≤ j → j < i → n = 2 ^ j → chB fs n = false) ∧ Hid (Below w.heap.size w wr)) (fun iv _ => 5 - (intOf iv).toNat)
  case atStart => exact ⟨1, rfl, by omega, by omega, Lib.hid fun j hj hj2 => by omega, Lib.hid (Below.refl _ _)⟩
  case round =>
    obtain ⟨i, rfl, hi1, hi, hall, HB⟩ := hrel
    have hcase : i = 1 ∨ i = 2 ∨ i = 3 ∨ i = 4 ∨ i = 5 := by omega
    rcases hcase with rfl | rfl | rfl | rfl | rfl
    · have hN : Hid (∀ b : Prop, (n = 2 → chB fs n = false) → ∀ j, 1 ≤ j → j < 1 + 1 → n = 2 ^ j → chB fs n = false) := Lib.hid fun _ hb j h1 h2 h3 => by
        rcases Nat.lt_or_ge j 1 with g | g
        · exact hall.out j h1 g h3
        · obtain rfl : j = 1 := by omega
          exact hb h3
      clear hall
      by_cases hp : n = 2
      · have hp' : ((n : Int) == 2) = true := by rw [hp]; rfl
        have HP := Lib.hid hp
        clear hp
        go_wp2_with fail
        refine (HI.out _ HB.out).mono ?_
        rintro e w1 ⟨rfl, hb1⟩
        have HB1 := Lib.hid (Base.Below.nextA HB.out hb1)
        clear hb1
        cases hc : chB fs n with
        | true =>
          have HE : Hid (bitsQ fs n = 1) := Lib.hid (by unfold bitsQ; rw [if_pos hc, HP.out]; rfl)
          clear hN
          go_wp2
          go_ret
          exact ⟨by rw [HE.out]; rfl, HB1.out⟩
        | false =>
          have HA := Lib.hid (hN.out True (fun _ => hc))
          clear hN hc
          go_wp2
          go_roundw
          case rel => exact ⟨1 + 1, by first | rfl | simp, by omega, by omega, HA, HB1⟩
          case measure => simp [intOf]
      · have hp' : ((n : Int) == 2) = false := by simp only [beq_eq_false_iff_ne]; omega
        have HA := Lib.hid (hN.out True (fun h => absurd h hp))
        clear hN hp
        go_wp2
        go_roundw
        case rel => exact ⟨1 + 1, by first | rfl | simp, by omega, by omega, HA, HB⟩
        case measure => simp [intOf]
    · have hN : Hid (∀ b : Prop, (n = 4 → chB fs n = false) → ∀ j, 1 ≤ j → j < 2 + 1 → n = 2 ^ j → chB fs n = false) := Lib.hid fun _ hb j h1 h2 h3 => by
        rcases Nat.lt_or_ge j 2 with g | g
        · exact hall.out j h1 g h3
        · obtain rfl : j = 2 := by omega
          exact hb h3
      clear hall
      by_cases hp : n = 4
      · have hp' : ((n : Int) == 4) = true := by rw [hp]; rfl
        have HP := Lib.hid hp
        clear hp
        go_wp2_with fail
        refine (HI.out _ HB.out).mono ?_
        rintro e w1 ⟨rfl, hb1⟩
        have HB1 := Lib.hid (Base.Below.nextA HB.out hb1)
        clear hb1
        cases hc : chB fs n with
        | true =>
          have HE : Hid (bitsQ fs n = 2) := Lib.hid (by unfold bitsQ; rw [if_pos hc, HP.out]; rfl)
          clear hN
          go_wp2
          go_ret
          exact ⟨by rw [HE.out]; rfl, HB1.out⟩
        | false =>
          have HA := Lib.hid (hN.out True (fun _ => hc))
          clear hN hc
          go_wp2
          go_roundw
          case rel => exact ⟨2 + 1, by first | rfl | simp, by omega, by omega, HA, HB1⟩
          case measure => simp [intOf]
      · have hp' : ((n : Int) == 4) = false := by simp only [beq_eq_false_iff_ne]; omega
        have HA := Lib.hid (hN.out True (fun h => absurd h hp))
        clear hN hp
        go_wp2
        go_roundw
        case rel => exact ⟨2 + 1, by first | rfl | simp, by omega, by omega, HA, HB⟩
        case measure => simp [intOf]
    · have hN : Hid (∀ b : Prop, (n = 8 → chB fs n = false) → ∀ j, 1 ≤ j → j < 3 + 1 → n = 2 ^ j → chB fs n = false) := Lib.hid fun _ hb j h1 h2 h3 => by
        rcases Nat.lt_or_ge j 3 with g | g
        · exact hall.out j h1 g h3
        · obtain rfl : j = 3 := by omega
          exact hb h3
      clear hall
      by_cases hp : n = 8
      · have hp' : ((n : Int) == 8) = true := by rw [hp]; rfl
        have HP := Lib.hid hp
        clear hp
        go_wp2_with fail
        refine (HI.out _ HB.out).mono ?_
        rintro e w1 ⟨rfl, hb1⟩
        have HB1 := Lib.hid (Base.Below.nextA HB.out hb1)
        clear hb1
        cases hc : chB fs n with
        | true =>
          have HE : Hid (bitsQ fs n = 3) := Lib.hid (by unfold bitsQ; rw [if_pos hc, HP.out]; rfl)
          clear hN
          go_wp2
          go_ret
          exact ⟨by rw [HE.out]; rfl, HB1.out⟩
        | false =>
          have HA := Lib.hid (hN.out True (fun _ => hc))
          clear hN hc
          go_wp2
          go_roundw
          case rel => exact ⟨3 + 1, by first | rfl | simp, by omega, by omega, HA, HB1⟩
          case measure => simp [intOf]
      · have hp' : ((n : Int) == 8) = false := by simp only [beq_eq_false_iff_ne]; omega
        have HA := Lib.hid (hN.out True (fun h => absurd h hp))
        clear hN hp
        go_wp2
        go_roundw
        case rel => exact ⟨3 + 1, by first | rfl | simp, by omega, by omega, HA, HB⟩
        case measure => simp [intOf]
    · have hN : Hid (∀ b : Prop, (n = 16 → chB fs n = false) → ∀ j, 1 ≤ j → j < 4 + 1 → n = 2 ^ j → chB fs n = false) := Lib.hid fun _ hb j h1 h2 h3 => by
        rcases Nat.lt_or_ge j 4 with g | g
        · exact hall.out j h1 g h3
        · obtain rfl : j = 4 := by omega
          exact hb h3
      clear hall
      by_cases hp : n = 16
      · have hp' : ((n : Int) == 16) = true := by rw [hp]; rfl
        have HP := Lib.hid hp
        clear hp
        go_wp2_with fail
        refine (HI.out _ HB.out).mono ?_
        rintro e w1 ⟨rfl, hb1⟩
        have HB1 := Lib.hid (Base.Below.nextA HB.out hb1)
        clear hb1
        cases hc : chB fs n with
        | true =>
          have HE : Hid (bitsQ fs n = 4) := Lib.hid (by unfold bitsQ; rw [if_pos hc, HP.out]; rfl)
          clear hN
          go_wp2
          go_ret
          exact ⟨by rw [HE.out]; rfl, HB1.out⟩
        | false =>
          have HA := Lib.hid (hN.out True (fun _ => hc))
          clear hN hc
          go_wp2
          go_roundw
          case rel => exact ⟨4 + 1, by first | rfl | simp, by omega, by omega, HA, HB1⟩
          case measure => simp [intOf]
      · have hp' : ((n : Int) == 16) = false := by simp only [beq_eq_false_iff_ne]; omega
        have HA := Lib.hid (hN.out True (fun h => absurd h hp))
        clear hN hp
        go_wp2
        go_roundw
        case rel => exact ⟨4 + 1, by first | rfl | simp, by omega, by omega, HA, HB⟩
        case measure => simp [intOf]
    · have HE : Hid (bitsQ fs n = 0) := Lib.hid (by
        have h1 := hall.out 1 (by omega) (by omega)
        have h2 := hall.out 2 (by omega) (by omega)
        have h3 := hall.out 3 (by omega) (by omega)
        have h4 := hall.out 4 (by omega) (by omega)
        unfold bitsQ
        by_cases hc : chB fs n = true
        · rw [hc] at h1 h2 h3 h4
          rw [if_pos hc, if_neg (fun e => by have := h1 e; cases this), if_neg (fun e => by have := h2 e; cases this), if_neg (fun e => by have := h3 e; cases this), if_neg (fun e => by have := h4 e; cases this)]
        · rw [if_neg hc])
      clear hall
      go_wp2
      go_ret
      exact ⟨by rw [HE.out]; rfl, HB.out⟩
end Go.Proofs.Ytionognmgcabbaa.Wide
/- The reference: whether a walk is valid. -/
namespace Go.Proofs.Ytionognmgcabbaa.Wide
open Go.RowKit Go.Proofs.Ytionognmgcabbaa Go.Proofs.Ytionognmgcabbaa.Base Go.Proofs.Ytionognmgcabbaa.Mem Go.Proofs.Ytionognmgcabbaa.MemF Go.Proofs.Ytionognmgcabbaa.ChM Go.Proofs.Ytionognmgcabbaa.WalkM
set_option linter.unusedVariables false
set_option maxHeartbeats 2000000 in
set_option maxRecDepth 100000 in
theorem walkS_any {A : Option Addr} {c B n b0 : Nat} {L : Nat → Nat} {fs : Nat → List Int} (w : World) (h0 : w.cell? ⟨b0, 0, none⟩ = some (.slice A n c)) (hb0 : b0 < w.heap.size) (hx : RdFF w B A n L fs) (hB : B ≤ w.heap.size) (hL : ∀ i, i < n → L i ≤ 1099511627776) (hn : n ≤ 1099511627776) :
    Calls Try.prog 25 #[.pointer (some ⟨b0, 0, none⟩)] w fun e w' => e = .returned (.bool (wkB n L fs)) ∧ Below w.heap.size w w' := by
  have HX := Lib.hid (hx.more hB)
  clear hx
  by_cases h1 : n < 1
  · have HE := Lib.hid (wkB_out (L := L) (fs := fs) (n := n) (by omega))
    have h1' : (n : Int) < 1 := by omega
    go_enter Try.func25, Try.ntmps25
    go_wp2
    go_ret
    exact ⟨by rw [HE.out]; rfl, Below.refl _ _⟩
  by_cases h2 : 6 < n
  · have HE := Lib.hid (wkB_out (L := L) (fs := fs) (n := n) (by omega))
    have h1' : ¬ (n : Int) < 1 := by omega
    have h2' : (6 : Int) < n := by omega
    go_enter Try.func25, Try.ntmps25
    go_wp2
    go_ret
    exact ⟨by rw [HE.out]; rfl, Below.refl _ _⟩
  have h1' : ¬ (n : Int) < 1 := by omega
  have h2' : ¬ (6 : Int) < n := by omega
  have HIN := Lib.hid (wkB_in (L := L) (fs := fs) (n := n) (by omega))
  go_enter Try.func25, Try.ntmps25
  go_wp2
  go_loopw [4] (fun iv wr => ∃ i : Nat, iv = .int .i64 (i : Int) ∧ i ≤ n ∧ Hid (∀ j, j < i → rowOk n L fs j = true) ∧ Hid (Below w.heap.size w wr)) (fun iv _ => n - (intOf iv).toNat)
  case atStart => exact ⟨0, rfl, Nat.zero_le _, Lib.hid fun j hj => absurd hj (Nat.not_lt_zero j), Lib.hid (Below.refl _ _)⟩
  case round =>
    obtain ⟨i, rfl, hi, hall, HB⟩ := hrel
    have d0 := (HB.out.cell (p := ⟨b0, 0, none⟩) hb0).trans h0
    by_cases hlt : i < n
    · obtain ⟨b, off, A', c', rfl, hbl, g, hr⟩ := (HX.out.below HB.out (Nat.le_refl _)).at hlt
      have HNO := Lib.hid (fun h : rowOk n L fs i = false => (show wkB n L fs = false by rw [HIN.out]; exact all_no hlt h))
      have HYES := Lib.hid (fun (h : rowOk n L fs i = true) j (hj : j < i + 1) => (show rowOk n L fs j = true by
        rcases Nat.lt_or_ge j i with h1 | h1
        · exact hall.out j h1
        · obtain rfl : j = i := by omega
          exact h))
      have HI := Lib.hid (isS_any (c := c') wr hr HB.out.size (hL i hlt))
      have HOK : Hid (rowOk n L fs i = (decide (L i = n) && chB (fs i) (L i))) := Lib.hid rfl
      clear hr hall
      generalize L i = l at *
      by_cases hln : l = n
      · have HLN := Lib.hid hln
        have hne : ((l : Int) != (n : Int)) = false := by simp [hln]
        clear hln
        go_wp2_with fail
        refine HI.out.mono ?_
        rintro e w1 ⟨rfl, hb1⟩
        have HB1 := Lib.hid (Base.Below.nextA HB.out hb1)
        clear hb1 d0
        cases hc : chB (fs i) l with
        | false =>
          have HE := Lib.hid (HNO.out (by rw [HOK.out, hc, Bool.and_false]))
          clear HNO HYES hc HOK
          go_wp2
          go_ret
          exact ⟨by rw [HE.out]; rfl, HB1.out⟩
        | true =>
          have HA := Lib.hid (HYES.out (by rw [HOK.out, hc, Bool.and_true]; simpa using HLN.out))
          clear HNO HYES hc HOK
          go_wp2
          go_roundw
          case rel => exact ⟨i + 1, by simp, hlt, HA, HB1⟩
          case measure => simp [intOf]; omega
      · have hne : ((l : Int) != (n : Int)) = true := by simp; omega
        have HE := Lib.hid (HNO.out (by rw [HOK.out, decide_eq_false hln]; rfl))
        clear HNO HYES hln
        go_wp2
        go_ret
        exact ⟨by rw [HE.out]; rfl, HB.out⟩
    · obtain rfl : i = n := by omega
      have HE : Hid (wkB i L fs = true) := Lib.hid (by rw [HIN.out]; exact all_range.2 hall.out)
      clear hall
      go_wp2
      go_ret
      exact ⟨by rw [HE.out]; rfl, HB.out⟩
end Go.Proofs.Ytionognmgcabbaa.Wide
/- The reference: a list of fractions of any size is given, if all are small. -/
namespace Go.Proofs.Ytionognmgcabbaa.Wide
open Go.RowKit Go.Proofs.Ytionognmgcabbaa Go.Proofs.Ytionognmgcabbaa.Base Go.Proofs.Ytionognmgcabbaa.Mem Go.Proofs.Ytionognmgcabbaa.RatM Go.Proofs.Ytionognmgcabbaa.BigM Go.Proofs.Ytionognmgcabbaa.Big Go.Proofs.Ytionognmgcabbaa.Fine Go.Proofs.Ytionognmgcabbaa.Blk Go.Proofs.Ytionognmgcabbaa.MemF Go.Proofs.Ytionognmgcabbaa.GiveM
set_option linter.unusedVariables false
set_option maxHeartbeats 2000000 in
set_option maxRecDepth 100000 in
theorem giveS_any {v : Value} {n m : Nat} {f : Nat → Rat} {cs : List Value} (w : World) (hx : OwnW w 0 v n f m cs) (hm : m ≤ 400000) (hn : n ≤ 1000) : Calls Try.prog 32 #[v] w (FsRet (gN f n) (gR f n) (smallAll f n) w) := by
  obtain ⟨A, c, rfl, _⟩ := hx.form
  have HX := Lib.hid hx
  obtain ⟨i2, ki, kz0, kz1, kz2⟩ := info_parts infoFr
  have H0 := Lib.hid (GRel.start f n w)
  clear hx
  go_enter Try.func32, Try.ntmps32
  go_wp2
  go_loopw [5, 4] (fun iv sv wr => GRel f n w iv sv wr) (fun iv _ _ => n - (intOf iv).toNat)
  case atStart => exact H0.out
  case round =>
    obtain ⟨i, rfl, hi, HO, HA, HB⟩ := hrel
    clear H0
    by_cases hlt : i < n
    · obtain ⟨g, s', B1, j1, e1, B2, j2, e2, fb, gn, gd, n', d', rfl, hgl, y0, y1, y2, y3, y4, y5, hp'⟩ := (HX.out.below HB.out).at hlt
      have HE : IsW wr (f i) m (.agg #[.bool s', .slice B1 j1 e1, .slice B2 j2 e2, .bool fb, .int .i64 gn, .int .i64 gd]) := ⟨_, _, _, _, _, _, _, _, _, _, _, _, rfl, hp'⟩
      have HG := Lib.hid (give_any wr HE hm)
      have HF : Hid (∀ w1 w2 v' cs t, smallQ (f i) = true → Below wr.heap.size wr w1 → _ → _ → _) := Lib.hid (fun w1 w2 v' cs t hv h1 hown hg => GRel.next (w1 := w1) (w2 := w2) (v' := v') (cs := cs) (t := t) hlt HO.out HA.out hv HB.out h1 hown hg)
      have HNO := Lib.hid (fun h => GiveM.small_no hlt (show smallQ (f i) = false from h))
      clear HE hp' hgl
      generalize f i = q at *
      unfold FRet at HG
      generalize numQ q = P at *
      generalize denQ q = Q at *
      go_wp2_with fail
      refine HG.out.mono ?_
      rintro e w1 ⟨rfl, hb1⟩
      have HB1 := Lib.hid hb1
      clear hb1 y0 y1 y2 y3 y4 y5 HG
      go_upto_region 6 with (fail)
      obtain ⟨W2, hW2⟩ : ∃ W2, W2 = w1.alloc (.cells #[.int .i64 P, .int .i64 Q] 63) := ⟨_, rfl⟩
      rw [← hW2]
      have K2 : Hid (Blk W2 w1.heap.size 63 #[.int .i64 P, .int .i64 Q]) := Lib.hid (by rw [hW2]; exact Blk.new w1 _ _)
      have HB2 : Hid (Below wr.heap.size wr W2) := Lib.hid (by rw [hW2]; exact HB1.out.alloc HB1.out.size _)
      have hsz := HB.out.size
      have hsz2 := HB2.out.size
      cases hs : smallQ q with
      | false =>
        have HN := Lib.hid (HNO.out hs)
        have HBB := Lib.hid (Base.Below.nextA HB.out HB2.out)
        clear hW2 hs HNO HF
        go_wp2
        go_ret2
        rw [HN.out.1, HN.out.2.1, HN.out.2.2]
        exact FsRet.no HBB.out
      | true =>
        have HNN := Lib.hid (fun w3 v' cs t hown hg => HF.out W2 w3 v' cs t hs HB2.out hown hg)
        have HW2 := Lib.hid (World.ownsRow.alloc (ownsRow_below HO.out HB2.out) (.cells #[.int .i64 P, .int .i64 Q] 63))
        have x0 := K2.out.at 0 (v := .int .i64 P) rfl
        have x1 := K2.out.at 1 (v := .int .i64 Q) rfl
        clear hW2 hs HNO HF HO HA HB HB1 HB2
        go_wp2_with (at_builtin; refine wpList_append_own_at _ rfl (.tmp 25) (.tmp 27) 28 rfl w.heap.size 63 i2 (.agg #[.int .i64 0, .int .i64 0]) 2 16 Try.underlying28 ki kz0 kz1 kz2 rfl (by decide) _ _ _ rfl HW2.out ⟨W2.heap.size, 0, none⟩ 1 1 [.int .i64 P, .int .i64 Q] rfl rfl ?p1a ?p2a ?p3a ?p4a ?p5a ?_)
        try case p1a => exact MemF.news_two _ _ (by simp)
        try case p2a => exact MemF.ones_two
        try case p3a => first | (simp only [maxLen]; omega) | omega
        try case p4a => omega
        try case p5a => first | (simp only [World.size_alloc]; omega) | omega
        intro v' w3 hown' hg' _ he
        have HN3 := Lib.hid (HNN.out w3 v' _ _ hown' hg')
        clear hown' hg' he HNN HW2
        go_wp2
        go_roundw
        case rel => exact HN3.out
        case measure => simp [intOf]; omega
    · obtain rfl : i = n := by omega
      obtain ⟨A', cp, rfl, _⟩ := HO.out.form
      have HY := Lib.hid (GiveM.small_yes' HA.out)
      clear HA
      go_wp2
      go_ret2
      rw [HY.out.1, HY.out.2.1, HY.out.2.2]
      exact ⟨A', cp, rfl, HO.out, HB.out⟩
end Go.Proofs.Ytionognmgcabbaa.Wide
/- The reference: a walk that is run. -/
namespace Go.Proofs.Ytionognmgcabbaa.ComS
open Go.RowKit Go.Proofs.Ytionognmgcabbaa Go.Proofs.Ytionognmgcabbaa.Base Go.Proofs.Ytionognmgcabbaa.Mem Go.Proofs.Ytionognmgcabbaa.BigM Go.Proofs.Ytionognmgcabbaa.Big Go.Proofs.Ytionognmgcabbaa.Blk Go.Proofs.Ytionognmgcabbaa.MemF Go.Proofs.Ytionognmgcabbaa.ChM Go.Proofs.Ytionognmgcabbaa.ComM Go.Proofs.Ytionognmgcabbaa.RatM Go.Proofs.Ytionognmgcabbaa.WalkM Go.Proofs.Ytionognmgcabbaa.GiveM Go.Proofs.Ytionognmgcabbaa.Wide Go.Proofs.Ytionognmgcabbaa.Ratio
set_option linter.unusedVariables false
theorem chB_pos {fs : List Int} {n : Nat} (h : chB fs n = true) : ∀ k, k < n → 0 ≤ fs.getD (2 * k) 0 := fun k hk => by
  unfold chB at h
  simp only [Bool.and_eq_true] at h
  have := all_range.1 h.2.2.2.1 k hk
  simpa using this
def W24 : Nat := 2400
/-- the numbers at the start, and behind t steps -/
def v0 (ps : List Int) (n : Nat) : Nat → Nat := comN ps n
def rN (fs : Nat → List Int) (n : Nat) : Nat → Nat := comN (catF fs n) (n * n)
def dA (fs : Nat → List Int) (n : Nat) : Nat := comD (catF fs n) (n * n)
def denT (ps : List Int) (fs : Nat → List Int) (n t : Nat) : Nat := comD ps n * dA fs n ^ t
def vT (ps : List Int) (fs : Nat → List Int) (n t : Nat) : Nat → Nat := ComM.runN n (rN fs n) (v0 ps n) t
/-- all that is known of them -/
structure RunOk (ps : List Int) (fs : Nat → List Int) (n : Nat) : Prop where
  pos : ∀ t, 0 < denT ps fs n t
  val : ∀ t k, k < n → qv false (vT ps fs n t k) (denT ps fs n t) = runR n (wM fs) (fq ps) t k
  vlt : ∀ t k, t ≤ 30 → k < n → vT ps fs n t k < D30 ^ W24
  rlt : ∀ j, j < n * n → rN fs n j < D30 ^ 75
  dlt : ∀ t, t ≤ 30 → denT ps fs n t < D30 ^ W24
  alt : dA fs n < D30 ^ 75
theorem lt_pow {x k : Nat} (h : (bigL x).length ≤ k) : x < D30 ^ k := Nat.lt_of_lt_of_le (big_lt_pow x) (Nat.pow_le_pow_right D30_pos h)
theorem lt_more {x j k : Nat} (h : x < D30 ^ j) (hk : j ≤ k) : x < D30 ^ k := Nat.lt_of_lt_of_le h (Nat.pow_le_pow_right D30_pos hk)
theorem pow_lt {x k t : Nat} (hx : 0 < x) (h : x < D30 ^ k) (ht : 0 < t) : x ^ t < D30 ^ (k * t) := by
  rw [Nat.pow_mul]
  exact Nat.pow_lt_pow_left h (by omega)
theorem runOk {ps : List Int} {fs : Nat → List Int} {n : Nat} (hn1 : 1 ≤ n) (hn : n ≤ 6) (h1 : AllVF ps n) (p1 : ∀ k, k < n → 0 ≤ ps.getD (2 * k) 0) (h2 : ∀ i, i < n → AllVF (fs i) n) (p2 : ∀ i k, i < n → k < n → 0 ≤ (fs i).getD (2 * k) 0) (hl : ∀ i, i < n → (fs i).length = 2 * n) : RunOk ps fs n := by
  have hcv := catF_vf hl h2
  have hcp := catF_pos hl p2
  have hnn : n * n ≤ 36 := Nat.mul_le_mul hn hn
  have d0 := comD_pos h1
  have d1 := comD_pos hcv
  have hd0 : comD ps n < D30 ^ 13 := lt_pow (Nat.le_trans (comD_len h1) (by omega))
  have hd1 : dA fs n < D30 ^ 75 := lt_pow (Nat.le_trans (comD_len hcv) (by omega))
  have hv : ∀ i, i < n → v0 ps n i < D30 ^ 15 := fun i hi => lt_pow (Nat.le_trans (comN_len h1 hi) (by omega))
  have hR : ∀ j, j < n * n → rN fs n j < D30 ^ 75 := fun j hj => lt_pow (Nat.le_trans (comN_len hcv hj) (by omega))
  refine ⟨fun t => Nat.mul_pos d0 (Nat.pow_pos d1), fun t k hk => ?_, fun t k ht hk => ?_, hR, fun t ht => ?_, hd1⟩
  · rw [qv_over]
    refine over_run d0 d1 (fun i hi => ?_) (fun i k hi hk => ?_) t k hk
    · rw [← qv_over]; exact com_val h1 (p1 i hi) hi
    · have hj : i * n + k < n * n := by
        have := Nat.mul_le_mul_right n (show i + 1 ≤ n by omega)
        rw [Nat.add_mul] at this
        omega
      rw [← qv_over]
      have := com_val hcv (hcp _ hj) hj
      rw [catF_fq hl hi hk] at this
      exact this
  · exact lt_more (k := W24) (run_lt (show n ≤ 1000 by omega) hv hR t k hk) (by unfold W24; omega)
  · rcases Nat.eq_zero_or_pos t with rfl | h0
    · unfold denT; rw [Nat.pow_zero, Nat.mul_one]; exact lt_more (k := W24) hd0 (by decide)
    · exact lt_more (k := W24) (mul_lt hd0 (pow_lt d1 hd1 h0)) (by unfold W24; omega)
def RwRel (ps : List Int) (fs : Nat → List Int) (n S : Nat) (w : World) (sv vv dv : Value) (wr : World) : Prop :=
  ∃ (t m : Nat) (A : Option Addr) (c : Nat) (us : List Value) (A' : Option Addr) (c' : Nat), t + m = S ∧ sv = .int .i64 (m : Int) ∧ vv = .slice A n c ∧ dv = .slice A' (bigL (denT ps fs n t)).length c' ∧ Hid (OwnB wr 0 (.slice A n c) n (vT ps fs n t) us) ∧ Hid (IsB wr (denT ps fs n t) (.slice A' (bigL (denT ps fs n t)).length c')) ∧ Hid (Below w.heap.size w wr)
def OwRel (f : Nat → Rat) (n : Nat) (w : World) (ov iv : Value) (wr : World) : Prop :=
  ∃ (i : Nat) (cs : List Value), iv = .int .i64 (i : Int) ∧ i ≤ n ∧ Hid (OwnW wr w.heap.size ov i f 2400 cs) ∧ Hid (Below w.heap.size w wr)
theorem OwRel.next {f : Nat → Rat} {n i : Nat} {w wr w2 : World} {v v' : Value} {cs : List Value} {A1 A2 : Option Addr} {k1 c1 k2 c2 nn dd : Nat} {ca : Array Value} {t : TypeId} (hi : i < n) (h : OwnW wr w.heap.size v i f 2400 cs) (hb : Below w.heap.size w wr)
    (hp : Parts wr (f i) 2400 false (.slice A1 k1 c1) (.slice A2 k2 c2) false 0 0 nn dd) (hown : w2.ownsRow w.heap.size 65 6 v' (i + 1) (cs ++ six false (.slice A1 k1 c1) (.slice A2 k2 c2) false 0 0)) (hg : (wr.alloc (.cells ca t)).grownBy w2 v.ownBlock) : OwRel f n w v' (.int .i64 ((i : Int) + 1)) w2 := by
  have hb1 : Below wr.heap.size wr (wr.alloc (.cells ca t)) := (Below.refl _ _).alloc (Nat.le_refl _) _
  refine ⟨i + 1, _, by simp, hi, Lib.hid (h.push (Below.refl _ _) hp hown hg), Lib.hid ?_⟩
  exact (hb.trans (hb1.mono hb.size)).trans (grown_below hg (fun g e => (ownsRow_block h.row e).choose_spec.2.1) (Nat.le_trans hb.size hb1.size))
set_option maxHeartbeats 2000000 in
set_option maxRecDepth 100000 in
theorem runS_any {A A' : Option Addr} {c c' B B' n m : Nat} {L : Nat → Nat} {fs : Nat → List Int} {ps : List Int} (t : Int) (w : World) (hx : RdFF w B A n L fs) (hB : B ≤ w.heap.size) (hL : ∀ i, i < n → L i ≤ 1048576) (hl : ∀ i, i < n → (fs i).length = 2 * L i) (hn : n ≤ 1048576) (hy : RdF w B' A' m ps) (hB' : B' ≤ w.heap.size) (hm : m ≤ 1048576) :
    Calls Try.prog 8 #[.agg #[.slice A n c], .slice A' m c', .int .i64 t] w (FsRet (rwN n L fs m ps t) (rwR n L fs m ps t) (rwO n L fs m ps t) w) := by
  obtain ⟨W0, hW0⟩ : ∃ W0, W0 = w.alloc (.cells #[.slice A n c] 33) := ⟨_, rfl⟩
  have hb0 : Below w.heap.size w W0 := by rw [hW0]; exact (Below.refl _ _).alloc (Nat.le_refl _) _
  have k0 : Blk W0 w.heap.size 33 #[.slice A n c] := by rw [hW0]; exact Blk.new w _ _
  have K0 := Lib.hid k0
  have HX := Lib.hid ((hx.below hb0 hB).more (Nat.le_trans hB hb0.size))
  have HY := Lib.hid ((hy.below hb0 hB').more (Nat.le_trans hB' hb0.size))
  have HV := Lib.hid (walkS_any W0 (k0.at 0 (v := .slice A n c) rfl) k0.lt HX.out (Nat.le_refl _) (fun i hi => by have := hL i hi; omega) (by omega))
  have HC := Lib.hid (fun W (h : Below W0.heap.size W0 W) => isS_any (c := c') W (HY.out.below h (Nat.le_refl _)) h.size (show m ≤ 1099511627776 by omega))
  have HB0 := Lib.hid hb0
  have HW0 := Lib.hid hW0
  have HLL := Lib.hid hl
  clear hx hy hb0 hW0 hL hl k0
  cases hv : wkB n L fs with
  | false =>
    have HEE := Lib.hid (rw_no (n := n) (m := m) (L := L) (fs := fs) (ps := ps) (t := t) (by unfold rwB; rw [hv]; rfl))
    rw [hv] at HV
    clear hv
    go_enter Try.func8, Try.ntmps8
    go_wp2_with fail
    rw [← HW0.out]
    refine HV.out.mono ?_
    rintro e w1 ⟨rfl, hb1⟩
    have HBZ := Lib.hid (Base.Below.nextA HB0.out hb1)
    clear hb1
    go_wp2
    go_ret2
    rw [HEE.out.1, HEE.out.2.1, HEE.out.2.2]
    exact FsRet.no HBZ.out
  | true =>
    rw [hv] at HV
    by_cases hmn : m = n
    · have hne : ((m : Int) != (n : Int)) = false := by simp [hmn]
      cases hcc : chB ps m with
      | false =>
        have HEE := Lib.hid (rw_no (n := n) (m := m) (L := L) (fs := fs) (ps := ps) (t := t) (by unfold rwB; rw [hv, hcc]; rfl))
        rw [hcc] at HC
        clear hv hcc hmn
        go_enter Try.func8, Try.ntmps8
        go_wp2_with fail
        rw [← HW0.out]
        refine HV.out.mono ?_
        rintro e w1 ⟨rfl, hb1⟩
        have HW1 := Lib.hid hb1
        have HC1 := Lib.hid (HC.out _ hb1)
        have x1 := (K0.out.belowS hb1).at 0 (v := .slice A n c) rfl
        clear hb1
        go_wp2_with fail
        refine HC1.out.mono ?_
        rintro e w2 ⟨rfl, hb2⟩
        have HBZ := Lib.hid (Base.Below.nextA HB0.out (Base.Below.nextA HW1.out hb2))
        clear hb2 x1
        go_wp2
        go_ret2
        rw [HEE.out.1, HEE.out.2.1, HEE.out.2.2]
        exact FsRet.no HBZ.out
      | true =>
        rw [hcc] at HC
        cases hr : inR t 0 30 with
        | false =>
          have HEE := Lib.hid (rw_no (n := n) (m := m) (L := L) (fs := fs) (ps := ps) (t := t) (by unfold rwB; rw [hr, Bool.and_false, Bool.and_false, Bool.and_false]))
          have HR := Lib.hid hr
          clear hv hcc hmn hr
          go_enter Try.func8, Try.ntmps8
          go_wp2_with fail
          rw [← HW0.out]
          refine HV.out.mono ?_
          rintro e w1 ⟨rfl, hb1⟩
          have HW1 := Lib.hid hb1
          have HC1 := Lib.hid (HC.out _ hb1)
          have x1 := (K0.out.belowS hb1).at 0 (v := .slice A n c) rfl
          clear hb1
          go_wp2_with fail
          refine HC1.out.mono ?_
          rintro e w2 ⟨rfl, hb2⟩
          have HBZ := Lib.hid (Base.Below.nextA HB0.out (Base.Below.nextA HW1.out hb2))
          clear hb2 x1 HC1 HC HV
          go_wp2_with fail
          refine (l00In_any _ _ _ _).mono ?_
          rintro e w3 ⟨rfl, rfl⟩
          rw [HR.out]
          go_wp2
          go_ret2
          rw [HEE.out.1, HEE.out.2.1, HEE.out.2.2]
          exact FsRet.no HBZ.out
        | true =>
          have hrw : rwB n L fs m ps t = true := by unfold rwB; rw [hv, hcc, hr, decide_eq_true hmn]; rfl
          obtain ⟨hwk, _, _, _, hn1, hn6, hLn, hps, hfs⟩ := rwB_true hrw
          have HEE := Lib.hid (rw_yes hrw)
          have hR := inR_true hr
          obtain ⟨S, rfl⟩ : ∃ S : Nat, t = (S : Int) := ⟨t.toNat, by omega⟩
          rw [Int.toNat_natCast] at HEE
          have hS : S ≤ 30 := by omega
          have HR := Lib.hid hr
          obtain rfl := hmn
          have hp1 := chB_pos hcc
          have hp2 : ∀ i k, i < m → k < m → 0 ≤ (fs i).getD (2 * k) 0 := fun i k hi hk => chB_pos ((wkB_true hwk).2.2 i hi).2 k hk
          have hl2 : ∀ i, i < m → (fs i).length = 2 * m := fun i hi => by rw [HLL.out i hi, hLn i hi]
          have HOK := Lib.hid (runOk hn1 hn6 hps hp1 hfs hp2 hl2)
          have HAL := Lib.hid (fun W (h : Below W0.heap.size W0 W) => allS_any W ((K0.out.belowS h).at 0 (v := .slice A m c) rfl) (K0.out.belowS h).lt (HX.out.below h (Nat.le_refl _)) h.size hLn HLL.out (by omega) hfs hp2)
          have HCM := Lib.hid (fun W (h : Below W0.heap.size W0 W) => comS_any (c := c') W (HY.out.below h (Nat.le_refl _)) h.size hps hp1 (show m ≤ 1000 by omega))
          clear hv hcc hr hrw hps hfs hLn hR hwk hp1 hp2 hl2
          go_enter Try.func8, Try.ntmps8
          go_wp2_with fail
          rw [← HW0.out]
          refine HV.out.mono ?_
          rintro e w1 ⟨rfl, hb1⟩
          have HW1 := Lib.hid hb1
          have HC1 := Lib.hid (HC.out _ hb1)
          have x1 := (K0.out.belowS hb1).at 0 (v := .slice A m c) rfl
          clear hb1
          go_wp2_with fail
          refine HC1.out.mono ?_
          rintro e w2 ⟨rfl, hb2⟩
          have HW2 := Lib.hid (Base.Below.nextA HW1.out hb2)
          clear hb2 HC1 HC HV HW1 x1
          go_wp2_with fail
          refine (l00In_any _ _ _ _).mono ?_
          rintro e w3 ⟨rfl, rfl⟩
          rw [HR.out]
          go_wp2_with fail
          refine (HAL.out _ HW2.out).mono ?_
          rintro e w3 ⟨A3, c3, us3, u3, rfl, ho3, hu3, hb3⟩
          obtain ⟨A4, c4, rfl, _⟩ := Dig.form hu3
          have HW3 := Lib.hid (Base.Below.nextA HW2.out hb3)
          have HO3 : Hid (OwnB w3 w2.heap.size (.slice A3 (m * m) c3) (m * m) (rN fs m) us3) := Lib.hid ho3
          have HU3 : Hid (IsB w3 (dA fs m) (.slice A4 (bigL (dA fs m)).length c4)) := Lib.hid hu3
          have hLA : Hid ((bigL (comD (catF fs m) (m * m))).length = (bigL (dA fs m)).length) := Lib.hid rfl
          rw [hLA.out]
          clear ho3 hu3 hb3 HAL HW2
          go_wp2_with fail
          refine (HCM.out _ HW3.out).mono ?_
          rintro e w4 ⟨A5, c5, us5, u5, rfl, ho5, hu5, hb5⟩
          obtain ⟨A6, c6, rfl, _⟩ := Dig.form hu5
          have HW4 := Lib.hid (Base.Below.nextA HW3.out hb5)
          have HO4 := Lib.hid (HO3.out.below hb5)
          have HU4 := Lib.hid (HU3.out.below hb5)
          have hD0 : denT ps fs m 0 = comD ps m := by unfold denT; rw [Nat.pow_zero, Nat.mul_one]
          have H0 : Hid (RwRel ps fs m S w4 (.int .i64 (S : Int)) (.slice A5 m c5) (.slice A6 (bigL (comD ps m)).length c6) w4) := Lib.hid ⟨0, S, A5, c5, us5, A6, c6, by omega, rfl, rfl, by rw [hD0], Lib.hid (ho5.base (Nat.zero_le _)), Lib.hid (by rw [hD0]; exact hu5), Lib.hid (Below.refl _ _)⟩
          clear ho5 hu5 hb5 HCM HW3 HO3 HU3 hD0 hLA
          go_wp2
          go_loopw [2, 10, 11] (fun sv vv dv wr => RwRel ps fs m S w4 sv vv dv wr) (fun sv _ _ _ => (intOf sv).toNat)
          case atStart => exact H0.out
          case round =>
            obtain ⟨t, r, A7, c7, us7, A8, c8, htr, rfl, rfl, rfl, HO, HU, HB⟩ := hrel
            clear H0
            by_cases hpos : 0 < r
            · have HST := Lib.hid (stepS_any (a := W24) (b := 75) wr (HO4.out.below HB.out) HO.out (by omega) (fun i hi => HOK.out.vlt t i (by omega) hi) HOK.out.rlt (by decide))
              have hld : (bigL (denT ps fs m t)).length ≤ 2400 := bigL_len_le (k := W24) (HOK.out.dlt t (by omega))
              have hla : (bigL (dA fs m)).length ≤ 75 := bigL_len_le HOK.out.alt
              have HU4b := Lib.hid (HU4.out.below HB.out)
              go_wp2_with fail
              refine HST.out.mono ?_
              rintro e w5 ⟨A9, c9, us9, rfl, ho9, hb9⟩
              have HTI := Lib.hid (bigTimes_any w5 (HU.out.below hb9) (HU4b.out.below hb9) (by omega) (by omega))
              have HB9 := Lib.hid (Base.Below.nextA HB.out hb9)
              have HO9 := Lib.hid ho9
              clear ho9 hb9 HST HU4b
              go_wp2_with fail
              refine HTI.out.mono ?_
              rintro e w6 ⟨v, rfl, hv, hb6⟩
              have hDD : denT ps fs m t * dA fs m = denT ps fs m (t + 1) := by unfold denT; rw [Nat.pow_succ, Nat.mul_assoc]
              rw [hDD] at hv
              obtain ⟨A10, c10, rfl, _⟩ := Dig.form hv
              have HN : Hid (RwRel ps fs m S w4 (.int .i64 ((r : Int) - 1)) (.slice A9 m c9) (.slice A10 (bigL (denT ps fs m (t + 1))).length c10) w6) := Lib.hid ⟨t + 1, r - 1, A9, c9, us9, A10, c10, by omega, by congr 1; omega, rfl, rfl, Lib.hid ((HO9.out.below hb6).base (Nat.zero_le _)), Lib.hid hv, Lib.hid (Base.Below.nextA HB9.out hb6)⟩
              clear hv hb6 HTI HO9 HB9 HO HU HB hDD
              go_wp2
              go_roundw
              case rel => exact HN.out
              case measure => simp [intOf]; omega
            · obtain rfl : r = 0 := by omega
              obtain rfl : t = S := by omega
              obtain ⟨w5, rfl⟩ : ∃ x, x = wr := ⟨_, rfl⟩
              have hld : (bigL (denT ps fs m t)).length ≤ 2400 := bigL_len_le (k := W24) (HOK.out.dlt t (by omega))
              have H1 : Hid (OwRel (runR m (wM fs) (fq ps) t) m w5 (.slice (some ⟨w5.heap.size, 0, none⟩) 0 0) (.int .i64 0) (w5.alloc (.cells #[] 65))) := Lib.hid ⟨0, [], rfl, Nat.zero_le _, Lib.hid (OwnW.lit0 w5 _ _), Lib.hid ((Below.refl _ _).alloc (Nat.le_refl _) _)⟩
              obtain ⟨iw, wi, wz0, wz1, wz2⟩ := info_parts infoW
              rw [show (((0 : Nat) : Int)) = 0 from rfl]
              go_wp2
              go_loopw [12, 13] (fun ov iv w6 => OwRel (runR m (wM fs) (fq ps) t) m w5 ov iv w6) (fun _ iv _ => m - (intOf iv).toNat)
              case atStart => exact H1.out
              case round =>
                obtain ⟨i, cs, rfl, hi, HOW, HB2⟩ := hrel
                clear H1
                by_cases hlt : i < m
                · obtain ⟨gv, A9, c9, ev9, hgv, hvc, hvb⟩ := (HO.out.below HB2.out).at hlt
                  subst ev9
                  have hp : Parts wr (runR m (wM fs) (fq ps) t i) 2400 false (.slice A9 (bigL (vT ps fs m t i)).length c9) (.slice A8 (bigL (denT ps fs m t)).length c8) false 0 0 (vT ps fs m t i) (denT ps fs m t) :=
                    ⟨hvb, HU.out.below HB2.out, HOK.out.pos t, HOK.out.val t i hlt, bigL_len_le (k := W24) (HOK.out.vlt t i (by omega) hlt), hld, fun h => by cases h⟩
                  have HN := Lib.hid (fun w7 v' ca ty hown hg => OwRel.next (w2 := w7) (v' := v') (ca := ca) (t := ty) hlt HOW.out HB2.out hp hown hg)
                  have HOA := Lib.hid (World.ownsRow.alloc HOW.out.row (.cells #[.bool false, .slice A9 (bigL (vT ps fs m t i)).length c9, .slice A8 (bigL (denT ps fs m t)).length c8, .bool false, .int .i64 0, .int .i64 0] 65))
                  have hs2 := HB2.out.size
                  clear hvb hp HOW HB2
                  generalize (bigL (vT ps fs m t i)).length = l1 at *
                  generalize (bigL (denT ps fs m t)).length = l2 at *
                  go_wp2_with (at_builtin; refine wpList_append_own_at _ rfl (.tmp 60) (.tmp 67) 61 rfl w5.heap.size 65 iw (.agg #[.bool false, .slice none 0 0, .slice none 0 0, .bool false, .int .i64 0, .int .i64 0]) 6 80 Try.underlying61 wi wz0 wz1 wz2 rfl (by decide) _ _ _ rfl HOA.out ⟨wr.heap.size, 0, none⟩ 1 1 [.bool false, .slice A9 l1 c9, .slice A8 l2 c8, .bool false, .int .i64 0, .int .i64 0] rfl rfl ?p1c ?p2c ?p3c ?p4c ?p5c ?_)
                  try case p1c => exact news_six _ _ (by simp)
                  try case p2c => exact ones_six
                  try case p3c => first | (simp only [maxLen]; omega) | omega
                  try case p4c => omega
                  try case p5c => first | (simp only [World.size_alloc]; omega) | omega
                  intro v' w7 hown' hg' _ he
                  have HN3 := Lib.hid (HN.out w7 v' _ _ hown' hg')
                  clear hown' hg' he HN HOA
                  go_wp2
                  go_roundw
                  case rel => exact HN3.out
                  case measure => simp [intOf]; omega
                · obtain rfl : i = m := by omega
                  obtain ⟨A9, c9, rfl, _⟩ := HOW.out.form
                  have HG := Lib.hid (giveS_any wr (HOW.out.base (Nat.zero_le _)) (by decide) (by omega))
                  rw [← HEE.out.1, ← HEE.out.2.1, ← HEE.out.2.2] at HG
                  have HBB := Lib.hid (Base.Below.nextA (Base.Below.nextA HW4.out HB.out) HB2.out)
                  clear HOW HB2 HB
                  go_wp2_with fail
                  refine HG.out.mono ?_
                  rintro e w8 ⟨A10, c10, rfl, ho10, hb10⟩
                  have HOO := Lib.hid (And.intro ho10 (Base.Below.nextA HB0.out (Base.Below.nextA HBB.out hb10)))
                  have hs3 : w.heap.size ≤ wr.heap.size := Nat.le_trans HB0.out.size HBB.out.size
                  clear ho10 hb10
                  go_wp2
                  go_ret2
                  exact ⟨A10, c10, rfl, ownsRow_base HOO.out.1 hs3, HOO.out.2⟩
    · have HEE := Lib.hid (rw_no (n := n) (m := m) (L := L) (fs := fs) (ps := ps) (t := t) (by unfold rwB; rw [decide_eq_false hmn, Bool.false_and, Bool.and_false, Bool.and_false]))
      have hne : ((m : Int) != (n : Int)) = true := by simp; omega
      clear hv hmn
      go_enter Try.func8, Try.ntmps8
      go_wp2_with fail
      rw [← HW0.out]
      refine HV.out.mono ?_
      rintro e w1 ⟨rfl, hb1⟩
      have HBZ := Lib.hid (Base.Below.nextA HB0.out hb1)
      have x1 := (K0.out.belowS hb1).at 0 (v := .slice A n c) rfl
      clear hb1
      go_wp2
      go_ret2
      rw [HEE.out.1, HEE.out.2.1, HEE.out.2.2]
      exact FsRet.no HBZ.out
end Go.Proofs.Ytionognmgcabbaa.ComS
/- The laws' sizes and copies of lists of fractions. -/
namespace Go.Proofs.Ytionognmgcabbaa.CpyF
open Go.RowKit Go.Proofs.Ytionognmgcabbaa Go.Proofs.Ytionognmgcabbaa.Base Go.Proofs.Ytionognmgcabbaa.Mem Go.Proofs.Ytionognmgcabbaa.Cpy Go.Proofs.Ytionognmgcabbaa.MemF Go.Proofs.Ytionognmgcabbaa.WalkM
set_option linter.unusedVariables false
theorem szF_any (A : Option Addr) (n c : Nat) (k : Int) (w : World) (hn : n ≤ 9223372036854775807) (hk : 0 ≤ k) (hk2 : k ≤ 1048576) :
    Calls Try.prog 7 #[.slice A n c, .int .i64 k] w fun e w' => ∃ r : Int, e = .returned (.int .i64 r) ∧ (r = -1 ∨ (0 ≤ r ∧ r = k - n)) ∧ w = w' := by
  by_cases h0 : k - (n : Int) < 0
  · go_enter Try.func7, Try.ntmps7
    go_wp2
    go_ret
    exact ⟨-1, rfl, .inl rfl, rfl⟩
  · go_enter Try.func7, Try.ntmps7
    go_wp2
    go_ret
    exact ⟨k - n, rfl, .inr ⟨by omega, rfl⟩, rfl⟩
/-! ### Fractions that are copied -/
theorem toFr_any (a b : Int) (w : World) : Calls Try.prog 34 #[.agg #[.int .i64 a, .int .i64 b]] w fun e w' => e = .returned (.agg #[.int .i64 a, .int .i64 b]) ∧ Below w.heap.size w w' := by
  go_enter Try.func34, Try.ntmps34
  go_wp2
  exact bodyPost_ret (v := .agg #[.int .i64 a, .int .i64 b]) (by simp [results, Try.results34, go_sem]) rfl ⟨rfl, (((Below.refl _ _).alloc (Nat.le_refl _) _).alloc (by simp) _).alloc (by simp; omega) _⟩
theorem set2_half {fs : List Int} {n j : Nat} (hl : fs.length = 2 * n) (hj : j < n) (t : Nat) (ht : t < 2) :
    (ints (fs.take (2 * j + t) ++ List.replicate (2 * n - (2 * j + t)) 0)).set (2 * j + t) (.int .i64 (fs.getD (2 * j + t) 0)) = ints (fs.take (2 * j + t + 1) ++ List.replicate (2 * n - (2 * j + t + 1)) 0) := by
  have hlt : 2 * j + t < fs.length := by omega
  rw [ints_set, List.set_append_right _ _ (by rw [List.length_take]; omega), List.length_take, Nat.min_eq_left (by omega), Nat.sub_self,
    show 2 * n - (2 * j + t) = (2 * n - (2 * j + t + 1)) + 1 by omega, List.replicate_succ, List.set_cons_zero, List.take_succ_eq_append_getElem hlt, List.append_assoc]
  simp [List.getD, hlt]
def HalfF (wr : World) (B g n j : Nat) (fs : List Int) : Prop := wr.ownsRow B 63 2 (.slice (some ⟨g, 0, none⟩) n n) n (ints (fs.take (2 * j) ++ List.replicate (2 * n - 2 * j) 0))
theorem halfF_store {wr : World} {B g n j t : Nat} {fs : List Int} (h : wr.ownsRow B 63 2 (.slice (some ⟨g, 0, none⟩) n n) n (ints (fs.take (2 * j + t) ++ List.replicate (2 * n - (2 * j + t)) 0))) (hl : fs.length = 2 * n) (hj : j < n) (ht : t < 2) :
    (wr.setCell ⟨g, 2 * j + t, none⟩ (.int .i64 (fs.getD (2 * j + t) 0))).ownsRow B 63 2 (.slice (some ⟨g, 0, none⟩) n n) n (ints (fs.take (2 * j + t + 1) ++ List.replicate (2 * n - (2 * j + t + 1)) 0)) := by
  obtain ⟨h1, h2⟩ := h.stored (2 * j + t) (.int .i64 (fs.getD (2 * j + t) 0))
  rw [set2_half hl hj t ht] at h1
  exact h1
theorem halfF_next {wr : World} {B g n j : Nat} {fs : List Int} (h : HalfF wr B g n j fs) (hl : fs.length = 2 * n) (hj : j < n) : HalfF ((wr.setCell ⟨g, j * 2, none⟩ (.int .i64 (fs.getD (2 * j) 0))).setCell ⟨g, j * 2 + 1, none⟩ (.int .i64 (fs.getD (2 * j + 1) 0))) B g n (j + 1) fs := by
  have h1 := halfF_store (t := 0) h hl hj (by decide)
  have h2 := halfF_store (t := 1) h1 hl hj (by decide)
  unfold HalfF
  rw [Nat.mul_comm j 2]
  exact h2
def ToRelF (B g n : Nat) (fs : List Int) (w : World) (i : Value) (wr : World) : Prop := ∃ j : Nat, j ≤ n ∧ i = .int .i64 (j : Int) ∧ Hid (HalfF wr B g n j fs) ∧ Hid (Below B w wr)
def zero2 : Array Value := #[.int .i64 0, .int .i64 0]
theorem zero2_at : ∀ m, m < 2 → zero2[m]! = .int .i64 0
  | 0, _ => rfl
  | 1, _ => rfl
  | n + 2, h => absurd h (by omega)
theorem made2 (n : Nat) : (madeCells zero2 (n * 2)).toList = ints (List.replicate (2 * n) 0) := by
  apply List.ext_getElem?
  intro j
  rw [Nat.mul_comm n 2]
  by_cases hj : j < 2 * n
  · have h1 := zero2_at (j % 2) (Nat.mod_lt _ (by decide))
    have h2 : zero2.size = 2 := rfl
    simp [madeCells, ints, hj, h2, h1]
  · simp [madeCells, ints, hj]
theorem run_make2 (n : Nat) (hn : n ≤ 1048576) (w : World) : (Instr.makeSlice 28 (.int .i64 (n : Int)) (.int .i64 (n : Int))).run Try.prog w = .ok (.slice (some ⟨w.heap.size, 0, none⟩) n n) (w.alloc (.cells (madeCells zero2 (n * 2)) 63)) := by
  obtain ⟨i, hi, hzz⟩ := Option.map_eq_some_iff.1 infoFr
  simp only [Prod.mk.injEq] at hzz
  obtain ⟨hz, hs, hb⟩ := hzz
  have hr := run_make (P := Try.prog) w 28 63 i _ Try.underlying28 hi hz .i64 .i64 n n (by omega) (Int.le_refl _) (by rw [hb]; omega) (by omega)
  simp only [Int.toNat_natCast, hs] at hr
  exact hr
theorem halfF_start (w : World) (n : Nat) (hn : n ≤ 1048576) (fs : List Int) : HalfF (w.alloc (.cells (madeCells zero2 (n * 2)) 63)) w.heap.size w.heap.size n 0 fs := by
  have := World.ownsRow_lit (e := 63) (size := 2) (base := w.heap.size) w (madeCells zero2 (n * 2)) n (Nat.le_refl _) (by simp [maxLen]; omega) (by rw [size_madeCells])
  rw [made2] at this
  unfold HalfF
  simpa using this
set_option maxHeartbeats 1000000 in
set_option maxRecDepth 100000 in
theorem toF_any (A : Option Addr) (c B0 n : Nat) (fs : List Int) (w : World) (hx : RdF w B0 A n fs) (hB : B0 ≤ w.heap.size) (hn : n ≤ 1048576) (hl : fs.length = 2 * n) :
    Calls Try.prog 10 #[.slice A n c] w fun e w' => ∃ g, e = .returned (.slice (some ⟨g, 0, none⟩) n n) ∧ OwnF w' w.heap.size (.slice (some ⟨g, 0, none⟩) n n) n fs ∧ Below w.heap.size w w' := by
  have HX := Lib.hid (hx.more hB)
  have HL := Lib.hid hl
  have hmk := fun w => run_make2 n hn w
  have H0 : Hid (ToRelF w.heap.size w.heap.size n fs w (.int .i64 0) (w.alloc (.cells (madeCells zero2 (n * 2)) 63))) := Lib.hid ⟨0, Nat.zero_le _, rfl, Lib.hid (halfF_start w n hn fs), Lib.hid ((Below.refl _ _).alloc (Nat.le_refl _) _)⟩
  clear hx hl
  go_enter Try.func10, Try.ntmps10
  go_wp2
  clear hmk
  go_loopw [4] (fun i wr => ToRelF w.heap.size w.heap.size n fs w i wr) (fun i _ => n - (intOf i).toNat)
  case atStart => exact H0.out
  case round =>
    obtain ⟨j, hj, rfl, hrow, hb⟩ := hrel
    by_cases hlt : j < n
    · obtain ⟨b, off, rfl, hbl, c0, c1⟩ := (HX.out.below hb.out (Nat.le_refl _)).at hlt
      have hcell : ∀ i, i < 2 → ∃ x : Int, wr.cell? ⟨w.heap.size, j * 2 + i, none⟩ = some (.int .i64 x) := fun i hi => by
        have hh : wr.ownsRow w.heap.size 63 2 (.slice (some ⟨w.heap.size, 0, none⟩) n n) n (ints (fs.take (2 * j) ++ List.replicate (2 * n - 2 * j) 0)) := hrow.out
        have e1 := World.ownsRow.cellAt hh (j * 2 + i) (by omega)
        rw [ints_get _ (j * 2 + i) (by have := HL.out; simp; omega)] at e1
        exact ⟨_, e1⟩
      have hfz : ∀ i, wr.frozen? ⟨w.heap.size, i, none⟩ = false := fun i => by
        have hh : wr.ownsRow w.heap.size 63 2 (.slice (some ⟨w.heap.size, 0, none⟩) n n) n (ints (fs.take (2 * j) ++ List.replicate (2 * n - 2 * j) 0)) := hrow.out
        exact hh.frozenAt i
      have HN := Lib.hid (fun w1 (h1 : Below wr.heap.size wr w1) => (show ToRelF w.heap.size w.heap.size n fs w (.int .i64 ((j : Int) + 1)) ((w1.setCell ⟨w.heap.size, j * 2, none⟩ (.int .i64 (fs.getD (2 * j) 0))).setCell ⟨w.heap.size, j * 2 + 1, none⟩ (.int .i64 (fs.getD (2 * j + 1) 0))) from ⟨j + 1, hlt, by simp, Lib.hid (halfF_next (show HalfF w1 w.heap.size w.heap.size n j fs from ownsRow_below hrow.out h1) HL.out hlt), Lib.hid (((hb.out.trans (h1.mono hb.out.size)).setCell (p := ⟨w.heap.size, j * 2, none⟩) (Nat.le_refl _) _).setCell (p := ⟨w.heap.size, j * 2 + 1, none⟩) (Nat.le_refl _) _)⟩))
      have HT := Lib.hid (fun W => toFr_any (fs.getD (2 * j) 0) (fs.getD (2 * j + 1) 0) W)
      obtain ⟨x0, y0⟩ := hcell 0 (by decide)
      have hlz : w.heap.size < wr.heap.size := block_lt_of_cell y0
      obtain ⟨x1, y1⟩ := hcell 1 (by decide)
      rw [Nat.add_zero] at y0
      have HY := Lib.hid (And.intro y0 y1)
      have HZ := Lib.hid hfz
      clear hrow hb hcell hfz y0 y1
      generalize fs.getD (2 * j) 0 = f0 at *
      generalize fs.getD (2 * j + 1) 0 = f1 at *
      go_wp2_with fail
      refine (HT.out _).mono ?_
      rintro e w1 ⟨rfl, hb1⟩
      have y0 := (hb1.cell (p := ⟨w.heap.size, j * 2, none⟩) hlz).trans HY.out.1
      have y1 := (hb1.cell (p := ⟨w.heap.size, j * 2 + 1, none⟩) hlz).trans HY.out.2
      have z0 := (hb1.frozen (p := ⟨w.heap.size, j * 2, none⟩) hlz).trans (HZ.out _)
      have z1 := (hb1.frozen (p := ⟨w.heap.size, j * 2 + 1, none⟩) hlz).trans (HZ.out _)
      have HM := Lib.hid (HN.out w1 hb1)
      clear hb1 c0 c1
      go_wp2
      go_roundw
      case rel => exact HM.out
      case measure => simp [intOf]; omega
    · obtain rfl : j = n := by omega
      have HR : Hid (OwnF wr w.heap.size (.slice (some ⟨w.heap.size, 0, none⟩) j j) j fs) := Lib.hid (by
        have := hrow.out
        unfold HalfF at this
        rw [Nat.sub_self, List.replicate_zero, List.append_nil, List.take_of_length_le (by have := HL.out; omega)] at this
        exact this)
      have HB := Lib.hid hb.out
      clear hrow hb
      go_wp2
      go_ret
      exact ⟨w.heap.size, rfl, HR.out, HB.out⟩
end Go.Proofs.Ytionognmgcabbaa.CpyF
