/- The reference: the equations of the settled chances. -/
import Derived.Test.YthagenodiofgnaaGreatMgMix21
import Derived.Test.YthagenodiofgnaaGreatMgMix11
import Derived.Test.YthagenodiofgnaaGreatMgMix20
import Derived.Test.YthagenodiofgnaaGreatMgMix16
namespace Go.Proofs.YthagenodiofgnaaGreat.Wide
open Go.RowKit Go.Proofs.YthagenodiofgnaaGreat Go.Proofs.YthagenodiofgnaaGreat.Base Go.Proofs.YthagenodiofgnaaGreat.Mem Go.Proofs.YthagenodiofgnaaGreat.MemF Go.Proofs.YthagenodiofgnaaGreat.RatM Go.Proofs.YthagenodiofgnaaGreat.BigM Go.Proofs.YthagenodiofgnaaGreat.Big Go.Proofs.YthagenodiofgnaaGreat.Fine Go.Proofs.YthagenodiofgnaaGreat.Blk Go.Proofs.YthagenodiofgnaaGreat.GaussM Go.Proofs.YthagenodiofgnaaGreat.WalkM Go.Proofs.YthagenodiofgnaaGreat.ChM
open Go.Proofs.YthagenodiofgnaaGreat.Ratio (below_next cast_ne eqS eqI solB solX sN)
open Go.Proofs.YthagenodiofgnaaGreat.NatM (B32)
set_option linter.unusedVariables false
theorem B32_D30 : B32 ^ 4 ≤ D30 ^ 5 := by decide
theorem vf_nought : VF 0 1 := ⟨by decide, by decide, by decide, by decide, by decide⟩
theorem qf_nought : qf 0 1 = 0 := by decide +kernel
theorem OwnW.put6W {w : World} {B n m : Nat} {v : Value} {f : Nat → Rat} {ws : List Value} {b : Nat} (h : OwnW w B v n f m ws) {t : TypeId} {u0 u1 u2 u3 u4 u5 : Value} (K : Blk w b t #[u0, u1, u2, u3, u4, u5]) (ht : t ≠ 2) (hne : ∀ g, v.ownBlock = some g → g ≠ b) (v0 v1 v2 v3 v4 v5 : Value) : OwnW (put6 w b v0 v1 v2 v3 v4 v5) B v n f m ws := by
 have hn : v.ownBlock = none ∨ v.ownBlock ≠ some b := by
  cases hv : v.ownBlock with
  | none => exact .inl rfl
  | some g => exact .inr (fun e => hne g hv (Option.some.inj e))
 refine ⟨(((((h.row.kept (Src.grown_setCell w ⟨b, 0, none⟩ v0) hn).kept (Src.grown_setCell _ ⟨b, 1, none⟩ v1) hn).kept (Src.grown_setCell _ ⟨b, 2, none⟩ v2) hn).kept (Src.grown_setCell _ ⟨b, 3, none⟩ v3) hn).kept (Src.grown_setCell _ ⟨b, 4, none⟩ v4) hn).kept (Src.grown_setCell _ ⟨b, 5, none⟩ v5) hn, fun i hi => ?_⟩
 obtain ⟨s, A1, k1, c1, A2, k2, c2, fine, fn, fd, nn, dd, e, hp⟩ := h.els i hi
 exact ⟨s, A1, k1, c1, A2, k2, c2, fine, fn, fd, nn, dd, e, hp.put6 K ht _ _ _ _ _ _⟩
theorem eqS_dg {n : Nat} {W : Nat → Nat → Rat} (h : ∀ i k, i < n → k < n → Dg (B32 ^ 2) (W i k)) (r c : Nat) (hr : r < n) (hc : c ≤ n) : Dg (D30 ^ 5) (eqS n W r c) := by
 have key : Dg (B32 ^ 4) (eqS n W r c) := by
  unfold eqS
  split
  ·exact Ratio.dg_one (by decide)
  ·split
   ·split
    ·rw [Ratio.rat_m1]
     exact Ratio.dgb_sub (m := 2) (k := 1) (h _ _ ‹_› hr) (Ratio.dg_one (Nat.le_refl _))
    ·exact Ratio.dgb_more (h _ _ ‹_› hr) (by decide)
   ·exact Ratio.dgb_zero (by decide)
 exact key.more B32_D30
def SsRel (n : Nat) (W : Nat → Nat → Rat) (w : World) (kv lv : Value) (wr : World) : Prop :=
 ∃ (k : Nat) (us : List Value), kv = .int .i64 (k : Int) ∧ k ≤ n ∧ Hid (OwnWW wr w.heap.size lv k (n + 1) (eqS n W) 5 us) ∧ Hid (Below w.heap.size w wr)
set_option maxHeartbeats 4000000 in
set_option maxRecDepth 100000 in
theorem settledS_any {A : Option Addr} {c B n b0 : Nat} {fs : Nat → List Int} (w : World) (h0 : w.cell? ⟨b0, 0, none⟩ = some (.slice A n c)) (hb0 : b0 < w.heap.size) (hx : RdFF w B A n (fun _ => n) fs) (hB : B ≤ w.heap.size) (h1 : 1 ≤ n) (h6 : n ≤ 6) (hv : ∀ i, i < n → AllVF (fs i) n) (hd : ∀ i k, i < n → k < n → Dg (B32 ^ 2) (fq (fs i) k)) :
  Calls Tryz.prog 29 #[.pointer (some ⟨b0, 0, none⟩)] w (SwRet (eqS n fun i => fq (fs i)) n (mD 6) w) := by
 obtain ⟨iw, wi, wz0, wz1, wz2⟩ := info_parts infoW
 obtain ⟨iv, vi, vz0, vz1, vz2⟩ := info_parts infoWW
 obtain ⟨W, hWd⟩ : ∃ W : Nat → Nat → Rat, W = fun i => fq (fs i) := ⟨_, rfl⟩
 rw [← hWd]
 have HX := Lib.hid (hx.more hB)
 have HD : Hid (∀ r c, r < n → c ≤ n → Dg (D30 ^ 5) (eqS n W r c)) := Lib.hid (by rw [hWd]; exact eqS_dg hd)
 have HV : Hid (∀ i k, i < n → k < n → VF ((fs i).getD (2 * k) 0) ((fs i).getD (2 * k + 1) 0) ∧ qf ((fs i).getD (2 * k) 0) ((fs i).getD (2 * k + 1) 0) = W i k) := Lib.hid (fun i k hi hk => ⟨hv i hi k hk, by rw [hWd]; rfl⟩)
 have H0 : Hid (SsRel n W w (.int .i64 0) (.slice (some ⟨w.heap.size, 0, none⟩) 0 0) (w.alloc (.cells #[] 58))) := Lib.hid ⟨0, [], rfl, Nat.zero_le _, Lib.hid (OwnWW.lit0 w _ _ _), Lib.hid ((Below.refl _ _).alloc (Nat.le_refl _) _)⟩
 have HM1 := Lib.hid (fun W => wideOf_any vf_minus W)
 rw [qf_minus] at HM1
 have HWO := Lib.hid (fun W => wideOf_any vf_one W)
 rw [qf_one] at HWO
 have HC0 := Lib.hid (fun W' (hb : Below w.heap.size w W') => (hb.cell (p := ⟨b0, 0, none⟩) hb0).trans h0)
 clear hx hd hv hWd hb0
 go_enter Tryz.func29, Tryz.ntmps29
 go_wp2
 clear h0
 go_loopw [6, 5] (fun kv lv wr => SsRel n W w kv lv wr) (fun kv _ _ => n - (intOf kv).toNat)
 case atStart => exact H0.out
 case round =>
  obtain ⟨k, us, rfl, hk, HO, HB⟩ := hrel
  clear H0
  obtain ⟨Al, cl, hlv, hAl⟩ := HO.out.form
  subst hlv
  by_cases hkn : k < n
  ·obtain ⟨wo, rfl⟩ : ∃ wo : World, wo = wr := ⟨_, rfl⟩
   have H1 : Hid (SyRel n 5 (eqS n W k) wo (.int .i64 0) (.slice (some ⟨wo.heap.size, 0, none⟩) 0 0) (wo.alloc (.cells #[] 107))) := Lib.hid ⟨0, [], rfl, Nat.zero_le _, Lib.hid (OwnW.lit0 wo _ _), Lib.hid ((Below.refl _ _).alloc (Nat.le_refl _) _)⟩
   have hwo := HB.out.size
   have hbw : Hid (∀ W', Below wo.heap.size wo W' → Below w.heap.size w W') := Lib.hid (fun W' hb => below_next (Nat.le_refl _) HB.out hb)
   go_wp2
   go_loopw [8, 7] (fun iv ev w2 => SyRel n 5 (eqS n W k) wo iv ev w2) (fun iv _ _ => n - (intOf iv).toNat)
   case atStart => exact H1.out
   case round =>
    obtain ⟨i, cs, rfl, hi, HE, HBo⟩ := hrel
    clear H1
    have hso := HBo.out.size
    obtain ⟨Ae, ce, hev, hAe⟩ := HE.out.form
    subst hev
    by_cases hin : i < n
    ·obtain ⟨bf, of, A6, c6, rfl, hbf, y, hrow⟩ := (HX.out.below (hbw.out wr HBo.out) (Nat.le_refl _)).at hin
     obtain ⟨br, or, rfl, hbr, x0, x1⟩ := hrow.at hkn
     have p0 := HC0.out wr (hbw.out wr HBo.out)
     obtain ⟨hvf, hqf⟩ := HV.out i k hin hkn
     have HW0 := Lib.hid (fun W' => wideOf_any hvf W')
     rw [hqf] at HW0
     clear hrow hvf hqf
     generalize (fs i).getD (2 * k) 0 = z0 at *
     generalize (fs i).getD (2 * k + 1) 0 = z1 at *
     go_wp2_with fail
     refine (HW0.out _).mono ?_
     rintro e w4 ⟨v, rfl, hv4, hb4⟩
     obtain ⟨s, A1, k1, c1, A2, k2, c2, fi, fn, fd, nn, dd, rfl, hp4⟩ := hv4
     obtain ⟨W5, hW5⟩ : ∃ W5, W5 = w4.alloc (.cells #[.bool s, .slice A1 k1 c1, .slice A2 k2 c2, .bool fi, .int .i64 fn, .int .i64 fd] 107) := ⟨_, rfl⟩
     obtain ⟨g9, hg9⟩ : ∃ g9, g9 = w4.heap.size := ⟨_, rfl⟩
     have hb5 : Below w4.heap.size w4 W5 := by rw [hW5]; exact (Below.refl _ _).alloc (Nat.le_refl _) _
     have K9 : Hid (Blk W5 g9 107 #[.bool s, .slice A1 k1 c1, .slice A2 k2 c2, .bool fi, .int .i64 fn, .int .i64 fd]) := Lib.hid (by rw [hW5, hg9]; exact Blk.new w4 _ _)
     have hb45 := Base.Below.nextA hb4 hb5
     have hb4s := hb4.size
     have HE5 := Lib.hid (HE.out.below hb45)
     have HBo5 := Lib.hid (below_next (Nat.le_refl _) HBo.out hb45)
     have HI : Hid (IsW W5 (W i k) 2 (.agg #[.bool s, .slice A1 k1 c1, .slice A2 k2 c2, .bool fi, .int .i64 fn, .int .i64 fd])) := Lib.hid (IsW.below ⟨_, _, _, _, _, _, _, _, _, _, _, _, rfl, hp4⟩ hb5)
     have hg9o : wo.heap.size ≤ g9 := by omega
     have hne9 : Hid (∀ b, (Value.slice Ae i ce).ownBlock = some b → b ≠ g9) := Lib.hid (fun b e => by obtain ⟨_, _, _, h⟩ := ownsRow_block HE.out.row e; omega)
     have HW5 := Lib.hid hW5
     have HG9 := Lib.hid hg9
     clear y x0 x1 p0 hW5 hg9 hb4 hb5 hb45 hb4s hp4 HE HBo HW0
     go_upto_region 11 with (fail)
     rw [← HW5.out, ← HG9.out]
     clear HW5 HG9
     obtain ⟨q0, hq0⟩ : ∃ q0, q0 = W i k := ⟨_, rfl⟩
     rw [← hq0] at HI
     obtain ⟨q1, hq1⟩ : ∃ q1, q1 = (if i = k then q0 + -1 else q0) := ⟨_, rfl⟩
     obtain ⟨q2, hq2⟩ : ∃ q2, q2 = (if k + 1 = n then 1 else q1) := ⟨_, rfl⟩
     have HQE : Hid (q2 = eqS n W k i) := Lib.hid (by unfold eqS; rw [hq2, hq1, hq0]; split <;> first | rfl | (rw [if_pos hin]))
     by_cases hik : i = k
     case' pos =>
      have heq : ((i : Int) == (k : Int)) = true := by simp [hik]
      have hfi : Hid (q1 = q0 + -1) := Lib.hid (by rw [hq1, if_pos hik])
      clear hik hq1 hq0
      have HQ2 := Lib.hid hq2
      clear hq2
      go_upto_region 12 with (fail)
      refine Rel.wp_region_rel 4 (by kernel_rfl) (by kernel_rfl) (fun F hF => ?_)
      simp only [List.take_succ_cons, List.take_zero, List.drop_succ_cons, List.drop_zero, Rel.putL] at hF ⊢
      have HF := Lib.hid hF
      clear hF
      have uv := @Rel.upon_value Tryz.prog
      have ue := @Rel.upon_enter Tryz.prog
      apply Rel.rel_pure
      apply Exists.intro
      refine ⟨fun vs wq hq hdp R hR => ?_, ?_⟩
      ·(rw [HF.out, Rel.stepAt_eq]; clear hdp; have y0 := (K9.out.belowS hq).at 0 (v := .bool s) rfl; have y1 := (K9.out.belowS hq).at 1 (v := .slice A1 k1 c1) rfl; have y2 := (K9.out.belowS hq).at 2 (v := .slice A2 k2 c2) rfl; have y3 := (K9.out.belowS hq).at 3 (v := .bool fi) rfl; have y4 := (K9.out.belowS hq).at 4 (v := .int .i64 fn) rfl; have y5 := (K9.out.belowS hq).at 5 (v := .int .i64 fd) rfl; go_simp; exact hR)
      apply Rel.rel_pure
      apply Exists.intro
      refine ⟨fun vs wq hq hdp R hR => ?_, ?_⟩
      ·(rw [HF.out, Rel.stepAt_eq]; clear hdp; skip; go_simp; exact hR)
      refine Rel.rel_law (S := fun v w' => IsW w' (-1) 2 v) (isW_mono _ _) (fun vs wq hq hdp => ?_) ?_
      ·(rw [HF.out, Rel.stepAt_eq]; have qd1 : vs 1 = _ := Rel.dep hdp 1 (by kernel_rfl); clear hdp; skip; go_simp; refine (HM1.out _).mono ?_; rintro e w7 ⟨v, rfl, hv, hb⟩; exact ⟨_, rfl, hv, hb⟩)
      refine Rel.rel_law (S := fun v w' => IsW w' (q0 + -1) 5 v) (isW_mono _ _) (fun vs wq hq hdp => ?_) ?_
      ·(rw [HF.out, Rel.stepAt_eq]; have qd0 : vs 0 = _ := Rel.dep hdp 0 (by kernel_rfl); have qd2 : IsW wq _ _ (vs 2) := Rel.dep hdp 2 (by kernel_rfl); clear hdp; skip; go_simp; refine (wideAdd_any wq (HI.out.below hq) qd2 (by decide) (by decide) (by decide) (by decide)).mono ?_; rintro e w7 ⟨v, rfl, hv, hb⟩; exact ⟨_, rfl, hv, hb⟩)
      refine Rel.rel_end (fun vs wq hq hall => ?_)
      rw [HF.out]
      have qe0 : vs 0 = _ := Rel.fin hall 0 (by decide)
      have qe1 : vs 1 = _ := Rel.fin hall 1 (by decide)
      have qe2 : IsW wq _ _ (vs 2) := Rel.fin hall 2 (by decide)
      have qe3 : IsW wq _ _ (vs 3) := Rel.fin hall 3 (by decide)
      clear hall HF uv ue
      obtain ⟨t, C1, m1, l1, C2, m2, l2, fi2, fn2, fd2, nn2, dd2, ev2, hp2⟩ := qe3
      have K9q := K9.out.belowS hq
      obtain ⟨W6, hW6⟩ : ∃ W6, W6 = put6 wq g9 (.bool t) (.slice C1 m1 l1) (.slice C2 m2 l2) (.bool fi2) (.int .i64 fn2) (.int .i64 fd2) := ⟨_, rfl⟩
      have hb6 : Below wo.heap.size wo W6 := by rw [hW6]; exact put6_below (below_next (Nat.le_refl _) HBo5.out hq) hg9o _ _ _ _ _ _
      have HI6 : Hid (IsW W6 q1 5 (.agg #[.bool t, .slice C1 m1 l1, .slice C2 m2 l2, .bool fi2, .int .i64 fn2, .int .i64 fd2])) := Lib.hid (by rw [hfi.out, hW6]; exact ⟨_, _, _, _, _, _, _, _, _, _, nn2, dd2, rfl, hp2.put6 K9q (by decide) _ _ _ _ _ _⟩)
      have K6 : Hid (Blk W6 g9 107 #[.bool t, .slice C1 m1 l1, .slice C2 m2 l2, .bool fi2, .int .i64 fn2, .int .i64 fd2]) := Lib.hid (by rw [hW6]; exact put6_blk K9q _ _ _ _ _ _)
      have HE6 : Hid (OwnW W6 wo.heap.size (.slice Ae i ce) i (eqS n W k) 5 cs) := Lib.hid (by rw [hW6]; exact (HE5.out.below hq).put6W K9q (by decide) hne9.out _ _ _ _ _ _)
      have HBo6 := Lib.hid hb6
      have z0 := K9q.frz 0
      have d0 := K9q.at 0 (v := .bool s) rfl
      have z1 := K9q.frz 1
      have d1 := K9q.at 1 (v := .slice A1 k1 c1) rfl
      have z2 := K9q.frz 2
      have d2 := K9q.at 2 (v := .slice A2 k2 c2) rfl
      have z3 := K9q.frz 3
      have d3 := K9q.at 3 (v := .bool fi) rfl
      have z4 := K9q.frz 4
      have d4 := K9q.at 4 (v := .int .i64 fn) rfl
      have z5 := K9q.frz 5
      have d5 := K9q.at 5 (v := .int .i64 fd) rfl
      unfold put6 at hW6
      have HW6 := Lib.hid hW6
      clear hW6 hb6 hp2 K9q hq K9 HE5 HBo5 HI hfi qe0 qe1 qe2
      go_upto_region 13 with (fail)
      rw [← HW6.out]
      clear HW6 z0 z1 z2 z3 z4 z5 d0 d1 d2 d3 d4 d5
     case' neg =>
      have heq := cast_ne hik
      have hfi : Hid (q1 = q0) := Lib.hid (by rw [hq1, if_neg hik])
      clear hik hq1 hq0
      have HQ2 := Lib.hid hq2
      clear hq2
      go_upto_region 13 with (fail)
      obtain ⟨W6, hW6⟩ : ∃ W6, W6 = W5 := ⟨_, rfl⟩
      rw [← hW6] at K9 HE5 HBo5 HI ⊢
      obtain ⟨t, rfl⟩ : ∃ zz, zz = s := ⟨_, rfl⟩
      obtain ⟨C1, rfl⟩ : ∃ zz, zz = A1 := ⟨_, rfl⟩
      obtain ⟨m1, rfl⟩ : ∃ zz, zz = k1 := ⟨_, rfl⟩
      obtain ⟨l1, rfl⟩ : ∃ zz, zz = c1 := ⟨_, rfl⟩
      obtain ⟨C2, rfl⟩ : ∃ zz, zz = A2 := ⟨_, rfl⟩
      obtain ⟨m2, rfl⟩ : ∃ zz, zz = k2 := ⟨_, rfl⟩
      obtain ⟨l2, rfl⟩ : ∃ zz, zz = c2 := ⟨_, rfl⟩
      obtain ⟨fi2, rfl⟩ : ∃ zz, zz = fi := ⟨_, rfl⟩
      obtain ⟨fn2, rfl⟩ : ∃ zz, zz = fn := ⟨_, rfl⟩
      obtain ⟨fd2, rfl⟩ : ∃ zz, zz = fd := ⟨_, rfl⟩
      have HI6 : Hid (IsW W6 q1 5 (.agg #[.bool t, .slice C1 m1 l1, .slice C2 m2 l2, .bool fi2, .int .i64 fn2, .int .i64 fd2])) := Lib.hid (by rw [hfi.out]; exact HI.out.more (by decide))
      have K6 := K9
      have HE6 := HE5
      have HBo6 := HBo5
      clear hW6 K9 HE5 HBo5 HI hfi
     all_goals
      by_cases hkl : k + 1 = n
      case' pos =>
       have heq2 : ((k : Int) == (n : Int) - 1) = true := by simp; omega
       have hfl : Hid (q2 = 1) := Lib.hid (by rw [HQ2.out, if_pos hkl])
       have hkl2 : k + 1 ≤ n := by omega
       clear hkl HQ2
       go_wp2_with fail
       refine (HWO.out _).mono ?_
       rintro e w7 ⟨v, rfl, hv7, hb7⟩
       obtain ⟨t3, D1, i1, b1, D2, i2, b2, fi3, fn3, fd3, nn3, dd3, rfl, hp3⟩ := hv7
       have K7 := K6.out.belowS hb7
       obtain ⟨W8, hW8⟩ : ∃ W8, W8 = put6 w7 g9 (.bool t3) (.slice D1 i1 b1) (.slice D2 i2 b2) (.bool fi3) (.int .i64 fn3) (.int .i64 fd3) := ⟨_, rfl⟩
       have hb8 : Below wo.heap.size wo W8 := by rw [hW8]; exact put6_below (below_next (Nat.le_refl _) HBo6.out hb7) hg9o _ _ _ _ _ _
       have HI8 : Hid (IsW W8 q2 5 (.agg #[.bool t3, .slice D1 i1 b1, .slice D2 i2 b2, .bool fi3, .int .i64 fn3, .int .i64 fd3])) := Lib.hid (by rw [hfl.out, hW8]; exact IsW.more ⟨_, _, _, _, _, _, _, _, _, _, nn3, dd3, rfl, hp3.put6 K7 (by decide) _ _ _ _ _ _⟩ (by decide))
       have K8 : Hid (Blk W8 g9 107 #[.bool t3, .slice D1 i1 b1, .slice D2 i2 b2, .bool fi3, .int .i64 fn3, .int .i64 fd3]) := Lib.hid (by rw [hW8]; exact put6_blk K7 _ _ _ _ _ _)
       have HE8 : Hid (OwnW W8 wo.heap.size (.slice Ae i ce) i (eqS n W k) 5 cs) := Lib.hid (by rw [hW8]; exact (HE6.out.below hb7).put6W K7 (by decide) hne9.out _ _ _ _ _ _)
       have HBo8 := Lib.hid hb8
       have z0 := K7.frz 0
       have d0 := K7.at 0 (v := .bool t) rfl
       have z1 := K7.frz 1
       have d1 := K7.at 1 (v := .slice C1 m1 l1) rfl
       have z2 := K7.frz 2
       have d2 := K7.at 2 (v := .slice C2 m2 l2) rfl
       have z3 := K7.frz 3
       have d3 := K7.at 3 (v := .bool fi2) rfl
       have z4 := K7.frz 4
       have d4 := K7.at 4 (v := .int .i64 fn2) rfl
       have z5 := K7.frz 5
       have d5 := K7.at 5 (v := .int .i64 fd2) rfl
       unfold put6 at hW8
       have HW8 := Lib.hid hW8
       clear hW8 hb8 hp3 hb7 K7 K6 HE6 HBo6 HI6 hfl
       go_upto_region 15 with (fail)
       rw [← HW8.out]
       clear HW8 z0 z1 z2 z3 z4 z5 d0 d1 d2 d3 d4 d5
      case' neg =>
       have heq2 : ((k : Int) == (n : Int) - 1) = false := by simp; omega
       have hfl : Hid (q2 = q1) := Lib.hid (by rw [HQ2.out, if_neg hkl])
       clear HQ2 hkl
       go_upto_region 15 with (fail)
       obtain ⟨W8, hW8⟩ : ∃ W8, W8 = W6 := ⟨_, rfl⟩
       rw [← hW8] at K6 HE6 HBo6 HI6 ⊢
       obtain ⟨t3, rfl⟩ : ∃ zz, zz = t := ⟨_, rfl⟩
       obtain ⟨D1, rfl⟩ : ∃ zz, zz = C1 := ⟨_, rfl⟩
       obtain ⟨i1, rfl⟩ : ∃ zz, zz = m1 := ⟨_, rfl⟩
       obtain ⟨b1, rfl⟩ : ∃ zz, zz = l1 := ⟨_, rfl⟩
       obtain ⟨D2, rfl⟩ : ∃ zz, zz = C2 := ⟨_, rfl⟩
       obtain ⟨i2, rfl⟩ : ∃ zz, zz = m2 := ⟨_, rfl⟩
       obtain ⟨b2, rfl⟩ : ∃ zz, zz = l2 := ⟨_, rfl⟩
       obtain ⟨fi3, rfl⟩ : ∃ zz, zz = fi2 := ⟨_, rfl⟩
       obtain ⟨fn3, rfl⟩ : ∃ zz, zz = fn2 := ⟨_, rfl⟩
       obtain ⟨fd3, rfl⟩ : ∃ zz, zz = fd2 := ⟨_, rfl⟩
       have HI8 : Hid (IsW W8 q2 5 (.agg #[.bool t3, .slice D1 i1 b1, .slice D2 i2 b2, .bool fi3, .int .i64 fn3, .int .i64 fd3])) := Lib.hid (by rw [hfl.out]; exact HI6.out)
       have K8 := K6
       have HE8 := HE6
       have HBo8 := HBo6
       clear hW8 K6 HE6 HBo6 HI6 hfl
     all_goals
      have y0 := K8.out.at 0 (v := .bool t3) rfl
      have y1 := K8.out.at 1 (v := .slice D1 i1 b1) rfl
      have y2 := K8.out.at 2 (v := .slice D2 i2 b2) rfl
      have y3 := K8.out.at 3 (v := .bool fi3) rfl
      have y4 := K8.out.at 4 (v := .int .i64 fn3) rfl
      have y5 := K8.out.at 5 (v := .int .i64 fd3) rfl
      rw [HQE.out] at HI8
      obtain ⟨nn8, dd8, hp8⟩ := HI8.out.parts
      have HNX := Lib.hid (fun (w2 : World) v' ca tt hown hg => OwnW.push (w2 := w2) (v' := v') (ca := ca) (t := tt) (f := eqS n W k) HE8.out (Below.refl _ _) hp8 hown hg)
      unfold six at HNX
      have HOA := Lib.hid (World.ownsRow.alloc HE8.out.row (.cells #[.bool t3, .slice D1 i1 b1, .slice D2 i2 b2, .bool fi3, .int .i64 fn3, .int .i64 fd3] 107))
      have HBN := Lib.hid (fun (w2 : World) (hg : (W8.alloc (.cells #[.bool t3, .slice D1 i1 b1, .slice D2 i2 b2, .bool fi3, .int .i64 fn3, .int .i64 fd3] 107)).grownBy w2 (Value.slice Ae i ce).ownBlock) => (below_next (Nat.le_refl _) HBo8.out ((Below.refl W8.heap.size W8).alloc (Nat.le_refl _) _)).trans (grown_below hg (fun g e => (ownsRow_block HE8.out.row e).choose_spec.2.1) (Nat.le_trans HBo8.out.size ((Below.refl W8.heap.size W8).alloc (Nat.le_refl _) _).size)))
      have hs8 := HBo8.out.size
      clear hp8 HE8 HBo8 HI8 K8
      go_wp2_with (at_builtin; refine wpList_append_own_at _ rfl (.tmp 52) (.tmp 54) 58 rfl wo.heap.size 107 iw (.agg #[.bool false, .slice none 0 0, .slice none 0 0, .bool false, .int .i64 0, .int .i64 0]) 6 80 Tryz.underlying58 wi wz0 wz1 wz2 rfl (by decide) _ _ _ rfl HOA.out ⟨W8.heap.size, 0, none⟩ 1 1 [.bool t3, .slice D1 i1 b1, .slice D2 i2 b2, .bool fi3, .int .i64 fn3, .int .i64 fd3] rfl rfl ?p1a ?p2a ?p3a ?p4a ?p5a ?_)
      try case p1a => exact news_six _ _ (by simp)
      try case p2a => exact ones_six
      try case p3a => first | (simp only [maxLen]; omega) | omega
      try case p4a => omega
      try case p5a => first | (simp only [World.size_alloc]; omega) | omega
      intro v' w9 hown' hg' _ he
      have HN9 : Hid (SyRel n 5 (eqS n W k) wo (.int .i64 ((i : Int) + 1)) v' w9) := Lib.hid ⟨i + 1, _, by simp, hin, Lib.hid (HNX.out w9 v' _ _ hown' hg'), Lib.hid (HBN.out w9 hg')⟩
      clear hown' hg' he HNX HOA HBN y0 y1 y2 y3 y4 y5
      go_wp2
      go_roundw
      case rel => exact HN9.out
      case measure => simp [intOf]; omega
    ·have hie : n ≤ i := by omega
     obtain rfl : i = n := by omega
     have hf0 : eqS i W k i = if k + 1 = i then 1 else 0 := by
      unfold eqS
      split
      ·rfl
      ·first | rfl | rw [if_neg (Nat.lt_irrefl i)]
     have HQE := Lib.hid hf0
     have HWN := Lib.hid (fun W' => wideOf_any vf_nought W')
     rw [qf_nought] at HWN
     have HE3 := Lib.hid (fun W' (hb : Below wr.heap.size wr W') => HE.out.below hb)
     have HBE := Lib.hid (fun W' (hb : Below wr.heap.size wr W') => below_next (Nat.le_refl _) HBo.out hb)
     have hne0 : ∀ b, (Value.slice Ae i ce).ownBlock = some b → b < wr.heap.size := fun b e => by obtain ⟨_, _, _, h⟩ := ownsRow_block HE.out.row e; exact h
     clear hf0 HE HBo hie
     go_wp2_with fail
     refine (zero_any _).mono ?_
     rintro e w3 ⟨rfl, hb3⟩
     have HB3 := Lib.hid hb3
     clear hb3
     go_wp2_with fail
     refine (HWN.out _).mono ?_
     rintro e w4 ⟨v, rfl, hv4, hb4⟩
     obtain ⟨s, A1, k1, c1, A2, k2, c2, fi, fn, fd, nn, dd, rfl, hp4⟩ := hv4
     obtain ⟨W5, hW5⟩ : ∃ W5, W5 = w4.alloc (.cells #[.bool s, .slice A1 k1 c1, .slice A2 k2 c2, .bool fi, .int .i64 fn, .int .i64 fd] 107) := ⟨_, rfl⟩
     obtain ⟨g9, hg9⟩ : ∃ g9, g9 = w4.heap.size := ⟨_, rfl⟩
     have hb5 : Below w4.heap.size w4 W5 := by rw [hW5]; exact (Below.refl _ _).alloc (Nat.le_refl _) _
     have K6 : Hid (Blk W5 g9 107 #[.bool s, .slice A1 k1 c1, .slice A2 k2 c2, .bool fi, .int .i64 fn, .int .i64 fd]) := Lib.hid (by rw [hW5, hg9]; exact Blk.new w4 _ _)
     have hb35 := Base.Below.nextA HB3.out (Base.Below.nextA hb4 hb5)
     have hb34 := (Base.Below.nextA HB3.out hb4).size
     have HE6 := Lib.hid (HE3.out W5 hb35)
     have HBo6 := Lib.hid (HBE.out W5 hb35)
     have HI6 : Hid (IsW W5 0 5 (.agg #[.bool s, .slice A1 k1 c1, .slice A2 k2 c2, .bool fi, .int .i64 fn, .int .i64 fd])) := Lib.hid (IsW.more (IsW.below ⟨_, _, _, _, _, _, _, _, _, _, _, _, rfl, hp4⟩ hb5) (by decide))
     have hg9o : wo.heap.size ≤ g9 := by omega
     have hne9 : Hid (∀ b, (Value.slice Ae i ce).ownBlock = some b → b ≠ g9) := Lib.hid (fun b e => by have := hne0 b e; omega)
     have HW5 := Lib.hid hW5
     have HG9 := Lib.hid hg9
     clear hW5 hg9 hb4 hb5 hb34 hb35 hp4 HE3 HBE HB3 HWN hne0
     go_upto_region 17 with (fail)
     rw [← HW5.out, ← HG9.out]
     clear HW5 HG9
     obtain ⟨q2, hq2⟩ : ∃ q2 : Rat, q2 = (if k + 1 = i then 1 else 0) := ⟨_, rfl⟩
     rw [← hq2] at HQE
     by_cases hkl : k + 1 = i
     case' pos =>
      have heq2 : ((k : Int) == (i : Int) - 1) = true := by simp; omega
      have hfl : Hid (q2 = 1) := Lib.hid (by rw [hq2, if_pos hkl])
      clear hkl hq2
      go_wp2_with fail
      refine (HWO.out _).mono ?_
      rintro e w7 ⟨v, rfl, hv7, hb7⟩
      obtain ⟨t3, D1, i1, b1, D2, i2, b2, fi3, fn3, fd3, nn3, dd3, rfl, hp3⟩ := hv7
      have K7 := K6.out.belowS hb7
      obtain ⟨W8, hW8⟩ : ∃ W8, W8 = put6 w7 g9 (.bool t3) (.slice D1 i1 b1) (.slice D2 i2 b2) (.bool fi3) (.int .i64 fn3) (.int .i64 fd3) := ⟨_, rfl⟩
      have hb8 : Below wo.heap.size wo W8 := by rw [hW8]; exact put6_below (below_next (Nat.le_refl _) HBo6.out hb7) hg9o _ _ _ _ _ _
      have HI8 : Hid (IsW W8 q2 5 (.agg #[.bool t3, .slice D1 i1 b1, .slice D2 i2 b2, .bool fi3, .int .i64 fn3, .int .i64 fd3])) := Lib.hid (by rw [hfl.out, hW8]; exact IsW.more ⟨_, _, _, _, _, _, _, _, _, _, nn3, dd3, rfl, hp3.put6 K7 (by decide) _ _ _ _ _ _⟩ (by decide))
      have K8 : Hid (Blk W8 g9 107 #[.bool t3, .slice D1 i1 b1, .slice D2 i2 b2, .bool fi3, .int .i64 fn3, .int .i64 fd3]) := Lib.hid (by rw [hW8]; exact put6_blk K7 _ _ _ _ _ _)
      have HE8 : Hid (OwnW W8 wo.heap.size (.slice Ae i ce) i (eqS i W k) 5 cs) := Lib.hid (by rw [hW8]; exact (HE6.out.below hb7).put6W K7 (by decide) hne9.out _ _ _ _ _ _)
      have HBo8 := Lib.hid hb8
      have z0 := K7.frz 0
      have d0 := K7.at 0 (v := .bool s) rfl
      have z1 := K7.frz 1
      have d1 := K7.at 1 (v := .slice A1 k1 c1) rfl
      have z2 := K7.frz 2
      have d2 := K7.at 2 (v := .slice A2 k2 c2) rfl
      have z3 := K7.frz 3
      have d3 := K7.at 3 (v := .bool fi) rfl
      have z4 := K7.frz 4
      have d4 := K7.at 4 (v := .int .i64 fn) rfl
      have z5 := K7.frz 5
      have d5 := K7.at 5 (v := .int .i64 fd) rfl
      unfold put6 at hW8
      have HW8 := Lib.hid hW8
      clear hW8 hb8 hp3 hb7 K7 K6 HE6 HBo6 HI6 hfl
      go_upto_region 19 with (fail)
      rw [← HW8.out]
      clear HW8 z0 z1 z2 z3 z4 z5 d0 d1 d2 d3 d4 d5
     case' neg =>
      have heq2 : ((k : Int) == (i : Int) - 1) = false := by simp; omega
      have hfl : Hid (q2 = 0) := Lib.hid (by rw [hq2, if_neg hkl])
      clear hkl hq2
      go_upto_region 19 with (fail)
      obtain ⟨W8, hW8⟩ : ∃ W8, W8 = W5 := ⟨_, rfl⟩
      rw [← hW8] at K6 HE6 HBo6 HI6 ⊢
      obtain ⟨t3, rfl⟩ : ∃ zz, zz = s := ⟨_, rfl⟩
      obtain ⟨D1, rfl⟩ : ∃ zz, zz = A1 := ⟨_, rfl⟩
      obtain ⟨i1, rfl⟩ : ∃ zz, zz = k1 := ⟨_, rfl⟩
      obtain ⟨b1, rfl⟩ : ∃ zz, zz = c1 := ⟨_, rfl⟩
      obtain ⟨D2, rfl⟩ : ∃ zz, zz = A2 := ⟨_, rfl⟩
      obtain ⟨i2, rfl⟩ : ∃ zz, zz = k2 := ⟨_, rfl⟩
      obtain ⟨b2, rfl⟩ : ∃ zz, zz = c2 := ⟨_, rfl⟩
      obtain ⟨fi3, rfl⟩ : ∃ zz, zz = fi := ⟨_, rfl⟩
      obtain ⟨fn3, rfl⟩ : ∃ zz, zz = fn := ⟨_, rfl⟩
      obtain ⟨fd3, rfl⟩ : ∃ zz, zz = fd := ⟨_, rfl⟩
      have HI8 : Hid (IsW W8 q2 5 (.agg #[.bool t3, .slice D1 i1 b1, .slice D2 i2 b2, .bool fi3, .int .i64 fn3, .int .i64 fd3])) := Lib.hid (by rw [hfl.out]; exact HI6.out)
      have K8 := K6
      have HE8 := HE6
      have HBo8 := HBo6
      clear hW8 K6 HE6 HBo6 HI6 hfl
     all_goals
      have y0 := K8.out.at 0 (v := .bool t3) rfl
      have y1 := K8.out.at 1 (v := .slice D1 i1 b1) rfl
      have y2 := K8.out.at 2 (v := .slice D2 i2 b2) rfl
      have y3 := K8.out.at 3 (v := .bool fi3) rfl
      have y4 := K8.out.at 4 (v := .int .i64 fn3) rfl
      have y5 := K8.out.at 5 (v := .int .i64 fd3) rfl
      rw [← HQE.out] at HI8
      obtain ⟨nn8, dd8, hp8⟩ := HI8.out.parts
      have HNX := Lib.hid (fun (w2 : World) v' ca tt hown hg => OwnW.push (w2 := w2) (v' := v') (ca := ca) (t := tt) (f := eqS i W k) HE8.out (Below.refl _ _) hp8 hown hg)
      unfold six at HNX
      have HOA := Lib.hid (World.ownsRow.alloc HE8.out.row (.cells #[.bool t3, .slice D1 i1 b1, .slice D2 i2 b2, .bool fi3, .int .i64 fn3, .int .i64 fd3] 107))
      have HBN := Lib.hid (fun (w2 : World) (hg : (W8.alloc (.cells #[.bool t3, .slice D1 i1 b1, .slice D2 i2 b2, .bool fi3, .int .i64 fn3, .int .i64 fd3] 107)).grownBy w2 (Value.slice Ae i ce).ownBlock) => (below_next (Nat.le_refl _) HBo8.out ((Below.refl W8.heap.size W8).alloc (Nat.le_refl _) _)).trans (grown_below hg (fun g e => (ownsRow_block HE8.out.row e).choose_spec.2.1) (Nat.le_trans HBo8.out.size ((Below.refl W8.heap.size W8).alloc (Nat.le_refl _) _).size)))
      have hs8 := HBo8.out.size
      clear hp8 HE8 HBo8 HI8 K8
      go_wp2_with (at_builtin; refine wpList_append_own_at _ rfl (.tmp 65) (.tmp 67) 58 rfl wo.heap.size 107 iw (.agg #[.bool false, .slice none 0 0, .slice none 0 0, .bool false, .int .i64 0, .int .i64 0]) 6 80 Tryz.underlying58 wi wz0 wz1 wz2 rfl (by decide) _ _ _ rfl HOA.out ⟨W8.heap.size, 0, none⟩ 1 1 [.bool t3, .slice D1 i1 b1, .slice D2 i2 b2, .bool fi3, .int .i64 fn3, .int .i64 fd3] rfl rfl ?p1b ?p2b ?p3b ?p4b ?p5b ?_)
      try case p1b => exact news_six _ _ (by simp)
      try case p2b => exact ones_six
      try case p3b => first | (simp only [maxLen]; omega) | omega
      try case p4b => omega
      try case p5b => first | (simp only [World.size_alloc]; omega) | omega
      intro v' w9 hown' hg' _ he
      have hF9 := HNX.out w9 v' _ _ hown' hg'
      have hb9 := HBN.out w9 hg'
      obtain ⟨Ar, cr, rfl, hAr⟩ := hF9.form
      obtain ⟨gr, rfl, hgr, _⟩ := hAr (Nat.succ_pos i)
      obtain ⟨cur, hcur⟩ := hF9.toV
      have HP := Lib.hid (fun (w2 : World) v'' ca tt hown hg => OwnWW.push (w2 := w2) (v' := v'') (c := cr) (ca := ca) (t := tt) HO.out hb9 hcur hgr HB.out.size hown hg)
      have HOB := Lib.hid (World.ownsRow.alloc (ownsRow_below HO.out.row hb9) (.cells #[.slice (some ⟨gr, 0, none⟩) (i + 1) cr] 58))
      have HBB := Lib.hid (fun (w2 : World) (hg : (w9.alloc (.cells #[.slice (some ⟨gr, 0, none⟩) (i + 1) cr] 58)).grownBy w2 (Value.slice Al k cl).ownBlock) => (below_next (Nat.le_refl _) HB.out (hb9.alloc hb9.size _)).trans (grown_below hg (fun g e => (ownsRow_block HO.out.row e).choose_spec.2.1) (Nat.le_trans HB.out.size (hb9.alloc hb9.size _).size)))
      have hs9 := hb9.size
      clear hown' hg' he HNX HOA HBN y0 y1 y2 y3 y4 y5 hF9 hb9 hAr hgr hcur HB HO
      go_wp2_with (at_builtin; refine wpList_append_own_at _ rfl (.tmp 64) (.tmp 69) 105 rfl w.heap.size 58 iv (.slice none 0 0) 1 24 Tryz.underlying105 vi vz0 vz1 vz2 rfl (by decide) _ _ _ rfl HOB.out ⟨w9.heap.size, 0, none⟩ 1 1 [.slice (some ⟨gr, 0, none⟩) (i + 1) cr] rfl rfl ?p1c ?p2c ?p3c ?p4c ?p5c ?_)
      try case p1c => exact news_one _ _ _ (by simp)
      try case p2c => first | exact one_slice | (intro u hu; simp at hu; subst hu; rfl)
      try case p3c => first | (simp only [maxLen]; omega) | omega
      try case p4c => omega
      try case p5c => first | (simp only [World.size_alloc]; omega) | omega
      intro v'' wA hown' hg' _ _
      have HNA : Hid (SsRel i W w (.int .i64 ((k : Int) + 1)) v'' wA) := Lib.hid ⟨k + 1, _, by simp, hkn, Lib.hid (HP.out wA v'' _ _ hown' hg'), Lib.hid (HBB.out wA hg')⟩
      clear hown' hg' HP HOB HBB
      go_wp2
      go_roundw
      case rel => exact HNA.out
      case measure => simp [intOf]; omega
  ·obtain rfl : k = n := by omega
   obtain ⟨gL, rfl, _, _⟩ := hAl (by omega)
   obtain ⟨gs, cp, cm, css, hmat⟩ := HO.out.mat
   have HSV := Lib.hid (solveS_any (c0 := cl) wr hmat h1 h6 HD.out)
   have HB6 := HB
   clear hmat HO HB HD hAl
   go_wp2_with fail
   refine HSV.out.mono ?_
   rintro e w7 ⟨v, cs7, rfl, ho7, hb7⟩
   have HF : Hid (SwRet (eqS k W) k (mD 6) w (.returned (.tuple #[v, .bool (solB (eqS k W) k k)])) w7) := Lib.hid ⟨v, cs7, rfl, ho7.base HB6.out.size, below_next (Nat.le_refl _) HB6.out hb7⟩
   clear ho7 hb7 HSV HB6
   generalize solB (eqS k W) k k = ok at *
   go_wp2
   go_ret2
   exact HF.out
end Go.Proofs.YthagenodiofgnaaGreat.Wide
namespace Go.Proofs.YthagenodiofgnaaGreat.Wide
open Go.RowKit Go.Proofs.YthagenodiofgnaaGreat Go.Proofs.YthagenodiofgnaaGreat.Base Go.Proofs.YthagenodiofgnaaGreat.Mem Go.Proofs.YthagenodiofgnaaGreat.MemF Go.Proofs.YthagenodiofgnaaGreat.RatM Go.Proofs.YthagenodiofgnaaGreat.BigM Go.Proofs.YthagenodiofgnaaGreat.Big Go.Proofs.YthagenodiofgnaaGreat.Fine Go.Proofs.YthagenodiofgnaaGreat.Blk Go.Proofs.YthagenodiofgnaaGreat.GaussM Go.Proofs.YthagenodiofgnaaGreat.WalkM Go.Proofs.YthagenodiofgnaaGreat.ChM Go.Proofs.YthagenodiofgnaaGreat.GiveM
open Go.Proofs.YthagenodiofgnaaGreat.Ratio (below_next cast_ne eqS eqI solB solX sN stN stR stO stV stX wQ st_no st_yes wk_all)
set_option linter.unusedVariables false
theorem RdFF.congrL {w : World} {B n : Nat} {A : Option Addr} {L L' : Nat → Nat} {fs : Nat → List Int} (h : RdFF w B A n L fs) (hL : ∀ i, i < n → L i = L' i) : RdFF w B A n L' fs := fun h0 => by
 obtain ⟨b, off, e, hlt, hc⟩ := h h0
 refine ⟨b, off, e, hlt, fun i hi => ?_⟩
 rw [← hL i hi]
 exact hc i hi
theorem mD6 : mD 6 ≤ 400000 := by decide
end Go.Proofs.YthagenodiofgnaaGreat.Wide
namespace Go.Proofs.YthagenodiofgnaaGreat.ComS
open Go.RowKit Go.Proofs.YthagenodiofgnaaGreat Go.Proofs.YthagenodiofgnaaGreat.Base Go.Proofs.YthagenodiofgnaaGreat.Mem Go.Proofs.YthagenodiofgnaaGreat.BigM Go.Proofs.YthagenodiofgnaaGreat.Big Go.Proofs.YthagenodiofgnaaGreat.Blk Go.Proofs.YthagenodiofgnaaGreat.MemF Go.Proofs.YthagenodiofgnaaGreat.ChM Go.Proofs.YthagenodiofgnaaGreat.ComM Go.Proofs.YthagenodiofgnaaGreat.RatM Go.Proofs.YthagenodiofgnaaGreat.WalkM Go.Proofs.YthagenodiofgnaaGreat.GiveM Go.Proofs.YthagenodiofgnaaGreat.Wide Go.Proofs.YthagenodiofgnaaGreat.Ratio
open Go.Proofs.YthagenodiofgnaaGreat.ValF (vfB vfB_true validS_any)
set_option linter.unusedVariables false
theorem infoBB : (Tryz.prog.info? 62).map (fun i => (i.zero, i.size, i.bytes)) = some (some (.slice none 0 0), 1, 24) := by kernel_rfl
theorem qf_over (x y : Nat) : qf (x : Int) (y : Int) = over x y := by
 unfold qf
 rw [decide_eq_false (by omega), Int.natAbs_natCast, Int.toNat_natCast]
 rfl
theorem un_den (fs : Nat → List Int) (n k t : Nat) : denT (unF n k) fs n t = dA fs n ^ t := by
 unfold denT
 rw [un_comD (Nat.le_refl n), Nat.one_mul]
noncomputable def nearK (n : Nat) (fs : Nat → List Int) (x y : Int) (t k : Nat) : Bool := (List.range k).all fun k => decide (mxD n fs k t ≤ qf x y)
theorem nearK_next (n : Nat) (fs : Nat → List Int) (x y : Int) (t k : Nat) : nearK n fs x y t (k + 1) = (nearK n fs x y t k && decide (mxD n fs k t ≤ qf x y)) := by
 unfold nearK
 rw [List.range_succ, List.all_append]
 simp
def BsRel (n : Nat) (w : World) (kv lv : Value) (wr : World) : Prop :=
 ∃ (k : Nat) (us : List Value), kv = .int .i64 (k : Int) ∧ k ≤ n ∧ Hid (OwnBB wr w.heap.size lv k n (fun k => v0 (unF n k) n) us) ∧ Hid (Below w.heap.size w wr)
def MsRel (n : Nat) (fs : Nat → List Int) (C : Nat → Bool) (R : Int) (ok : Bool) (gL cL : Nat) (w : World) (sv dv : Value) (wr : World) : Prop :=
 ∃ (t m : Nat) (us : List Value) (A : Option Addr) (c : Nat), sv = .int .i64 (t : Int) ∧ t + m = 31 ∧ dv = .slice A (bigL (dA fs n ^ t)).length c ∧ Hid (IsB wr (dA fs n ^ t) (.slice A (bigL (dA fs n ^ t)).length c)) ∧ Hid (OwnBB wr w.heap.size (.slice (some ⟨gL, 0, none⟩) n cL) n n (fun k => vT (unF n k) fs n t) us) ∧ Hid (Below w.heap.size w wr) ∧ Hid (mxT C m t = (R, ok))
def NsRel (n : Nat) (fs : Nat → List Int) (x y : Int) (t : Nat) (w : World) (kv bv : Value) (wr : World) : Prop :=
 ∃ (k : Nat) (b : Bool), kv = .int .i64 (k : Int) ∧ k ≤ n ∧ bv = .bool b ∧ Hid (b = nearK n fs x y t k) ∧ Hid (Below w.heap.size w wr)
def vG (n : Nat) (fs : Nat → List Int) (t k : Nat) : Nat → Nat → Nat := fun i => if i < k then vT (unF n i) fs n (t + 1) else vT (unF n i) fs n t
def OsRel (n : Nat) (fs : Nat → List Int) (t gL cL : Nat) (Ad : Option Addr) (cd : Nat) (w : World) (kv : Value) (wr : World) : Prop :=
 ∃ (k : Nat) (us : List Value), kv = .int .i64 (k : Int) ∧ k ≤ n ∧ Hid (OwnBB wr w.heap.size (.slice (some ⟨gL, 0, none⟩) n cL) n n (vG n fs t k) us) ∧ Hid (IsB wr (dA fs n ^ t) (.slice Ad (bigL (dA fs n ^ t)).length cd)) ∧ Hid (Below w.heap.size w wr)
set_option maxHeartbeats 4000000 in
set_option maxRecDepth 100000 in
theorem mixS_any {A : Option Addr} {c B n : Nat} {L : Nat → Nat} {fs : Nat → List Int} {x y : Int} (w : World) (hx : RdFF w B A n L fs) (hB : B ≤ w.heap.size) (hL : ∀ i, i < n → L i ≤ 1048576) (hl : ∀ i, i < n → (fs i).length = 2 * L i) (hn : n ≤ 1048576) :
  Calls Tryz.prog 6 #[.agg #[.slice A n c], .agg #[.int .i64 x, .int .i64 y]] w fun e w' => e = .returned (.tuple #[.int .i64 (mxQ n L fs x y), .bool (mxO n L fs x y)]) ∧ Below w.heap.size w w' := by
 obtain ⟨ib, bi, bz0, bz1, bz2⟩ := info_parts infoBB
 obtain ⟨W0, hW0⟩ : ∃ W0, W0 = (w.alloc (.cells #[.slice A n c] 32)).alloc (.cells #[.int .i64 x, .int .i64 y] 34) := ⟨_, rfl⟩
 have hb0 : Below w.heap.size w W0 := by rw [hW0]; exact ((Below.refl _ _).alloc (Nat.le_refl _) _).alloc (by simp) _
 have K0 : Hid (Blk W0 w.heap.size 32 #[.slice A n c]) := Lib.hid (by rw [hW0]; exact (Blk.new w _ _).alloc _)
 have K3 : Hid (Blk W0 (w.heap.size + 1) 34 #[.int .i64 x, .int .i64 y]) := Lib.hid (by rw [hW0]; exact Blk.newAt _ _ (by simp))
 have HX0 := Lib.hid ((hx.below hb0 hB).more (Nat.le_trans hB hb0.size))
 have HV := Lib.hid (walkS_any W0 (K0.out.at 0 (v := .slice A n c) rfl) K0.out.lt HX0.out (Nat.le_refl _) (fun i hi => by have := hL i hi; omega) (by omega))
 have HVA := Lib.hid (fun W' => validS_any x y W')
 have HB0 := Lib.hid hb0
 have HW0 := Lib.hid hW0
 have HLL := Lib.hid hl
 clear hx hb0 hW0 hL hl
 cases hv : wkB n L fs with
 | false =>
  have HEE := Lib.hid (mx_no (n := n) (L := L) (fs := fs) (x := x) (y := y) (by unfold mxB stO stV; rw [hv]; simp))
  rw [hv] at HV
  clear hv
  go_enter Tryz.func6, Tryz.ntmps6
  go_wp2_with fail
  rw [← HW0.out]
  refine HV.out.mono ?_
  rintro e w1 ⟨rfl, hb1⟩
  have HBZ := Lib.hid (Base.Below.nextA HB0.out hb1)
  clear hb1
  go_wp2
  go_ret2
  exact ⟨by rw [HEE.out.1, HEE.out.2]; rfl, HBZ.out⟩
 | true =>
  rw [hv] at HV
  have HVB := Lib.hid hv
  obtain ⟨hn1, hn6, hLn, hfs, hsum, hdg⟩ := wk_all hv
  have HSE := Lib.hid (fun W (h : Below W0.heap.size W0 W) => settledS_any (c := c) W ((K0.out.belowS h).at 0 (v := .slice A n c) rfl) (K0.out.belowS h).lt (RdFF.congrL (L' := fun _ => n) (HX0.out.below h (Nat.le_refl _)) hLn) h.size hn1 hn6 hfs hdg)
  have hp2 : ∀ i k, i < n → k < n → 0 ≤ (fs i).getD (2 * k) 0 := fun i k hi hk => chB_pos ((wkB_true hv).2.2 i hi).2 k hk
  have hl2 : ∀ i, i < n → (fs i).length = 2 * n := fun i hi => by rw [HLL.out i hi, hLn i hi]
  have HAL := Lib.hid (fun W (h : Below W0.heap.size W0 W) => allS_any W ((K0.out.belowS h).at 0 (v := .slice A n c) rfl) (K0.out.belowS h).lt (HX0.out.below h (Nat.le_refl _)) h.size hLn HLL.out (by omega) hfs hp2)
  have HOK := Lib.hid (fun k => runOk hn1 hn6 (un_vf n k) (fun i hi => un_pos hi) hfs hp2 hl2)
  clear hv hLn hfs hsum hdg hp2 hl2
  cases hvf : vfB x y with
  | false =>
   have HEE := Lib.hid (mx_no (n := n) (L := L) (fs := fs) (x := x) (y := y) (by unfold mxB; rw [hvf]; rfl))
   rw [hvf] at HVA
   clear hvf
   go_enter Tryz.func6, Tryz.ntmps6
   go_wp2_with fail
   rw [← HW0.out]
   refine HV.out.mono ?_
   rintro e w1 ⟨rfl, hb1⟩
   have HW1 := Lib.hid hb1
   have x0 := (K3.out.belowS hb1).at 0 (v := .int .i64 x) rfl
   have x1 := (K3.out.belowS hb1).at 1 (v := .int .i64 y) rfl
   clear hb1
   go_wp2_with fail
   refine (HVA.out _).mono ?_
   rintro e w2 ⟨rfl, hb2⟩
   have HBZ := Lib.hid (Base.Below.nextA HB0.out (Base.Below.nextA HW1.out hb2))
   clear hb2 x0 x1
   go_wp2
   go_ret2
   exact ⟨by rw [HEE.out.1, HEE.out.2]; rfl, HBZ.out⟩
  | true =>
   rw [hvf] at HVA
   have HVF := Lib.hid (vfB_true.1 hvf)
   have HVFB := Lib.hid hvf
   clear hvf
   go_enter Tryz.func6, Tryz.ntmps6
   go_wp2_with fail
   rw [← HW0.out]
   refine HV.out.mono ?_
   rintro e w1 ⟨rfl, hb1⟩
   have HW1 := Lib.hid hb1
   have x0 := (K3.out.belowS hb1).at 0 (v := .int .i64 x) rfl
   have x1 := (K3.out.belowS hb1).at 1 (v := .int .i64 y) rfl
   clear hb1
   go_wp2_with fail
   refine (HVA.out _).mono ?_
   rintro e w2 ⟨rfl, hb2⟩
   have HW2 := Lib.hid (Base.Below.nextA HW1.out hb2)
   have HS2 := Lib.hid (HSE.out w2 HW2.out)
   clear hb2 x0 x1 HSE HV HVA HW1
   go_wp2_with fail
   refine HS2.out.mono ?_
   rintro e w3 ⟨v, cs, rfl, ho, hb3⟩
   rw [show (fun i => fq (fs i)) = wQ fs from rfl] at ho ⊢
   have HW3 := Lib.hid (Base.Below.nextA HW2.out hb3)
   cases hsb : solB (eqS n (wQ fs)) n n with
   | false =>
    have HEE := Lib.hid (mx_no (n := n) (L := L) (fs := fs) (x := x) (y := y) (by unfold mxB stO stV; rw [HVB.out, hsb]; simp))
    have HBZ := Lib.hid (Base.Below.nextA HB0.out HW3.out)
    clear hsb ho hb3 HS2
    go_wp2
    go_ret2
    exact ⟨by rw [HEE.out.1, HEE.out.2]; rfl, HBZ.out⟩
   | true =>
    have hsn : sN (eqS n (wQ fs)) n n = n := by
     unfold sN
     rw [hsb, if_pos rfl]
    rw [hsn] at ho
    have hsv : stV n L fs = true := by unfold stV; rw [HVB.out, hsb]; rfl
    obtain ⟨A4, c4, rfl, _⟩ := ho.form
    have HF := Lib.hid (giveS_any w3 (ho.base (Nat.zero_le _)) mD6 (show n ≤ 1000 by omega))
    rw [show solX (eqS n (wQ fs)) n n = stX n fs from rfl] at HF
    clear hsb ho hb3 HS2 hsn
    go_wp2_with fail
    refine HF.out.mono ?_
    rintro e w4 ⟨A6, c6, rfl, ho6, hb6⟩
    have HW4 := Lib.hid (Base.Below.nextA HW3.out hb6)
    cases hso : smallAll (stX n fs) n with
    | false =>
     have HEE := Lib.hid (mx_no (n := n) (L := L) (fs := fs) (x := x) (y := y) (by unfold mxB stO; rw [hsv, if_pos rfl, hso, Bool.and_false]))
     have HBZ := Lib.hid (Base.Below.nextA HB0.out HW4.out)
     clear hso hsv ho6 hb6 HF
     go_wp2
     go_ret2
     exact ⟨by rw [HEE.out.1, HEE.out.2]; rfl, HBZ.out⟩
    | true =>
     have hgn : gN (stX n fs) n = n := by unfold gN; rw [hso]; rfl
     have hgr : gR (stX n fs) n = outF (stX n fs) n := by unfold gR; rw [hso]; rfl
     rw [hgn, hgr] at ho6
     rw [hgn]
     obtain ⟨hvo, hfo⟩ := outF_vf hso
     have hpo : ∀ i, i < n → 0 ≤ (outF (stX n fs) n).getD (2 * i) 0 := fun i hi => by
      obtain ⟨g1, _, _⟩ := (hvo i hi).num
      have h1 := stX_pos hsv i hi
      rw [← hfo i hi] at h1
      have h2 := Rat.num_nonneg.2 h1
      rw [show (fq (outF (stX n fs) n) i).num = (outF (stX n fs) n).getD (2 * i) 0 from g1] at h2
      exact h2
     have HEE := Lib.hid (mx_yes (n := n) (L := L) (fs := fs) (x := x) (y := y) (by unfold mxB stO; rw [HVFB.out, hsv, if_pos rfl, hso]; rfl))
     have HCM := Lib.hid (fun W (h : Below w4.heap.size w4 W) => comS_any (c := c6) W (ho6.rd.below h (Nat.le_refl _)) h.size hvo hpo (show n ≤ 1000 by omega))
     have hcv : ∀ i, i < n → over (comN (outF (stX n fs) n) n i) (comD (outF (stX n fs) n) n) = stX n fs i := fun i hi => by
      rw [← hfo i hi]; exact com_val hvo (hpo i hi) hi
     have hcd := comD_pos hvo
     have hcl : ∀ i, i < n → comN (outF (stX n fs) n) n i < D30 ^ W24 := fun i hi => lt_more (lt_pow (k := 15) (Nat.le_trans (comN_len hvo hi) (by omega))) (by decide)
     have hcl2 : comD (outF (stX n fs) n) n < D30 ^ W24 := lt_more (lt_pow (k := 15) (Nat.le_trans (comD_len hvo) (by omega))) (by decide)
     clear hso hsv ho6 hb6 HF hgn hgr hvo hfo hpo HVFB HVB
     have x0 := (K3.out.belowS HW4.out).at 0 (v := .int .i64 x) rfl
     by_cases hx0 : x < 0
     ·have hC := mxC_neg (fs := fs) hn1 HVF.out hx0
      rw [mxT_none hC] at HEE
      have HBZ := Lib.hid (Base.Below.nextA HB0.out HW4.out)
      clear hC
      go_wp2
      go_ret2
      exact ⟨by rw [HEE.out.1, HEE.out.2]; rfl, HBZ.out⟩
     ·obtain ⟨xn, rfl⟩ : ∃ z : Nat, x = (z : Int) := ⟨x.toNat, by omega⟩
      obtain ⟨yn, rfl⟩ : ∃ z : Nat, y = (z : Int) := ⟨y.toNat, by have := HVF.out.1; omega⟩
      generalize comN (outF (stX n fs) n) n = T at *
      generalize comD (outF (stX n fs) n) n = E at *
      have hxn : xn ≤ 1000000000000000000 := by have := HVF.out.2.2.2.1; omega
      have hyn : yn ≤ 1000000000000000000 := by have := HVF.out.2.1; omega
      have hyp : 0 < yn := by have := HVF.out.1; omega
      have HCI := Lib.hid (fun k t (hk : k < n) => close_iff (x := xn) (n := n) (v := vT (unF n k) fs n t) (T := T) (f := mxP n fs k t) (g := stX n fs) (HOK.out k |>.pos t) hcd hyp (fun i hi => (HOK.out k).val t i hi) hcv)
      have HCL := Lib.hid (And.intro hcl hcl2)
      clear hcv hcl hcl2
      go_wp2_with fail
      refine (HAL.out _ HW4.out).mono ?_
      rintro e w5 ⟨A5, c5, us5, u5, rfl, ho5, hu5, hb5⟩
      obtain ⟨A7, c7, rfl, _⟩ := Dig.form hu5
      have HW5 := Lib.hid (Base.Below.nextA HW4.out hb5)
      have HO5 : Hid (OwnB w5 w4.heap.size (.slice A5 (n * n) c5) (n * n) (rN fs n) us5) := Lib.hid ho5
      have HU5 : Hid (IsB w5 (dA fs n) (.slice A7 (bigL (dA fs n)).length c7)) := Lib.hid hu5
      have HC5 := Lib.hid (HCM.out w5 hb5)
      have hLA : (bigL (comD (catF fs n) (n * n))).length = (bigL (dA fs n)).length := rfl
      rw [hLA]
      clear ho5 hu5 hb5 HAL HCM x0 hLA
      go_wp2_with fail
      refine HC5.out.mono ?_
      rintro e w6 ⟨A8, c8, us8, u8, rfl, ho8, hu8, hb8⟩
      obtain ⟨A9, c9, rfl, _⟩ := Dig.form hu8
      have HW6 := Lib.hid (Base.Below.nextA HW5.out hb8)
      have HO6 := Lib.hid (HO5.out.below hb8)
      have HU6 := Lib.hid (HU5.out.below hb8)
      have HT6 := Lib.hid ho8
      have HE6 := Lib.hid hu8
      have K36 := Lib.hid (K3.out.belowS HW6.out)
      clear ho8 hu8 hb8 HC5 HO5 HU5
      have hmk := run_make_row' (P := Tryz.prog) 62 64 (.slice none 0 0) 24 Tryz.underlying62 infoBg rfl .i64 .i64 n (by omega) (by omega)
      have H0 : Hid (BsRel n w6 (.int .i64 0) (.slice (some ⟨w6.heap.size, 0, none⟩) 0 0) (w6.alloc (.cells #[] 62))) := Lib.hid ⟨0, [], rfl, Nat.zero_le _, Lib.hid (OwnBB.lit0 w6 _ _), Lib.hid ((Below.refl _ _).alloc (Nat.le_refl _) _)⟩
      go_wp2
      go_loopw [15, 14] (fun kv lv wr => BsRel n w6 kv lv wr) (fun kv _ _ => n - (intOf kv).toNat)
      case atStart => exact H0.out
      case round =>
       obtain ⟨k, us, rfl, hk, HO, HB⟩ := hrel
       clear H0
       obtain ⟨Al, cl, hlv, hAl⟩ := HO.out.form
       subst hlv
       by_cases hkn : k < n
       ·have hkn2 : (k : Int) < (n : Int) := by omega
        go_wp2_with fail
        obtain ⟨W7, hW7⟩ : ∃ W7, W7 = wr.alloc (.cells (madeCells #[.slice none 0 0] n) 64) := ⟨_, rfl⟩
        rw [← hW7]
        obtain ⟨g, hg⟩ : ∃ g, g = wr.heap.size := ⟨_, rfl⟩
        rw [← hg]
        have K7 : Blk W7 g 64 (madeCells #[.slice none 0 0] n) := by rw [hW7, hg]; exact Blk.new wr _ _
        have hb7 : Below wr.heap.size wr W7 := by rw [hW7]; exact (Below.refl _ _).alloc (Nat.le_refl _) _
        have HB7 := Lib.hid hb7
        have HK7 := Lib.hid K7
        have hs1 := HB.out.size
        clear K7 hb7 hW7
        refine (bigOf_any 1 (by decide) _).mono ?_
        rintro e w8 ⟨u, rfl, hu, hb8⟩
        have K8 := HK7.out.belowS hb8
        obtain ⟨usr, hrow⟩ := unit_row (B := w6.heap.size) K8 (by omega) (by omega) hkn hu
        obtain ⟨Au, cu, rfl, _⟩ := Dig.form hu
        have z0 := K8.frz k
        have d0 := K8.at k (v := .slice none 0 0) (by rw [← Array.getElem?_toList, toList_madeCells_one]; simp [hkn])
        obtain ⟨W9, hW9⟩ : ∃ W9, W9 = w8.setCell ⟨g, k, none⟩ (.slice Au (bigL 1).length cu) := ⟨_, rfl⟩
        have hb9 : Below wr.heap.size wr W9 := by rw [hW9]; exact (Base.Below.nextA HB7.out hb8).setCell (p := ⟨g, k, none⟩) (by simp only; omega) _
        have hrow9 : OwnB W9 w6.heap.size (.slice (some ⟨g, 0, none⟩) n n) n (v0 (unF n k) n) usr := by rw [hW9]; exact hrow.congr (fun i hi => (un_comN hi).symm)
        have HW9 := Lib.hid hW9
        have HP := Lib.hid (fun (w2 : World) v'' ca tt hown hgr => OwnBB.push (M := fun k => v0 (unF n k) n) (w2 := w2) (v' := v'') (ca := ca) (t := tt) HO.out hb9 hrow9 hown hgr)
        have HOB := Lib.hid (World.ownsRow.alloc (ownsRow_below HO.out.row hb9) (.cells #[.slice (some ⟨g, 0, none⟩) n n] 62))
        have HBB := Lib.hid (fun (w2 : World) (hg : (W9.alloc (.cells #[.slice (some ⟨g, 0, none⟩) n n] 62)).grownBy w2 (Value.slice Al k cl).ownBlock) => (Go.Proofs.YthagenodiofgnaaGreat.Ratio.below_next (Nat.le_refl _) HB.out (hb9.alloc hb9.size _)).trans (grown_below hg (fun g e => (ownsRow_block HO.out.row e).choose_spec.2.1) (Nat.le_trans HB.out.size (hb9.alloc hb9.size _).size)))
        have hs9 := hb9.size
        clear hu hb8 K8 hrow hW9 hb9 hrow9 HB7 HK7 HO HB hg
        generalize (bigL 1).length = l1 at *
        go_upto_region 19 with (fail)
        rw [← HW9.out]
        clear HW9 z0 d0
        go_wp2_with (at_builtin; refine wpList_append_own_at _ rfl (.tmp 68) (.tmp 70) 68 rfl w6.heap.size 62 ib (.slice none 0 0) 1 24 Tryz.underlying68 bi bz0 bz1 bz2 rfl (by decide) _ _ _ rfl HOB.out ⟨W9.heap.size, 0, none⟩ 1 1 [.slice (some ⟨g, 0, none⟩) n n] rfl rfl ?p1a ?p2a ?p3a ?p4a ?p5a ?_)
        try case p1a => exact news_one _ _ _ (by simp)
        try case p2a => first | exact one_slice | (intro u hu; simp at hu; subst hu; rfl)
        try case p3a => first | (simp only [maxLen]; omega) | omega
        try case p4a => omega
        try case p5a => first | (simp only [World.size_alloc]; omega) | omega
        intro v'' wC hown' hg' _ _
        have HN5 : Hid (BsRel n w6 (.int .i64 ((k : Int) + 1)) v'' wC) := Lib.hid ⟨k + 1, _, by simp, hkn, Lib.hid (HP.out wC v'' _ _ hown' hg'), Lib.hid (HBB.out wC hg')⟩
        clear hown' hg' HP HOB HBB
        go_wp2
        go_roundw
        case rel => exact HN5.out
        case measure => simp [intOf]; omega
       ·obtain rfl : n = k := by omega
        obtain ⟨gL, rfl, _, _⟩ := hAl (by omega)
        clear hmk hAl
        obtain ⟨C, hC⟩ : ∃ C, C = mxC n fs (xn : Int) (yn : Int) := ⟨_, rfl⟩
        rw [← hC] at HEE
        obtain ⟨R, ok, hRT⟩ : ∃ R ok, mxT C 31 0 = (R, ok) := ⟨_, _, rfl⟩
        rw [hRT] at HEE
        have HC := Lib.hid hC
        have HRT := Lib.hid hRT
        clear hC hRT
        go_wp2_with fail
        refine (bigOf_any 1 (by decide) _).mono ?_
        rintro e w7 ⟨u, rfl, hu, hb7⟩
        obtain ⟨Au, cu, rfl, _⟩ := Dig.form hu
        have e1 : dA fs n ^ 0 = 1 := Nat.pow_zero _
        have H1 : Hid (MsRel n fs C R ok gL cl w6 (.int .i64 0) (.slice Au (bigL 1).length cu) w7) := Lib.hid ⟨0, 31, us, Au, cu, rfl, rfl, by rw [e1], Lib.hid (by rw [e1]; exact hu), Lib.hid (HO.out.below hb7), Lib.hid (Base.Below.nextA HB.out hb7), HRT⟩
        clear hu hb7 HO HB HRT e1
        generalize (bigL 1).length = l1 at *
        go_wp2
        go_loopw [18, 17] (fun sv dv w2 => MsRel n fs C R ok gL cl w6 sv dv w2) (fun sv _ _ => 31 - (intOf sv).toNat)
        case atStart => exact H1.out
        case round =>
         obtain ⟨t, m, us, Ad, cd, rfl, htm, rfl, HD, HM, HB, HT⟩ := hrel
         clear H1
         by_cases ht : t ≤ 30
         ·have ht2 : (t : Int) ≤ 30 := by omega
          obtain ⟨m', rfl⟩ : ∃ m', m = m' + 1 := ⟨m - 1, by omega⟩
          obtain ⟨wo, rfl⟩ : ∃ wo : World, wo = wr := ⟨_, rfl⟩
          have H2 : Hid (NsRel n fs (xn : Int) (yn : Int) t wo (.int .i64 0) (.bool true) wo) := Lib.hid ⟨0, true, rfl, Nat.zero_le _, rfl, Lib.hid rfl, Lib.hid (Below.refl _ _)⟩
          have hdl : dA fs n ^ t < D30 ^ W24 := by have := (HOK.out 0).dlt t ht; rwa [un_den] at this
          have HCS := Lib.hid (fun k (hk : k < n) W (hb : Below wo.heap.size wo W) A1 c1 us1 (hr : OwnB W w6.heap.size (.slice A1 n c1) n (vT (unF n k) fs n t) us1) => closeS_any (a := W24) (c := c1) (c' := c8) (x := xn) (y := yn) W hr (HD.out.below hb) (HT6.out.below (Base.Below.nextA HB.out hb)) (HE6.out.below (Base.Below.nextA HB.out hb)) (show n ≤ 100 by omega) hxn hyn (fun i hi => (HOK.out k).vlt t i ht hi) HCL.out.1 hdl HCL.out.2 (by decide))
          have HCD : Hid (∀ k, k < n → decide (clN E (dA fs n ^ t) (vT (unF n k) fs n t) T n * yn ≤ 2 * dA fs n ^ t * E * xn) = decide (mxD n fs k t ≤ qf (xn : Int) (yn : Int))) := Lib.hid (fun k hk => by
           have := HCI.out k t hk
           rw [un_den] at this
           rw [this, qf_over]
           rfl)
          clear hdl
          go_wp2
          go_loopw [20, 19] (fun kv bv w2 => NsRel n fs (xn : Int) (yn : Int) t wo kv bv w2) (fun kv _ _ => n - (intOf kv).toNat)
          case atStart => exact H2.out
          case round =>
           obtain ⟨k, b, rfl, hk, rfl, HBV, HB2⟩ := hrel
           clear H2
           by_cases hkn : k < n
           ·have hkn2 : (k : Int) < (n : Int) := by omega
            have HBN := Lib.hid (nearK_next n fs (xn : Int) (yn : Int) t k)
            cases b with
            | false =>
             have HBV2 : Hid (false = nearK n fs (xn : Int) (yn : Int) t (k + 1)) := Lib.hid (by rw [HBN.out, ← HBV.out]; rfl)
             clear HBN HBV
             go_upto_region 28 with (fail)
             (refine wp_region_below (by kernel_rfl) (by kernel_rfl) ?_; (repeat (with_reducible refine wpQuiet_step (fun K hK => ?_); go_simp; first | (with_reducible refine hK _ ?_; clear hK K) | (apply Exists.intro; refine ⟨fun wq hq => ?_, hK _ ?_⟩; (first | rfl | (skip; first | (go_simp; done) | (go_simp; rfl) | fail)); clear hK K))); with_reducible refine wpQuiet_nil ?_; intro wq hq)
             have HN : Hid (NsRel n fs (xn : Int) (yn : Int) t wo (.int .i64 ((k : Int) + 1)) (.bool false) wq) := Lib.hid ⟨k + 1, false, by simp, hkn, rfl, HBV2, Lib.hid (Base.Below.nextA HB2.out hq)⟩
             clear hq HB2 HBV2
             go_wp2
             go_roundw
             case rel => exact HN.out
             case measure => simp [intOf]; omega
            | true =>
             have HMr := HM.out.below HB2.out
             obtain ⟨gx, A1, c1, us1, egx, hgx, y0, hrow⟩ := HMr.at hkn
             injection egx with egx
             injection egx with egx
             subst egx
             have HCK := Lib.hid (fun W (hb : Below wr.heap.size wr W) => HCS.out k hkn W (Base.Below.nextA HB2.out hb) A1 c1 us1 (hrow.below hb))
             rw [HCD.out k hkn] at HCK
             obtain ⟨b', hb'⟩ : ∃ b', b' = decide (mxD n fs k t ≤ qf (xn : Int) (yn : Int)) := ⟨_, rfl⟩
             rw [← hb'] at HCK
             have HBV2 : Hid (b' = nearK n fs (xn : Int) (yn : Int) t (k + 1)) := Lib.hid (by rw [HBN.out, ← HBV.out, hb']; rfl)
             have K3r := Lib.hid (K36.out.belowS (Base.Below.nextA HB.out HB2.out))
             have hbb : decide (0 = 0) = true := rfl
             clear HBN HBV hb' hrow HMr hbb
             go_upto_region 28 with (fail)
             (refine wp_region_below (by kernel_rfl) (by kernel_rfl) ?_; (repeat (with_reducible refine wpQuiet_step (fun K hK => ?_); go_simp; first | (with_reducible refine hK _ ?_; clear hK K) | (apply Exists.intro; refine ⟨fun wq hq => ?_, hK _ ?_⟩; (first | rfl | (have q0 := (hq.cell (p := ⟨gL, k, none⟩) hgx).trans y0; have q1 := (K3r.out.belowS hq).at 0 (v := .int .i64 (xn : Int)) rfl; have q2 := (K3r.out.belowS hq).at 1 (v := .int .i64 (yn : Int)) rfl; first | (go_simp; done) | (go_simp; rfl) | (go_at_call 34; refine (HCK.out _ hq).mono ?_; rintro e w7 ⟨rfl, hb⟩; exact ⟨rfl, Base.Below.nextA hq hb⟩))); clear hK K))); with_reducible refine wpQuiet_nil ?_; intro wq hq)
             have HN : Hid (NsRel n fs (xn : Int) (yn : Int) t wo (.int .i64 ((k : Int) + 1)) (.bool b') wq) := Lib.hid ⟨k + 1, b', by simp, hkn, rfl, HBV2, Lib.hid (Base.Below.nextA HB2.out hq)⟩
             clear hq HB2 HBV2 HCK y0 K3r
             go_wp2
             go_roundw
             case rel => exact HN.out
             case measure => simp [intOf]; omega
           ·obtain rfl : n = k := by omega
            have hbc : b = C t := by rw [HBV.out, HC.out]; rfl
            clear HCS HCD
            cases b with
            | true =>
             have hres := HT.out
             rw [mxT, ← hbc, if_pos rfl] at hres
             injection hres with hr1 hr2
             have HR1 := Lib.hid hr1
             have HR2 := Lib.hid hr2
             have HBZ := Lib.hid (Base.Below.nextA HB0.out (Base.Below.nextA HW6.out (Base.Below.nextA HB.out HB2.out)))
             clear hr1 hr2 HT HM HB HB2 HD hbc HBV
             go_wp2
             go_ret2
             exact ⟨by rw [HEE.out.1, HEE.out.2, ← HR1.out, ← HR2.out]; rfl, HBZ.out⟩
            | false =>
             have HT2 : Hid (mxT C m' (t + 1) = (R, ok)) := Lib.hid (by have := HT.out; rwa [mxT, ← hbc, if_neg (by decide)] at this)
             have H3 : Hid (OsRel n fs t gL cl Ad cd w6 (.int .i64 0) wr) := Lib.hid ⟨0, us, rfl, Nat.zero_le _, Lib.hid (HM.out.below HB2.out), Lib.hid (HD.out.below HB2.out), Lib.hid (Base.Below.nextA HB.out HB2.out)⟩
             clear HT HM HB HB2 HD hbc HBV
             go_wp2
             go_loopw [21] (fun kv w3 => OsRel n fs t gL cl Ad cd w6 kv w3) (fun kv _ => n - (intOf kv).toNat)
             case atStart => exact H3.out
             case round =>
              obtain ⟨k, us, rfl, hk, HM, HD, HB⟩ := hrel
              clear H3
              by_cases hkn : k < n
              ·have hkn2 : (k : Int) < (n : Int) := by omega
               obtain ⟨gx, A1, c1, us1, egx, hgx, y0, hrow⟩ := HM.out.at hkn
               injection egx with egx
               injection egx with egx
               subst egx
               have hvk : vG n fs t k k = vT (unF n k) fs n t := by unfold vG; rw [if_neg (Nat.lt_irrefl k)]
               rw [hvk] at hrow
               obtain ⟨hlow, csb, hkb⟩ := HM.out.blk
               have HKB := Lib.hid hkb
               have HST := Lib.hid (stepS_any (a := W24) (b := 75) wr (HO6.out.below HB.out) hrow (by omega) (fun i hi => (HOK.out k).vlt t i (by omega) hi) (HOK.out k).rlt (by decide))
               clear hrow hvk hkb
               go_wp2_with fail
               refine HST.out.mono ?_
               rintro e w9 ⟨A2, c2, us2, rfl, ho2, hb9⟩
               have d0 := (hb9.cell (p := ⟨gL, k, none⟩) hgx).trans y0
               have z0 := (HKB.out.belowS hb9).frz k
               have HM9 := HM.out.below hb9
               have HS2 := Lib.hid (HM9.setRow hkn (ho2.base HB.out.size))
               have HDK := Lib.hid (IsB.kept (HD.out.below hb9) HM9.row (by decide) (Src.grown_setCell w9 ⟨gL, k, none⟩ (.slice A2 n c2)))
               have HN : Hid (OsRel n fs t gL cl Ad cd w6 (.int .i64 ((k : Int) + 1)) (w9.setCell ⟨gL, k, none⟩ (.slice A2 n c2))) := Lib.hid ⟨k + 1, _, by simp, hkn, Lib.hid (HS2.out.congr fun i j hi hj => by
                unfold vG
                by_cases e : i = k
                ·subst e; rw [if_pos rfl, if_pos (Nat.lt_succ_self i)]; rfl
                ·rw [if_neg e]
                 by_cases e2 : i < k
                 ·rw [if_pos e2, if_pos (by omega)]
                 ·rw [if_neg e2, if_neg (by omega)]), HDK, Lib.hid ((Base.Below.nextA HB.out hb9).setCell (p := ⟨gL, k, none⟩) hlow _)⟩
               clear ho2 hb9 HM9 HS2 HST HB HD HDK y0 HKB
               go_wp2
               go_roundw
               case rel => exact HN.out
               case measure => simp [intOf]; omega
              ·obtain rfl : n = k := by omega
               have HMX := Lib.hid (HM.out.congr (M' := fun k => vT (unF n k) fs n (t + 1)) fun i j hi hj => by unfold vG; rw [if_pos hi])
               have hl1 : (bigL (dA fs n ^ t)).length ≤ W24 := bigL_len_le (by have := (HOK.out 0).dlt t ht; rwa [un_den] at this)
               have hl2 : (bigL (dA fs n)).length ≤ W24 := bigL_len_le (by have := (HOK.out 0).dlt 1 (by decide); rwa [un_den, Nat.pow_one] at this)
               have hw : W24 ≤ 100000 := by decide
               have HTI := Lib.hid (bigTimes_any wr HD.out (HU6.out.below HB.out) (by omega) (by omega))
               clear hl1 hl2 hw
               go_wp2_with fail
               refine HTI.out.mono ?_
               rintro e w10 ⟨v, rfl, hv, hb10⟩
               rw [← Nat.pow_succ] at hv
               obtain ⟨A10, c10, rfl, _⟩ := Dig.form hv
               have HN : Hid (MsRel n fs C R ok gL cl w6 (.int .i64 ((t : Int) + 1)) (.slice A10 (bigL (dA fs n ^ (t + 1))).length c10) w10) := Lib.hid ⟨t + 1, m', us, A10, c10, by simp, by omega, rfl, Lib.hid hv, Lib.hid (HMX.out.below hb10), Lib.hid (Base.Below.nextA HB.out hb10), HT2⟩
               clear hv hb10 HTI HMX HM HD HB
               go_wp2
               go_roundw
               case rel => exact HN.out
               case measure => simp [intOf]; omega
         ·obtain rfl : m = 0 := by omega
          have hres := HT.out
          rw [mxT] at hres
          injection hres with hr1 hr2
          have HR1 := Lib.hid hr1
          have HR2 := Lib.hid hr2
          have HBZ := Lib.hid (Base.Below.nextA HB0.out (Base.Below.nextA HW6.out HB.out))
          have ht2 : ¬ (t : Int) ≤ 30 := by omega
          clear hr1 hr2 HT HM HB HD
          go_wp2
          go_ret2
          exact ⟨by rw [HEE.out.1, HEE.out.2, ← HR1.out, ← HR2.out]; rfl, HBZ.out⟩
end Go.Proofs.YthagenodiofgnaaGreat.ComS
