/- The program: a step of a walk. -/
import Derived.Test.YthagenodiofgnaaGreatMgMix07
import Derived.Test.YthagenodiofgnaaGreatMgMix08
namespace Go.Proofs.YthagenodiofgnaaGreat.Ratio
open Go.RowKit Go.Proofs.YthagenodiofgnaaGreat Go.Proofs.YthagenodiofgnaaGreat.Base Go.Proofs.YthagenodiofgnaaGreat.Mem Go.Proofs.YthagenodiofgnaaGreat.NatM Go.Proofs.YthagenodiofgnaaGreat.Nat32 Go.Proofs.YthagenodiofgnaaGreat.RatM Go.Proofs.YthagenodiofgnaaGreat.Blk Go.Proofs.YthagenodiofgnaaGreat.MemF Go.Proofs.YthagenodiofgnaaGreat.ChM Go.Proofs.YthagenodiofgnaaGreat.GaussM
open Go.Proofs.YthagenodiofgnaaGreat.Inv (natOf natOf_eq len_pos Rat3 not_slice not_bool frz)
set_option linter.unusedVariables false
def part (M : Nat → Nat → Rat) (p : Nat → Rat) (i k : Nat) : Rat := sumR i (fun j => p j * M j k)
def mid (M : Nat → Nat → Rat) (p : Nat → Rat) (i k : Nat) : Nat → Rat := fun y => if y < k then part M p (i + 1) y else part M p i y
theorem mid_zero (M : Nat → Nat → Rat) (p : Nat → Rat) (i : Nat) : mid M p i 0 = part M p i := by funext y; rfl
theorem mid_next (M : Nat → Nat → Rat) (p : Nat → Rat) (i k : Nat) : (fun y => if y = k then part M p i k + p i * M i k else mid M p i k y) = mid M p i (k + 1) := by
 funext y
 unfold mid
 by_cases e : y = k
 ·subst e; rw [if_pos rfl, if_pos (Nat.lt_succ_self _)]; rfl
 ·rw [if_neg e]
  by_cases h : y < k
  ·rw [if_pos h, if_pos (by omega)]
  ·rw [if_neg h, if_neg (by omega)]
def StepOk (n : Nat) (M : Nat → Nat → Rat) (p : Nat → Rat) : Prop := ∀ i k, i < n → k < n → szR (p i) ≤ 200000 ∧ szR (M i k) ≤ 200000 ∧ szR (part M p i k) ≤ 200000 ∧ szR (p i * M i k) ≤ 200000
def WkRel (M : Nat → Nat → Rat) (p : Nat → Rat) (n g : Nat) (w : World) (iv : Value) (wr : World) : Prop :=
 ∃ (i : Nat) (cs : Array Value), iv = .int .i64 (i : Int) ∧ i ≤ n ∧ Hid (RowR wr g n (part M p i) cs) ∧ Hid (Below w.heap.size w wr)
def WkRel2 (M : Nat → Nat → Rat) (p : Nat → Rat) (n g g5 i : Nat) (s2 : Bool) (B1 : Option Addr) (j1 e1 : Nat) (B2 : Option Addr) (j2 e2 : Nat) (w : World) (kv : Value) (wr : World) : Prop :=
 ∃ (k : Nat) (cs : Array Value), kv = .int .i64 (k : Int) ∧ k ≤ n ∧ Hid (RowR wr g n (mid M p i k) cs) ∧ Hid (Below w.heap.size w wr) ∧ Hid (Blk wr g5 82 #[.bool s2, .slice B1 j1 e1, .slice B2 j2 e2]) ∧ Hid (IsRt wr (p i) (.agg #[.bool s2, .slice B1 j1 e1, .slice B2 j2 e2]))
theorem blk_put3o {w : World} {b b' o : Nat} {t : TypeId} {cs : Array Value} (K : Blk w b' t cs) (hne : b ≠ b') (v0 v1 v2 : Value) : Blk (put3o w b o v0 v1 v2) b' t cs := ((K.other v0 hne).other v1 hne).other v2 hne
set_option maxHeartbeats 2000000 in
set_option maxRecDepth 100000 in
theorem walked_any {A A' : Option Addr} {c c' n : Nat} {M : Nat → Nat → Rat} {p : Nat → Rat} (w : World) (hx : RdRR w A n (fun _ => n) M) (hy : RdR w A' n p) (h1 : 1 ≤ n) (hn : n ≤ 100) (hz : StepOk n M p) :
  Calls Tryz.prog 48 #[.slice A n c, .slice A' n c'] w (RowRet n (stepR n M p) w) := by
 have HX := Lib.hid hx
 have HY := Lib.hid hy
 have HZ0 := Lib.hid hz
 clear hx hy hz
 go_enter Tryz.func48, Tryz.ntmps48
 go_wp2_with fail
 refine (whole_rt 0 0 (by decide) ⟨rfl, rfl, by decide⟩ _).mono ?_
 rintro e w2 ⟨v, rfl, hq, hb2⟩
 obtain ⟨s, A1, k1, c1, A2, k2, c2, rfl, hI⟩ := hq.open
 have HB2 := Lib.hid hb2
 obtain ⟨W3, hW3⟩ : ∃ W3, W3 = w2.alloc (.cells #[.bool s, .slice A1 k1 c1, .slice A2 k2 c2] 82) := ⟨_, rfl⟩
 have hb3 : Below w2.heap.size w2 W3 := by rw [hW3]; exact (Below.refl _ _).alloc (Nat.le_refl _) _
 have K3 : Blk W3 w2.heap.size 82 #[.bool s, .slice A1 k1 c1, .slice A2 k2 c2] := by rw [hW3]; exact Blk.new w2 _ _
 have HRP := Lib.hid (repeat_any (c := 1) W3 (K3.at 0 rfl) (K3.at 1 rfl) (K3.at 2 rfl) K3.lt (hI.below hb3) h1 (show n ≤ 1000 by omega))
 have HB3 := Lib.hid (Base.Below.nextA HB2.out hb3)
 have HW3 := Lib.hid hW3
 clear hq hI hb2 hb3 K3 hW3 HB2
 go_wp2_with fail
 rw [← HW3.out]
 refine HRP.out.mono ?_
 rintro e w4 ⟨cs, rfl, hR, hb4⟩
 obtain ⟨g, hg⟩ : ∃ g, g = W3.heap.size := ⟨_, rfl⟩
 rw [← hg] at hR ⊢
 have hgB : w.heap.size ≤ g := by rw [hg]; exact HB3.out.size
 have H0 : Hid (WkRel M p n g w (.int .i64 0) w4) := Lib.hid ⟨0, cs, rfl, Nat.zero_le _, Lib.hid hR, Lib.hid (Base.Below.nextA HB3.out hb4)⟩
 clear hR hb4 hg HB3 HRP HW3
 go_wp2
 go_loopw [16] (fun iv wr => WkRel M p n g w iv wr) (fun iv _ => n - (intOf iv).toNat)
 case atStart => exact H0.out
 case round =>
  obtain ⟨i, cs, rfl, hi, HRr, HB⟩ := hrel
  clear H0
  by_cases hlt : i < n
  ·obtain ⟨ga, s2, B1, j1, e1, B2, j2, e2, rfl, hgl, y0, y1, y2, hpj⟩ := (HY.out.below HB.out).at hlt
   go_upto_region 5 with (fail)
   obtain ⟨W1, hW1⟩ : ∃ W1, W1 = wr.alloc (.cells #[.bool s2, .slice B1 j1 e1, .slice B2 j2 e2] 82) := ⟨_, rfl⟩
   rw [← hW1]
   obtain ⟨g5, hg5⟩ : ∃ g5, g5 = wr.heap.size := ⟨_, rfl⟩
   rw [← hg5]
   have KF1 : Hid (Blk W1 g5 82 #[.bool s2, .slice B1 j1 e1, .slice B2 j2 e2]) := Lib.hid (by rw [hW1, hg5]; exact Blk.new wr _ _)
   have hbw : Below wr.heap.size wr W1 := by rw [hW1]; exact (Below.refl _ _).alloc (Nat.le_refl _) _
   have hg5n : g5 ≠ g := by rw [hg5]; have := HRr.out.blk.lt; omega
   have hw5 : w.heap.size ≤ g5 := by rw [hg5]; exact HB.out.size
   have H1 : Hid (WkRel2 M p n g g5 i s2 B1 j1 e1 B2 j2 e2 w (.int .i64 0) W1) := Lib.hid ⟨0, cs, rfl, Nat.zero_le _, Lib.hid (by rw [mid_zero]; exact HRr.out.below hbw), Lib.hid (Base.Below.nextA HB.out hbw), KF1, Lib.hid (hpj.below hbw)⟩
   clear hW1 hg5 hbw HRr hpj HB y0 y1 y2 hgl KF1
   go_wp2
   go_loopw [23] (fun kv w2 => WkRel2 M p n g g5 i s2 B1 j1 e1 B2 j2 e2 w kv w2) (fun kv _ => n - (intOf kv).toNat)
   case atStart => exact H1.out
   case round =>
    obtain ⟨k, cs, rfl, hk, HR, HB, KF, HJ⟩ := hrel
    clear H1
    by_cases hkn : k < n
    ·obtain ⟨gr, A6, c6, rfl, hgr, hrc, hrow⟩ := (HX.out.below HB.out).at hlt
     obtain ⟨gm, s3, D1, i1, b1, D2, i2, b2, rfl, hgm, m0, m1, m2, hmk⟩ := hrow.at hkn
     obtain ⟨s, A1, k1, c1, A2, k2, c2, hx0, hx1, hx2, hI⟩ := HR.out.els k hkn
     have hmid : mid M p i k k = part M p i k := by unfold mid; rw [if_neg (Nat.lt_irrefl k)]
     rw [hmid] at hI
     have HNX := Lib.hid (mid_next M p i k)
     have HZ : Hid (szR (p i) ≤ 200000 ∧ szR (M i k) ≤ 200000 ∧ szR (part M p i k) ≤ 200000 ∧ szR (p i * M i k) ≤ 200000) := Lib.hid (HZ0.out i k hlt hkn)
     have HI := Lib.hid hI
     have HK := Lib.hid hmk
     have HM : Hid (∀ W, Below wr.heap.size wr W → W.cell? ⟨gm, k * 3, none⟩ = some (.bool s3) ∧ W.cell? ⟨gm, k * 3 + 1, none⟩ = some (.slice D1 i1 b1) ∧ W.cell? ⟨gm, k * 3 + 2, none⟩ = some (.slice D2 i2 b2)) := Lib.hid fun W hW =>
      ⟨(hW.cell (p := ⟨gm, k * 3, none⟩) hgm).trans m0, (hW.cell (p := ⟨gm, k * 3 + 1, none⟩) hgm).trans m1, (hW.cell (p := ⟨gm, k * 3 + 2, none⟩) hgm).trans m2⟩
     have hg5 : g5 < wr.heap.size := KF.out.lt
     clear hmid hI hmk hrow m0 m1 m2
     generalize hq0 : part M p i k = q0 at *
     have HQ0 := Lib.hid hq0
     clear hq0
     generalize hpi : p i = pi at *
     have HPI := Lib.hid hpi
     clear hpi
     generalize M i k = m at *
     go_upto_region 8 with (fail)
     refine Rel.wp_region_rel 17 (by kernel_rfl) (by kernel_rfl) (fun F hF => ?_)
     simp only [List.take_succ_cons, List.take_zero, List.drop_succ_cons, List.drop_zero, Rel.putL] at hF ⊢
     have HF := Lib.hid hF
     clear hF
     have uv := @Rel.upon_value Tryz.prog
     have ue := @Rel.upon_enter Tryz.prog
     apply Rel.rel_pure
     apply Exists.intro
     refine ⟨fun vs wq hq hdp R hR => ?_, ?_⟩
     ·(rw [HF.out, Rel.stepAt_eq]; clear hdp; skip; go_simp; exact hR)
     apply Rel.rel_pure
     apply Exists.intro
     refine ⟨fun vs wq hq hdp R hR => ?_, ?_⟩
     ·(rw [HF.out, Rel.stepAt_eq]; clear hdp; skip; go_simp; exact hR)
     apply Rel.rel_pure
     apply Exists.intro
     refine ⟨fun vs wq hq hdp R hR => ?_, ?_⟩
     ·(rw [HF.out, Rel.stepAt_eq]; clear hdp; skip; go_simp; exact hR)
     apply Rel.rel_pure
     apply Exists.intro
     refine ⟨fun vs wq hq hdp R hR => ?_, ?_⟩
     ·(rw [HF.out, Rel.stepAt_eq]; clear hdp; skip; go_simp; exact hR)
     apply Rel.rel_pure
     apply Exists.intro
     refine ⟨fun vs wq hq hdp R hR => ?_, ?_⟩
     ·(rw [HF.out, Rel.stepAt_eq]; have qd2 : vs 2 = _ := Rel.dep hdp 2 (by kernel_rfl); have qd3 : vs 3 = _ := Rel.dep hdp 3 (by kernel_rfl); clear hdp; skip; go_simp; exact hR)
     apply Rel.rel_pure
     apply Exists.intro
     refine ⟨fun vs wq hq hdp R hR => ?_, ?_⟩
     ·(rw [HF.out, Rel.stepAt_eq]; have qd4 : vs 4 = _ := Rel.dep hdp 4 (by kernel_rfl); clear hdp; have x0 := (HR.out.below hq).blk.at (k * 3) hx0; have x1 := (HR.out.below hq).blk.at (k * 3 + 1) hx1; have x2 := (HR.out.below hq).blk.at (k * 3 + 2) hx2; go_simp; exact hR)
     apply Rel.rel_pure
     apply Exists.intro
     refine ⟨fun vs wq hq hdp R hR => ?_, ?_⟩
     ·(rw [HF.out, Rel.stepAt_eq]; clear hdp; have y0 := (KF.out.belowS hq).at 0 (v := .bool s2) rfl; have y1 := (KF.out.belowS hq).at 1 (v := .slice B1 j1 e1) rfl; have y2 := (KF.out.belowS hq).at 2 (v := .slice B2 j2 e2) rfl; go_simp; exact hR)
     apply Rel.rel_pure
     apply Exists.intro
     refine ⟨fun vs wq hq hdp R hR => ?_, ?_⟩
     ·(rw [HF.out, Rel.stepAt_eq]; clear hdp; skip; go_simp; exact hR)
     apply Rel.rel_pure
     apply Exists.intro
     refine ⟨fun vs wq hq hdp R hR => ?_, ?_⟩
     ·(rw [HF.out, Rel.stepAt_eq]; clear hdp; skip; go_simp; exact hR)
     apply Rel.rel_pure
     apply Exists.intro
     refine ⟨fun vs wq hq hdp R hR => ?_, ?_⟩
     ·(rw [HF.out, Rel.stepAt_eq]; have qd7 : vs 7 = _ := Rel.dep hdp 7 (by kernel_rfl); have qd8 : vs 8 = _ := Rel.dep hdp 8 (by kernel_rfl); clear hdp; skip; go_simp; exact hR)
     apply Rel.rel_pure
     apply Exists.intro
     refine ⟨fun vs wq hq hdp R hR => ?_, ?_⟩
     ·(rw [HF.out, Rel.stepAt_eq]; have qd9 : vs 9 = _ := Rel.dep hdp 9 (by kernel_rfl); clear hdp; have r0 := (hq.cell (p := ⟨gr, i, none⟩) hgr).trans hrc; go_simp; exact hR)
     apply Rel.rel_pure
     apply Exists.intro
     refine ⟨fun vs wq hq hdp R hR => ?_, ?_⟩
     ·(rw [HF.out, Rel.stepAt_eq]; clear hdp; skip; go_simp; exact hR)
     apply Rel.rel_pure
     apply Exists.intro
     refine ⟨fun vs wq hq hdp R hR => ?_, ?_⟩
     ·(rw [HF.out, Rel.stepAt_eq]; have qd10 : vs 10 = _ := Rel.dep hdp 10 (by kernel_rfl); have qd11 : vs 11 = _ := Rel.dep hdp 11 (by kernel_rfl); clear hdp; skip; go_simp; exact hR)
     apply Rel.rel_pure
     apply Exists.intro
     refine ⟨fun vs wq hq hdp R hR => ?_, ?_⟩
     ·(rw [HF.out, Rel.stepAt_eq]; have qd12 : vs 12 = _ := Rel.dep hdp 12 (by kernel_rfl); clear hdp; obtain ⟨u0, u1, u2⟩ := HM.out wq hq; go_simp; exact hR)
     refine Rel.rel_law (S := fun v w' => IsRt w' (pi * m) v) (isRt_mono _) (fun vs wq hq hdp => ?_) ?_
     ·(rw [HF.out, Rel.stepAt_eq]; have qd6 : vs 6 = _ := Rel.dep hdp 6 (by kernel_rfl); have qd13 : vs 13 = _ := Rel.dep hdp 13 (by kernel_rfl); clear hdp; skip; go_simp; refine (ratTimes wq (HJ.out.below hq) (HK.out.below hq) HZ.out.1 HZ.out.2.1).mono ?_; rintro e w7 h; obtain ⟨v, rfl, hv, hb⟩ := h.is; exact ⟨_, rfl, hv, hb⟩)
     refine Rel.rel_law (S := fun v w' => IsRt w' (q0 + pi * m) v) (isRt_mono _) (fun vs wq hq hdp => ?_) ?_
     ·(rw [HF.out, Rel.stepAt_eq]; have qd5 : vs 5 = _ := Rel.dep hdp 5 (by kernel_rfl); have qd14 : IsRt wq _ (vs 14) := Rel.dep hdp 14 (by kernel_rfl); clear hdp; skip; go_simp; refine (ratPlus wq (HI.out.below hq) qd14 HZ.out.2.2.1 HZ.out.2.2.2).mono ?_; rintro e w7 h; obtain ⟨v, rfl, hv, hb⟩ := h.is; exact ⟨_, rfl, hv, hb⟩)
     apply Rel.rel_pure
     apply Exists.intro
     refine ⟨fun vs wq hq hdp R hR => ?_, ?_⟩
     ·(rw [HF.out, Rel.stepAt_eq]; have qd0 : vs 0 = _ := Rel.dep hdp 0 (by kernel_rfl); have qd1 : vs 1 = _ := Rel.dep hdp 1 (by kernel_rfl); clear hdp; skip; go_simp; exact hR)
     refine Rel.rel_end (fun vs wq hq hall => ?_)
     rw [HF.out]
     have qe0 : vs 0 = _ := Rel.fin hall 0 (by decide)
     have qe1 : vs 1 = _ := Rel.fin hall 1 (by decide)
     have qe2 : vs 2 = _ := Rel.fin hall 2 (by decide)
     have qe3 : vs 3 = _ := Rel.fin hall 3 (by decide)
     have qe4 : vs 4 = _ := Rel.fin hall 4 (by decide)
     have qe5 : vs 5 = _ := Rel.fin hall 5 (by decide)
     have qe6 : vs 6 = _ := Rel.fin hall 6 (by decide)
     have qe7 : vs 7 = _ := Rel.fin hall 7 (by decide)
     have qe8 : vs 8 = _ := Rel.fin hall 8 (by decide)
     have qe9 : vs 9 = _ := Rel.fin hall 9 (by decide)
     have qe10 : vs 10 = _ := Rel.fin hall 10 (by decide)
     have qe11 : vs 11 = _ := Rel.fin hall 11 (by decide)
     have qe12 : vs 12 = _ := Rel.fin hall 12 (by decide)
     have qe13 : vs 13 = _ := Rel.fin hall 13 (by decide)
     have qe14 : IsRt wq _ (vs 14) := Rel.fin hall 14 (by decide)
     have qe15 : IsRt wq _ (vs 15) := Rel.fin hall 15 (by decide)
     have qe16 : vs 16 = _ := Rel.fin hall 16 (by decide)
     clear hall HF uv ue
     obtain ⟨t, C1, m1, l1, C2, m2, l2, ev2, hI2⟩ := qe15.open
     have HRq := HR.out.below hq
     obtain ⟨cs', hput⟩ := HRq.put hkn hI2
     have HN2 : Hid (WkRel2 M p n g g5 i s2 B1 j1 e1 B2 j2 e2 w (.int .i64 ((k : Int) + 1)) (put3o wq g (k * 3) (.bool t) (.slice C1 m1 l1) (.slice C2 m2 l2))) := Lib.hid
      ⟨k + 1, cs', by simp, hkn, Lib.hid (by rw [← HNX.out]; exact hput), Lib.hid (put3o_below (Base.Below.nextA HB.out hq) hgB _ _ _), Lib.hid (blk_put3o (KF.out.belowS hq) (fun e => hg5n e.symm) _ _ _), Lib.hid (by rw [HPI.out]; exact isRt_put3o (HJ.out.below hq) HRq.blk hx0 hx1 hx2 _ _ _)⟩
     have z0 := HRq.blk.frz (k * 3)
     have z1 := HRq.blk.frz (k * 3 + 1)
     have z2 := HRq.blk.frz (k * 3 + 2)
     have d0 := HRq.blk.at (k * 3) hx0
     have d1 := HRq.blk.at (k * 3 + 1) hx1
     have d2 := HRq.blk.at (k * 3 + 2) hx2
     unfold put3o at HN2
     clear HRq hput hI2 hq hx0 hx1 hx2 HR KF HI HJ HK HM HB HZ HNX qe0 qe1 qe2 qe3 qe4 qe5 qe6 qe7 qe8 qe9 qe10 qe11 qe12 qe13 qe14 qe15
     go_wp2
     go_roundw
     case rel => exact HN2.out
     case measure => simp [intOf]; omega
    ·obtain rfl : k = n := by omega
     have HN : Hid (WkRel M p k g w (.int .i64 ((i : Int) + 1)) wr) := Lib.hid ⟨i + 1, cs, by simp, hlt, Lib.hid ⟨HR.out.blk, HR.out.size, fun y hy => by
      have := HR.out.els y hy
      unfold mid at this
      rwa [if_pos hy] at this⟩, HB⟩
     clear HR HB KF HJ
     go_wp2
     go_roundw
     case rel => exact HN.out
     case measure => simp [intOf]; omega
  ·obtain rfl : i = n := by omega
   have HE : Hid (RowRet i (stepR i M p) w (.returned (.slice (some ⟨g, 0, none⟩) i i)) wr) := Lib.hid ⟨g, cs, rfl, HRr.out, hgB, HB.out⟩
   clear HRr HB
   go_wp2
   go_ret
   exact HE.out
end Go.Proofs.YthagenodiofgnaaGreat.Ratio
namespace Go.Proofs.YthagenodiofgnaaGreat.Ratio
open Go.RowKit Go.Proofs.YthagenodiofgnaaGreat Go.Proofs.YthagenodiofgnaaGreat.Base Go.Proofs.YthagenodiofgnaaGreat.Mem Go.Proofs.YthagenodiofgnaaGreat.NatM Go.Proofs.YthagenodiofgnaaGreat.Nat32 Go.Proofs.YthagenodiofgnaaGreat.RatM Go.Proofs.YthagenodiofgnaaGreat.Blk Go.Proofs.YthagenodiofgnaaGreat.GaussM
open Go.Proofs.YthagenodiofgnaaGreat.Inv (natOf natOf_eq len_pos Rat3 not_slice not_bool frz)
set_option linter.unusedVariables false
structure RowG (w : World) (g n : Nat) (f : Nat → Rat) (cs : Array Value) : Prop where
 blk : Blk w g 82 cs
 size : n * 3 ≤ cs.size
 els : ∀ i, i < n → ∃ s A1 k1 c1 A2 k2 c2, cs[i * 3]? = some (.bool s) ∧ cs[i * 3 + 1]? = some (.slice A1 k1 c1) ∧ cs[i * 3 + 2]? = some (.slice A2 k2 c2) ∧ IsRt w (f i) (.agg #[.bool s, .slice A1 k1 c1, .slice A2 k2 c2])
theorem RowG.below {w w' : World} {g n : Nat} {f : Nat → Rat} {cs : Array Value} (h : RowG w g n f cs) (hb : Below w.heap.size w w') : RowG w' g n f cs :=
 ⟨h.blk.belowS hb, h.size, fun i hi => by
  obtain ⟨s, A1, k1, c1, A2, k2, c2, x0, x1, x2, hr⟩ := h.els i hi
  exact ⟨s, A1, k1, c1, A2, k2, c2, x0, x1, x2, hr.below hb⟩⟩
theorem RowG.congr {w : World} {g n : Nat} {f f' : Nat → Rat} {cs : Array Value} (h : RowG w g n f cs) (hf : ∀ i, i < n → f i = f' i) : RowG w g n f' cs :=
 ⟨h.blk, h.size, fun i hi => by rw [← hf i hi]; exact h.els i hi⟩
theorem RowR.toG {w : World} {g n : Nat} {f : Nat → Rat} {cs : Array Value} (h : RowR w g n f cs) : RowG w g n f cs := ⟨h.blk, by rw [h.size]; exact Nat.le_refl _, h.els⟩
theorem OwnR.toG {w : World} {B g n c : Nat} {f : Nat → Rat} {cs : List Value} (h : OwnR w B (.slice (some ⟨g, 0, none⟩) n c) n f cs) : ∃ cur, RowG w g n f cur := by
 obtain ⟨cur, hc, _, _⟩ := ownsRow_block h.row (g := g) rfl
 have hlen : cs.length = n * 3 := h.row.1
 have hcell : ∀ o, o < n * 3 → cur[o]? = cs[o]? := fun o ho => by
  rw [← cell_of_row w g o cur _ (0, 0) hc]
  exact World.ownsRow.cellAt h.row o (by omega)
 refine ⟨cur, hc, ?_, fun i hi => ?_⟩
 ·rcases Nat.eq_zero_or_pos n with h0 | h0
  ·omega
  ·have := hcell (n * 3 - 1) (by omega)
   rw [List.getElem?_eq_getElem (by omega)] at this
   have := (Array.getElem?_eq_some_iff.1 this).1
   omega
 ·obtain ⟨A1, c1, A2, c2, e, h1, h2, _⟩ := h.els i hi
  have key : ∀ k, k < 3 → cur[i * 3 + k]? = (rt3 (f i) A1 A2 c1 c2)[k]? := fun k hk => by
   rw [hcell (i * 3 + k) (by omega), ← e, List.getElem?_take, if_pos hk, List.getElem?_drop]
  exact ⟨_, A1, _, c1, A2, _, c2, key 0 (by decide), key 1 (by decide), key 2 (by decide), A1, c1, A2, c2, rfl, h1, h2⟩
theorem RowG.rd {w : World} {g n : Nat} {f : Nat → Rat} {cs : Array Value} (h : RowG w g n f cs) : RdR w (some ⟨g, 0, none⟩) n f := fun h0 => by
 refine ⟨g, rfl, h.blk.lt, fun i hi => ?_⟩
 obtain ⟨s, A1, k1, c1, A2, k2, c2, x0, x1, x2, hr⟩ := h.els i hi
 exact ⟨s, A1, k1, c1, A2, k2, c2, h.blk.at _ x0, h.blk.at _ x1, h.blk.at _ x2, hr⟩
theorem RowG.kept {w w' : World} {g n B k : Nat} {f : Nat → Rat} {cs : Array Value} {v : Value} {us : List Value} (h : RowG w g n f cs) (hr : w.ownsRow B 76 1 v k us) (hp : NoU w v) (hg : w.grownBy w' v.ownBlock) : RowG w' g n f cs := by
 have hne : v.ownBlock ≠ some g := fun e => by
  obtain ⟨cur, hc, _⟩ := ownsRow_block hr e
  have hb := h.blk
  unfold Blk at hb
  rw [hb] at hc
  injection hc with hc
  injection hc with _ hc _
  exact absurd hc (by decide)
 refine ⟨h.blk.kept hg hne, h.size, fun i hi => ?_⟩
 obtain ⟨s, A1, k1, c1, A2, k2, c2, x0, x1, x2, hI⟩ := h.els i hi
 refine ⟨s, A1, k1, c1, A2, k2, c2, x0, x1, x2, ?_⟩
 obtain ⟨B1, d1, B2, d2, ev, h1, h2⟩ := hI
 refine ⟨B1, d1, B2, d2, ev, fun h0 => ?_, fun h0 => ?_⟩
 ·exact rdU_kept h1 hg (hp.apart h1 h0) h0
 ·exact rdU_kept h2 hg (hp.apart h2 h0) h0
theorem RowG.put {w : World} {g n k : Nat} {f : Nat → Rat} {cs : Array Value} {q : Rat} {t : Bool} {C1 C2 : Option Addr} {m1 l1 m2 l2 : Nat} (h : RowG w g n f cs) (hk : k < n) (hq : IsRt w q (.agg #[.bool t, .slice C1 m1 l1, .slice C2 m2 l2])) :
  ∃ cs', RowG (put3o w g (k * 3) (.bool t) (.slice C1 m1 l1) (.slice C2 m2 l2)) g n (fun i => if i = k then q else f i) cs' := by
 obtain ⟨s, A1, k1, c1, A2, k2, c2, x0, x1, x2, _⟩ := h.els k hk
 have hz := h.size
 refine ⟨((cs.setIfInBounds (k * 3) (.bool t)).setIfInBounds (k * 3 + 1) (.slice C1 m1 l1)).setIfInBounds (k * 3 + 2) (.slice C2 m2 l2), ?_, by simp; omega, fun i hi => ?_⟩
 ·exact ((h.blk.setTo (k * 3) _ rfl).setTo (k * 3 + 1) _ rfl).setTo (k * 3 + 2) _ rfl
 ·by_cases e : i = k
  ·subst e
   refine ⟨t, C1, m1, l1, C2, m2, l2, ?_, ?_, ?_, ?_⟩
   ·rw [Array.getElem?_setIfInBounds_ne (by omega), Array.getElem?_setIfInBounds_ne (by omega), Array.getElem?_setIfInBounds_self_of_lt (by omega)]
   ·rw [Array.getElem?_setIfInBounds_ne (by omega), Array.getElem?_setIfInBounds_self_of_lt (by simp; omega)]
   ·rw [Array.getElem?_setIfInBounds_self_of_lt (by simp; omega)]
   ·rw [if_pos rfl]
    exact isRt_put3o hq h.blk x0 x1 x2 _ _ _
  ·obtain ⟨s', B1, j1, e1, B2, j2, e2, y0, y1, y2, hr⟩ := h.els i hi
   refine ⟨s', B1, j1, e1, B2, j2, e2, ?_, ?_, ?_, ?_⟩
   ·rw [Array.getElem?_setIfInBounds_ne (by omega), Array.getElem?_setIfInBounds_ne (by omega), Array.getElem?_setIfInBounds_ne (by omega)]; exact y0
   ·rw [Array.getElem?_setIfInBounds_ne (by omega), Array.getElem?_setIfInBounds_ne (by omega), Array.getElem?_setIfInBounds_ne (by omega)]; exact y1
   ·rw [Array.getElem?_setIfInBounds_ne (by omega), Array.getElem?_setIfInBounds_ne (by omega), Array.getElem?_setIfInBounds_ne (by omega)]; exact y2
   ·rw [if_neg e]
    exact isRt_put3o hr h.blk x0 x1 x2 _ _ _
theorem RowG.beside {w : World} {g b o n n' : Nat} {f f' : Nat → Rat} {cs cb : Array Value} (h : RowG w g n f cs) (hb : RowG w b n' f' cb) (hne : b ≠ g) {k : Nat} (hk : k < n') (ho : o = k * 3) (v0 v1 v2 : Value) : RowG (put3o w b o v0 v1 v2) g n f cs := by
 subst ho
 obtain ⟨s, A1, k1, c1, A2, k2, c2, x0, x1, x2, _⟩ := hb.els k hk
 refine ⟨((h.blk.other _ hne).other _ hne).other _ hne, h.size, fun i hi => ?_⟩
 obtain ⟨s', B1, j1, e1, B2, j2, e2, y0, y1, y2, hr⟩ := h.els i hi
 exact ⟨s', B1, j1, e1, B2, j2, e2, y0, y1, y2, isRt_put3o hr hb.blk x0 x1 x2 _ _ _⟩
structure MatR (w : World) (B gL R n : Nat) (M : Nat → Nat → Rat) (gs cp : Nat → Nat) (cl : Array Value) (css : Nat → Array Value) : Prop where
 top : Blk w gL 76 cl
 lowL : B ≤ gL
 cell : ∀ i, i < R → cl[i]? = some (.slice (some ⟨gs i, 0, none⟩) n (cp i))
 row : ∀ i, i < R → RowG w (gs i) n (M i) (css i)
 low : ∀ i, i < R → B ≤ gs i
 inj : ∀ i j, i < R → j < R → gs i = gs j → i = j
theorem MatR.below {w w' : World} {B gL R n : Nat} {M : Nat → Nat → Rat} {gs cp : Nat → Nat} {cl : Array Value} {css : Nat → Array Value} (h : MatR w B gL R n M gs cp cl css) (hb : Below w.heap.size w w') : MatR w' B gL R n M gs cp cl css :=
 ⟨h.top.belowS hb, h.lowL, h.cell, fun i hi => (h.row i hi).below hb, h.low, h.inj⟩
theorem MatR.congr {w : World} {B gL R n : Nat} {M M' : Nat → Nat → Rat} {gs cp : Nat → Nat} {cl : Array Value} {css : Nat → Array Value} (h : MatR w B gL R n M gs cp cl css) (hM : ∀ r c, r < R → c < n → M r c = M' r c) : MatR w B gL R n M' gs cp cl css :=
 ⟨h.top, h.lowL, h.cell, fun i hi => (h.row i hi).congr fun c hc => hM i c hi hc, h.low, h.inj⟩
theorem MatR.neL {w : World} {B gL R n : Nat} {M : Nat → Nat → Rat} {gs cp : Nat → Nat} {cl : Array Value} {css : Nat → Array Value} (h : MatR w B gL R n M gs cp cl css) {i : Nat} (hi : i < R) : gs i ≠ gL := fun e => by
 have h1 := (h.row i hi).blk
 have h2 := h.top
 rw [e] at h1
 unfold Blk at h1 h2
 rw [h1] at h2
 injection h2 with h2
 injection h2 with _ h2 _
 exact absurd h2 (by decide)
theorem MatR.put {w : World} {B gL R n r c : Nat} {M : Nat → Nat → Rat} {gs cp : Nat → Nat} {cl : Array Value} {css : Nat → Array Value} {q : Rat} {t : Bool} {C1 C2 : Option Addr} {m1 l1 m2 l2 : Nat} (h : MatR w B gL R n M gs cp cl css) (hr : r < R) (hc : c < n) (hq : IsRt w q (.agg #[.bool t, .slice C1 m1 l1, .slice C2 m2 l2])) :
  ∃ css', MatR (put3o w (gs r) (c * 3) (.bool t) (.slice C1 m1 l1) (.slice C2 m2 l2)) B gL R n (fun i j => if i = r ∧ j = c then q else M i j) gs cp cl css' := by
 obtain ⟨cs', hp⟩ := (h.row r hr).put hc hq
 have hne := h.neL hr
 refine ⟨fun i => if i = r then cs' else css i, ((h.top.other _ hne).other _ hne).other _ hne, h.lowL, h.cell, fun i hi => ?_, h.low, h.inj⟩
 by_cases e : i = r
 ·subst e
  simp only [if_true, true_and]
  exact hp
 ·simp only [e, if_false, false_and]
  exact (h.row i hi).beside (h.row r hr) (fun e2 => e (h.inj i r hi hr e2.symm)) hc rfl _ _ _
def swF {α : Type} (f : Nat → α) (i k : Nat) : Nat → α := fun r => if r = k then f i else if r = i then f k else f r
theorem swF_inj {gs : Nat → Nat} {R i k : Nat} (hi : i < R) (hk : k < R) (h : ∀ i j, i < R → j < R → gs i = gs j → i = j) {a b : Nat} (ha : a < R) (hb : b < R) (e : swF gs i k a = swF gs i k b) : a = b := by
 unfold swF at e
 split at e
 ·rename_i a1
  split at e
  ·omega
  ·rename_i b1
   split at e
   ·rename_i b2
    have := h _ _ hi hk e
    omega
   ·have := h _ _ hi hb e
    omega
 ·rename_i a1
  split at e
  ·rename_i a2
   split at e
   ·have := h _ _ hk hi e
    omega
   ·rename_i b1
    split at e
    ·omega
    ·have := h _ _ hk hb e
     omega
  ·rename_i a2
   split at e
   ·have := h _ _ ha hi e
    omega
   ·rename_i b1
    split at e
    ·have := h _ _ ha hk e
     omega
    ·exact h _ _ ha hb e
theorem isRt_setS {w : World} {q : Rat} {v : Value} {p : Addr} {A : Option Addr} {n c : Nat} (h : IsRt w q v) (hp : w.cell? p = some (.slice A n c)) (u : Value) : IsRt (w.setCell p u) q v := by
 obtain ⟨B1, d1, B2, d2, ev, h1, h2⟩ := h
 have hz : (w.setCell p u).heap.size = w.heap.size := by simp
 exact ⟨B1, d1, B2, d2, ev, by rw [hz]; exact h1.non hp (not_slice _ _ _) u, by rw [hz]; exact h2.non hp (not_slice _ _ _) u⟩
theorem RowG.setS {w : World} {g n b o n' c' : Nat} {f : Nat → Rat} {cs : Array Value} {A : Option Addr} (h : RowG w g n f cs) (hp : w.cell? ⟨b, o, none⟩ = some (.slice A n' c')) (hne : b ≠ g) (u : Value) : RowG (w.setCell ⟨b, o, none⟩ u) g n f cs := by
 refine ⟨h.blk.other u hne, h.size, fun i hi => ?_⟩
 obtain ⟨s, A1, k1, c1, A2, k2, c2, x0, x1, x2, hI⟩ := h.els i hi
 exact ⟨s, A1, k1, c1, A2, k2, c2, x0, x1, x2, isRt_setS hI hp u⟩
theorem MatR.swap {w : World} {B gL R n i k : Nat} {M : Nat → Nat → Rat} {gs cp : Nat → Nat} {cl : Array Value} {css : Nat → Array Value} (h : MatR w B gL R n M gs cp cl css) (hi : i < R) (hk : k < R) :
  ∃ cl', MatR ((w.setCell ⟨gL, i, none⟩ (.slice (some ⟨gs k, 0, none⟩) n (cp k))).setCell ⟨gL, k, none⟩ (.slice (some ⟨gs i, 0, none⟩) n (cp i))) B gL R n (swapM M i k) (swF gs i k) (swF cp i k) cl' (swF css i k) := by
 have ci := h.cell i hi
 have ck := h.cell k hk
 have K1 := h.top.setTo i (.slice (some ⟨gs k, 0, none⟩) n (cp k)) rfl
 have hck : (cl.setIfInBounds i (.slice (some ⟨gs k, 0, none⟩) n (cp k)))[k]? = some (.slice (some ⟨gs k, 0, none⟩) n (cp k)) := by
  by_cases e : i = k
  ·subst e
   exact Array.getElem?_setIfInBounds_self_of_lt (Array.getElem?_eq_some_iff.1 ci).1
  ·rw [Array.getElem?_setIfInBounds_ne e]; exact ck
 refine ⟨_, K1.setTo k _ rfl, h.lowL, fun r hr => ?_, fun r hr => ?_, fun r hr => ?_, fun a b ha hb e => ?_⟩
 ·unfold swF
  by_cases e : r = k
  ·subst e
   simp only [if_true]
   exact Array.getElem?_setIfInBounds_self_of_lt (Array.getElem?_eq_some_iff.1 hck).1
  ·rw [Array.getElem?_setIfInBounds_ne (fun h => e h.symm)]
   by_cases e2 : r = i
   ·subst e2
    simp only [e, if_false, if_true]
    exact Array.getElem?_setIfInBounds_self_of_lt (Array.getElem?_eq_some_iff.1 ci).1
   ·rw [Array.getElem?_setIfInBounds_ne (fun h => e2 h.symm)]
    simp only [e, e2, if_false]
    exact h.cell r hr
 ·have key : ∀ j, j < R → RowG ((w.setCell ⟨gL, i, none⟩ (.slice (some ⟨gs k, 0, none⟩) n (cp k))).setCell ⟨gL, k, none⟩ (.slice (some ⟨gs i, 0, none⟩) n (cp i))) (gs j) n (M j) (css j) := fun j hj =>
   (((h.row j hj).setS (h.top.at i ci) (fun e => h.neL hj e.symm) _).setS (K1.at k hck) (fun e => h.neL hj e.symm) _)
  unfold swF swapM
  by_cases e : r = k
  ·subst e
   simp only [if_true]
   exact key i hi
  ·by_cases e2 : r = i
   ·subst e2
    simp only [e, if_false, if_true]
    exact key k hk
   ·simp only [e, e2, if_false]
    exact key r hr
 ·unfold swF
  split
  ·exact h.low i hi
  ·split
   ·exact h.low k hk
   ·exact h.low r hr
 ·exact swF_inj hi hk h.inj ha hb e
theorem MatR.mid {w : World} {B gL R n i k : Nat} {M : Nat → Nat → Rat} {gs cp : Nat → Nat} {cl : Array Value} {css : Nat → Array Value} (h : MatR w B gL R n M gs cp cl css) (hi : i < R) (hk : k < R) :
  (w.setCell ⟨gL, i, none⟩ (.slice (some ⟨gs k, 0, none⟩) n (cp k))).cell? ⟨gL, k, none⟩ = some (.slice (some ⟨gs k, 0, none⟩) n (cp k)) := by
 refine (h.top.setTo i _ rfl).at k ?_
 by_cases e : i = k
 ·subst e
  exact Array.getElem?_setIfInBounds_self_of_lt (Array.getElem?_eq_some_iff.1 (h.cell i hi)).1
 ·rw [Array.getElem?_setIfInBounds_ne e]; exact h.cell k hk
theorem MatR.at {w : World} {B gL R n r c : Nat} {M : Nat → Nat → Rat} {gs cp : Nat → Nat} {cl : Array Value} {css : Nat → Array Value} (h : MatR w B gL R n M gs cp cl css) (hr : r < R) (hc : c < n) :
  ∃ s A1 k1 c1 A2 k2 c2, (css r)[c * 3]? = some (.bool s) ∧ (css r)[c * 3 + 1]? = some (.slice A1 k1 c1) ∧ (css r)[c * 3 + 2]? = some (.slice A2 k2 c2) ∧ IsRt w (M r c) (.agg #[.bool s, .slice A1 k1 c1, .slice A2 k2 c2]) := (h.row r hr).els c hc
end Go.Proofs.YthagenodiofgnaaGreat.Ratio
namespace Go.Proofs.YthagenodiofgnaaGreat.Ratio
open Go.RowKit Go.Proofs.YthagenodiofgnaaGreat Go.Proofs.YthagenodiofgnaaGreat.Base Go.Proofs.YthagenodiofgnaaGreat.Mem Go.Proofs.YthagenodiofgnaaGreat.NatM Go.Proofs.YthagenodiofgnaaGreat.Nat32 Go.Proofs.YthagenodiofgnaaGreat.RatM Go.Proofs.YthagenodiofgnaaGreat.Blk Go.Proofs.YthagenodiofgnaaGreat.GaussM
set_option linter.unusedVariables false
structure OwnRG (w : World) (B : Nat) (v : Value) (n L : Nat) (f : Nat → Nat → Rat) (us : List Value) : Prop where
 row : w.ownsRow B 76 1 v n us
 els : ∀ i, i < n → ∃ g c cs, us[i]? = some (.slice (some ⟨g, 0, none⟩) L c) ∧ RowG w g L (f i) cs ∧ B ≤ g
 nou : NoU w v
 inj : ∀ (i j g c d : Nat), us[i]? = some (Value.slice (some ⟨g, 0, none⟩) L c) → us[j]? = some (Value.slice (some ⟨g, 0, none⟩) L d) → i = j
theorem OwnRG.below {w w' : World} {B n L : Nat} {v : Value} {f : Nat → Nat → Rat} {us : List Value} (h : OwnRG w B v n L f us) (hb : Below w.heap.size w w') : OwnRG w' B v n L f us :=
 ⟨ownsRow_below h.row hb, fun i hi => by
  obtain ⟨g, c, cs, e, hr, hB⟩ := h.els i hi
  exact ⟨g, c, cs, e, hr.below hb, hB⟩, h.nou.below hb, h.inj⟩
theorem OwnRG.lit0 (w : World) (L : Nat) (f : Nat → Nat → Rat) : OwnRG (w.alloc (.cells #[] 76)) w.heap.size (.slice (some ⟨w.heap.size, 0, none⟩) 0 0) 0 L f [] :=
 ⟨World.ownsRow_made w #[] 0 (Nat.le_refl _) (Nat.zero_le _) (by simp), fun i hi => absurd hi (Nat.not_lt_zero i), NoU.lit0 w _, fun i j g c d h => by cases h⟩
theorem OwnRG.push {wr w1 w2 : World} {B n L g c : Nat} {v v' : Value} {f : Nat → Nat → Rat} {us : List Value} {cs : Array Value} {ca : Array Value} {t : TypeId} (h : OwnRG wr B v n L f us) (h1 : Below wr.heap.size wr w1) (hr : RowG w1 g L (f n) cs) (hg0 : wr.heap.size ≤ g) (hB : B ≤ wr.heap.size)
  (hown : w2.ownsRow B 76 1 v' (n + 1) (us ++ [.slice (some ⟨g, 0, none⟩) L c])) (hg : (w1.alloc (.cells ca t)).grownBy w2 v.ownBlock) (hnu : NoU w2 v') : OwnRG w2 B v' (n + 1) L f (us ++ [.slice (some ⟨g, 0, none⟩) L c]) := by
 have hb2 : Below w1.heap.size w1 (w1.alloc (.cells ca t)) := (Below.refl _ _).alloc (Nat.le_refl _) _
 have hA := (h.below h1).below hb2
 have hlen : us.length = n := by have := h.row.1; omega
 have hold : ∀ (i g' d : Nat), us[i]? = some (Value.slice (some ⟨g', 0, none⟩) L d) → g' ≠ g := fun i g' d e e2 => by
  have hi : i < n := by have := (List.getElem?_eq_some_iff.1 e).1; omega
  obtain ⟨g'', c'', cs'', e3, hr3, _⟩ := h.els i hi
  rw [e] at e3
  injection e3 with e3
  injection e3 with e3 _ _
  injection e3 with e3
  injection e3 with e3 _ _
  have := hr3.blk.lt
  omega
 refine ⟨hown, fun i hi => ?_, hnu, fun i j g' c' d' e1 e2 => ?_⟩
 ·rcases Nat.lt_or_ge i n with hlt | hge
  ·obtain ⟨g', c', cs', e, hr', hB'⟩ := hA.els i hlt
   exact ⟨g', c', cs', by rw [List.getElem?_append_left (by omega)]; exact e, hr'.kept hA.row hA.nou hg, hB'⟩
  ·obtain rfl : i = n := by omega
   exact ⟨g, c, cs, by rw [List.getElem?_append_right (by omega), hlen, Nat.sub_self]; rfl, (hr.below hb2).kept hA.row hA.nou hg, by omega⟩
 ·have hi := (List.getElem?_eq_some_iff.1 e1).1
  have hj := (List.getElem?_eq_some_iff.1 e2).1
  simp only [List.length_append, List.length_cons, List.length_nil] at hi hj
  rcases Nat.lt_or_ge i n with h1 | h1 <;> rcases Nat.lt_or_ge j n with h2 | h2
  ·rw [List.getElem?_append_left (by omega)] at e1 e2
   exact h.inj i j g' c' d' e1 e2
  ·rw [List.getElem?_append_left (by omega)] at e1
   obtain rfl : j = us.length := by omega
   rw [List.getElem?_append_right (by omega), Nat.sub_self] at e2
   simp only [List.getElem?_cons_zero, Option.some.injEq, Value.slice.injEq, Addr.mk.injEq, and_true, true_and] at e2
   exact absurd e2.1.symm (hold i g' c' e1)
  ·rw [List.getElem?_append_left (by omega)] at e2
   obtain rfl : i = us.length := by omega
   rw [List.getElem?_append_right (by omega), Nat.sub_self] at e1
   simp only [List.getElem?_cons_zero, Option.some.injEq, Value.slice.injEq, Addr.mk.injEq, and_true, true_and] at e1
   exact absurd e1.1.symm (hold j g' d' e2)
  ·omega
theorem OwnRG.form {w : World} {B n L : Nat} {v : Value} {f : Nat → Nat → Rat} {us : List Value} (h : OwnRG w B v n L f us) : ∃ A c, v = .slice A n c ∧ (0 < n → ∃ g, A = some ⟨g, 0, none⟩ ∧ B ≤ g ∧ g < w.heap.size) := ownsRow_form h.row
theorem OwnRG.congr {w : World} {B n L : Nat} {v : Value} {f f' : Nat → Nat → Rat} {us : List Value} (h : OwnRG w B v n L f us) (hf : ∀ i j, i < n → j < L → f i j = f' i j) : OwnRG w B v n L f' us :=
 ⟨h.row, fun i hi => by
  obtain ⟨g, c, cs, e, hr, hB⟩ := h.els i hi
  exact ⟨g, c, cs, e, hr.congr (fun j hj => hf i j hi hj), hB⟩, h.nou, h.inj⟩
theorem OwnRG.mat {w : World} {B n L gL cL : Nat} {f : Nat → Nat → Rat} {us : List Value} (h : OwnRG w B (.slice (some ⟨gL, 0, none⟩) n cL) n L f us) : ∃ gs cp cl css, MatR w B gL n L f gs cp cl css := by
 obtain ⟨cur, hc, hBL, _⟩ := ownsRow_block h.row (g := gL) rfl
 have hlen : us.length = n := by have := h.row.1; omega
 have hcell : ∀ i, i < n → cur[i]? = us[i]? := fun i hi => by
  rw [← cell_of_row w gL i cur _ (0, 0) hc]
  exact World.ownsRow.cellAt h.row i (by omega)
 have key : ∀ i, ∃ p : Nat × Nat × Array Value, i < n → us[i]? = some (.slice (some ⟨p.1, 0, none⟩) L p.2.1) ∧ RowG w p.1 L (f i) p.2.2 ∧ B ≤ p.1 := fun i => by
  by_cases hi : i < n
  ·obtain ⟨g, c, cs, e, hr, hB⟩ := h.els i hi
   exact ⟨⟨g, c, cs⟩, fun _ => ⟨e, hr, hB⟩⟩
  ·exact ⟨⟨0, 0, #[]⟩, fun h' => absurd h' hi⟩
 obtain ⟨p, hp⟩ := Classical.axiomOfChoice key
 refine ⟨fun i => (p i).1, fun i => (p i).2.1, cur, fun i => (p i).2.2, hc, hBL, fun i hi => by rw [hcell i hi]; exact (hp i hi).1, fun i hi => (hp i hi).2.1, fun i hi => (hp i hi).2.2, fun i j hi hj e => ?_⟩
 have e1 := (hp i hi).1
 have e2 := (hp j hj).1
 have e3 : (p i).1 = (p j).1 := e
 rw [← e3] at e2
 exact h.inj i j _ _ _ e1 e2
end Go.Proofs.YthagenodiofgnaaGreat.Ratio
