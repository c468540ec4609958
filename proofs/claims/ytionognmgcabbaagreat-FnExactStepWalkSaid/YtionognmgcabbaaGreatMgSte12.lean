/- The program: a step of a walk. -/
import Derived.Test.YtionognmgcabbaaGreatMgSte09
import Derived.Test.YtionognmgcabbaaGreatMgSte11
import Derived.Test.YtionognmgcabbaaGreatMgSte10
import Derived.Deep.Cut
import Derived.Test.YtionognmgcabbaaGreatMgSte07
import Derived.Test.YtionognmgcabbaaGreatMgSte08
namespace Go.Proofs.YtionognmgcabbaaGreat.Ratio
open Go.RowKit Go.Proofs.YtionognmgcabbaaGreat Go.Proofs.YtionognmgcabbaaGreat.Base Go.Proofs.YtionognmgcabbaaGreat.Mem Go.Proofs.YtionognmgcabbaaGreat.NatM Go.Proofs.YtionognmgcabbaaGreat.Nat32 Go.Proofs.YtionognmgcabbaaGreat.RatM Go.Proofs.YtionognmgcabbaaGreat.Blk Go.Proofs.YtionognmgcabbaaGreat.MemF Go.Proofs.YtionognmgcabbaaGreat.ChM Go.Proofs.YtionognmgcabbaaGreat.GaussM
open Go.Proofs.YtionognmgcabbaaGreat.Inv (natOf natOf_eq len_pos Rat3 not_slice not_bool frz)
set_option linter.unusedVariables false
/-- the partial sums of a step -/
def part (M : Nat → Nat → Rat) (p : Nat → Rat) (i k : Nat) : Rat := sumR i (fun j => p j * M j k)
/-- within round i, behind the first k places -/
def mid (M : Nat → Nat → Rat) (p : Nat → Rat) (i k : Nat) : Nat → Rat := fun y => if y < k then part M p (i + 1) y else part M p i y
theorem mid_zero (M : Nat → Nat → Rat) (p : Nat → Rat) (i : Nat) : mid M p i 0 = part M p i := by funext y; rfl
theorem mid_next (M : Nat → Nat → Rat) (p : Nat → Rat) (i k : Nat) : (fun y => if y = k then part M p i k + p i * M i k else mid M p i k y) = mid M p i (k + 1) := by
  funext y
  unfold mid
  by_cases e : y = k
  · subst e; rw [if_pos rfl, if_pos (Nat.lt_succ_self _)]; rfl
  · rw [if_neg e]
    by_cases h : y < k
    · rw [if_pos h, if_pos (by omega)]
    · rw [if_neg h, if_neg (by omega)]
/-- the sizes of all that is reckoned -/
def StepOk (n : Nat) (M : Nat → Nat → Rat) (p : Nat → Rat) : Prop := ∀ i k, i < n → k < n → szR (p i) ≤ 200000 ∧ szR (M i k) ≤ 200000 ∧ szR (part M p i k) ≤ 200000 ∧ szR (p i * M i k) ≤ 200000
def WkRel (M : Nat → Nat → Rat) (p : Nat → Rat) (n g : Nat) (w : World) (iv : Value) (wr : World) : Prop :=
  ∃ (i : Nat) (cs : Array Value), iv = .int .i64 (i : Int) ∧ i ≤ n ∧ Hid (RowR wr g n (part M p i) cs) ∧ Hid (Below w.heap.size w wr)
def WkRel2 (M : Nat → Nat → Rat) (p : Nat → Rat) (n g g5 i : Nat) (s2 : Bool) (B1 : Option Addr) (j1 e1 : Nat) (B2 : Option Addr) (j2 e2 : Nat) (w : World) (kv : Value) (wr : World) : Prop :=
  ∃ (k : Nat) (cs : Array Value), kv = .int .i64 (k : Int) ∧ k ≤ n ∧ Hid (RowR wr g n (mid M p i k) cs) ∧ Hid (Below w.heap.size w wr) ∧ Hid (Blk wr g5 87 #[.bool s2, .slice B1 j1 e1, .slice B2 j2 e2]) ∧ Hid (IsRt wr (p i) (.agg #[.bool s2, .slice B1 j1 e1, .slice B2 j2 e2]))
theorem blk_put3o {w : World} {b b' o : Nat} {t : TypeId} {cs : Array Value} (K : Blk w b' t cs) (hne : b ≠ b') (v0 v1 v2 : Value) : Blk (put3o w b o v0 v1 v2) b' t cs := ((K.other v0 hne).other v1 hne).other v2 hne
set_option maxHeartbeats 2000000 in
set_option maxRecDepth 100000 in
theorem walked_any {A A' : Option Addr} {c c' n : Nat} {M : Nat → Nat → Rat} {p : Nat → Rat} (w : World) (hx : RdRR w A n (fun _ => n) M) (hy : RdR w A' n p) (h1 : 1 ≤ n) (hn : n ≤ 100) (hz : StepOk n M p) :
    Calls Tryz.prog 108 #[.slice A n c, .slice A' n c'] w (RowRet n (stepR n M p) w) := by
  have HX := Lib.hid hx
  have HY := Lib.hid hy
  have HZ0 := Lib.hid hz
  clear hx hy hz
  go_enter Tryz.func108, Tryz.ntmps108
  go_wp2_with fail
  refine (whole_rt 0 0 (by decide) ⟨rfl, rfl, by decide⟩ _).mono ?_
  rintro e w2 ⟨v, rfl, hq, hb2⟩
  obtain ⟨s, A1, k1, c1, A2, k2, c2, rfl, hI⟩ := hq.open
  have HB2 := Lib.hid hb2
  obtain ⟨W3, hW3⟩ : ∃ W3, W3 = w2.alloc (.cells #[.bool s, .slice A1 k1 c1, .slice A2 k2 c2] 87) := ⟨_, rfl⟩
  have hb3 : Below w2.heap.size w2 W3 := by rw [hW3]; exact (Below.refl _ _).alloc (Nat.le_refl _) _
  have K3 : Blk W3 w2.heap.size 87 #[.bool s, .slice A1 k1 c1, .slice A2 k2 c2] := by rw [hW3]; exact Blk.new w2 _ _
  have HRP := Lib.hid (repeat_any (c := 1) W3 (K3.at 0 rfl) (K3.at 1 rfl) (K3.at 2 rfl) K3.lt (hI.below hb3) h1 (show n ≤ 1000 by omega))
  have HB3 := Lib.hid (Base.Below.nextA HB2.out hb3)
  have HW3 := Lib.hid hW3
  clear hq hI hb2 hb3 K3 hW3 HB2
  go_wp2_with fail
  rw [← HW3.out]
  refine HRP.out.mono ?_
  rintro e w4 ⟨cs, rfl, hR, hb4⟩
  obtain ⟨g, hg⟩ : ∃ g, g = W3.heap.size := ⟨_, rfl⟩
  rw [← hg] at hR ⊢
  have hgB : w.heap.size ≤ g := by rw [hg]; exact HB3.out.size
  have H0 : Hid (WkRel M p n g w (.int .i64 0) w4) := Lib.hid ⟨0, cs, rfl, Nat.zero_le _, Lib.hid hR, Lib.hid (Base.Below.nextA HB3.out hb4)⟩
  clear hR hb4 hg HB3 HRP HW3
  go_wp2
  go_loopw [16] (fun iv wr => WkRel M p n g w iv wr) (fun iv _ => n - (intOf iv).toNat)
  case atStart => exact H0.out
  case round =>
    obtain ⟨i, cs, rfl, hi, HRr, HB⟩ := hrel
    clear H0
    by_cases hlt : i < n
    · obtain ⟨ga, s2, B1, j1, e1, B2, j2, e2, rfl, hgl, y0, y1, y2, hpj⟩ := (HY.out.below HB.out).at hlt
      go_upto_region 5 with (fail)
      obtain ⟨W1, hW1⟩ : ∃ W1, W1 = wr.alloc (.cells #[.bool s2, .slice B1 j1 e1, .slice B2 j2 e2] 87) := ⟨_, rfl⟩
      rw [← hW1]
      obtain ⟨g5, hg5⟩ : ∃ g5, g5 = wr.heap.size := ⟨_, rfl⟩
      rw [← hg5]
      have KF1 : Hid (Blk W1 g5 87 #[.bool s2, .slice B1 j1 e1, .slice B2 j2 e2]) := Lib.hid (by rw [hW1, hg5]; exact Blk.new wr _ _)
      have hbw : Below wr.heap.size wr W1 := by rw [hW1]; exact (Below.refl _ _).alloc (Nat.le_refl _) _
      have hg5n : g5 ≠ g := by rw [hg5]; have := HRr.out.blk.lt; omega
      have hw5 : w.heap.size ≤ g5 := by rw [hg5]; exact HB.out.size
      have H1 : Hid (WkRel2 M p n g g5 i s2 B1 j1 e1 B2 j2 e2 w (.int .i64 0) W1) := Lib.hid ⟨0, cs, rfl, Nat.zero_le _, Lib.hid (by rw [mid_zero]; exact HRr.out.below hbw), Lib.hid (Base.Below.nextA HB.out hbw), KF1, Lib.hid (hpj.below hbw)⟩
      clear hW1 hg5 hbw HRr hpj HB y0 y1 y2 hgl KF1
      go_wp2
      go_loopw [23] (fun kv w2 => WkRel2 M p n g g5 i s2 B1 j1 e1 B2 j2 e2 w kv w2) (fun kv _ => n - (intOf kv).toNat)
      case atStart => exact H1.out
      case round =>
        obtain ⟨k, cs, rfl, hk, HR, HB, KF, HJ⟩ := hrel
        clear H1
        by_cases hkn : k < n
        · obtain ⟨gr, A6, c6, rfl, hgr, hrc, hrow⟩ := (HX.out.below HB.out).at hlt
          obtain ⟨gm, s3, D1, i1, b1, D2, i2, b2, rfl, hgm, m0, m1, m2, hmk⟩ := hrow.at hkn
          obtain ⟨s, A1, k1, c1, A2, k2, c2, hx0, hx1, hx2, hI⟩ := HR.out.els k hkn
          have hmid : mid M p i k k = part M p i k := by unfold mid; rw [if_neg (Nat.lt_irrefl k)]
          rw [hmid] at hI
          have HNX := Lib.hid (mid_next M p i k)
          have HZ : Hid (szR (p i) ≤ 200000 ∧ szR (M i k) ≤ 200000 ∧ szR (part M p i k) ≤ 200000 ∧ szR (p i * M i k) ≤ 200000) := Lib.hid (HZ0.out i k hlt hkn)
          have HI := Lib.hid hI
          have HK := Lib.hid hmk
          have HM : Hid (∀ W, Below wr.heap.size wr W → W.cell? ⟨gm, k * 3, none⟩ = some (.bool s3) ∧ W.cell? ⟨gm, k * 3 + 1, none⟩ = some (.slice D1 i1 b1) ∧ W.cell? ⟨gm, k * 3 + 2, none⟩ = some (.slice D2 i2 b2)) := Lib.hid fun W hW =>
            ⟨(hW.cell (p := ⟨gm, k * 3, none⟩) hgm).trans m0, (hW.cell (p := ⟨gm, k * 3 + 1, none⟩) hgm).trans m1, (hW.cell (p := ⟨gm, k * 3 + 2, none⟩) hgm).trans m2⟩
          have hg5 : g5 < wr.heap.size := KF.out.lt
          clear hmid hI hmk hrow m0 m1 m2
          generalize hq0 : part M p i k = q0 at *
          have HQ0 := Lib.hid hq0
          clear hq0
          generalize hpi : p i = pi at *
          have HPI := Lib.hid hpi
          clear hpi
          generalize M i k = m at *
          go_upto_region 8 with (fail)
          refine Rel.wp_region_rel 17 (by kernel_rfl) (by kernel_rfl) (fun F hF => ?_)
          simp only [List.take_succ_cons, List.take_zero, List.drop_succ_cons, List.drop_zero, Rel.putL] at hF ⊢
          have HF := Lib.hid hF
          clear hF
          have uv := @Rel.upon_value Tryz.prog
          have ue := @Rel.upon_enter Tryz.prog
          apply Rel.rel_pure
          apply Exists.intro
          refine ⟨fun vs wq hq hdp R hR => ?_, ?_⟩
          · (rw [HF.out, Rel.stepAt_eq]; clear hdp; skip; go_simp; exact hR)
          apply Rel.rel_pure
          apply Exists.intro
          refine ⟨fun vs wq hq hdp R hR => ?_, ?_⟩
          · (rw [HF.out, Rel.stepAt_eq]; clear hdp; skip; go_simp; exact hR)
          apply Rel.rel_pure
          apply Exists.intro
          refine ⟨fun vs wq hq hdp R hR => ?_, ?_⟩
          · (rw [HF.out, Rel.stepAt_eq]; clear hdp; skip; go_simp; exact hR)
          apply Rel.rel_pure
          apply Exists.intro
          refine ⟨fun vs wq hq hdp R hR => ?_, ?_⟩
          · (rw [HF.out, Rel.stepAt_eq]; clear hdp; skip; go_simp; exact hR)
          apply Rel.rel_pure
          apply Exists.intro
          refine ⟨fun vs wq hq hdp R hR => ?_, ?_⟩
          · (rw [HF.out, Rel.stepAt_eq]; have qd2 : vs 2 = _ := Rel.dep hdp 2 (by kernel_rfl); have qd3 : vs 3 = _ := Rel.dep hdp 3 (by kernel_rfl); clear hdp; skip; go_simp; exact hR)
          apply Rel.rel_pure
          apply Exists.intro
          refine ⟨fun vs wq hq hdp R hR => ?_, ?_⟩
          · (rw [HF.out, Rel.stepAt_eq]; have qd4 : vs 4 = _ := Rel.dep hdp 4 (by kernel_rfl); clear hdp; have x0 := (HR.out.below hq).blk.at (k * 3) hx0; have x1 := (HR.out.below hq).blk.at (k * 3 + 1) hx1; have x2 := (HR.out.below hq).blk.at (k * 3 + 2) hx2; go_simp; exact hR)
          apply Rel.rel_pure
          apply Exists.intro
          refine ⟨fun vs wq hq hdp R hR => ?_, ?_⟩
          · (rw [HF.out, Rel.stepAt_eq]; clear hdp; have y0 := (KF.out.belowS hq).at 0 (v := .bool s2) rfl; have y1 := (KF.out.belowS hq).at 1 (v := .slice B1 j1 e1) rfl; have y2 := (KF.out.belowS hq).at 2 (v := .slice B2 j2 e2) rfl; go_simp; exact hR)
          apply Rel.rel_pure
          apply Exists.intro
          refine ⟨fun vs wq hq hdp R hR => ?_, ?_⟩
          · (rw [HF.out, Rel.stepAt_eq]; clear hdp; skip; go_simp; exact hR)
          apply Rel.rel_pure
          apply Exists.intro
          refine ⟨fun vs wq hq hdp R hR => ?_, ?_⟩
          · (rw [HF.out, Rel.stepAt_eq]; clear hdp; skip; go_simp; exact hR)
          apply Rel.rel_pure
          apply Exists.intro
          refine ⟨fun vs wq hq hdp R hR => ?_, ?_⟩
          · (rw [HF.out, Rel.stepAt_eq]; have qd7 : vs 7 = _ := Rel.dep hdp 7 (by kernel_rfl); have qd8 : vs 8 = _ := Rel.dep hdp 8 (by kernel_rfl); clear hdp; skip; go_simp; exact hR)
          apply Rel.rel_pure
          apply Exists.intro
          refine ⟨fun vs wq hq hdp R hR => ?_, ?_⟩
          · (rw [HF.out, Rel.stepAt_eq]; have qd9 : vs 9 = _ := Rel.dep hdp 9 (by kernel_rfl); clear hdp; have r0 := (hq.cell (p := ⟨gr, i, none⟩) hgr).trans hrc; go_simp; exact hR)
          apply Rel.rel_pure
          apply Exists.intro
          refine ⟨fun vs wq hq hdp R hR => ?_, ?_⟩
          · (rw [HF.out, Rel.stepAt_eq]; clear hdp; skip; go_simp; exact hR)
          apply Rel.rel_pure
          apply Exists.intro
          refine ⟨fun vs wq hq hdp R hR => ?_, ?_⟩
          · (rw [HF.out, Rel.stepAt_eq]; have qd10 : vs 10 = _ := Rel.dep hdp 10 (by kernel_rfl); have qd11 : vs 11 = _ := Rel.dep hdp 11 (by kernel_rfl); clear hdp; skip; go_simp; exact hR)
          apply Rel.rel_pure
          apply Exists.intro
          refine ⟨fun vs wq hq hdp R hR => ?_, ?_⟩
          · (rw [HF.out, Rel.stepAt_eq]; have qd12 : vs 12 = _ := Rel.dep hdp 12 (by kernel_rfl); clear hdp; obtain ⟨u0, u1, u2⟩ := HM.out wq hq; go_simp; exact hR)
          refine Rel.rel_law (S := fun v w' => IsRt w' (pi * m) v) (isRt_mono _) (fun vs wq hq hdp => ?_) ?_
          · (rw [HF.out, Rel.stepAt_eq]; have qd6 : vs 6 = _ := Rel.dep hdp 6 (by kernel_rfl); have qd13 : vs 13 = _ := Rel.dep hdp 13 (by kernel_rfl); clear hdp; skip; go_simp; refine (ratTimes wq (HJ.out.below hq) (HK.out.below hq) HZ.out.1 HZ.out.2.1).mono ?_; rintro e w7 h; obtain ⟨v, rfl, hv, hb⟩ := h.is; exact ⟨_, rfl, hv, hb⟩)
          refine Rel.rel_law (S := fun v w' => IsRt w' (q0 + pi * m) v) (isRt_mono _) (fun vs wq hq hdp => ?_) ?_
          · (rw [HF.out, Rel.stepAt_eq]; have qd5 : vs 5 = _ := Rel.dep hdp 5 (by kernel_rfl); have qd14 : IsRt wq _ (vs 14) := Rel.dep hdp 14 (by kernel_rfl); clear hdp; skip; go_simp; refine (ratPlus wq (HI.out.below hq) qd14 HZ.out.2.2.1 HZ.out.2.2.2).mono ?_; rintro e w7 h; obtain ⟨v, rfl, hv, hb⟩ := h.is; exact ⟨_, rfl, hv, hb⟩)
          apply Rel.rel_pure
          apply Exists.intro
          refine ⟨fun vs wq hq hdp R hR => ?_, ?_⟩
          · (rw [HF.out, Rel.stepAt_eq]; have qd0 : vs 0 = _ := Rel.dep hdp 0 (by kernel_rfl); have qd1 : vs 1 = _ := Rel.dep hdp 1 (by kernel_rfl); clear hdp; skip; go_simp; exact hR)
          refine Rel.rel_end (fun vs wq hq hall => ?_)
          rw [HF.out]
          have qe0 : vs 0 = _ := Rel.fin hall 0 (by decide)
          have qe1 : vs 1 = _ := Rel.fin hall 1 (by decide)
          have qe2 : vs 2 = _ := Rel.fin hall 2 (by decide)
          have qe3 : vs 3 = _ := Rel.fin hall 3 (by decide)
          have qe4 : vs 4 = _ := Rel.fin hall 4 (by decide)
          have qe5 : vs 5 = _ := Rel.fin hall 5 (by decide)
          have qe6 : vs 6 = _ := Rel.fin hall 6 (by decide)
          have qe7 : vs 7 = _ := Rel.fin hall 7 (by decide)
          have qe8 : vs 8 = _ := Rel.fin hall 8 (by decide)
          have qe9 : vs 9 = _ := Rel.fin hall 9 (by decide)
          have qe10 : vs 10 = _ := Rel.fin hall 10 (by decide)
          have qe11 : vs 11 = _ := Rel.fin hall 11 (by decide)
          have qe12 : vs 12 = _ := Rel.fin hall 12 (by decide)
          have qe13 : vs 13 = _ := Rel.fin hall 13 (by decide)
          have qe14 : IsRt wq _ (vs 14) := Rel.fin hall 14 (by decide)
          have qe15 : IsRt wq _ (vs 15) := Rel.fin hall 15 (by decide)
          have qe16 : vs 16 = _ := Rel.fin hall 16 (by decide)
          clear hall HF uv ue
          obtain ⟨t, C1, m1, l1, C2, m2, l2, ev2, hI2⟩ := qe15.open
          have HRq := HR.out.below hq
          obtain ⟨cs', hput⟩ := HRq.put hkn hI2
          have HN2 : Hid (WkRel2 M p n g g5 i s2 B1 j1 e1 B2 j2 e2 w (.int .i64 ((k : Int) + 1)) (put3o wq g (k * 3) (.bool t) (.slice C1 m1 l1) (.slice C2 m2 l2))) := Lib.hid
            ⟨k + 1, cs', by simp, hkn, Lib.hid (by rw [← HNX.out]; exact hput), Lib.hid (put3o_below (Base.Below.nextA HB.out hq) hgB _ _ _), Lib.hid (blk_put3o (KF.out.belowS hq) (fun e => hg5n e.symm) _ _ _), Lib.hid (by rw [HPI.out]; exact isRt_put3o (HJ.out.below hq) HRq.blk hx0 hx1 hx2 _ _ _)⟩
          have z0 := HRq.blk.frz (k * 3)
          have z1 := HRq.blk.frz (k * 3 + 1)
          have z2 := HRq.blk.frz (k * 3 + 2)
          have d0 := HRq.blk.at (k * 3) hx0
          have d1 := HRq.blk.at (k * 3 + 1) hx1
          have d2 := HRq.blk.at (k * 3 + 2) hx2
          unfold put3o at HN2
          clear HRq hput hI2 hq hx0 hx1 hx2 HR KF HI HJ HK HM HB HZ HNX qe0 qe1 qe2 qe3 qe4 qe5 qe6 qe7 qe8 qe9 qe10 qe11 qe12 qe13 qe14 qe15
          go_wp2
          go_roundw
          case rel => exact HN2.out
          case measure => simp [intOf]; omega
        · obtain rfl : k = n := by omega
          have HN : Hid (WkRel M p k g w (.int .i64 ((i : Int) + 1)) wr) := Lib.hid ⟨i + 1, cs, by simp, hlt, Lib.hid ⟨HR.out.blk, HR.out.size, fun y hy => by
            have := HR.out.els y hy
            unfold mid at this
            rwa [if_pos hy] at this⟩, HB⟩
          clear HR HB KF HJ
          go_wp2
          go_roundw
          case rel => exact HN.out
          case measure => simp [intOf]; omega
    · obtain rfl : i = n := by omega
      have HE : Hid (RowRet i (stepR i M p) w (.returned (.slice (some ⟨g, 0, none⟩) i i)) wr) := Lib.hid ⟨g, cs, rfl, HRr.out, hgB, HB.out⟩
      clear HRr HB
      go_wp2
      go_ret
      exact HE.out
end Go.Proofs.YtionognmgcabbaaGreat.Ratio
/- The program: the distance of lists. -/
namespace Go.Proofs.YtionognmgcabbaaGreat.Ratio
open Go.RowKit Go.Proofs.YtionognmgcabbaaGreat Go.Proofs.YtionognmgcabbaaGreat.Base Go.Proofs.YtionognmgcabbaaGreat.Mem Go.Proofs.YtionognmgcabbaaGreat.NatM Go.Proofs.YtionognmgcabbaaGreat.Nat32 Go.Proofs.YtionognmgcabbaaGreat.RatM Go.Proofs.YtionognmgcabbaaGreat.Blk Go.Proofs.YtionognmgcabbaaGreat.MemF Go.Proofs.YtionognmgcabbaaGreat.ChM Go.Proofs.YtionognmgcabbaaGreat.GaussM
open Go.Proofs.YtionognmgcabbaaGreat.Inv (natOf natOf_eq len_pos Rat3 not_slice not_bool frz)
set_option linter.unusedVariables false
theorem RV.put {w wq : World} {q : Rat} {b : Nat} {t : Bool} {C1 C2 : Option Addr} {m1 l1 m2 l2 : Nat} {s : Bool} {A1 A2 : Option Addr} {k1 c1 k2 c2 : Nat} (h : IsRt wq q (.agg #[.bool t, .slice C1 m1 l1, .slice C2 m2 l2])) (K : Blk wq b 87 #[.bool s, .slice A1 k1 c1, .slice A2 k2 c2]) (hb : Below w.heap.size w wq) (hB : w.heap.size ≤ b) :
    RV q w (.returned (.agg #[.bool t, .slice C1 m1 l1, .slice C2 m2 l2])) (put3 wq b (.bool t) (.slice C1 m1 l1) (.slice C2 m2 l2)) := (h.put3 K _ _ _).ret (put3_below hb hB _ _ _)
/-- the sum of the differences so far -/
def dsum (f g : Nat → Rat) (i : Nat) : Rat := sumR i (fun j => absR (f j - g j))
/-- the sizes of all that is reckoned -/
def DisOk (n : Nat) (f g : Nat → Rat) : Prop := (∀ i, i < n → szR (f i) ≤ 200000 ∧ szR (g i) ≤ 200000 ∧ szR (f i - g i) ≤ 200000) ∧ ∀ i, i ≤ n → szR (dsum f g i) ≤ 200000
def DisRel (f g : Nat → Rat) (n g3 : Nat) (w : World) (iv : Value) (wr : World) : Prop :=
  ∃ (i : Nat) (s : Bool) (A1 : Option Addr) (k1 c1 : Nat) (A2 : Option Addr) (k2 c2 : Nat), iv = .int .i64 (i : Int) ∧ i ≤ n ∧ Hid (Blk wr g3 87 #[.bool s, .slice A1 k1 c1, .slice A2 k2 c2]) ∧ Hid (IsRt wr (dsum f g i) (.agg #[.bool s, .slice A1 k1 c1, .slice A2 k2 c2])) ∧ Hid (Blk wr w.heap.size 87 #[.bool false, .slice none 0 0, .slice none 0 0]) ∧ Hid (Below w.heap.size w wr)
set_option maxHeartbeats 1000000 in
set_option maxRecDepth 100000 in
theorem disI_any {A A' : Option Addr} {c c' n : Nat} {f g : Nat → Rat} (w : World) (hx : RdR w A n f) (hy : RdR w A' n g) (hn : n ≤ 1000) (hz : DisOk n f g) : Calls Tryz.prog 106 #[.slice A n c, .slice A' n c'] w (RV (disR n f g) w) := by
  have HX := Lib.hid hx
  have HY := Lib.hid hy
  have HZ0 := Lib.hid hz
  have KR0 : Hid (Blk (w.alloc (.cells #[.bool false, .slice none 0 0, .slice none 0 0] 87)) w.heap.size 87 #[.bool false, .slice none 0 0, .slice none 0 0]) := Lib.hid (Blk.new w _ _)
  have HB0 : Hid (Below w.heap.size w (w.alloc (.cells #[.bool false, .slice none 0 0, .slice none 0 0] 87))) := Lib.hid ((Below.refl _ _).alloc (Nat.le_refl _) _)
  clear hx hy hz
  go_enter Tryz.func106, Tryz.ntmps106
  go_wp2_with fail
  refine (whole_rt 0 0 (by decide) ⟨rfl, rfl, by decide⟩ _).mono ?_
  rintro e w2 ⟨v, rfl, hv0, hb2⟩
  obtain ⟨s, A1, k1, c1, A2, k2, c2, rfl, hv⟩ := hv0.open
  have HB2 := Lib.hid (Base.Below.nextA HB0.out hb2)
  have KR2 := Lib.hid (KR0.out.belowS hb2)
  have HI0 := Lib.hid hv
  clear hb2 hv hv0 KR0 HB0
  go_upto_region 2 with (fail)
  obtain ⟨W3, hW3⟩ : ∃ W3, W3 = w2.alloc (.cells #[.bool s, .slice A1 k1 c1, .slice A2 k2 c2] 87) := ⟨_, rfl⟩
  rw [← hW3]
  obtain ⟨g3, hg3⟩ : ∃ g3, g3 = w2.heap.size := ⟨_, rfl⟩
  rw [← hg3]
  have hlt3 : w.heap.size < g3 := by rw [hg3]; exact KR2.out.lt
  have H0 : Hid (DisRel f g n g3 w (.int .i64 0) W3) := Lib.hid (by
    have hb3 : Below w2.heap.size w2 W3 := by rw [hW3]; exact (Below.refl _ _).alloc (Nat.le_refl _) _
    exact ⟨0, s, A1, k1, c1, A2, k2, c2, rfl, Nat.zero_le _, Lib.hid (by rw [hW3, hg3]; exact Blk.new w2 _ _), Lib.hid (HI0.out.below hb3), Lib.hid (KR2.out.belowS hb3), Lib.hid (Base.Below.nextA HB2.out hb3)⟩)
  clear hW3 hg3 HI0 HB2 KR2
  go_wp2
  go_loopw [11] (fun iv wr => DisRel f g n g3 w iv wr) (fun iv _ => n - (intOf iv).toNat)
  case atStart => exact H0.out
  case round =>
    obtain ⟨i, s, A1, k1, c1, A2, k2, c2, rfl, hi, K3r, HIr, KRr, HB⟩ := hrel
    clear H0
    by_cases hlt : i < n
    · obtain ⟨ga, s2, B1, j1, e1, B2, j2, e2, rfl, hgl, y0, y1, y2, hpj⟩ := (HX.out.below HB.out).at hlt
      obtain ⟨gb, s4, D1, i1, f1, D2, i2, f2, rfl, hgl2, u0, u1, u2, hpk⟩ := (HY.out.below HB.out).at hlt
      have HSM : Hid (dsum f g (i + 1) = dsum f g i + absR (f i - g i)) := Lib.hid rfl
      have HZ : Hid (szR (f i) ≤ 200000 ∧ szR (g i) ≤ 200000 ∧ szR (dsum f g i) ≤ 200000 ∧ szR (absR (f i - g i)) ≤ 200000) := Lib.hid (by
        obtain ⟨h1, h2, h3⟩ := HZ0.out.1 i hlt
        exact ⟨h1, h2, HZ0.out.2 i hi, by rw [szR_abs]; exact h3⟩)
      generalize f i = x at *
      generalize g i = y at *
      generalize hs0 : dsum f g i = s0 at *
      have HS0 := Lib.hid hs0
      clear hs0
      go_upto_region 5 with (fail)
      obtain ⟨W1, hW1⟩ : ∃ W1, W1 = wr.alloc (.cells #[.bool s2, .slice B1 j1 e1, .slice B2 j2 e2] 87) := ⟨_, rfl⟩
      rw [← hW1]
      obtain ⟨g5, hg5⟩ : ∃ g5, g5 = wr.heap.size := ⟨_, rfl⟩
      rw [← hg5]
      have KF : Hid (Blk W1 g5 87 #[.bool s2, .slice B1 j1 e1, .slice B2 j2 e2]) := Lib.hid (by rw [hW1, hg5]; exact Blk.new wr _ _)
      have hbw : Below wr.heap.size wr W1 := by rw [hW1]; exact (Below.refl _ _).alloc (Nat.le_refl _) _
      have K3 := Lib.hid (K3r.out.belowS hbw)
      have KR := Lib.hid (KRr.out.belowS hbw)
      have HS := Lib.hid (HIr.out.below hbw)
      have HJ := Lib.hid (hpj.below hbw)
      have HK := Lib.hid (hpk.below hbw)
      have HB1 := Lib.hid (Base.Below.nextA HB.out hbw)
      have HV : Hid (∀ W, Below W1.heap.size W1 W → W.cell? ⟨gb, i * 3, none⟩ = some (.bool s4) ∧ W.cell? ⟨gb, i * 3 + 1, none⟩ = some (.slice D1 i1 f1) ∧ W.cell? ⟨gb, i * 3 + 2, none⟩ = some (.slice D2 i2 f2)) := Lib.hid fun W hW => by
        have hb := Base.Below.nextA hbw hW
        exact ⟨(hb.cell (p := ⟨gb, i * 3, none⟩) hgl2).trans u0, (hb.cell (p := ⟨gb, i * 3 + 1, none⟩) hgl2).trans u1, (hb.cell (p := ⟨gb, i * 3 + 2, none⟩) hgl2).trans u2⟩
      clear hW1 hg5 hbw K3r KRr HIr hpj hpk HB y0 y1 y2 u0 u1 u2 hgl hgl2
      refine Rel.wp_region_rel 9 (by kernel_rfl) (by kernel_rfl) (fun F hF => ?_)
      simp only [List.take_succ_cons, List.take_zero, List.drop_succ_cons, List.drop_zero, Rel.putL] at hF ⊢
      have HF := Lib.hid hF
      clear hF
      have uv := @Rel.upon_value Tryz.prog
      have ue := @Rel.upon_enter Tryz.prog
      apply Rel.rel_pure
      apply Exists.intro
      refine ⟨fun vs wq hq hdp R hR => ?_, ?_⟩
      · (rw [HF.out, Rel.stepAt_eq]; clear hdp; have x0 := (K3.out.belowS hq).at 0 (v := .bool s) rfl; have x1 := (K3.out.belowS hq).at 1 (v := .slice A1 k1 c1) rfl; have x2 := (K3.out.belowS hq).at 2 (v := .slice A2 k2 c2) rfl; go_simp; exact hR)
      apply Rel.rel_pure
      apply Exists.intro
      refine ⟨fun vs wq hq hdp R hR => ?_, ?_⟩
      · (rw [HF.out, Rel.stepAt_eq]; clear hdp; have y0 := (KF.out.belowS hq).at 0 (v := .bool s2) rfl; have y1 := (KF.out.belowS hq).at 1 (v := .slice B1 j1 e1) rfl; have y2 := (KF.out.belowS hq).at 2 (v := .slice B2 j2 e2) rfl; go_simp; exact hR)
      apply Rel.rel_pure
      apply Exists.intro
      refine ⟨fun vs wq hq hdp R hR => ?_, ?_⟩
      · (rw [HF.out, Rel.stepAt_eq]; clear hdp; skip; go_simp; exact hR)
      apply Rel.rel_pure
      apply Exists.intro
      refine ⟨fun vs wq hq hdp R hR => ?_, ?_⟩
      · (rw [HF.out, Rel.stepAt_eq]; clear hdp; skip; go_simp; exact hR)
      apply Rel.rel_pure
      apply Exists.intro
      refine ⟨fun vs wq hq hdp R hR => ?_, ?_⟩
      · (rw [HF.out, Rel.stepAt_eq]; have qd2 : vs 2 = _ := Rel.dep hdp 2 (by kernel_rfl); have qd3 : vs 3 = _ := Rel.dep hdp 3 (by kernel_rfl); clear hdp; skip; go_simp; exact hR)
      apply Rel.rel_pure
      apply Exists.intro
      refine ⟨fun vs wq hq hdp R hR => ?_, ?_⟩
      · (rw [HF.out, Rel.stepAt_eq]; have qd4 : vs 4 = _ := Rel.dep hdp 4 (by kernel_rfl); clear hdp; obtain ⟨v0, v1, v2⟩ := HV.out wq hq; go_simp; exact hR)
      refine Rel.rel_law (S := fun v w' => IsRt w' (x - y) v) (isRt_mono _) (fun vs wq hq hdp => ?_) ?_
      · (rw [HF.out, Rel.stepAt_eq]; have qd1 : vs 1 = _ := Rel.dep hdp 1 (by kernel_rfl); have qd5 : vs 5 = _ := Rel.dep hdp 5 (by kernel_rfl); clear hdp; skip; go_simp; refine (ratMinus wq (HJ.out.below hq) (HK.out.below hq) HZ.out.1 HZ.out.2.1).mono ?_; rintro e w7 h; obtain ⟨v, rfl, hv, hb⟩ := h.is; exact ⟨_, rfl, hv, hb⟩)
      refine Rel.rel_law (S := fun v w' => IsRt w' (absR (x - y)) v) (isRt_mono _) (fun vs wq hq hdp => ?_) ?_
      · (rw [HF.out, Rel.stepAt_eq]; have qd6 : IsRt wq _ (vs 6) := Rel.dep hdp 6 (by kernel_rfl); clear hdp; skip; go_simp; refine (ratAbs wq qd6).mono ?_; rintro e w7 h; obtain ⟨v, rfl, hv, hb⟩ := h.is; exact ⟨_, rfl, hv, hb⟩)
      refine Rel.rel_law (S := fun v w' => IsRt w' (s0 + absR (x - y)) v) (isRt_mono _) (fun vs wq hq hdp => ?_) ?_
      · (rw [HF.out, Rel.stepAt_eq]; have qd0 : vs 0 = _ := Rel.dep hdp 0 (by kernel_rfl); have qd7 : IsRt wq _ (vs 7) := Rel.dep hdp 7 (by kernel_rfl); clear hdp; skip; go_simp; refine (ratPlus wq (HS.out.below hq) qd7 HZ.out.2.2.1 HZ.out.2.2.2).mono ?_; rintro e w7 h; obtain ⟨v, rfl, hv, hb⟩ := h.is; exact ⟨_, rfl, hv, hb⟩)
      refine Rel.rel_end (fun vs wq hq hall => ?_)
      rw [HF.out]
      have qe0 : vs 0 = _ := Rel.fin hall 0 (by decide)
      have qe1 : vs 1 = _ := Rel.fin hall 1 (by decide)
      have qe2 : vs 2 = _ := Rel.fin hall 2 (by decide)
      have qe3 : vs 3 = _ := Rel.fin hall 3 (by decide)
      have qe4 : vs 4 = _ := Rel.fin hall 4 (by decide)
      have qe5 : vs 5 = _ := Rel.fin hall 5 (by decide)
      have qe6 : IsRt wq _ (vs 6) := Rel.fin hall 6 (by decide)
      have qe7 : IsRt wq _ (vs 7) := Rel.fin hall 7 (by decide)
      have qe8 : IsRt wq _ (vs 8) := Rel.fin hall 8 (by decide)
      clear hall HF uv ue
      obtain ⟨t, C1, m1, l1, C2, m2, l2, ev, hI⟩ := qe8.open
      have K3q := K3.out.belowS hq
      have HN : Hid (DisRel f g n g3 w (.int .i64 ((i : Int) + 1)) (put3 wq g3 (.bool t) (.slice C1 m1 l1) (.slice C2 m2 l2))) := Lib.hid
        ⟨i + 1, t, C1, m1, l1, C2, m2, l2, by simp, hlt, Lib.hid (put3_blk K3q _ _ _), Lib.hid (by rw [HSM.out]; exact hI.put3 K3q _ _ _), Lib.hid (put3_other (KR.out.belowS hq) (by omega) _ _ _), Lib.hid (put3_below (Base.Below.nextA HB1.out hq) (by omega) _ _ _)⟩
      have z0 := K3q.frz 0
      have z1 := K3q.frz 1
      have z2 := K3q.frz 2
      have d0 := K3q.at 0 (v := .bool s) rfl
      have d1 := K3q.at 1 (v := .slice A1 k1 c1) rfl
      have d2 := K3q.at 2 (v := .slice A2 k2 c2) rfl
      unfold put3 at HN
      clear K3q hI qe6 qe7 qe8 qe0 qe1 qe2 qe3 qe4 qe5 hq K3 KF HS HJ HK HV HB1 HZ HSM KR
      go_wp2
      go_roundw
      case rel => exact HN.out
      case measure => simp [intOf]; omega
    · obtain rfl : i = n := by omega
      have HZ : Hid (szR (dsum f g i) ≤ 200000 ∧ szR (2 : Rat) ≤ 200000) := Lib.hid ⟨HZ0.out.2 i (Nat.le_refl _), by
        have : Dg (B32 ^ 1) (2 : Rat) := ⟨by decide, by decide⟩
        have := dgb_sz this
        omega⟩
      have HRES : Hid (disR i f g = dsum f g i * (2 : Rat)⁻¹) := Lib.hid rfl
      have K3 := Lib.hid K3r.out
      have HS := Lib.hid HIr.out
      clear K3r HIr
      generalize dsum f g i = s0 at *
      go_upto_region 7 with (fail)
      refine Rel.wp_region_rel 3 (by kernel_rfl) (by kernel_rfl) (fun F hF => ?_)
      simp only [List.take_succ_cons, List.take_zero, List.drop_succ_cons, List.drop_zero, Rel.putL] at hF ⊢
      have HF := Lib.hid hF
      clear hF
      have uv := @Rel.upon_value Tryz.prog
      have ue := @Rel.upon_enter Tryz.prog
      apply Rel.rel_pure
      apply Exists.intro
      refine ⟨fun vs wq hq hdp R hR => ?_, ?_⟩
      · (rw [HF.out, Rel.stepAt_eq]; clear hdp; have x0 := (K3.out.belowS hq).at 0 (v := .bool s) rfl; have x1 := (K3.out.belowS hq).at 1 (v := .slice A1 k1 c1) rfl; have x2 := (K3.out.belowS hq).at 2 (v := .slice A2 k2 c2) rfl; go_simp; exact hR)
      refine Rel.rel_law (S := fun v w' => IsRt w' 2 v) (isRt_mono _) (fun vs wq hq hdp => ?_) ?_
      · (rw [HF.out, Rel.stepAt_eq]; clear hdp; skip; go_simp; exact whole_rt 2 2 (by decide) ⟨rfl, rfl, by decide⟩ _)
      refine Rel.rel_law (S := fun v w' => IsRt w' (s0 * (2 : Rat)⁻¹) v) (isRt_mono _) (fun vs wq hq hdp => ?_) ?_
      · (rw [HF.out, Rel.stepAt_eq]; have qd0 : vs 0 = _ := Rel.dep hdp 0 (by kernel_rfl); have qd1 : IsRt wq _ (vs 1) := Rel.dep hdp 1 (by kernel_rfl); clear hdp; skip; go_simp; refine (ratOver wq (HS.out.below hq) qd1 HZ.out.1 HZ.out.2 (by decide)).mono ?_; rintro e w7 h; obtain ⟨v, rfl, hv, hb⟩ := h.is; exact ⟨_, rfl, hv, hb⟩)
      refine Rel.rel_end (fun vs wq hq hall => ?_)
      rw [HF.out]
      have qe0 : vs 0 = _ := Rel.fin hall 0 (by decide)
      have qe1 : IsRt wq _ (vs 1) := Rel.fin hall 1 (by decide)
      have qe2 : IsRt wq _ (vs 2) := Rel.fin hall 2 (by decide)
      clear hall HF uv ue
      obtain ⟨t, C1, m1, l1, C2, m2, l2, ev, hI⟩ := qe2.open
      have KRq := KRr.out.belowS hq
      have HBq := Base.Below.nextA HB.out hq
      have HI2 : Hid (IsRt wq (disR i f g) (.agg #[.bool t, .slice C1 m1 l1, .slice C2 m2 l2])) := Lib.hid (by rw [HRES.out]; exact hI)
      clear hI qe0 qe1 qe2 hq K3 HS HZ KRr HB HRES
      have z0 := (KRq).frz 0
      have z1 := (KRq).frz 1
      have z2 := (KRq).frz 2
      have c0 := (KRq).at 0 (v := .bool false) rfl
      have c1 := (KRq).at 1 (v := .slice none 0 0) rfl
      have c2 := (KRq).at 2 (v := .slice none 0 0) rfl
      have SS := put3_blk (KRq) (.bool t) (.slice C1 m1 l1) (.slice C2 m2 l2)
      unfold put3 at SS
      have s0 := SS.at 0 rfl
      have s1 := SS.at 1 rfl
      have s2 := SS.at 2 rfl
      have HFIN := Lib.hid (RV.put (HI2.out) (KRq) (HBq) (Nat.le_refl _))
      unfold put3 at HFIN
      clear SS
      go_wp2
      refine bodyPost_ret (v := .agg #[.bool t, .slice C1 m1 l1, .slice C2 m2 l2]) (by simp [results, Tryz.results106, go_sem, s0, s1, s2]) rfl ?_
      exact HFIN.out
end Go.Proofs.YtionognmgcabbaaGreat.Ratio
/- Plain: how far what rows make of a source is from equal chances; its size. -/
namespace Go.Proofs.YtionognmgcabbaaGreat.Ratio
open Go.RowKit Go.Proofs.YtionognmgcabbaaGreat Go.Proofs.YtionognmgcabbaaGreat.Base Go.Proofs.YtionognmgcabbaaGreat.Mem Go.Proofs.YtionognmgcabbaaGreat.NatM Go.Proofs.YtionognmgcabbaaGreat.Nat32 Go.Proofs.YtionognmgcabbaaGreat.RatM Go.Proofs.YtionognmgcabbaaGreat.GaussM Go.Proofs.YtionognmgcabbaaGreat.ChM Go.Proofs.YtionognmgcabbaaGreat.ExtM Go.Proofs.YtionognmgcabbaaGreat.RowN
set_option linter.unusedVariables false
theorem vf_even {N : Nat} (h1 : 1 ≤ N) (h2 : N ≤ 1000) : VF 1 (N : Int) := ⟨by omega, by omega, by decide, by decide, by simp⟩
theorem even_num {N : Nat} (h1 : 1 ≤ N) (h2 : N ≤ 1000) : (qf 1 (N : Int)).num = 1 ∧ (qf 1 (N : Int)).den = N ∧ decide (qf 1 (N : Int) < 0) = false := by
  obtain ⟨g1, g2, g3⟩ := (vf_even h1 h2).num
  exact ⟨g1, by omega, g3⟩
/-- the distance from equal chances -/
def farQ (xs fs : List Int) (n : Nat) : Rat := disR (2 ^ xs.length) (exQ xs fs n) (fun _ => qf 1 ((2 ^ xs.length : Nat) : Int))
theorem ov_exQ {xs fs : List Int} {n y : Nat} (hv : AllVF fs n) : Ov (denP fs n) (n * 1000000000000000000) (exQ xs fs n y) :=
  ov_sum fun x hx => by
    show Ov _ _ (if _ then _ else _)
    split
    · exact ov_fq hv hx
    · exact (Ov.zero _).more (Nat.zero_le _)
theorem ov_even {N : Nat} (h1 : 1 ≤ N) (h2 : N ≤ 1000) : Ov N 1 (qf 1 (N : Int)) := by
  obtain ⟨g1, g2, _⟩ := even_num h1 h2
  refine ov_of (by rw [g2]; exact Nat.dvd_refl _) (by rw [g1]; decide)
theorem ov_diff {xs fs : List Int} {n N y : Nat} (hv : AllVF fs n) (h1 : 1 ≤ N) (h2 : N ≤ 1000) : Ov (denP fs n * N) (n * 1000000000000000000 + 1) (exQ xs fs n y - qf 1 (N : Int)) :=
  (ov_exQ hv).scale.sub (by have := (ov_even h1 h2).scale (E := denP fs n); rwa [Nat.mul_comm] at this)
theorem ov_dsum {xs fs : List Int} {n N i : Nat} (hv : AllVF fs n) (h1 : 1 ≤ N) (h2 : N ≤ 1000) : Ov (denP fs n * N) (i * (n * 1000000000000000000 + 1)) (dsum (exQ xs fs n) (fun _ => qf 1 (N : Int)) i) :=
  ov_sum fun j _ => ov_abs (ov_diff hv h1 h2)
theorem ten_le : ∀ n, n ≤ 16 → (1000000000000000000 : Nat) ^ n ≤ B32 ^ (2 * n) := fun n _ => by
  rw [Nat.pow_mul]
  exact Nat.pow_le_pow_left (by decide) n
theorem denP_b {fs : List Int} {n : Nat} (hv : AllVF fs n) (hn : n ≤ 16) : denP fs n ≤ B32 ^ 32 :=
  Nat.le_trans (denP_le hv) (Nat.le_trans (ten_le n hn) (Nat.pow_le_pow_right B32_pos (by omega)))
theorem mul_lt_b {a P x : Nat} (ha : a < B32 ^ 3) (hP : P ≤ B32 ^ 32) (h : x ≤ a * P) : x < B32 ^ 35 := by
  refine Nat.lt_of_le_of_lt h ?_
  refine Nat.lt_of_le_of_lt (Nat.mul_le_mul_left a hP) ?_
  rw [show B32 ^ 35 = B32 ^ 3 * B32 ^ 32 from rfl]
  exact Nat.mul_lt_mul_of_pos_right ha (Nat.pow_pos B32_pos)
theorem b3 : B32 ^ 3 = 79228162514264337593543950336 := by decide
theorem far_ok {xs fs : List Int} {n N : Nat} (hv : AllVF fs n) (hn : n ≤ 16) (h1 : 1 ≤ N) (h2 : N ≤ 8) : DisOk N (exQ xs fs n) (fun _ => qf 1 (N : Int)) := by
  have hP := denP_b hv hn
  have hP0 := denP_pos hv
  have hD0 : 0 < denP fs n * N := Nat.mul_pos hP0 h1
  have hN := (Nat.le_refl N)
  refine ⟨fun i hi => ⟨?_, ?_, ?_⟩, fun i hi => ?_⟩
  · have := dgb_sz (dgb_exQ (xs := xs) (y := i) hv hn); omega
  · have := dgb_sz (dgb_vf (vf_even h1 (show N ≤ 1000 by omega)))
    show szR (qf 1 (N : Int)) ≤ 200000
    omega
  · have h := ov_diff (xs := xs) (y := i) hv h1 (show N ≤ 1000 by omega)
    have := ov_sz hD0 (by omega) h (m := 35) (mul_lt_b (a := (n * 1000000000000000000 + 1) * N) (P := denP fs n) (by
      rw [b3]; have := Nat.mul_le_mul (show n * 1000000000000000000 + 1 ≤ 17000000000000000000 by omega) h2; omega) hP (by rw [Nat.mul_comm (denP fs n) N, ← Nat.mul_assoc]; exact Nat.le_refl _))
    show szR (exQ xs fs n i - qf 1 (N : Int)) ≤ 200000
    omega
  · rcases Nat.eq_zero_or_pos i with rfl | hi0
    · have : Dg (B32 ^ 1) (dsum (exQ xs fs n) (fun _ => qf 1 (N : Int)) 0) := dgb_zero (by omega)
      have := dgb_sz this
      omega
    · have h := ov_dsum (xs := xs) (i := i) hv h1 (show N ≤ 1000 by omega)
      have := ov_sz hD0 (Nat.mul_pos hi0 (by omega)) h (m := 35) (mul_lt_b (a := (i * (n * 1000000000000000000 + 1)) * N) (P := denP fs n) (by
        rw [b3]
        have e1 := Nat.mul_le_mul (show i ≤ 8 by omega) (show n * 1000000000000000000 + 1 ≤ 17000000000000000000 by omega)
        have e2 := Nat.mul_le_mul e1 h2
        omega) hP (by rw [Nat.mul_comm (denP fs n) N, ← Nat.mul_assoc]; exact Nat.le_refl _))
      omega
/-- its size -/
theorem ov_far {xs fs : List Int} {n : Nat} (hv : AllVF fs n) (h3 : xs.length ≤ 3) : Ov (denP fs n * 16) (8 * (n * 1000000000000000000 + 1)) (farQ xs fs n) := by
  have hN : 2 ^ xs.length ≤ 8 := pow_len h3
  have hN1 : 1 ≤ 2 ^ xs.length := Nat.pow_pos (by decide)
  have hd : 2 ^ xs.length ∣ 8 := Nat.pow_dvd_pow 2 h3
  unfold farQ disR
  obtain ⟨k, hk⟩ := hd
  have h := ov_dsum (xs := xs) (i := 2 ^ xs.length) hv hN1 (by omega)
  have h2 := (h.scale (E := k)).more (c := 8 * (n * 1000000000000000000 + 1)) (Nat.mul_le_mul_right _ hN)
  rw [Nat.mul_assoc, ← hk] at h2
  have hh : Ov 2 1 ((2 : Rat)⁻¹) := by
    refine ov_of ?_ ?_
    · rw [show ((2 : Rat)⁻¹).den = 2 by decide +kernel]; exact Nat.dvd_refl _
    · rw [show ((2 : Rat)⁻¹).num = 1 by decide +kernel]; decide
  have h4 := h2.mul hh
  rw [Nat.mul_assoc, Nat.mul_one] at h4
  exact h4
theorem far_sz {xs fs : List Int} {n : Nat} (hv : AllVF fs n) (hn : n ≤ 16) (h3 : xs.length ≤ 3) : szR (farQ xs fs n) ≤ 70 := by
  have hP := denP_b hv hn
  have hP0 := denP_pos hv
  exact ov_sz (Nat.mul_pos hP0 (by decide)) (by omega) (ov_far hv h3) (m := 35) (mul_lt_b (a := 8 * (n * 1000000000000000000 + 1) * 16) (P := denP fs n) (by rw [b3]; omega) hP (by rw [Nat.mul_comm (denP fs n) 16, ← Nat.mul_assoc]; exact Nat.le_refl _))
end Go.Proofs.YtionognmgcabbaaGreat.Ratio
/- Plain: the numbers of a walk of at most 30 steps are small enough. -/
namespace Go.Proofs.YtionognmgcabbaaGreat.Ratio
open Go.RowKit Go.Proofs.YtionognmgcabbaaGreat Go.Proofs.YtionognmgcabbaaGreat.Base Go.Proofs.YtionognmgcabbaaGreat.Mem Go.Proofs.YtionognmgcabbaaGreat.NatM Go.Proofs.YtionognmgcabbaaGreat.Nat32 Go.Proofs.YtionognmgcabbaaGreat.RatM Go.Proofs.YtionognmgcabbaaGreat.GaussM Go.Proofs.YtionognmgcabbaaGreat.ChM Go.Proofs.YtionognmgcabbaaGreat.WalkM Go.Proofs.YtionognmgcabbaaGreat.GiveM
set_option linter.unusedVariables false
def bigE : Nat := 3000
def LeB (m x : Nat) : Prop := x ≤ B32 ^ m
theorem LeB.mul {m k x y : Nat} (h : LeB m x) (g : LeB k y) : LeB (m + k) (x * y) := by
  unfold LeB at *
  rw [Nat.pow_add]
  exact Nat.mul_le_mul h g
theorem LeB.pow {m x : Nat} (h : LeB m x) (t : Nat) : LeB (m * t) (x ^ t) := by
  unfold LeB at *
  rw [Nat.pow_mul]
  exact Nat.pow_le_pow_left h t
theorem LeB.more {m k x : Nat} (h : LeB m x) (hk : m ≤ k) : LeB k x := Nat.le_trans h (Nat.pow_le_pow_right B32_pos hk)
theorem leB_small {x : Nat} (h : x ≤ 4294967296) : LeB 1 x := by unfold LeB; rw [Nat.pow_one]; exact h
theorem leB_ten : LeB 2 1000000000000000000 := by unfold LeB; decide
theorem LeB.lt {m k x : Nat} (h : LeB m x) (hk : m < k) : x < B32 ^ k := Nat.lt_of_le_of_lt h (Nat.pow_lt_pow_right (by decide) hk)
theorem leB_denP {ps : List Int} {n : Nat} (h : AllVF ps n) : LeB (2 * n) (denP ps n) := Nat.le_trans (denP_le h) (leB_ten.pow n)
theorem leB_denW {fs : Nat → List Int} {n m : Nat} (h : ∀ i, i < m → AllVF (fs i) n) : LeB (2 * n * m) (denW fs n m) := Nat.le_trans (denW_le h) ((leB_ten.pow n).pow m)
/-- the greatest of all numbers behind t steps -/
def topX (n t : Nat) (ps : List Int) (fs : Nat → List Int) : Nat := n * (1000000000000000000 * (n * 1000000000000000000) ^ t * 1000000000000000000) * (denP ps n * denW fs n n ^ t * denW fs n n)
theorem topX_lt {n t : Nat} {ps : List Int} {fs : Nat → List Int} (hn : n ≤ 6) (ht : t ≤ 30) (h1 : AllVF ps n) (h2 : ∀ i, i < n → AllVF (fs i) n) : topX n t ps fs < B32 ^ bigE := by
  have a1 := leB_small (x := n) (by omega)
  have a2 := (a1.mul leB_ten).pow t
  have hD := leB_denP h1
  have hE := leB_denW h2
  have hE72 : LeB 72 (denW fs n n) := hE.more (by
    have := Nat.mul_le_mul (show 2 * n ≤ 12 by omega) hn
    omega)
  have hall := (a1.mul ((leB_ten.mul a2).mul leB_ten)).mul ((hD.mul (hE72.pow t)).mul hE72)
  exact hall.lt (by unfold bigE; omega)
theorem sz_of {D b m : Nat} {q : Rat} (hD : 0 < D) (hb : 0 < b) (h : Ov D b q) (hm : b * D < B32 ^ bigE) : szR q ≤ 200000 := by
  have := ov_sz hD hb h hm
  unfold bigE at this
  omega
theorem le_mul_r {x y : Nat} (h : 0 < y) : x ≤ x * y := Nat.le_mul_of_pos_right x h
theorem run_ok {n t : Nat} {ps : List Int} {fs : Nat → List Int} (hn1 : 1 ≤ n) (hn : n ≤ 6) (ht : t ≤ 30) (h1 : AllVF ps n) (h2 : ∀ i, i < n → AllVF (fs i) n) : StepOk n (wM fs) (runR n (wM fs) (fq ps) t) := by
  have hX := topX_lt hn ht h1 h2
  have hD := denP_pos h1
  have hE := denW_pos (m := n) h2
  have hp : ∀ k, k < n → Ov (denP ps n * denW fs n n ^ t) (1000000000000000000 * (n * 1000000000000000000) ^ t) (runR n (wM fs) (fq ps) t k) := fun k hk => ov_run (fun i hi => ov_fq h1 hi) (fun i k hi hk => ov_wM h2 hi hk) t k hk
  have hM : ∀ i k, i < n → k < n → Ov (denW fs n n) 1000000000000000000 (wM fs i k) := fun i k hi hk => ov_wM h2 hi hk
  have hDt : 0 < denP ps n * denW fs n n ^ t := Nat.mul_pos hD (Nat.pow_pos hE)
  have hbt : 0 < 1000000000000000000 * (n * 1000000000000000000) ^ t := Nat.mul_pos (by decide) (Nat.pow_pos (by omega))
  unfold topX at hX
  generalize 1000000000000000000 * (n * 1000000000000000000) ^ t = bt at *
  generalize denP ps n * denW fs n n ^ t = Dt at *
  generalize denW fs n n = E at *
  have hDE : 0 < Dt * E := Nat.mul_pos hDt hE
  have hbe : 0 < n * (bt * 1000000000000000000) := Nat.mul_pos hn1 (Nat.mul_pos hbt (by decide))
  intro i k hi hk
  refine ⟨?_, ?_, ?_, ?_⟩
  · refine sz_of hDt hbt (hp i hi) (m := 0) (Nat.lt_of_le_of_lt ?_ hX)
    refine Nat.mul_le_mul ?_ (le_mul_r hE)
    exact Nat.le_trans (le_mul_r (y := 1000000000000000000) (by decide)) (by rw [Nat.mul_comm n]; exact le_mul_r hn1)
  · have := dgb_sz (dgb_vf (h2 i hi k hk))
    show szR (fq (fs i) k) ≤ 200000
    rw [show fq (fs i) k = qf ((fs i).getD (2 * k) 0) ((fs i).getD (2 * k + 1) 0) from rfl]
    omega
  · have h := ov_sum (n := i) (f := fun j => runR n (wM fs) (fq ps) t j * wM fs j k) (fun j hj => (hp j (by omega)).mul (hM j k (by omega) hk))
    exact sz_of (m := 0) hDE hbe (h.more (Nat.mul_le_mul_right _ (by omega))) hX
  · have h := (hp i hi).mul (hM i k hi hk)
    refine sz_of (m := 0) hDE hbe (h.more ?_) hX
    rw [Nat.mul_comm n]; exact le_mul_r hn1
/-- what a walk returns -/
def rwB (n : Nat) (L : Nat → Nat) (fs : Nat → List Int) (m : Nat) (ps : List Int) (t : Int) : Bool := wkB n L fs && (chB ps m && (decide (m = n) && inR t 0 30))
def rwN (n : Nat) (L : Nat → Nat) (fs : Nat → List Int) (m : Nat) (ps : List Int) (t : Int) : Nat := if rwB n L fs m ps t then gN (runR n (wM fs) (fq ps) t.toNat) n else 0
def rwR (n : Nat) (L : Nat → Nat) (fs : Nat → List Int) (m : Nat) (ps : List Int) (t : Int) : List Int := if rwB n L fs m ps t then gR (runR n (wM fs) (fq ps) t.toNat) n else []
def rwO (n : Nat) (L : Nat → Nat) (fs : Nat → List Int) (m : Nat) (ps : List Int) (t : Int) : Bool := if rwB n L fs m ps t then smallAll (runR n (wM fs) (fq ps) t.toNat) n else false
theorem rw_no {n m : Nat} {L : Nat → Nat} {fs : Nat → List Int} {ps : List Int} {t : Int} (h : rwB n L fs m ps t = false) : rwN n L fs m ps t = 0 ∧ rwR n L fs m ps t = [] ∧ rwO n L fs m ps t = false := by
  unfold rwN rwR rwO
  simp [h]
theorem rw_yes {n m : Nat} {L : Nat → Nat} {fs : Nat → List Int} {ps : List Int} {t : Int} (h : rwB n L fs m ps t = true) : rwN n L fs m ps t = gN (runR n (wM fs) (fq ps) t.toNat) n ∧ rwR n L fs m ps t = gR (runR n (wM fs) (fq ps) t.toNat) n ∧ rwO n L fs m ps t = smallAll (runR n (wM fs) (fq ps) t.toNat) n := by
  unfold rwN rwR rwO
  simp only [h, if_true, and_self]
theorem chB_all' {fs : List Int} {n : Nat} (h : chB fs n = true) : AllVF fs n := by
  unfold chB at h
  simp only [Bool.and_eq_true] at h
  exact vfAll_true.1 h.2.2.1
theorem rwB_true {n m : Nat} {L : Nat → Nat} {fs : Nat → List Int} {ps : List Int} {t : Int} (h : rwB n L fs m ps t = true) : wkB n L fs = true ∧ chB ps m = true ∧ m = n ∧ inR t 0 30 = true ∧ 1 ≤ n ∧ n ≤ 6 ∧ (∀ i, i < n → L i = n) ∧ AllVF ps n ∧ (∀ i, i < n → AllVF (fs i) n) := by
  unfold rwB at h
  simp only [Bool.and_eq_true, decide_eq_true_eq] at h
  obtain ⟨h1, h2, h3, h4⟩ := h
  obtain ⟨g1, g2, g3⟩ := wkB_true h1
  exact ⟨h1, h2, h3, h4, g1, g2, fun i hi => (g3 i hi).1, by rw [← h3]; exact chB_all' h2, fun i hi => chB_all' (g3 i hi).2⟩
theorem rwN_le (n : Nat) (L : Nat → Nat) (fs : Nat → List Int) (m : Nat) (ps : List Int) (t : Int) : rwN n L fs m ps t ≤ 6 := by
  unfold rwN
  split
  · rename_i h
    obtain ⟨_, _, _, _, _, h6, _⟩ := rwB_true h
    exact Nat.le_trans (gN_le _ _) h6
  · omega
end Go.Proofs.YtionognmgcabbaaGreat.Ratio
/- The program: whether a walk is valid. -/
namespace Go.Proofs.YtionognmgcabbaaGreat.Ratio
open Go.RowKit Go.Proofs.YtionognmgcabbaaGreat Go.Proofs.YtionognmgcabbaaGreat.Base Go.Proofs.YtionognmgcabbaaGreat.Mem Go.Proofs.YtionognmgcabbaaGreat.MemF Go.Proofs.YtionognmgcabbaaGreat.ChM Go.Proofs.YtionognmgcabbaaGreat.WalkM
set_option linter.unusedVariables false
theorem lenFF_any (A : Option Addr) (n c : Nat) (w : World) (h : n ≤ 9223372036854775807) :
    Calls Tryz.prog 91 #[.slice A n c] w fun e w' => e = .returned (.int .i64 (n : Int)) ∧ w = w' := by
  go_enter Tryz.func91, Tryz.ntmps91
  go_wp2
  go_ret
  exact ⟨rfl, rfl⟩
set_option maxHeartbeats 1000000 in
theorem closureW_any {A A' : Option Addr} {c c' B l n b0 : Nat} {fs : List Int} (w : World) (h0 : w.cell? ⟨b0, 0, none⟩ = some (.slice A n c)) (hx : RdF w B A' l fs) (hB : B ≤ w.heap.size) (hl : l ≤ 1099511627776) (hn : n ≤ 1099511627776) :
    Calls Tryz.prog 143 #[.slice A' l c', .pointer (some ⟨b0, 0, none⟩)] w fun e w' => e = .returned (.bool (!(decide (l = n) && chB fs l))) ∧ Below w.heap.size w w' := by
  have HC := Lib.hid (areCh_any (c := c') w hx hB hl)
  clear hx
  by_cases hln : l = n
  · have hne : ((l : Int) != (n : Int)) = false := by simp [hln]
    have HE : Hid ((!(decide (l = n) && chB fs l)) = !chB fs l) := Lib.hid (by rw [decide_eq_true hln, Bool.true_and])
    rw [HE.out]
    clear hln HE
    go_enter Tryz.func143, Tryz.ntmps143
    go_wp2_with fail
    refine HC.out.mono ?_
    rintro e w1 ⟨rfl, hb1⟩
    have HB1 := Lib.hid hb1
    clear hb1
    go_wp2
    go_ret
    exact ⟨ret_bool (by simp), HB1.out⟩
  · have hne : ((l : Int) != (n : Int)) = true := by simp; omega
    have HE : Hid ((!(decide (l = n) && chB fs l)) = true) := Lib.hid (by rw [decide_eq_false hln]; rfl)
    rw [HE.out]
    clear hln HE
    go_enter Tryz.func143, Tryz.ntmps143
    go_wp2
    go_ret
    exact ⟨rfl, Below.refl _ _⟩
set_option maxHeartbeats 1000000 in
theorem indexW_any {A : Option Addr} {c B n b0 : Nat} {L : Nat → Nat} {fs : Nat → List Int} (w : World) (h0 : w.cell? ⟨b0, 0, none⟩ = some (.slice A n c)) (hb0 : b0 < w.heap.size) (hx : RdFF w B A n L fs) (hB : B ≤ w.heap.size) (hL : ∀ i, i < n → L i ≤ 1099511627776) (hn : n ≤ 1099511627776) :
    Calls Tryz.prog 175 #[.slice A n c, .func (Fn.func 143) #[] #[.pointer (some ⟨b0, 0, none⟩)]] w (IdxRetB ((List.range n).all (rowOk n L fs)) w) := by
  have HX := Lib.hid (hx.more hB)
  clear hx
  go_enter Tryz.func175, Tryz.ntmps175
  go_wp2
  go_loopw [8] (fun iv wr => ∃ i : Nat, iv = .int .i64 (i : Int) ∧ i ≤ n ∧ Hid (∀ j, j < i → rowOk n L fs j = true) ∧ Hid (Below w.heap.size w wr)) (fun iv _ => n - (intOf iv).toNat)
  case atStart => exact ⟨0, rfl, Nat.zero_le _, Lib.hid fun j hj => absurd hj (Nat.not_lt_zero j), Lib.hid (Below.refl _ _)⟩
  case round =>
    obtain ⟨i, rfl, hi, hall, HB⟩ := hrel
    have d0 := (HB.out.cell (p := ⟨b0, 0, none⟩) hb0).trans h0
    by_cases hlt : i < n
    · obtain ⟨b, off, A', c', rfl, hbl, g, hr⟩ := (HX.out.below HB.out (Nat.le_refl _)).at hlt
      have HNO := Lib.hid (fun h : rowOk n L fs i = false => (show (List.range n).all (rowOk n L fs) = false from all_no hlt h))
      have HYES := Lib.hid (fun (h : rowOk n L fs i = true) j (hj : j < i + 1) => (show rowOk n L fs j = true by
        rcases Nat.lt_or_ge j i with h1 | h1
        · exact hall.out j h1
        · obtain rfl : j = i := by omega
          exact h))
      have HI : Hid (Calls Tryz.prog 143 #[.slice A' (L i) c', .pointer (some ⟨b0, 0, none⟩)] wr fun e w' => e = .returned (.bool (!rowOk n L fs i)) ∧ Below wr.heap.size wr w') := Lib.hid (closureW_any (c' := c') wr d0 hr HB.out.size (hL i hlt) hn)
      have hsz := HB.out.size
      clear hr hall d0
      generalize L i = l at *
      go_wp2_with fail
      refine HI.out.mono ?_
      rintro e w1 ⟨rfl, hb1⟩
      have HB1 := Lib.hid (Base.Below.nextA HB.out hb1)
      clear hb1 HI
      cases hv : rowOk n L fs i with
      | false =>
        have HE := Lib.hid (HNO.out hv)
        clear HNO HYES hv HB g
        go_wp2
        go_ret
        exact ⟨(i : Int), rfl, .inr ⟨by omega, HE.out⟩, HB1.out⟩
      | true =>
        have HA := Lib.hid (HYES.out hv)
        clear HNO HYES hv HB g
        go_wp2
        go_roundw
        case rel => exact ⟨i + 1, by simp, hlt, HA, HB1⟩
        case measure => simp [intOf]; omega
    · obtain rfl : i = n := by omega
      have HE := Lib.hid (all_range.2 hall.out)
      clear hall
      go_wp2
      go_ret
      exact ⟨-1, rfl, .inl ⟨rfl, HE.out⟩, HB.out⟩
theorem containsW_any {A : Option Addr} {c B n b0 : Nat} {L : Nat → Nat} {fs : Nat → List Int} (w : World) (h0 : w.cell? ⟨b0, 0, none⟩ = some (.slice A n c)) (hb0 : b0 < w.heap.size) (hx : RdFF w B A n L fs) (hB : B ≤ w.heap.size) (hL : ∀ i, i < n → L i ≤ 1099511627776) (hn : n ≤ 1099511627776) :
    Calls Tryz.prog 142 #[.slice A n c, .func (Fn.func 143) #[] #[.pointer (some ⟨b0, 0, none⟩)]] w fun e w' => e = .returned (.bool (!(List.range n).all (rowOk n L fs))) ∧ Below w.heap.size w w' := by
  have hc := Lib.hid (indexW_any w h0 hb0 hx hB hL hn)
  clear hx
  go_enter Tryz.func142, Tryz.ntmps142
  go_wp2_with fail
  refine hc.out.mono ?_
  rintro e w' ⟨r, rfl, ⟨rfl, hb⟩ | ⟨hr, hb⟩, hbl⟩
  all_goals
    have HB := Lib.hid hbl
    have HE := Lib.hid hb
    clear hbl hb
    go_wp2
    go_ret
    exact ⟨ret_bool (by rw [HE.out]; simp <;> omega), HB.out⟩
set_option maxHeartbeats 1000000 in
theorem walkI_any {A : Option Addr} {c B n : Nat} {L : Nat → Nat} {fs : Nat → List Int} (w : World) (hx : RdFF w B A n L fs) (hB : B ≤ w.heap.size) (hL : ∀ i, i < n → L i ≤ 1099511627776) (hn : n ≤ 1099511627776) :
    Calls Tryz.prog 80 #[.agg #[.slice A n c]] w fun e w' => e = .returned (.bool (wkB n L fs)) ∧ Below w.heap.size w w' := by
  have hb : Below w.heap.size w (w.alloc (.cells #[.slice A n c] 33)) := (Below.refl _ _).alloc (Nat.le_refl _) _
  have HC := Lib.hid (containsW_any (c := c) (b0 := w.heap.size) (w.alloc (.cells #[.slice A n c] 33)) (by simp) (by simp) (hx.below hb hB) (Nat.le_trans hB hb.size) hL hn)
  have HB := Lib.hid hb
  have HL := Lib.hid (fun W => lenFF_any A n c W (by omega))
  clear hb hx
  by_cases h : 1 ≤ n ∧ n ≤ 6
  · have HE := Lib.hid (wkB_in (L := L) (fs := fs) h)
    have HR := Lib.hid (inR_yes (n := (n : Int)) (lo := 1) (hi := 6) (by omega))
    clear h
    go_enter Tryz.func80, Tryz.ntmps80
    go_wp2_with fail
    refine (HL.out _).mono ?_
    rintro e w1 ⟨rfl, rfl⟩
    go_wp2_with fail
    refine (inRange_any _ _ _ _).mono ?_
    rintro e w1 ⟨rfl, rfl⟩
    rw [HR.out]
    go_wp2_with fail
    refine HC.out.mono ?_
    rintro e w1 ⟨rfl, hb1⟩
    have HB1 := Lib.hid (Base.Below.nextA HB.out hb1)
    clear hb1
    go_wp2
    go_ret
    exact ⟨ret_bool (by first | (rw [HE.out]; done) | (rw [HE.out]; simp)), HB1.out⟩
  · have HE := Lib.hid (wkB_out (L := L) (fs := fs) h)
    have HR := Lib.hid (inR_no (n := (n : Int)) (lo := 1) (hi := 6) (by omega))
    clear h
    go_enter Tryz.func80, Tryz.ntmps80
    go_wp2_with fail
    refine (HL.out _).mono ?_
    rintro e w1 ⟨rfl, rfl⟩
    go_wp2_with fail
    refine (inRange_any _ _ _ _).mono ?_
    rintro e w1 ⟨rfl, rfl⟩
    rw [HR.out]
    go_wp2
    go_ret
    exact ⟨by rw [HE.out]; rfl, HB.out⟩
end Go.Proofs.YtionognmgcabbaaGreat.Ratio
/- The program: a walk that is run. -/
namespace Go.Proofs.YtionognmgcabbaaGreat.Ratio
open Go.RowKit Go.Proofs.YtionognmgcabbaaGreat Go.Proofs.YtionognmgcabbaaGreat.Base Go.Proofs.YtionognmgcabbaaGreat.Mem Go.Proofs.YtionognmgcabbaaGreat.NatM Go.Proofs.YtionognmgcabbaaGreat.Nat32 Go.Proofs.YtionognmgcabbaaGreat.RatM Go.Proofs.YtionognmgcabbaaGreat.Blk Go.Proofs.YtionognmgcabbaaGreat.MemF Go.Proofs.YtionognmgcabbaaGreat.ChM Go.Proofs.YtionognmgcabbaaGreat.GaussM Go.Proofs.YtionognmgcabbaaGreat.WalkM Go.Proofs.YtionognmgcabbaaGreat.GiveM
open Go.Proofs.YtionognmgcabbaaGreat.Inv (natOf natOf_eq len_pos Rat3 not_slice not_bool frz)
set_option linter.unusedVariables false
def RnRel (n : Nat) (M : Nat → Nat → Rat) (p : Nat → Rat) (S : Nat) (w : World) (nv tv : Value) (wr : World) : Prop :=
  ∃ (t : Nat) (A : Option Addr) (c : Nat), tv = .int .i64 (t : Int) ∧ t ≤ S ∧ nv = .slice A n c ∧ Hid (RdR wr A n (runR n M p t)) ∧ Hid (Below w.heap.size w wr)
theorem RdRR.congrL {w : World} {A : Option Addr} {n : Nat} {L L' : Nat → Nat} {f : Nat → Nat → Rat} (h : RdRR w A n L f) (hL : ∀ i, i < n → L i = L' i) : RdRR w A n L' f := fun h0 => by
  obtain ⟨g, e, hlt, hc⟩ := h h0
  exact ⟨g, e, hlt, fun i hi => by rw [← hL i hi]; exact hc i hi⟩
set_option maxHeartbeats 2000000 in
set_option maxRecDepth 100000 in
theorem runI_any {A A' : Option Addr} {c c' B B' n m : Nat} {L : Nat → Nat} {fs : Nat → List Int} {ps : List Int} (t : Int) (w : World) (hx : RdFF w B A n L fs) (hB : B ≤ w.heap.size) (hL : ∀ i, i < n → L i ≤ 1048576) (hn : n ≤ 1048576) (hy : RdF w B' A' m ps) (hB' : B' ≤ w.heap.size) (hm : m ≤ 1048576) :
    Calls Tryz.prog 52 #[.agg #[.slice A n c], .slice A' m c', .int .i64 t] w (FsRet (rwN n L fs m ps t) (rwR n L fs m ps t) (rwO n L fs m ps t) w) := by
  obtain ⟨W0, hW0⟩ : ∃ W0, W0 = w.alloc (.cells #[.slice A n c] 33) := ⟨_, rfl⟩
  have hb0 : Below w.heap.size w W0 := by rw [hW0]; exact (Below.refl _ _).alloc (Nat.le_refl _) _
  have K0 : Hid (Blk W0 w.heap.size 33 #[.slice A n c]) := Lib.hid (by rw [hW0]; exact Blk.new w _ _)
  have HX := Lib.hid ((hx.below hb0 hB).more (Nat.le_trans hB hb0.size))
  have HY := Lib.hid ((hy.below hb0 hB').more (Nat.le_trans hB' hb0.size))
  have HV := Lib.hid (walkI_any (c := c) W0 HX.out (Nat.le_refl _) (fun i hi => by have := hL i hi; omega) (by omega))
  have HC := Lib.hid (fun W (h : Below W0.heap.size W0 W) => areCh_any (c := c') W (HY.out.below h (Nat.le_refl _)) h.size (show m ≤ 1099511627776 by omega))
  have HB0 := Lib.hid hb0
  have HW0 := Lib.hid hW0
  clear hx hy hb0 hW0 hL
  cases hv : wkB n L fs with
  | false =>
    have HEE := Lib.hid (rw_no (n := n) (m := m) (L := L) (fs := fs) (ps := ps) (t := t) (by unfold rwB; rw [hv]; rfl))
    rw [hv] at HV
    clear hv
    have x0 := K0.out.at 0 (v := .slice A n c) rfl
    rw [HW0.out] at x0
    go_enter Tryz.func52, Tryz.ntmps52
    go_wp2_with fail
    rw [← HW0.out]
    clear x0
    refine HV.out.mono ?_
    rintro e w1 ⟨rfl, hb1⟩
    have HBZ := Lib.hid (Base.Below.nextA HB0.out hb1)
    clear hb1
    go_wp2
    go_ret2
    rw [HEE.out.1, HEE.out.2.1, HEE.out.2.2]
    exact FsRet.no HBZ.out
  | true =>
    rw [hv] at HV
    have x0 := K0.out.at 0 (v := .slice A n c) rfl
    rw [HW0.out] at x0
    cases hcc : chB ps m with
    | false =>
      have HEE := Lib.hid (rw_no (n := n) (m := m) (L := L) (fs := fs) (ps := ps) (t := t) (by unfold rwB; rw [hv, hcc]; rfl))
      rw [hcc] at HC
      clear hv hcc
      go_enter Tryz.func52, Tryz.ntmps52
      go_wp2_with fail
      rw [← HW0.out]
      clear x0
      refine HV.out.mono ?_
      rintro e w1 ⟨rfl, hb1⟩
      have HW1 := Lib.hid hb1
      have HC1 := Lib.hid (HC.out _ hb1)
      clear hb1
      go_wp2_with fail
      refine HC1.out.mono ?_
      rintro e w2 ⟨rfl, hb2⟩
      have HBZ := Lib.hid (Base.Below.nextA HB0.out (Base.Below.nextA HW1.out hb2))
      clear hb2
      go_wp2
      go_ret2
      rw [HEE.out.1, HEE.out.2.1, HEE.out.2.2]
      exact FsRet.no HBZ.out
    | true =>
      rw [hcc] at HC
      by_cases hmn : m = n
      · cases hr : inR t 0 30 with
        | false =>
          have HEE := Lib.hid (rw_no (n := n) (m := m) (L := L) (fs := fs) (ps := ps) (t := t) (by unfold rwB; rw [hr, Bool.and_false, Bool.and_false, Bool.and_false]))
          have hne : ((m : Int) != (n : Int)) = false := by simp [hmn]
          have HR := Lib.hid hr
          clear hv hcc hmn hr
          go_enter Tryz.func52, Tryz.ntmps52
          go_wp2_with fail
          rw [← HW0.out]
          clear x0
          refine HV.out.mono ?_
          rintro e w1 ⟨rfl, hb1⟩
          have HW1 := Lib.hid hb1
          have HC1 := Lib.hid (HC.out _ hb1)
          clear hb1
          go_wp2_with fail
          refine HC1.out.mono ?_
          rintro e w2 ⟨rfl, hb2⟩
          have HW2 := Lib.hid (Base.Below.nextA HW1.out hb2)
          have HBZ := Lib.hid (Base.Below.nextA HB0.out HW2.out)
          have x1 := (K0.out.belowS HW2.out).at 0 (v := .slice A n c) rfl
          clear hb2 HC1 HC HV
          go_wp2_with fail
          refine (inRange_any _ _ _ _).mono ?_
          rintro e w3 ⟨rfl, rfl⟩
          rw [HR.out]
          go_wp2
          go_ret2
          rw [HEE.out.1, HEE.out.2.1, HEE.out.2.2]
          exact FsRet.no HBZ.out
        | true =>
          have hrw : rwB n L fs m ps t = true := by unfold rwB; rw [hv, hcc, hr, decide_eq_true hmn]; rfl
          obtain ⟨_, _, _, _, hn1, hn6, hLn, hps, hfs⟩ := rwB_true hrw
          have HEE := Lib.hid (rw_yes hrw)
          have hR := inR_true hr
          obtain ⟨S, rfl⟩ : ∃ S : Nat, t = (S : Int) := ⟨t.toNat, by omega⟩
          rw [Int.toNat_natCast] at HEE
          have hS : S ≤ 30 := by omega
          have hne : ((m : Int) != (n : Int)) = false := by simp [hmn]
          have HR := Lib.hid hr
          obtain rfl := hmn
          have HRW := Lib.hid (fun W (h : Below W0.heap.size W0 W) => rowsI_any (c := c) W (HX.out.below h (Nat.le_refl _)) h.size (fun i hi => by rw [hLn i hi]; exact hfs i hi) (fun i hi => by rw [hLn i hi]; omega) (by omega))
          have HRS := Lib.hid (fun W (h : Below W0.heap.size W0 W) => ratios_any (c := c') W (HY.out.below h (Nat.le_refl _)) h.size hps (show m ≤ 1000 by omega))
          have HOK := Lib.hid (fun t (ht : t ≤ 30) => run_ok hn1 hn6 ht hps hfs)
          have HLN := Lib.hid hLn
          clear hv hcc hr hrw hps hfs hLn hR
          go_enter Tryz.func52, Tryz.ntmps52
          go_wp2_with fail
          rw [← HW0.out]
          clear x0
          refine HV.out.mono ?_
          rintro e w1 ⟨rfl, hb1⟩
          have HW1 := Lib.hid hb1
          have HC1 := Lib.hid (HC.out _ hb1)
          clear hb1
          go_wp2_with fail
          refine HC1.out.mono ?_
          rintro e w2 ⟨rfl, hb2⟩
          have HW2 := Lib.hid (Base.Below.nextA HW1.out hb2)
          have x1 := (K0.out.belowS HW2.out).at 0 (v := .slice A m c) rfl
          clear hb2 HC1 HC HV HW1
          go_wp2_with fail
          refine (inRange_any _ _ _ _).mono ?_
          rintro e w3 ⟨rfl, rfl⟩
          rw [HR.out]
          go_wp2_with fail
          refine (HRW.out _ HW2.out).mono ?_
          rintro e w3 ⟨A3, c3, rfl, hrr, hb3⟩
          have HW3 := Lib.hid (Base.Below.nextA HW2.out hb3)
          have HRR := Lib.hid (hrr.congrL (L' := fun _ => m) HLN.out)
          clear hb3 hrr HRW HW2 x1
          go_wp2_with fail
          refine (HRS.out _ HW3.out).mono ?_
          rintro e w4 ⟨v, cs, rfl, ho, hb4⟩
          obtain ⟨A4, c4, rfl, _⟩ := ho.form
          have HW4 := Lib.hid (Base.Below.nextA HW3.out hb4)
          have HRR4 := Lib.hid (HRR.out.below hb4)
          have H0 : Hid (RnRel m (wM fs) (fq ps) S w4 (.slice A4 m c4) (.int .i64 0) w4) := Lib.hid ⟨0, A4, c4, rfl, Nat.zero_le _, rfl, Lib.hid ho.rd, Lib.hid (Below.refl _ _)⟩
          clear hb4 ho HRS HW3 HRR
          go_wp2
          go_loopw [9, 36] (fun nv tv wr => RnRel m (wM fs) (fq ps) S w4 nv tv wr) (fun _ tv _ => S - (intOf tv).toNat)
          case atStart => exact H0.out
          case round =>
            obtain ⟨t, A5, c5, rfl, ht, rfl, HN, HB⟩ := hrel
            clear H0
            by_cases hlt : t < S
            · have HWK := Lib.hid (walked_any (c := c3) (c' := c5) wr (HRR4.out.below HB.out) HN.out hn1 (by omega) (HOK.out t (by omega)))
              go_wp2_with fail
              refine HWK.out.mono ?_
              rintro e w5 ⟨g, cs5, rfl, hR5, hg5, hb5⟩
              have HNN : Hid (RnRel m (wM fs) (fq ps) S w4 (.slice (some ⟨g, 0, none⟩) m m) (.int .i64 ((t : Int) + 1)) w5) := Lib.hid ⟨t + 1, _, _, by simp, hlt, rfl, Lib.hid hR5.rd, Lib.hid (Base.Below.nextA HB.out hb5)⟩
              clear hR5 hb5 HWK HN HB
              go_wp2
              go_roundw
              case rel => exact HNN.out
              case measure => simp [intOf]; omega
            · obtain rfl : t = S := by omega
              have HF := Lib.hid (fractions_any (c := c5) wr HN.out (show m ≤ 1000 by omega))
              rw [← HEE.out.1, ← HEE.out.2.1, ← HEE.out.2.2] at HF
              go_wp2_with fail
              refine HF.out.mono ?_
              rintro e w6 ⟨A6, c6, rfl, ho6, hb6⟩
              have HO := Lib.hid (And.intro ho6 (Base.Below.nextA HB0.out (Base.Below.nextA (Base.Below.nextA HW4.out HB.out) hb6)))
              have hs3 : w.heap.size ≤ wr.heap.size := Nat.le_trans HB0.out.size (Nat.le_trans HW4.out.size HB.out.size)
              clear ho6 hb6
              go_wp2
              go_ret2
              exact ⟨A6, c6, rfl, ownsRow_base HO.out.1 hs3, HO.out.2⟩
      · have HEE := Lib.hid (rw_no (n := n) (m := m) (L := L) (fs := fs) (ps := ps) (t := t) (by unfold rwB; rw [decide_eq_false hmn, Bool.false_and, Bool.and_false, Bool.and_false]))
        have hne : ((m : Int) != (n : Int)) = true := by simp; omega
        clear hv hcc hmn
        go_enter Tryz.func52, Tryz.ntmps52
        go_wp2_with fail
        rw [← HW0.out]
        clear x0
        refine HV.out.mono ?_
        rintro e w1 ⟨rfl, hb1⟩
        have HW1 := Lib.hid hb1
        have HC1 := Lib.hid (HC.out _ hb1)
        clear hb1
        go_wp2_with fail
        refine HC1.out.mono ?_
        rintro e w2 ⟨rfl, hb2⟩
        have HW2 := Lib.hid (Base.Below.nextA HW1.out hb2)
        have HBZ := Lib.hid (Base.Below.nextA HB0.out HW2.out)
        have x1 := (K0.out.belowS HW2.out).at 0 (v := .slice A n c) rfl
        clear hb2 HC1 HC HV
        go_wp2
        go_ret2
        rw [HEE.out.1, HEE.out.2.1, HEE.out.2.2]
        exact FsRet.no HBZ.out
end Go.Proofs.YtionognmgcabbaaGreat.Ratio
