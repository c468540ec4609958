/- The program: what rows make of a source. -/
import Derived.Test.YtionognmgcabbaaGreatMgBes10
import Derived.Test.YtionognmgcabbaaGreatMgBes04
import Derived.Test.YtionognmgcabbaaGreatMgBes00
import Derived.Test.YtionognmgcabbaaGreatMgBes08
import Derived.Lib.SliceRun
namespace Go.Proofs.YtionognmgcabbaaGreat.Ratio
open Go.RowKit Go.Proofs.YtionognmgcabbaaGreat Go.Proofs.YtionognmgcabbaaGreat.Base Go.Proofs.YtionognmgcabbaaGreat.Mem Go.Proofs.YtionognmgcabbaaGreat.NatM Go.Proofs.YtionognmgcabbaaGreat.Nat32 Go.Proofs.YtionognmgcabbaaGreat.RatM Go.Proofs.YtionognmgcabbaaGreat.Blk Go.Proofs.YtionognmgcabbaaGreat.MemF Go.Proofs.YtionognmgcabbaaGreat.ChM Go.Proofs.YtionognmgcabbaaGreat.GaussM Go.Proofs.YtionognmgcabbaaGreat.ExtM Go.Proofs.YtionognmgcabbaaGreat.RowN
open Go.Proofs.YtionognmgcabbaaGreat.Inv (natOf natOf_eq len_pos Rat3 not_slice not_bool frz)
set_option linter.unusedVariables false
/-- a list of one ratio -/
def OneR (q : Rat) (v : Value) (w : World) : Prop := ∃ b s A1 k1 c1 A2 k2 c2, v = .slice (some ⟨b, 0, none⟩) 1 1 ∧ b < w.heap.size ∧ w.cell? ⟨b, 0, none⟩ = some (.bool s) ∧ w.cell? ⟨b, 1, none⟩ = some (.slice A1 k1 c1) ∧ w.cell? ⟨b, 2, none⟩ = some (.slice A2 k2 c2) ∧ IsRt w q (.agg #[.bool s, .slice A1 k1 c1, .slice A2 k2 c2])
theorem oneR_mono (q : Rat) : Rel.Mono (fun v w => OneR q v w) := fun v w w' h hb => by
  obtain ⟨b, s, A1, k1, c1, A2, k2, c2, e, hlt, x0, x1, x2, hI⟩ := h
  exact ⟨b, s, A1, k1, c1, A2, k2, c2, e, Nat.lt_of_lt_of_le hlt hb.size, (hb.cell (p := ⟨b, 0, none⟩) hlt).trans x0, (hb.cell (p := ⟨b, 1, none⟩) hlt).trans x1, (hb.cell (p := ⟨b, 2, none⟩) hlt).trans x2, hI.below hb⟩
theorem OneR.new {q : Rat} {s : Bool} {A1 A2 : Option Addr} {k1 c1 k2 c2 : Nat} {w : World} {t : TypeId} (h : IsRt w q (.agg #[.bool s, .slice A1 k1 c1, .slice A2 k2 c2])) : OneR q (.slice (some ⟨w.heap.size, 0, none⟩) 1 1) (w.alloc (.cells #[.bool s, .slice A1 k1 c1, .slice A2 k2 c2] t)) ∧ Below w.heap.size w (w.alloc (.cells #[.bool s, .slice A1 k1 c1, .slice A2 k2 c2] t)) := by
  have hb : Below w.heap.size w (w.alloc (.cells #[.bool s, .slice A1 k1 c1, .slice A2 k2 c2] t)) := (Below.refl _ _).alloc (Nat.le_refl _) _
  have K := Blk.new w t #[.bool s, .slice A1 k1 c1, .slice A2 k2 c2]
  exact ⟨⟨_, s, A1, k1, c1, A2, k2, c2, rfl, K.lt, K.at 0 rfl, K.at 1 rfl, K.at 2 rfl, h.below hb⟩, hb⟩
/-- a new block of alike ratios -/
def NewRow (B N : Nat) (q : Rat) (v : Value) (w : World) : Prop := ∃ g cs, v = .slice (some ⟨g, 0, none⟩) N N ∧ RowR w g N (fun _ => q) cs ∧ B ≤ g
theorem newRow_mono (B N : Nat) (q : Rat) : Rel.Mono (fun v w => NewRow B N q v w) := fun v w w' h hb => by
  obtain ⟨g, cs, e, hR, hB⟩ := h
  exact ⟨g, cs, e, hR.below hb, hB⟩
/-- a block of ratios that is returned -/
def RowRet (N : Nat) (f : Nat → Rat) (w : World) (e : Ending) (w' : World) : Prop := ∃ g cs, e = .returned (.slice (some ⟨g, 0, none⟩) N N) ∧ RowR w' g N f cs ∧ w.heap.size ≤ g ∧ Below w.heap.size w w'
def ExRel (xs fs : List Int) (n N g : Nat) (w : World) (iv : Value) (wr : World) : Prop :=
  ∃ (i : Nat) (cs : Array Value), iv = .int .i64 (i : Int) ∧ i ≤ n ∧ Hid (RowR wr g N (exQ xs fs i) cs) ∧ Hid (Below w.heap.size w wr)
theorem exQ_step {xs fs : List Int} {i k : Nat} (hk : rowK xs i xs.length = k) : (fun y => if y = k then exQ xs fs i k + fq fs i else exQ xs fs i y) = exQ xs fs (i + 1) := by
  funext y
  by_cases e : y = k
  · subst e; rw [if_pos rfl, exQ_hit hk]
  · rw [if_neg e, exQ_miss (fun h => e (h.symm.trans hk))]
theorem exQ_zero (xs fs : List Int) : (fun _ => (0 : Rat)) = exQ xs fs 0 := by funext y; rfl
set_option maxHeartbeats 1000000 in
set_option maxRecDepth 100000 in
theorem extI_any {A A' : Option Addr} {c c' B' n : Nat} {fs xs : List Int} (w : World) (hx : RdR w A n (fq fs)) (hv : AllVF fs n) (hn : n ≤ 16) (hy : RdI w B' A' xs) (hB' : B' ≤ w.heap.size) (h1 : 1 ≤ xs.length) (h3 : xs.length ≤ 3) (hr : ∀ i, i < xs.length → 0 ≤ xs.getD i 0 ∧ xs.getD i 0 ≤ 15) :
    Calls Tryz.prog 127 #[.slice A' xs.length c', .slice A n c] w (RowRet (2 ^ xs.length) (exQ xs fs n) w) := by
  have hN := pow_len h3
  have hN1 : 1 ≤ 2 ^ xs.length := Nat.pow_pos (by decide)
  have HK := Lib.hid (fun x => rowK_lt xs x xs.length h3)
  have hp : (2 : Int) ^ xs.length = ((2 ^ xs.length : Nat) : Int) := by simp
  have HAP := Lib.hid (fun W x (hb : Below w.heap.size w W) (hx16 : x < 16) => apply_any (c := c') (x := x) W (hy.below hb hB') h3 hr hx16)
  have HX := Lib.hid hx
  have HV := Lib.hid hv
  clear hx hv hy hr
  generalize 2 ^ xs.length = N at *
  have HN : Hid (1 ≤ N ∧ N ≤ 1000) := Lib.hid ⟨hN1, by omega⟩
  have hws : IntKind.i64.wrap ((2 : Int) ^ xs.length) = (N : Int) := by rw [hp, IntKind.wrap_i64]; omega
  clear hp
  go_enter Tryz.func127, Tryz.ntmps127
  go_upto_region 1 with (fail)
  refine Rel.wp_region_rel 6 (by kernel_rfl) (by kernel_rfl) (fun F hF => ?_)
  simp only [List.take_succ_cons, List.take_zero, List.drop_succ_cons, List.drop_zero, Rel.putL] at hF ⊢
  have HF := Lib.hid hF
  clear hF
  have uv := @Rel.upon_value Tryz.prog
  have ue := @Rel.upon_enter Tryz.prog
  refine Rel.rel_law (S := fun v w' => IsRt w' 0 v) (isRt_mono _) (fun vs wq hq hdp => ?_) ?_
  · (rw [HF.out, Rel.stepAt_eq]; clear hdp; skip; go_simp; exact whole_rt 0 0 (by decide) ⟨rfl, rfl, by decide⟩ _)
  refine Rel.rel_law (S := fun v w' => OneR 0 v w') (oneR_mono _) (fun vs wq hq hdp => ?_) ?_
  · (rw [HF.out, Rel.stepAt_eq]; have qd0 : IsRt wq _ (vs 0) := Rel.dep hdp 0 (by kernel_rfl); clear hdp; obtain ⟨s0, A1, k1, c1, A2, k2, c2, ev, hI⟩ := qd0.open; go_simp; exact OneR.new hI)
  apply Rel.rel_pure
  apply Exists.intro
  refine ⟨fun vs wq hq hdp R hR => ?_, ?_⟩
  · (rw [HF.out, Rel.stepAt_eq]; clear hdp; skip; go_simp; exact hR)
  apply Rel.rel_pure
  apply Exists.intro
  refine ⟨fun vs wq hq hdp R hR => ?_, ?_⟩
  · (rw [HF.out, Rel.stepAt_eq]; have qd2 : vs 2 = _ := Rel.dep hdp 2 (by kernel_rfl); clear hdp; skip; go_simp; exact hR)
  apply Rel.rel_pure
  apply Exists.intro
  refine ⟨fun vs wq hq hdp R hR => ?_, ?_⟩
  · (rw [HF.out, Rel.stepAt_eq]; have qd3 : vs 3 = _ := Rel.dep hdp 3 (by kernel_rfl); clear hdp; skip; go_simp; exact hR)
  refine Rel.rel_law (S := fun v w' => NewRow w.heap.size N 0 v w') (newRow_mono _ _ _) (fun vs wq hq hdp => ?_) ?_
  · (rw [HF.out, Rel.stepAt_eq]; have qd1 : OneR _ (vs 1) wq := Rel.dep hdp 1 (by kernel_rfl); have qd4 : vs 4 = _ := Rel.dep hdp 4 (by kernel_rfl); clear hdp; obtain ⟨b, s0, A1, k1, c1, A2, k2, c2, ev, hb, y0, y1, y2, hI⟩ := qd1; go_simp; refine (repeat_any wq y0 y1 y2 hb hI HN.out.1 HN.out.2).mono ?_; rintro e w7 ⟨cs, rfl, hR, hb7⟩; exact ⟨_, rfl, ⟨_, cs, rfl, hR, hq.size⟩, hb7⟩)
  refine Rel.rel_end (fun vs wq hq hall => ?_)
  rw [HF.out]
  have qe0 : IsRt wq _ (vs 0) := Rel.fin hall 0 (by decide)
  have qe1 : OneR _ (vs 1) wq := Rel.fin hall 1 (by decide)
  have qe2 : vs 2 = _ := Rel.fin hall 2 (by decide)
  have qe3 : vs 3 = _ := Rel.fin hall 3 (by decide)
  have qe4 : vs 4 = _ := Rel.fin hall 4 (by decide)
  have qe5 : NewRow _ _ _ (vs 5) wq := Rel.fin hall 5 (by decide)
  clear hall HF uv ue
  obtain ⟨g, cs, ev, hR, hgB⟩ := qe5
  have H0 : Hid (ExRel xs fs n N g w (.int .i64 0) wq) := Lib.hid ⟨0, cs, rfl, Nat.zero_le _, Lib.hid (by rw [← exQ_zero]; exact hR), Lib.hid hq⟩
  clear hR qe0 qe1 hq hws
  go_wp2
  go_loopw [17] (fun iv wr => ExRel xs fs n N g w iv wr) (fun iv _ => n - (intOf iv).toNat)
  case atStart => exact H0.out
  case round =>
    obtain ⟨i, cs, rfl, hi, HRr, HB⟩ := hrel
    clear H0
    by_cases hlt : i < n
    · obtain ⟨ga, s2, B1, j1, e1, B2, j2, e2, rfl, hgl, y0, y1, y2, hpj⟩ := (HX.out.below HB.out).at hlt
      obtain ⟨k, hk⟩ : ∃ k, k = rowK xs i xs.length := ⟨_, rfl⟩
      have hkN : k < N := by rw [hk]; exact HK.out i
      obtain ⟨s, A1, k1, c1, A2, k2, c2, hx0, hx1, hx2, hI⟩ := HRr.out.els k hkN
      have HS := Lib.hid (exQ_step (fs := fs) hk.symm)
      have HZ : Hid (szR (exQ xs fs i k) ≤ 200000 ∧ szR (fq fs i) ≤ 200000) := Lib.hid (by
        have z1 := dgb_sz (dgb_exQ (xs := xs) (y := k) (AllVF.less HV.out (Nat.le_of_lt hlt)) (by omega))
        have z2 := dgb_sz (dgb_vf (HV.out i hlt))
        exact ⟨by omega, by rw [show fq fs i = qf (fs.getD (2 * i) 0) (fs.getD (2 * i + 1) 0) from rfl]; omega⟩)
      have HAQ := Lib.hid (fun W (hb : Below w.heap.size w W) => HAP.out W i hb (by omega))
      rw [← hk] at HAQ
      clear hk
      go_upto_region 5 with (fail)
      obtain ⟨W1, hW1⟩ : ∃ W1, W1 = wr.alloc (.cells #[.bool s2, .slice B1 j1 e1, .slice B2 j2 e2] 87) := ⟨_, rfl⟩
      rw [← hW1]
      obtain ⟨g5, hg5⟩ : ∃ g5, g5 = wr.heap.size := ⟨_, rfl⟩
      rw [← hg5]
      have KF : Hid (Blk W1 g5 87 #[.bool s2, .slice B1 j1 e1, .slice B2 j2 e2]) := Lib.hid (by rw [hW1, hg5]; exact Blk.new wr _ _)
      have hbw : Below wr.heap.size wr W1 := by rw [hW1]; exact (Below.refl _ _).alloc (Nat.le_refl _) _
      have HR := Lib.hid (HRr.out.below hbw)
      have HI := Lib.hid (hI.below hbw)
      have HJ := Lib.hid (hpj.below hbw)
      have HB1 := Lib.hid (Base.Below.nextA HB.out hbw)
      have HA := Lib.hid (HAQ.out W1 HB1.out)
      clear hW1 hg5 hbw HRr hI hpj HB y0 y1 y2 hgl HAQ
      generalize hq0 : exQ xs fs i k = q0 at *
      have HQ0 := Lib.hid hq0
      clear hq0
      generalize fq fs i = r at *
      go_wp2_with fail
      refine HA.out.mono ?_
      rintro e w1 ⟨rfl, rfl⟩
      clear HA
      go_upto_region 6 with (fail)
      refine Rel.wp_region_rel 9 (by kernel_rfl) (by kernel_rfl) (fun F hF => ?_)
      simp only [List.take_succ_cons, List.take_zero, List.drop_succ_cons, List.drop_zero, Rel.putL] at hF ⊢
      have HF := Lib.hid hF
      clear hF
      have uv := @Rel.upon_value Tryz.prog
      have ue := @Rel.upon_enter Tryz.prog
      apply Rel.rel_pure
      apply Exists.intro
      refine ⟨fun vs wq hq hdp R hR => ?_, ?_⟩
      · (rw [HF.out, Rel.stepAt_eq]; clear hdp; skip; go_simp; exact hR)
      apply Rel.rel_pure
      apply Exists.intro
      refine ⟨fun vs wq hq hdp R hR => ?_, ?_⟩
      · (rw [HF.out, Rel.stepAt_eq]; clear hdp; skip; go_simp; exact hR)
      apply Rel.rel_pure
      apply Exists.intro
      refine ⟨fun vs wq hq hdp R hR => ?_, ?_⟩
      · (rw [HF.out, Rel.stepAt_eq]; clear hdp; skip; go_simp; exact hR)
      apply Rel.rel_pure
      apply Exists.intro
      refine ⟨fun vs wq hq hdp R hR => ?_, ?_⟩
      · (rw [HF.out, Rel.stepAt_eq]; clear hdp; skip; go_simp; exact hR)
      apply Rel.rel_pure
      apply Exists.intro
      refine ⟨fun vs wq hq hdp R hR => ?_, ?_⟩
      · (rw [HF.out, Rel.stepAt_eq]; have qd2 : vs 2 = _ := Rel.dep hdp 2 (by kernel_rfl); have qd3 : vs 3 = _ := Rel.dep hdp 3 (by kernel_rfl); clear hdp; skip; go_simp; exact hR)
      apply Rel.rel_pure
      apply Exists.intro
      refine ⟨fun vs wq hq hdp R hR => ?_, ?_⟩
      · (rw [HF.out, Rel.stepAt_eq]; have qd4 : vs 4 = _ := Rel.dep hdp 4 (by kernel_rfl); clear hdp; have x0 := (HR.out.below hq).blk.at (k * 3) hx0; have x1 := (HR.out.below hq).blk.at (k * 3 + 1) hx1; have x2 := (HR.out.below hq).blk.at (k * 3 + 2) hx2; go_simp; exact hR)
      apply Rel.rel_pure
      apply Exists.intro
      refine ⟨fun vs wq hq hdp R hR => ?_, ?_⟩
      · (rw [HF.out, Rel.stepAt_eq]; clear hdp; have y0 := (KF.out.belowS hq).at 0 (v := .bool s2) rfl; have y1 := (KF.out.belowS hq).at 1 (v := .slice B1 j1 e1) rfl; have y2 := (KF.out.belowS hq).at 2 (v := .slice B2 j2 e2) rfl; go_simp; exact hR)
      refine Rel.rel_law (S := fun v w' => IsRt w' (q0 + r) v) (isRt_mono _) (fun vs wq hq hdp => ?_) ?_
      · (rw [HF.out, Rel.stepAt_eq]; have qd5 : vs 5 = _ := Rel.dep hdp 5 (by kernel_rfl); have qd6 : vs 6 = _ := Rel.dep hdp 6 (by kernel_rfl); clear hdp; skip; go_simp; refine (ratPlus wq (HI.out.below hq) (HJ.out.below hq) HZ.out.1 HZ.out.2).mono ?_; rintro e w7 h; obtain ⟨v, rfl, hv, hb⟩ := h.is; exact ⟨_, rfl, hv, hb⟩)
      apply Rel.rel_pure
      apply Exists.intro
      refine ⟨fun vs wq hq hdp R hR => ?_, ?_⟩
      · (rw [HF.out, Rel.stepAt_eq]; have qd0 : vs 0 = _ := Rel.dep hdp 0 (by kernel_rfl); have qd1 : vs 1 = _ := Rel.dep hdp 1 (by kernel_rfl); clear hdp; skip; go_simp; exact hR)
      refine Rel.rel_end (fun vs wq hq hall => ?_)
      rw [HF.out]
      have qe0 : vs 0 = _ := Rel.fin hall 0 (by decide)
      have qe1 : vs 1 = _ := Rel.fin hall 1 (by decide)
      have qe2 : vs 2 = _ := Rel.fin hall 2 (by decide)
      have qe3 : vs 3 = _ := Rel.fin hall 3 (by decide)
      have qe4 : vs 4 = _ := Rel.fin hall 4 (by decide)
      have qe5 : vs 5 = _ := Rel.fin hall 5 (by decide)
      have qe6 : vs 6 = _ := Rel.fin hall 6 (by decide)
      have qe7 : IsRt wq _ (vs 7) := Rel.fin hall 7 (by decide)
      have qe8 : vs 8 = _ := Rel.fin hall 8 (by decide)
      clear hall HF uv ue
      obtain ⟨t, C1, m1, l1, C2, m2, l2, ev2, hI2⟩ := qe7.open
      have HRq := HR.out.below hq
      obtain ⟨cs', hput⟩ := HRq.put hkN hI2
      have HN2 : Hid (ExRel xs fs n N g w (.int .i64 ((i : Int) + 1)) (put3o wq g (k * 3) (.bool t) (.slice C1 m1 l1) (.slice C2 m2 l2))) := Lib.hid
        ⟨i + 1, cs', by simp, hlt, Lib.hid (by rw [← HS.out]; exact hput), Lib.hid (put3o_below (Base.Below.nextA HB1.out hq) hgB _ _ _)⟩
      have z0 := HRq.blk.frz (k * 3)
      have z1 := HRq.blk.frz (k * 3 + 1)
      have z2 := HRq.blk.frz (k * 3 + 2)
      have d0 := HRq.blk.at (k * 3) hx0
      have d1 := HRq.blk.at (k * 3 + 1) hx1
      have d2 := HRq.blk.at (k * 3 + 2) hx2
      unfold put3o at HN2
      clear HRq hput hI2 qe7 hq hx0 hx1 hx2 HR KF HI HJ HB1 HZ HS qe0 qe1 qe2 qe3 qe4 qe5 qe6
      go_wp2
      go_roundw
      case rel => exact HN2.out
      case measure => simp [intOf]; omega
    · obtain rfl : i = n := by omega
      have HE : Hid (RowRet N (exQ xs fs i) w (.returned (.slice (some ⟨g, 0, none⟩) N N)) wr) := Lib.hid ⟨g, cs, rfl, HRr.out, hgB, HB.out⟩
      clear HRr HB
      go_wp2
      go_ret
      exact HE.out
end Go.Proofs.YtionognmgcabbaaGreat.Ratio
/- The program: how far what rows make of a source is from equal chances. -/
namespace Go.Proofs.YtionognmgcabbaaGreat.Ratio
open Go.RowKit Go.Proofs.YtionognmgcabbaaGreat Go.Proofs.YtionognmgcabbaaGreat.Base Go.Proofs.YtionognmgcabbaaGreat.Mem Go.Proofs.YtionognmgcabbaaGreat.NatM Go.Proofs.YtionognmgcabbaaGreat.Nat32 Go.Proofs.YtionognmgcabbaaGreat.RatM Go.Proofs.YtionognmgcabbaaGreat.Blk Go.Proofs.YtionognmgcabbaaGreat.MemF Go.Proofs.YtionognmgcabbaaGreat.ChM Go.Proofs.YtionognmgcabbaaGreat.GaussM Go.Proofs.YtionognmgcabbaaGreat.ExtM Go.Proofs.YtionognmgcabbaaGreat.RowN
open Go.Proofs.YtionognmgcabbaaGreat.Inv (natOf natOf_eq len_pos Rat3 not_slice not_bool frz)
set_option linter.unusedVariables false
theorem quo_rt {N : Nat} (h1 : 1 ≤ N) (h2 : N ≤ 1000) (w : World) : Calls Tryz.prog 128 #[.int .i64 1, .int .i64 (N : Int)] w (RV (qf 1 (N : Int)) w) := by
  have h := Inv.quotient_any 1 N w (by decide) (by omega) h1
  rw [Nat.gcd_one_left, Nat.div_one, Nat.div_one] at h
  obtain ⟨e1, e2, e3⟩ := even_num h1 h2
  refine h.mono fun e w' hr => ?_
  unfold RV RtRet
  rw [e1, e2, e3]
  exact hr
theorem lenR_any (A : Option Addr) (n c : Nat) (w : World) (h : n ≤ 9223372036854775807) :
    Calls Tryz.prog 129 #[.slice A n c] w fun e w' => e = .returned (.int .i64 (n : Int)) ∧ w = w' := by
  go_enter Tryz.func129, Tryz.ntmps129
  go_wp2
  go_ret
  exact ⟨rfl, rfl⟩
set_option maxHeartbeats 1000000 in
set_option maxRecDepth 100000 in
theorem unevI_any {A A' : Option Addr} {c c' B' n : Nat} {fs xs : List Int} (w : World) (hx : RdR w A n (fq fs)) (hv : AllVF fs n) (hn : n ≤ 16) (hy : RdI w B' A' xs) (hB' : B' ≤ w.heap.size) (h1 : 1 ≤ xs.length) (h3 : xs.length ≤ 3) (hr : ∀ i, i < xs.length → 0 ≤ xs.getD i 0 ∧ xs.getD i 0 ≤ 15) :
    Calls Tryz.prog 60 #[.slice A' xs.length c', .slice A n c] w (RV (farQ xs fs n) w) := by
  have hN := pow_len h3
  have hN1 : 1 ≤ 2 ^ xs.length := Nat.pow_pos (by decide)
  have hb0 : Below w.heap.size w (w.alloc (.cells #[.bool false, .slice none 0 0, .slice none 0 0] 87)) := (Below.refl _ _).alloc (Nat.le_refl _) _
  have KR0 : Hid (Blk (w.alloc (.cells #[.bool false, .slice none 0 0, .slice none 0 0] 87)) w.heap.size 87 #[.bool false, .slice none 0 0, .slice none 0 0]) := Lib.hid (Blk.new w _ _)
  have HE := Lib.hid (extI_any (c := c) (c' := c') _ (hx.below hb0) hv hn (hy.below hb0 hB') (Nat.le_trans hB' hb0.size) h1 h3 hr)
  have HO := Lib.hid (far_ok (xs := xs) hv hn hN1 hN)
  have HQ : Hid (farQ xs fs n = disR (2 ^ xs.length) (exQ xs fs n) (fun _ => qf 1 ((2 ^ xs.length : Nat) : Int))) := Lib.hid rfl
  have HB0 := Lib.hid hb0
  clear hx hv hy hr hb0
  generalize exQ xs fs n = f at *
  generalize 2 ^ xs.length = N at *
  have HQU := Lib.hid (fun W => quo_rt (N := N) hN1 (by omega) W)
  have HLN := Lib.hid (fun g W => lenR_any (some ⟨g, 0, none⟩) N N W (by omega))
  go_enter Tryz.func60, Tryz.ntmps60
  go_wp2_with fail
  refine HE.out.mono ?_
  rintro e w1 ⟨g, cs, rfl, hR, hg, hb1⟩
  have HB1 := Lib.hid (Base.Below.nextA HB0.out hb1)
  have KR1 := Lib.hid (KR0.out.belowS hb1)
  have HR1 := Lib.hid hR
  clear hR hb1 KR0 HB0 HE
  go_wp2_with fail
  refine (HLN.out g _).mono ?_
  rintro e w' ⟨rfl, rfl⟩
  go_wp2_with fail
  refine (HQU.out _).mono ?_
  rintro e w2 h
  obtain ⟨v, rfl, hq, hb2⟩ := h.is
  obtain ⟨s, A1, k1, c1, A2, k2, c2, rfl, hI⟩ := hq.open
  have HB2 := Lib.hid (Base.Below.nextA HB1.out hb2)
  have KR2 := Lib.hid (KR1.out.belowS hb2)
  have HR2 := Lib.hid (HR1.out.below hb2)
  obtain ⟨W3, hW3⟩ : ∃ W3, W3 = w2.alloc (.cells #[.bool s, .slice A1 k1 c1, .slice A2 k2 c2] 87) := ⟨_, rfl⟩
  have hb3 : Below w2.heap.size w2 W3 := by rw [hW3]; exact (Below.refl _ _).alloc (Nat.le_refl _) _
  have K3 : Blk W3 w2.heap.size 87 #[.bool s, .slice A1 k1 c1, .slice A2 k2 c2] := by rw [hW3]; exact Blk.new w2 _ _
  have HRP := Lib.hid (repeat_any (c := 1) W3 (K3.at 0 rfl) (K3.at 1 rfl) (K3.at 2 rfl) K3.lt (hI.below hb3) hN1 (by omega))
  have HB3 := Lib.hid (Base.Below.nextA HB2.out hb3)
  have KR3 := Lib.hid (KR2.out.belowS hb3)
  have HR3 := Lib.hid (HR2.out.below hb3)
  have HW3 := Lib.hid hW3
  clear hq hI hb2 hb3 K3 hW3 HB1 HB2 KR1 KR2 HR1 HR2 h
  go_wp2_with fail
  rw [← HW3.out]
  refine HRP.out.mono ?_
  rintro e w4 ⟨cs4, rfl, hR4, hb4⟩
  have HB4 := Lib.hid (Base.Below.nextA HB3.out hb4)
  have KR4 := Lib.hid (KR3.out.belowS hb4)
  have HD := Lib.hid (disI_any (c := N) (c' := N) w4 (HR3.out.below hb4).rd hR4.rd (by omega) HO.out)
  rw [← HQ.out] at HD
  clear hR4 hb4 HB3 KR3 HR3 HRP
  go_wp2_with fail
  refine HD.out.mono ?_
  rintro e w5 h5
  obtain ⟨v, rfl, hq, hb5⟩ := h5.is
  obtain ⟨t, C1, m1, l1, C2, m2, l2, rfl, hI⟩ := hq.open
  have HI2 := Lib.hid hI
  have KRq := KR4.out.belowS hb5
  have HBq := Base.Below.nextA HB4.out hb5
  clear hq hI h5 hb5 HB4 KR4 HD HO HQ
  have z0 := (KRq).frz 0
  have z1 := (KRq).frz 1
  have z2 := (KRq).frz 2
  have c0 := (KRq).at 0 (v := .bool false) rfl
  have c1 := (KRq).at 1 (v := .slice none 0 0) rfl
  have c2 := (KRq).at 2 (v := .slice none 0 0) rfl
  have SS := put3_blk (KRq) (.bool t) (.slice C1 m1 l1) (.slice C2 m2 l2)
  unfold put3 at SS
  have s0 := SS.at 0 rfl
  have s1 := SS.at 1 rfl
  have s2 := SS.at 2 rfl
  have HFIN := Lib.hid (RV.put (HI2.out) (KRq) (HBq) (Nat.le_refl _))
  unfold put3 at HFIN
  clear SS
  go_wp2
  refine bodyPost_ret (v := .agg #[.bool t, .slice C1 m1 l1, .slice C2 m2 l2]) (by simp [results, Tryz.results60, go_sem, s0, s1, s2]) rfl ?_
  exact HFIN.out
end Go.Proofs.YtionognmgcabbaaGreat.Ratio
/- Plain: lists of rows, one behind the other. No program in sight. -/
set_option linter.unusedVariables false
namespace Go.Proofs.YtionognmgcabbaaGreat.NextM
/-- the rows of a code: count numbers of n bits, the greatest bits first -/
def rowsOf (count n code : Nat) : List Int := (List.range count).map fun i => ((code / 2 ^ ((count - 1 - i) * n) % 2 ^ n : Nat) : Int)
/-- at the end: zeros in the place of greatest numbers, then one more -/
def nx (m : Int) : Nat → List Int → List Int
  | 0, _ => []
  | at' + 1, xs => if xs.getD at' 0 = m then nx m at' (xs.set at' 0) else xs.set at' (xs.getD at' 0 + 1)
def nextL (n : Nat) (xs : List Int) : List Int := nx ((2 : Int) ^ n - 1) xs.length xs
def okC (count n : Nat) : Bool := (count == 1 || count == 2 || count == 3) && (n == 1 || n == 2 || n == 3 || n == 4) && decide (count * n ≤ 8)
theorem next_all : ∀ (count : Fin 4) (n : Fin 5), okC count.val n.val = true → ∀ code : Fin 256, code.val < 2 ^ (count.val * n.val) → nextL n.val (rowsOf count.val n.val code.val) = if code.val + 1 < 2 ^ (count.val * n.val) then rowsOf count.val n.val (code.val + 1) else [] := by decide +kernel
theorem pow_le {count n : Nat} (h : count * n ≤ 8) : 2 ^ (count * n) ≤ 256 := Nat.pow_le_pow_right (n := 2) (by decide) h
theorem okC_of {count n : Nat} (h1 : 1 ≤ count) (h2 : count ≤ 3) (h3 : 1 ≤ n) (h4 : n ≤ 4) (h5 : count * n ≤ 8) : okC count n = true := by
  have a : count = 1 ∨ count = 2 ∨ count = 3 := by omega
  have b : n = 1 ∨ n = 2 ∨ n = 3 ∨ n = 4 := by omega
  unfold okC
  rw [decide_eq_true h5]
  rcases a with rfl | rfl | rfl <;> rcases b with rfl | rfl | rfl | rfl <;> rfl
theorem next_of {count n code : Nat} (h1 : 1 ≤ count) (h2 : count ≤ 3) (h3 : 1 ≤ n) (h4 : n ≤ 4) (h5 : count * n ≤ 8) (hc : code < 2 ^ (count * n)) : nextL n (rowsOf count n code) = if code + 1 < 2 ^ (count * n) then rowsOf count n (code + 1) else [] :=
  next_all ⟨count, by omega⟩ ⟨n, by omega⟩ (okC_of h1 h2 h3 h4 h5) ⟨code, by have := pow_le h5; omega⟩ hc
theorem rowsOf_len (count n code : Nat) : (rowsOf count n code).length = count := by simp [rowsOf]
theorem rowsOf_zero (count n : Nat) : rowsOf count n 0 = List.replicate count 0 := by
  apply List.ext_getElem?
  intro i
  by_cases h : i < count
  · simp [rowsOf, h]
  · simp [rowsOf, h]
theorem rowsOf_lt {count n code i : Nat} (hi : i < count) : 0 ≤ (rowsOf count n code).getD i 0 ∧ (rowsOf count n code).getD i 0 ≤ ((2 ^ n : Nat) : Int) - 1 := by
  have hp : 0 < 2 ^ n := Nat.pow_pos (by decide)
  have : (rowsOf count n code).getD i 0 = ((code / 2 ^ ((count - 1 - i) * n) % 2 ^ n : Nat) : Int) := by simp [rowsOf, List.getD, hi]
  rw [this]
  have := Nat.mod_lt (code / 2 ^ ((count - 1 - i) * n)) hp
  omega
end Go.Proofs.YtionognmgcabbaaGreat.NextM
/- The program over all lists of rows (allRows): what its loops keep. -/
namespace Go.Proofs.YtionognmgcabbaaGreat.AllI
open Go Go.RowKit Go.Proofs.YtionognmgcabbaaGreat Go.Proofs.YtionognmgcabbaaGreat.Base Go.Proofs.YtionognmgcabbaaGreat.Mem Go.Proofs.YtionognmgcabbaaGreat.MemF Go.Proofs.YtionognmgcabbaaGreat.ChM Go.Proofs.YtionognmgcabbaaGreat.Ratio Go.Proofs.YtionognmgcabbaaGreat.NextM
set_option linter.unusedVariables false
theorem OwnI_push {wr w2 : World} {B : Nat} {v v' : Value} {xs : List Int} {x : Int} (hO : OwnI wr B v xs) (hB : B ≤ wr.heap.size)
    (hown : w2.ownsRow B 2 1 v' (xs.length + 1) (ints xs ++ [.int .i64 x])) : OwnI w2 B v' (xs ++ [x]) := by
  unfold OwnI
  rw [List.length_append, show ints (xs ++ [x]) = ints xs ++ [.int .i64 x] by simp [ints]]
  exact hown
theorem append_below {wr w2 : World} {B : Nat} {v : Value} {xs : List Int} {o : Obj} (hO : OwnI wr B v xs) (hB : B ≤ wr.heap.size) (hg : (wr.alloc o).grownBy w2 v.ownBlock) : Below B wr w2 :=
  ((Below.refl B wr).alloc hB o).trans (grown_below hg (fun g he => by
    obtain ⟨_, _, h3, _⟩ := ownsRow_block hO he
    exact h3) (by simp; omega))
/-- the first numbers of a list of rows, as they are put together -/
def RwRel (C N k : Nat) (w : World) (v iv : Value) (wr : World) : Prop := ∃ j q : Nat, j + q = C ∧ iv = .int .i64 ((q : Int) - 1) ∧ OwnI wr w.heap.size v ((rowsOf C N k).take j) ∧ Below w.heap.size w wr
theorem RwRel.start (C N k : Nat) (w : World) : RwRel C N k w (.slice (some ⟨w.heap.size, 0, none⟩) 0 0) (.int .i64 ((C : Int) - 1)) (w.alloc (.cells #[] 2)) :=
  ⟨0, C, by omega, rfl, World.ownsRow_made w #[] 0 (Nat.le_refl _) (Nat.zero_le _) (by simp), (Below.refl _ _).alloc (Nat.le_refl _) _⟩
theorem rowsOf_take {C N k j : Nat} (hj : j < C) : (rowsOf C N k).take (j + 1) = (rowsOf C N k).take j ++ [((k / 2 ^ ((C - 1 - j) * N) % 2 ^ N : Nat) : Int)] := by
  rw [List.take_add_one]
  congr 1
  simp [rowsOf, hj]
theorem RwRel.next {C N k j q : Nat} {w wr w1 w2 : World} {v v' : Value} (hq : j + (q + 1) = C) (hO : OwnI wr w.heap.size v ((rowsOf C N k).take j)) (hb : Below w.heap.size w wr) (h1 : Below wr.heap.size wr w1)
    (hown : w2.ownsRow w.heap.size 2 1 v' (j + 1) (ints ((rowsOf C N k).take j) ++ [.int .i64 ((k / 2 ^ (q * N) % 2 ^ N : Nat) : Int)])) (hg : w1.grownBy w2 v.ownBlock) :
    RwRel C N k w v' (.int .i64 ((q : Int) - 1)) w2 := by
  refine ⟨j + 1, q, by omega, rfl, ?_, (hb.trans (h1.mono hb.size)).trans (grown_below hg (fun g e => (ownsRow_block hO e).choose_spec.2.1) (Nat.le_trans hb.size h1.size))⟩
  rw [rowsOf_take (by omega), show C - 1 - j = q by omega]
  have hl : ((rowsOf C N k).take j).length = j := by rw [List.length_take, rowsOf_len]; omega
  exact OwnI_push hO hb.size (by rw [hl]; exact hown)
theorem shr_at {k q n X : Nat} (hX : X = k / 2 ^ (q * n)) (h : q * n ≤ 60) : Op.shift .shr .i64 (k : Int) .i64 ((q * n : Nat) : Int) = pure (.int .i64 (X : Int)) := by
  rw [shift_shr .i64 .i64 _ _ (by omega) (by simp [IntKind.bits]; omega), Int.toNat_natCast, hX]
  simp
theorem wr_at {q n : Nat} (h : q * n ≤ 60) : IntKind.i64.wrap ((q : Int) * (n : Int)) = ((q * n : Nat) : Int) := by
  rw [IntKind.wrap_i64, show (q : Int) * (n : Int) = ((q * n : Nat) : Int) by simp]
  omega
theorem and_at {X n Y : Nat} (hY : Y = X % 2 ^ n) (h : X ≤ 1000) (hn : n ≤ 8) : bits .and .i64 (X : Int) ((2 ^ n - 1 : Nat) : Int) = (Y : Int) := by
  have : 2 ^ n ≤ 2 ^ 8 := Nat.pow_le_pow_right (by decide) hn
  rw [Go.Proofs.YtionognmgcabbaaGreat.Bits.i64_and_nat X (2 ^ n - 1) (by omega) (by omega), Nat.and_two_pow_sub_one_eq_mod, ← hY]
def AlRel (I : Nat → World → Prop) (T : Nat) (s : Nat) (iv : Value) (wr : World) : Prop := ∃ k : Nat, k ≤ T ∧ iv = .int .i64 (k : Int) ∧ Hid (I k wr) ∧ s ≤ wr.heap.size
end Go.Proofs.YtionognmgcabbaaGreat.AllI
/- The program: what is done with each list of rows for the average distance. -/
namespace Go.Proofs.YtionognmgcabbaaGreat.Ratio
open Go.RowKit Go.Proofs.YtionognmgcabbaaGreat Go.Proofs.YtionognmgcabbaaGreat.Base Go.Proofs.YtionognmgcabbaaGreat.Mem Go.Proofs.YtionognmgcabbaaGreat.NatM Go.Proofs.YtionognmgcabbaaGreat.Nat32 Go.Proofs.YtionognmgcabbaaGreat.RatM Go.Proofs.YtionognmgcabbaaGreat.Blk Go.Proofs.YtionognmgcabbaaGreat.MemF Go.Proofs.YtionognmgcabbaaGreat.ChM Go.Proofs.YtionognmgcabbaaGreat.GaussM Go.Proofs.YtionognmgcabbaaGreat.ExtM Go.Proofs.YtionognmgcabbaaGreat.RowN Go.Proofs.YtionognmgcabbaaGreat.NextM
open Go.Proofs.YtionognmgcabbaaGreat.Inv (natOf natOf_eq len_pos Rat3 not_slice not_bool frz)
open Go.Proofs.YtionognmgcabbaaGreat.Ratio (put3)
set_option linter.unusedVariables false
theorem rdR_set {w : World} {A : Option Addr} {n : Nat} {f : Nat → Rat} {b o : Nat} {u : Value} (h : RdR w A n f) (hA : ∀ a, A = some a → a.block ≠ b) (hc : w.cell? ⟨b, o, none⟩ = some u) (hne : ∀ x : Int, u ≠ .int .u32 x) (v : Value) : RdR (w.setCell ⟨b, o, none⟩ v) A n f := fun h0 => by
  obtain ⟨g, e, hlt, hcc⟩ := h h0
  have hg : g ≠ b := hA _ e
  have oth : ∀ k, (w.setCell ⟨b, o, none⟩ v).cell? ⟨g, k, none⟩ = w.cell? ⟨g, k, none⟩ := fun k => by apply World.cell?_setCell_other; intro e; injection e with e1 _ _; exact hg e1.symm
  refine ⟨g, e, by simpa using hlt, fun i hi => ?_⟩
  obtain ⟨s, A1, k1, c1, A2, k2, c2, x0, x1, x2, A, ca, A', ca', er, d1, d2⟩ := hcc i hi
  refine ⟨s, A1, k1, c1, A2, k2, c2, (oth _).trans x0, (oth _).trans x1, (oth _).trans x2, A, ca, A', ca', er, ?_, ?_⟩
  · simp only [World.size_setCell]; exact d1.non hc hne v
  · simp only [World.size_setCell]; exact d2.non hc hne v
theorem rdR_put3 {w : World} {A : Option Addr} {n : Nat} {f : Nat → Rat} {b : Nat} {t : TypeId} {s : Bool} {A1 A2 : Option Addr} {k1 c1 k2 c2 : Nat} (h : RdR w A n f) (hA : ∀ a, A = some a → a.block ≠ b) (K : Blk w b t #[.bool s, .slice A1 k1 c1, .slice A2 k2 c2]) (v0 v1 v2 : Value) : RdR (put3 w b v0 v1 v2) A n f := by
  have K0 := K.setTo 0 v0 rfl
  have K1 := K0.setTo 1 v1 rfl
  exact rdR_set (rdR_set (rdR_set h hA (K.at 0 (v := .bool s) rfl) (not_bool _) _) hA (K0.at 1 (v := .slice A1 k1 c1) rfl) (not_slice _ _ _) _) hA (K1.at 2 (v := .slice A2 k2 c2) rfl) (not_slice _ _ _) _
theorem isRt_set {w : World} {q : Rat} {x : Value} {b o : Nat} {u : Value} (h : IsRt w q x) (hc : w.cell? ⟨b, o, none⟩ = some u) (hne : ∀ y : Int, u ≠ .int .u32 y) (v : Value) : IsRt (w.setCell ⟨b, o, none⟩ v) q x := by
  obtain ⟨A, ca, A', ca', er, d1, d2⟩ := h
  refine ⟨A, ca, A', ca', er, ?_, ?_⟩
  · simp only [World.size_setCell]; exact d1.non hc hne v
  · simp only [World.size_setCell]; exact d2.non hc hne v
theorem not_i64 (n : Int) : ∀ x : Int, Value.int .i64 n ≠ .int .u32 x := fun x h => by injection h with h _; cases h
/-- what the boxes hold when k lists of rows have been taken -/
structure AvI (w0 : World) (gs gl gm n c : Nat) (A : Option Addr) (fs : List Int) (f : Nat → Rat) (k : Nat) (W : World) (s : Bool) (A1 : Option Addr) (k1 c1 : Nat) (A2 : Option Addr) (k2 c2 : Nat) : Prop where
  sum : Blk W gs 87 #[.bool s, .slice A1 k1 c1, .slice A2 k2 c2]
  is : IsRt W (sumR k f) (.agg #[.bool s, .slice A1 k1 c1, .slice A2 k2 c2])
  many : Blk W gm 2 #[.int .i64 (k : Int)]
  list : Blk W gl 89 #[.slice A n c]
  rd : RdR W A n (fq fs)
  below : Below w0.heap.size w0 W
def AvJ (w0 : World) (gs gl gm n c : Nat) (A : Option Addr) (fs : List Int) (f : Nat → Rat) (k : Nat) (W : World) : Prop := ∃ s A1 k1 c1 A2 k2 c2, AvI w0 gs gl gm n c A fs f k W s A1 k1 c1 A2 k2 c2
theorem AvJ.mono {w0 : World} {gs gl gm n c : Nat} {A : Option Addr} {fs : List Int} {f : Nat → Rat} {k : Nat} {W W' : World} (h : AvJ w0 gs gl gm n c A fs f k W) (hb : Below W.heap.size W W') : AvJ w0 gs gl gm n c A fs f k W' := by
  obtain ⟨s, A1, k1, c1, A2, k2, c2, h⟩ := h
  exact ⟨s, A1, k1, c1, A2, k2, c2, h.sum.belowS hb, h.is.below hb, h.many.belowS hb, h.list.belowS hb, h.rd.below hb, Base.Below.nextA h.below hb⟩
set_option maxHeartbeats 4000000 in
set_option maxRecDepth 100000 in
theorem avgC_any {w0 : World} {gs gl gm n c B' C c' k : Nat} {A A' : Option Addr} {fs xs : List Int} {f : Nat → Rat} (W : World) (h : AvJ w0 gs gl gm n c A fs f k W) (hsm : gs ≠ gm) (hsl : gs ≠ gl) (hml : gm ≠ gl) (hgs : w0.heap.size ≤ gs) (hgm : w0.heap.size ≤ gm)
    (hA : ∀ a, A = some a → a.block ≠ gs ∧ a.block ≠ gm) (hy : RdI W B' A' xs) (hB' : B' ≤ W.heap.size) (hl : xs.length = C) (h1 : 1 ≤ C) (h3 : C ≤ 3) (hr : ∀ i, i < xs.length → 0 ≤ xs.getD i 0 ∧ xs.getD i 0 ≤ 15) (hv : AllVF fs n) (hn : n ≤ 16) (hf : f k = farQ xs fs n) (hz : szR (sumR k f) ≤ 200000) (hk : k ≤ 1000) :
    Calls Tryz.prog 71 #[.slice A' C c', .pointer (some ⟨gs, 0, none⟩), .pointer (some ⟨gl, 0, none⟩), .pointer (some ⟨gm, 0, none⟩)] W fun e w' => e = .returned (.tuple #[]) ∧ AvJ w0 gs gl gm n c A fs f (k + 1) w' ∧ W.heap.size ≤ w'.heap.size := by
  obtain ⟨s, A1, k1, c1, A2, k2, c2, h⟩ := h
  have KS := Lib.hid h.sum
  have KL := Lib.hid h.list
  have KM := Lib.hid h.many
  have HS := Lib.hid h.is
  have HR := Lib.hid h.rd
  have HB := Lib.hid h.below
  have HA := Lib.hid hA
  have HZ : Hid (szR (sumR k f) ≤ 200000 ∧ szR (f k) ≤ 200000) := Lib.hid ⟨hz, by rw [hf]; have := far_sz (xs := xs) hv hn (by omega); omega⟩
  have HU := Lib.hid (fun w1 (hb : Below W.heap.size W w1) => unevI_any (c := c) (c' := c') w1 (h.rd.below hb) hv hn (hy.below hb hB') (Nat.le_trans hB' hb.size) (by omega) (by omega) hr)
  rw [← hf, hl] at HU
  have HSM : Hid (sumR (k + 1) f = sumR k f + f k) := Lib.hid rfl
  clear h hA hz hf hy hr hv
  generalize sumR k f = s0 at *
  generalize f k = q at *
  go_enter Tryz.func71, Tryz.ntmps71
  go_upto_region 0 with (fail)
  refine Rel.wp_region_rel 5 (by kernel_rfl) (by kernel_rfl) (fun F hF => ?_)
  simp only [List.take_succ_cons, List.take_zero, List.drop_succ_cons, List.drop_zero, Rel.putL] at hF ⊢
  have HF := Lib.hid hF
  clear hF
  have uv := @Rel.upon_value Tryz.prog
  have ue := @Rel.upon_enter Tryz.prog
  apply Rel.rel_pure
  apply Exists.intro
  refine ⟨fun vs wq hq hdp R hR => ?_, ?_⟩
  · (rw [HF.out, Rel.stepAt_eq]; clear hdp; have x0 := (KS.out.belowS hq).at 0 (v := .bool s) rfl; have x1 := (KS.out.belowS hq).at 1 (v := .slice A1 k1 c1) rfl; have x2 := (KS.out.belowS hq).at 2 (v := .slice A2 k2 c2) rfl; go_simp; exact hR)
  apply Rel.rel_pure
  apply Exists.intro
  refine ⟨fun vs wq hq hdp R hR => ?_, ?_⟩
  · (rw [HF.out, Rel.stepAt_eq]; clear hdp; skip; go_simp; exact hR)
  apply Rel.rel_pure
  apply Exists.intro
  refine ⟨fun vs wq hq hdp R hR => ?_, ?_⟩
  · (rw [HF.out, Rel.stepAt_eq]; clear hdp; have y0 := (KL.out.belowS hq).at 0 (v := .slice A n c) rfl; go_simp; exact hR)
  refine Rel.rel_law (S := fun v w' => IsRt w' q v) (isRt_mono _) (fun vs wq hq hdp => ?_) ?_
  · (rw [HF.out, Rel.stepAt_eq]; have qd1 : vs 1 = _ := Rel.dep hdp 1 (by kernel_rfl); have qd2 : vs 2 = _ := Rel.dep hdp 2 (by kernel_rfl); clear hdp; skip; go_simp; refine (HU.out wq hq).mono ?_; rintro e w7 h; obtain ⟨v, rfl, hv, hb⟩ := h.is; exact ⟨_, rfl, hv, hb⟩)
  refine Rel.rel_law (S := fun v w' => IsRt w' (s0 + q) v) (isRt_mono _) (fun vs wq hq hdp => ?_) ?_
  · (rw [HF.out, Rel.stepAt_eq]; have qd0 : vs 0 = _ := Rel.dep hdp 0 (by kernel_rfl); have qd3 : IsRt wq _ (vs 3) := Rel.dep hdp 3 (by kernel_rfl); clear hdp; skip; go_simp; refine (ratPlus wq (HS.out.below hq) qd3 HZ.out.1 HZ.out.2).mono ?_; rintro e w7 h; obtain ⟨v, rfl, hv, hb⟩ := h.is; exact ⟨_, rfl, hv, hb⟩)
  refine Rel.rel_end (fun vs wq hq hall => ?_)
  rw [HF.out]
  have qe0 : vs 0 = _ := Rel.fin hall 0 (by decide)
  have qe1 : vs 1 = _ := Rel.fin hall 1 (by decide)
  have qe2 : vs 2 = _ := Rel.fin hall 2 (by decide)
  have qe3 : IsRt wq _ (vs 3) := Rel.fin hall 3 (by decide)
  have qe4 : IsRt wq _ (vs 4) := Rel.fin hall 4 (by decide)
  clear hall HF uv ue
  obtain ⟨t, C1, m1, l1, C2, m2, l2, ev, hI⟩ := qe4.open
  have K3 := KS.out.belowS hq
  have KMq := KM.out.belowS hq
  have hsz := hq.size
  have z0 := K3.frz 0
  have z1 := K3.frz 1
  have z2 := K3.frz 2
  have d0 := K3.at 0 (v := .bool s) rfl
  have d1 := K3.at 1 (v := .slice A1 k1 c1) rfl
  have d2 := K3.at 2 (v := .slice A2 k2 c2) rfl
  have KM3 := KMq.oth3 (.bool t) (.slice C1 m1 l1) (.slice C2 m2 l2) hsm
  have e0 := KM3.at 0 (v := .int .i64 (k : Int)) rfl
  have e1 := KM3.frz 0
  have HF : Hid (AvJ w0 gs gl gm n c A fs f (k + 1) ((put3 wq gs (.bool t) (.slice C1 m1 l1) (.slice C2 m2 l2)).setCell ⟨gm, 0, none⟩ (.int .i64 ((k : Int) + 1)))) := Lib.hid (by
    refine ⟨t, C1, m1, l1, C2, m2, l2, ?_, ?_, ?_, ?_, ?_, ?_⟩
    · exact (put3_blk K3 _ _ _).other _ (fun e => hsm e.symm)
    · rw [HSM.out]; exact isRt_set (hI.put3 K3 _ _ _) e0 (not_i64 _) _
    · have := KM3.setTo 0 (.int .i64 ((k : Int) + 1)) rfl
      rw [show ((k + 1 : Nat) : Int) = (k : Int) + 1 by simp]
      exact this
    · exact (put3_other (KL.out.belowS hq) hsl _ _ _).other _ hml
    · exact rdR_set (rdR_put3 (HR.out.below hq) (fun a e => (HA.out a e).1) K3 _ _ _) (fun a e => (HA.out a e).2) e0 (not_i64 _) _
    · exact (put3_below (Base.Below.nextA HB.out hq) hgs _ _ _).setCell (p := ⟨gm, 0, none⟩) hgm _)
  have hws : W.heap.size ≤ ((put3 wq gs (.bool t) (.slice C1 m1 l1) (.slice C2 m2 l2)).setCell ⟨gm, 0, none⟩ (.int .i64 ((k : Int) + 1))).heap.size := by
    simp [put3]; exact hsz
  unfold put3 at HF hws e0 e1
  have q0 := KMq.at 0 (v := .int .i64 (k : Int)) rfl
  have q1 := KMq.frz 0
  have hms : gm ≠ gs := Ne.symm hsm
  have HW := Lib.hid hws
  clear hws hq K3 KMq KM3 hI qe0 qe1 qe2 qe3 qe4 KS KL KM HS HR HB HU HSM HA HZ hsz
  go_wp2
  go_end0
  exact ⟨rfl, HF.out, HW.out⟩
end Go.Proofs.YtionognmgcabbaaGreat.Ratio
/- The program over all lists of rows (allRows): where nothing is called. And which numbers and sources are taken. -/
namespace Go.Proofs.YtionognmgcabbaaGreat.AllI
open Go Go.RowKit Go.Proofs.YtionognmgcabbaaGreat Go.Proofs.YtionognmgcabbaaGreat.Base Go.Proofs.YtionognmgcabbaaGreat.Mem Go.Proofs.YtionognmgcabbaaGreat.MemF Go.Proofs.YtionognmgcabbaaGreat.ChM Go.Proofs.YtionognmgcabbaaGreat.Ratio Go.Proofs.YtionognmgcabbaaGreat.NextM
set_option linter.unusedVariables false
/-- a number of rows and a source that are taken -/
def okA (t : Int) (fs : List Int) (m : Nat) : Bool := decide (bitsQ fs m ≠ 0) && (inR t 1 3 && decide (t * ((bitsQ fs m : Nat) : Int) ≤ 8))
theorem bits_le (fs : List Int) (m : Nat) : bitsQ fs m ≤ 4 := by
  unfold bitsQ
  repeat' split
  all_goals omega
theorem okA_yes {t : Int} {fs : List Int} {m : Nat} (h : okA t fs m = true) : ∃ C : Nat, t = (C : Int) ∧ 1 ≤ C ∧ C ≤ 3 ∧ 1 ≤ bitsQ fs m ∧ C * bitsQ fs m ≤ 8 := by
  simp only [okA, inR, Bool.and_eq_true, decide_eq_true_eq] at h
  obtain ⟨h1, ⟨h2, h3⟩, h4⟩ := h
  refine ⟨t.toNat, by omega, by omega, by omega, by omega, ?_⟩
  have e : t = ((t.toNat : Nat) : Int) := by omega
  rw [e] at h4
  have : ((t.toNat * bitsQ fs m : Nat) : Int) ≤ 8 := by rw [Int.natCast_mul]; exact h4
  omega
set_option maxHeartbeats 2000000 in
theorem allRows_no {fv : Value} {A : Option Addr} {c B m : Nat} {t : Int} {fs : List Int} (w : World) (hx : RdF w B A m fs) (hB : B ≤ w.heap.size) (hm : m ≤ 1099511627776) (h : okA t fs m = false) :
    Calls Tryz.prog 70 #[.int .i64 t, .slice A m c, fv] w fun e w' => e = .returned (.bool false) ∧ Below w.heap.size w w' := by
  have HS := Lib.hid (src_any (c := c) w hx hB hm)
  unfold SrcRet at HS
  have hb4 := bits_le fs m
  unfold okA at h
  generalize bitsQ fs m = N at *
  clear hx
  by_cases hN : N = 0
  · subst hN
    rw [show decide ((0 : Nat) ≠ 0) = false from rfl] at HS
    clear h
    go_enter Tryz.func70, Tryz.ntmps70
    go_wp2_with fail
    refine HS.out.mono ?_
    rintro e w1 ⟨d, rfl, hd, hb1⟩
    have HB := Lib.hid hb1
    clear hd hb1 HS
    go_wp2
    go_ret
    exact ⟨rfl, HB.out⟩
  · rw [show decide (N ≠ 0) = true from decide_eq_true hN] at HS h
    rw [Bool.true_and] at h
    cases hr : inR t 1 3 with
    | false =>
      have HIR := Lib.hid (fun W => inRange_qb hr W)
      clear h hr
      go_enter Tryz.func70, Tryz.ntmps70
      go_wp2_with fail
      refine HS.out.mono ?_
      rintro e w1 ⟨d, rfl, hd, hb1⟩
      obtain rfl := hd hN
      have HB := Lib.hid hb1
      clear hd hb1 HS
      go_wp2_with fail
      refine (HIR.out _).mono ?_
      rintro e w' ⟨rfl, rfl⟩
      go_wp2
      go_ret
      exact ⟨rfl, HB.out⟩
    | true =>
      have HIR := Lib.hid (fun W => inRange_qb hr W)
      rw [hr, Bool.true_and] at h
      have h8 : 8 < t * (N : Int) := by have := of_decide_eq_false h; omega
      simp only [inR, Bool.and_eq_true, decide_eq_true_eq] at hr
      have hN5 : N = 1 ∨ N = 2 ∨ N = 3 ∨ N = 4 := by omega
      clear h hb4 hN
      rcases hN5 with rfl | rfl | rfl | rfl
      all_goals
        first
        | omega
        | (go_enter Tryz.func70, Tryz.ntmps70
           go_wp2_with fail
           refine HS.out.mono ?_
           rintro e w1 ⟨d, rfl, hd, hb1⟩
           obtain rfl := hd (by decide)
           have HB := Lib.hid hb1
           clear hd hb1 HS
           go_wp2_with fail
           refine (HIR.out _).mono ?_
           rintro e w' ⟨rfl, rfl⟩
           go_wp2
           go_ret
           exact ⟨rfl, HB.out⟩)
end Go.Proofs.YtionognmgcabbaaGreat.AllI
/- Plain: the average distance over all lists of rows. -/
namespace Go.Proofs.YtionognmgcabbaaGreat.Ratio
open Go.RowKit Go.Proofs.YtionognmgcabbaaGreat Go.Proofs.YtionognmgcabbaaGreat.Base Go.Proofs.YtionognmgcabbaaGreat.Mem Go.Proofs.YtionognmgcabbaaGreat.NatM Go.Proofs.YtionognmgcabbaaGreat.Nat32 Go.Proofs.YtionognmgcabbaaGreat.RatM Go.Proofs.YtionognmgcabbaaGreat.GaussM Go.Proofs.YtionognmgcabbaaGreat.ChM Go.Proofs.YtionognmgcabbaaGreat.ExtM Go.Proofs.YtionognmgcabbaaGreat.RowN Go.Proofs.YtionognmgcabbaaGreat.NextM Go.Proofs.YtionognmgcabbaaGreat.GiveM
set_option linter.unusedVariables false
/-- the distance of the list of rows with a code -/
def farC (C N : Nat) (fs : List Int) (n k : Nat) : Rat := farQ (rowsOf C N k) fs n
theorem ov_sumC {C N n k : Nat} {fs : List Int} (hv : AllVF fs n) (hC : C ≤ 3) : Ov (denP fs n * 16) (k * (8 * (n * 1000000000000000000 + 1))) (sumR k (farC C N fs n)) :=
  ov_sum fun j _ => ov_far hv (by rw [rowsOf_len]; exact hC)
theorem sumC_sz {C N n k : Nat} {fs : List Int} (hv : AllVF fs n) (hn : n ≤ 16) (hC : C ≤ 3) (hk : k ≤ 256) : szR (sumR k (farC C N fs n)) ≤ 70 := by
  have hP := denP_b hv hn
  have hP0 := denP_pos hv
  rcases Nat.eq_zero_or_pos k with rfl | hk0
  · have : Dg (B32 ^ 1) (0 : Rat) := ⟨by decide, by decide⟩
    have h := dgb_sz this
    show szR (0 : Rat) ≤ 70
    omega
  · exact ov_sz (Nat.mul_pos hP0 (by decide)) (Nat.mul_pos hk0 (by omega)) (ov_sumC hv hC) (m := 35) (mul_lt_b (a := k * (8 * (n * 1000000000000000000 + 1)) * 16) (P := denP fs n) (by
      rw [b3]
      have := Nat.mul_le_mul hk (show 8 * (n * 1000000000000000000 + 1) ≤ 136000000000000000000 by omega)
      omega) hP (by rw [Nat.mul_comm (denP fs n) 16, ← Nat.mul_assoc]; exact Nat.le_refl _))
theorem bits_ch {fs : List Int} {n : Nat} (h : 1 ≤ bitsQ fs n) : chB fs n = true := by
  cases hc : chB fs n with
  | true => rfl
  | false =>
    unfold bitsQ at h
    rw [hc] at h
    simp at h
def avT (t : Int) (fs : List Int) (n : Nat) : Nat := 2 ^ (t.toNat * bitsQ fs n)
def avQ (t : Int) (fs : List Int) (n : Nat) : Rat := sumR (avT t fs n) (farC t.toNat (bitsQ fs n) fs n) * ((avT t fs n : Nat) : Rat)⁻¹
def avP (t : Int) (fs : List Int) (n : Nat) : Int := if AllI.okA t fs n then numQ (avQ t fs n) else 0
def avD (t : Int) (fs : List Int) (n : Nat) : Int := if AllI.okA t fs n then denQ (avQ t fs n) else 0
def avB (t : Int) (fs : List Int) (n : Nat) : Bool := if AllI.okA t fs n then smallQ (avQ t fs n) else false
theorem av_yes {t : Int} {fs : List Int} {n : Nat} (h : AllI.okA t fs n = true) : avP t fs n = numQ (avQ t fs n) ∧ avD t fs n = denQ (avQ t fs n) ∧ avB t fs n = smallQ (avQ t fs n) := by
  unfold avP avD avB
  simp only [h, if_true, and_self]
theorem av_no {t : Int} {fs : List Int} {n : Nat} (h : AllI.okA t fs n = false) : avP t fs n = 0 ∧ avD t fs n = 0 ∧ avB t fs n = false := by
  unfold avP avD avB
  simp [h]
end Go.Proofs.YtionognmgcabbaaGreat.Ratio
/- Plain: the best list of rows. -/
namespace Go.Proofs.YtionognmgcabbaaGreat.Ratio
open Go.RowKit Go.Proofs.YtionognmgcabbaaGreat Go.Proofs.YtionognmgcabbaaGreat.Base Go.Proofs.YtionognmgcabbaaGreat.Mem Go.Proofs.YtionognmgcabbaaGreat.NatM Go.Proofs.YtionognmgcabbaaGreat.Nat32 Go.Proofs.YtionognmgcabbaaGreat.RatM Go.Proofs.YtionognmgcabbaaGreat.GaussM Go.Proofs.YtionognmgcabbaaGreat.ChM Go.Proofs.YtionognmgcabbaaGreat.ExtM Go.Proofs.YtionognmgcabbaaGreat.RowN Go.Proofs.YtionognmgcabbaaGreat.NextM Go.Proofs.YtionognmgcabbaaGreat.GiveM
set_option linter.unusedVariables false
/-- the first of the first k codes whose number is least -/
def bst (f : Nat → Rat) : Nat → Nat
  | 0 => 0
  | k + 1 => if f k < f (bst f k) then k else bst f k
theorem bst_le (f : Nat → Rat) : ∀ k, bst f k ≤ k
  | 0 => Nat.le_refl _
  | k + 1 => by
    unfold bst
    have := bst_le f k
    split <;> omega
theorem bst_lt (f : Nat → Rat) {k : Nat} (h : 0 < k) : bst f k < k := by
  cases k with
  | zero => omega
  | succ k =>
    unfold bst
    have := bst_le f k
    split <;> omega
theorem bst_one (f : Nat → Rat) : bst f 1 = 0 := by
  show (if f 0 < f 0 then 0 else 0) = 0
  split <;> rfl
/-- the code of a list of rows -/
def dec (N : Nat) (L : List Int) : Nat := L.foldl (fun a x => a * 2 ^ N + x.toNat) 0
theorem dec_all : ∀ (count : Fin 4) (n : Fin 5), okC count.val n.val = true → ∀ code : Fin 256, code.val < 2 ^ (count.val * n.val) → dec n.val (rowsOf count.val n.val code.val) = code.val := by decide +kernel
theorem dec_of {count n code : Nat} (h1 : 1 ≤ count) (h2 : count ≤ 3) (h3 : 1 ≤ n) (h4 : n ≤ 4) (h5 : count * n ≤ 8) (hc : code < 2 ^ (count * n)) : dec n (rowsOf count n code) = code :=
  dec_all ⟨count, by omega⟩ ⟨n, by omega⟩ (okC_of h1 h2 h3 h4 h5) ⟨code, by have := pow_le h5; omega⟩ hc
/-- the numbers of a list, read from memory -/
def readL (w : World) (v : Value) : List Int := match v with
  | .slice (some a) n _ => (List.range n).map fun i => match w.cell? ⟨a.block, a.off + i, none⟩ with
    | some (.int _ x) => x
    | _ => 0
  | _ => []
theorem readL_of {w : World} {B n c : Nat} {A : Option Addr} {L : List Int} (h : RdI w B A L) (hn : L.length = n) : readL w (.slice A n c) = L := by
  rcases Nat.eq_zero_or_pos n with h0 | h0
  · have : L = [] := List.length_eq_zero_iff.1 (by omega)
    subst this
    subst h0
    cases A <;> rfl
  · obtain ⟨b, off, rfl, _, hc⟩ := h (by omega)
    apply List.ext_getElem?
    intro i
    by_cases hi : i < n
    · simp only [readL, List.getElem?_map, List.getElem?_range hi, Option.map_some]
      rw [hc i (by omega)]
      simp [List.getD, List.getElem?_eq_getElem (show i < L.length by omega)]
    · rw [List.getElem?_eq_none (by simp [readL]; omega), List.getElem?_eq_none (by omega)]
/-- how many lists of rows are left -/
def leftC (N T : Nat) (w : World) (v : Value) : Nat := if (readL w v).length = 0 then 0 else T - dec N (readL w v)
/-- what both sides give -/
def bsQ (t : Int) (fs : List Int) (n : Nat) : Nat := bst (farC t.toNat (bitsQ fs n) fs n) (avT t fs n)
def bsF (t : Int) (fs : List Int) (n : Nat) : Rat := farC t.toNat (bitsQ fs n) fs n (bsQ t fs n)
def bsB (t : Int) (fs : List Int) (n : Nat) : Bool := AllI.okA t fs n && smallQ (bsF t fs n)
def bsL (t : Int) (fs : List Int) (n : Nat) : List Int := if bsB t fs n then rowsOf t.toNat (bitsQ fs n) (bsQ t fs n) else []
def bsP (t : Int) (fs : List Int) (n : Nat) : Int := if bsB t fs n then numQ (bsF t fs n) else 0
def bsD (t : Int) (fs : List Int) (n : Nat) : Int := if bsB t fs n then denQ (bsF t fs n) else 0
theorem bs_no {t : Int} {fs : List Int} {n : Nat} (h : bsB t fs n = false) : bsL t fs n = [] ∧ bsP t fs n = 0 ∧ bsD t fs n = 0 := by
  unfold bsL bsP bsD
  simp [h]
theorem bs_yes {t : Int} {fs : List Int} {n : Nat} (h : bsB t fs n = true) : bsL t fs n = rowsOf t.toNat (bitsQ fs n) (bsQ t fs n) ∧ bsP t fs n = numQ (bsF t fs n) ∧ bsD t fs n = denQ (bsF t fs n) := by
  unfold bsL bsP bsD
  simp [h]
end Go.Proofs.YtionognmgcabbaaGreat.Ratio
/- The program: what is done with each list of rows for the best one. -/
namespace Go.Proofs.YtionognmgcabbaaGreat.Ratio
open Go.RowKit Go.Proofs.YtionognmgcabbaaGreat Go.Proofs.YtionognmgcabbaaGreat.Base Go.Proofs.YtionognmgcabbaaGreat.Mem Go.Proofs.YtionognmgcabbaaGreat.NatM Go.Proofs.YtionognmgcabbaaGreat.Nat32 Go.Proofs.YtionognmgcabbaaGreat.RatM Go.Proofs.YtionognmgcabbaaGreat.Blk Go.Proofs.YtionognmgcabbaaGreat.MemF Go.Proofs.YtionognmgcabbaaGreat.ChM Go.Proofs.YtionognmgcabbaaGreat.GaussM Go.Proofs.YtionognmgcabbaaGreat.ExtM Go.Proofs.YtionognmgcabbaaGreat.RowN Go.Proofs.YtionognmgcabbaaGreat.NextM
open Go.Proofs.YtionognmgcabbaaGreat.Inv (natOf natOf_eq len_pos Rat3 not_slice not_bool frz)
open Go.Proofs.YtionognmgcabbaaGreat.Ratio (put3)
set_option linter.unusedVariables false
/-- what the boxes hold when k lists of rows have been taken -/
structure BsI (w0 : World) (B0 gb gs gl n c C N : Nat) (A : Option Addr) (fs : List Int) (f : Nat → Rat) (k : Nat) (W : World) (vb : Value) (s : Bool) (A1 : Option Addr) (k1 c1 : Nat) (A2 : Option Addr) (k2 c2 : Nat) : Prop where
  best : Blk W gb 41 #[vb]
  rows : k = 0 ∧ vb = .slice none 0 0 ∨ 0 < k ∧ ∃ g cb, vb = .slice (some ⟨g, 0, none⟩) C cb ∧ OwnI W B0 (.slice (some ⟨g, 0, none⟩) C cb) (rowsOf C N (bst f k))
  least : Blk W gs 87 #[.bool s, .slice A1 k1 c1, .slice A2 k2 c2]
  is : 0 < k → IsRt W (f (bst f k)) (.agg #[.bool s, .slice A1 k1 c1, .slice A2 k2 c2])
  list : Blk W gl 89 #[.slice A n c]
  rd : RdR W A n (fq fs)
  below : Below w0.heap.size w0 W
def BsJ (w0 : World) (B0 gb gs gl n c C N : Nat) (A : Option Addr) (fs : List Int) (f : Nat → Rat) (k : Nat) (W : World) : Prop := ∃ vb s A1 k1 c1 A2 k2 c2, BsI w0 B0 gb gs gl n c C N A fs f k W vb s A1 k1 c1 A2 k2 c2
theorem BsI.mono {w0 : World} {B0 gb gs gl n c C N : Nat} {A : Option Addr} {fs : List Int} {f : Nat → Rat} {k : Nat} {W W' : World} {vb : Value} {s : Bool} {A1 : Option Addr} {k1 c1 : Nat} {A2 : Option Addr} {k2 c2 : Nat} (h : BsI w0 B0 gb gs gl n c C N A fs f k W vb s A1 k1 c1 A2 k2 c2) (hb : Below W.heap.size W W') : BsI w0 B0 gb gs gl n c C N A fs f k W' vb s A1 k1 c1 A2 k2 c2 := by
  refine ⟨h.best.belowS hb, ?_, h.least.belowS hb, fun h0 => (h.is h0).below hb, h.list.belowS hb, h.rd.below hb, Base.Below.nextA h.below hb⟩
  rcases h.rows with h1 | ⟨h1, g, cb, h2, h3⟩
  · exact .inl h1
  · exact .inr ⟨h1, g, cb, h2, h3.below hb⟩
theorem BsJ.mono {w0 : World} {B0 gb gs gl n c C N : Nat} {A : Option Addr} {fs : List Int} {f : Nat → Rat} {k : Nat} {W W' : World} (h : BsJ w0 B0 gb gs gl n c C N A fs f k W) (hb : Below W.heap.size W W') : BsJ w0 B0 gb gs gl n c C N A fs f k W' := by
  obtain ⟨vb, s, A1, k1, c1, A2, k2, c2, h⟩ := h
  exact ⟨vb, s, A1, k1, c1, A2, k2, c2, h.mono hb⟩
theorem not_slice1 (v : Value) (h : ∀ x : Int, v ≠ .int .u32 x) : ∀ x : Int, v ≠ .int .u32 x := h
/-- a list of rows is taken -/
theorem BsI.take {w0 : World} {B0 gb gs gl n c C N g' c' : Nat} {A : Option Addr} {fs : List Int} {f : Nat → Rat} {k : Nat} {W : World} {vb : Value} {s : Bool} {A1 : Option Addr} {k1 c1 : Nat} {A2 : Option Addr} {k2 c2 : Nat} (h : BsI w0 B0 gb gs gl n c C N A fs f k W vb s A1 k1 c1 A2 k2 c2)
    (hbs : gb ≠ gs) (hbl : gb ≠ gl) (hsl : gs ≠ gl) (hgb : w0.heap.size ≤ gb) (hgs : w0.heap.size ≤ gs) (hb0 : gb < B0) (hs0 : gs < B0) (hA : ∀ a, A = some a → a.block ≠ gs ∧ a.block ≠ gb)
    {t : Bool} {C1 : Option Addr} {m1 l1 : Nat} {C2 : Option Addr} {m2 l2 : Nat} (hI : IsRt W (f k) (.agg #[.bool t, .slice C1 m1 l1, .slice C2 m2 l2])) (ho : OwnI W B0 (.slice (some ⟨g', 0, none⟩) C c') (rowsOf C N k)) (hvb : ∀ x : Int, vb ≠ .int .u32 x) (hk : bst f (k + 1) = k) :
    BsJ w0 B0 gb gs gl n c C N A fs f (k + 1) (put3 (W.setCell ⟨gb, 0, none⟩ (.slice (some ⟨g', 0, none⟩) C c')) gs (.bool t) (.slice C1 m1 l1) (.slice C2 m2 l2)) := by
  have K1 := h.best.setTo 0 (.slice (some ⟨g', 0, none⟩) C c') rfl
  have e0 := h.best.at 0 (v := vb) rfl
  have KS := h.least.other (a := ⟨gb, 0, none⟩) (.slice (some ⟨g', 0, none⟩) C c') hbs
  refine ⟨.slice (some ⟨g', 0, none⟩) C c', t, C1, m1, l1, C2, m2, l2, ?_, .inr ⟨by omega, g', c', rfl, ?_⟩, ?_, fun _ => ?_, ?_, ?_, ?_⟩
  · exact put3_other K1 (Ne.symm hbs) _ _ _
  · rw [hk]
    have h1 := ownsRow_setCell_below ho (a := ⟨gb, 0, none⟩) hb0 (.slice (some ⟨g', 0, none⟩) C c')
    have h2 := ownsRow_setCell_below h1 (a := ⟨gs, 0, none⟩) hs0 (.bool t)
    have h3 := ownsRow_setCell_below h2 (a := ⟨gs, 1, none⟩) hs0 (.slice C1 m1 l1)
    exact ownsRow_setCell_below h3 (a := ⟨gs, 2, none⟩) hs0 (.slice C2 m2 l2)
  · exact put3_blk KS _ _ _
  · rw [hk]
    exact (isRt_set hI e0 hvb _).put3 KS _ _ _
  · exact put3_other (h.list.other (a := ⟨gb, 0, none⟩) _ hbl) hsl _ _ _
  · exact rdR_put3 (rdR_set h.rd (fun a e => (hA a e).2) e0 hvb _) (fun a e => (hA a e).1) KS _ _ _
  · exact put3_below (h.below.setCell (p := ⟨gb, 0, none⟩) hgb _) hgs _ _ _
theorem cmp_lt {q r : Rat} (h : q < r) : cmpQ q r = -1 := by
  unfold cmpQ
  rw [if_neg (fun e => by rw [e] at h; exact (Rat.lt_irrefl h)), if_pos h]
theorem cmp_ge {q r : Rat} (h : ¬ q < r) : ∃ z : Nat, cmpQ q r = (z : Int) ∧ z ≤ 1 := by
  unfold cmpQ
  by_cases e : q = r
  · rw [if_pos e]; exact ⟨0, rfl, by omega⟩
  · rw [if_neg e, if_neg h]; exact ⟨1, rfl, by omega⟩
set_option maxHeartbeats 4000000 in
set_option maxRecDepth 100000 in
theorem bestC_any {w0 : World} {B0 gb gs gl n c C N c' k : Nat} {A A' : Option Addr} {fs : List Int} (W : World) (h : BsJ w0 B0 gb gs gl n c C N A fs (farC C N fs n) k W)
    (hbs : gb ≠ gs) (hbl : gb ≠ gl) (hsl : gs ≠ gl) (hgb : w0.heap.size ≤ gb) (hgs : w0.heap.size ≤ gs) (hb0 : gb < B0) (hs0 : gs < B0) (hl0 : gl < B0) (hA : ∀ a, A = some a → a.block ≠ gs ∧ a.block ≠ gb)
    (ho : OwnI W B0 (.slice A' C c') (rowsOf C N k)) (h1 : 1 ≤ C) (h3 : C ≤ 3) (hN4 : N ≤ 4) (hv : AllVF fs n) (hn : n ≤ 16) :
    Calls Tryz.prog 75 #[.slice A' C c', .pointer (some ⟨gl, 0, none⟩), .pointer (some ⟨gb, 0, none⟩), .pointer (some ⟨gs, 0, none⟩)] W fun e w' => e = .returned (.tuple #[]) ∧ BsJ w0 B0 gb gs gl n c C N A fs (farC C N fs n) (k + 1) w' ∧ W.heap.size ≤ w'.heap.size := by
  obtain ⟨vb, s, A1, k1, c1, A2, k2, c2, h⟩ := h
  obtain ⟨A'', c'', e1, hg⟩ := ho.form
  obtain ⟨g', e2, hg1, hg2⟩ := hg (by rw [rowsOf_len]; exact h1)
  injection e1 with e3 e4 e5
  rw [← e3] at e2
  subst e2
  have hU := unevI_any (c := c) (c' := c') (xs := rowsOf C N k) W h.rd hv hn ho.rd (Nat.le_refl _) (by rw [rowsOf_len]; exact h1) (by rw [rowsOf_len]; exact h3) (fun i hi => by
    rw [rowsOf_len] at hi
    have h1 := rowsOf_lt (n := N) (code := k) hi
    have h2 : 2 ^ N ≤ 2 ^ 4 := Nat.pow_le_pow_right (by decide) hN4
    omega)
  rw [rowsOf_len, show farQ (rowsOf C N k) fs n = farC C N fs n k from rfl] at hU
  have HU := Lib.hid hU
  have HZ := Lib.hid (fun j => show szR (farC C N fs n j) ≤ 200000 by have := far_sz (xs := rowsOf C N j) hv hn (by rw [rowsOf_len]; exact h3); unfold farC; omega)
  have HI := Lib.hid h
  have HO := Lib.hid ho
  have x0 := h.list.at 0 (v := .slice A n c) rfl
  have hgbW := h.best.lt
  have hgsW := h.least.lt
  clear h ho hU hv hg e3 e4 e5
  generalize farC C N fs n = f at *
  go_enter Tryz.func75, Tryz.ntmps75
  go_wp2_with fail
  clear x0
  refine HU.out.mono ?_
  rintro e w1 hr
  obtain ⟨v, rfl, hvq, hb1⟩ := hr.is
  obtain ⟨t, C1, m1, l1, C2, m2, l2, rfl, hI⟩ := hvq.open
  obtain ⟨W2, hW2⟩ : ∃ W2, W2 = w1.alloc (.cells #[.bool t, .slice C1 m1 l1, .slice C2 m2 l2] 87) := ⟨_, rfl⟩
  have hb2 : Below w1.heap.size w1 W2 := by rw [hW2]; exact (Below.refl _ _).alloc (Nat.le_refl _) _
  have hb12 := Base.Below.nextA hb1 hb2
  have HD := Lib.hid (hI.below hb2)
  have HI2 := Lib.hid (HI.out.mono hb12)
  have HO2 := Lib.hid (HO.out.below hb12)
  have KD : Hid (Blk W2 w1.heap.size 87 #[.bool t, .slice C1 m1 l1, .slice C2 m2 l2]) := Lib.hid (by rw [hW2]; exact Blk.new w1 _ _)
  have hs1 := hb1.size
  have hs12 := hb12.size
  have HW2 := Lib.hid hW2
  clear hW2 hb2 hb12 hb1 hI hvq hr HI HO HU
  go_upto_region 1 with (fail)
  rw [← HW2.out]
  have e0 := HI2.out.least.frz 0
  have e1 := HI2.out.least.frz 1
  have e2 := HI2.out.least.frz 2
  have l0 := HI2.out.least.at 0 (v := .bool s) rfl
  have l1' := HI2.out.least.at 1 (v := .slice A1 k1 c1) rfl
  have l2' := HI2.out.least.at 2 (v := .slice A2 k2 c2) rfl
  have d0 := KD.out.at 0 (v := .bool t) rfl
  have d1 := KD.out.at 1 (v := .slice C1 m1 l1) rfl
  have d2 := KD.out.at 2 (v := .slice C2 m2 l2) rfl
  have bf := HI2.out.best.frz 0
  have hsb : gs ≠ gb := Ne.symm hbs
  have hw1b : w1.heap.size ≠ gb := by omega
  have hw1s : w1.heap.size ≠ gs := by omega
  have HNIL := Lib.hid (fun a n c => Lib.run_eql_slice_nil (P := Tryz.prog) W2 41 2 a n c 0 0 Tryz.underlying41)
  rcases HI2.out.rows with ⟨rfl, hvb⟩ | ⟨hk0, gr, cb, hvb, hrow⟩
  · subst hvb
    have b0 := HI2.out.best.at 0 (v := .slice none 0 0) rfl
    have HT := Lib.hid (HI2.out.take hbs hbl hsl hgb hgs hb0 hs0 hA HD.out HO2.out (fun x h => by cases h) (bst_one f))
    clear HI2 HO2 HD KD
    go_wp2_with fail
    rw [HNIL.out]
    have HTW : Hid (W.heap.size ≤ (put3 (W2.setCell ⟨gb, 0, none⟩ (.slice (some ⟨g', 0, none⟩) C c')) gs (.bool t) (.slice C1 m1 l1) (.slice C2 m2 l2)).heap.size) := Lib.hid (by simp [put3]; omega)
    clear HNIL
    go_wp2_with fail
    have HTD := Lib.hid (HT.out.mono ((Below.refl _ _).drew))
    unfold put3 at HTD HTW
    clear HT
    go_region
    all_goals
      go_wp2
      go_end0
      exact ⟨rfl, HTD.out, HTW.out⟩
  · subst hvb
    have b0 := HI2.out.best.at 0 (v := .slice (some ⟨gr, 0, none⟩) C cb) rfl
    have HCM := Lib.hid (ratCompare W2 HD.out (HI2.out.is hk0) (HZ.out k) (HZ.out (bst f k)))
    go_wp2_with fail
    rw [HNIL.out]
    clear HNIL
    by_cases hc : f k < f (bst f k)
    · rw [cmp_lt hc] at HCM
      go_wp2_with fail
      refine HCM.out.mono ?_
      rintro e w3 ⟨rfl, hb3⟩
      have HI3 := Lib.hid (HI2.out.mono hb3)
      have KD3 := Lib.hid (KD.out.belowS hb3)
      have hs3 := hb3.size
      have HT := Lib.hid (HI3.out.take hbs hbl hsl hgb hgs hb0 hs0 hA (HD.out.below hb3) (HO2.out.below hb3) (fun x h => by cases h) (show bst f (k + 1) = k by unfold bst; rw [if_pos hc]))
      clear b0 e0 e1 e2 l0 l1' l2' d0 d1 d2 bf hb3 HCM HI2 HO2 HD KD hc hrow
      have e0 := HI3.out.least.frz 0
      have e1 := HI3.out.least.frz 1
      have e2 := HI3.out.least.frz 2
      have l0 := HI3.out.least.at 0 (v := .bool s) rfl
      have l1' := HI3.out.least.at 1 (v := .slice A1 k1 c1) rfl
      have l2' := HI3.out.least.at 2 (v := .slice A2 k2 c2) rfl
      have d0 := KD3.out.at 0 (v := .bool t) rfl
      have d1 := KD3.out.at 1 (v := .slice C1 m1 l1) rfl
      have d2 := KD3.out.at 2 (v := .slice C2 m2 l2) rfl
      have bf := HI3.out.best.frz 0
      have b0 := HI3.out.best.at 0 (v := .slice (some ⟨gr, 0, none⟩) C cb) rfl
      have HTW : Hid (W.heap.size ≤ (put3 (w3.setCell ⟨gb, 0, none⟩ (.slice (some ⟨g', 0, none⟩) C c')) gs (.bool t) (.slice C1 m1 l1) (.slice C2 m2 l2)).heap.size) := Lib.hid (by simp [put3]; omega)
      have HTD := Lib.hid (HT.out.mono ((Below.refl _ _).drew))
      unfold put3 at HTD HTW
      clear HT HI3 KD3
      go_wp2_with fail
      go_region
      all_goals
        go_wp2
        go_end0
        exact ⟨rfl, HTD.out, HTW.out⟩
    · obtain ⟨z, hz, hz1⟩ := cmp_ge hc
      rw [hz] at HCM
      have hbk : bst f (k + 1) = bst f k := by
        show (if f k < f (bst f k) then k else bst f k) = bst f k
        rw [if_neg hc]
      have HTD : Hid (BsJ w0 B0 gb gs gl n c C N A fs f (k + 1) W2) := Lib.hid ⟨_, s, A1, k1, c1, A2, k2, c2, HI2.out.best, .inr ⟨by omega, gr, cb, rfl, by rw [hbk]; exact hrow⟩, HI2.out.least, fun _ => by rw [hbk]; exact HI2.out.is hk0, HI2.out.list, HI2.out.rd, HI2.out.below⟩
      clear hc hz hbk hrow HI2 HO2 HD KD
      go_wp2_with fail
      refine HCM.out.mono ?_
      rintro e w3 ⟨rfl, hb3⟩
      have HT3 := Lib.hid (HTD.out.mono hb3)
      have hs3 := hb3.size
      clear HTD hb3 HCM
      go_wp2
      go_end0
      exact ⟨rfl, HT3.out, by omega⟩
end Go.Proofs.YtionognmgcabbaaGreat.Ratio
