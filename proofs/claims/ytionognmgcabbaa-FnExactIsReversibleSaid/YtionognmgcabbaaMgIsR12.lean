/- The program: whether a walk is the same in both directions. -/
import Derived.Test.YtionognmgcabbaaMgIsR11
import Derived.Test.YtionognmgcabbaaMgIsR06
import Derived.Test.YtionognmgcabbaaMgIsR00
namespace Go.Proofs.Ytionognmgcabbaa.Ratio
open Go.RowKit Go.Proofs.Ytionognmgcabbaa Go.Proofs.Ytionognmgcabbaa.Base Go.Proofs.Ytionognmgcabbaa.Mem Go.Proofs.Ytionognmgcabbaa.NatM Go.Proofs.Ytionognmgcabbaa.Nat32 Go.Proofs.Ytionognmgcabbaa.RatM Go.Proofs.Ytionognmgcabbaa.Blk Go.Proofs.Ytionognmgcabbaa.MemF Go.Proofs.Ytionognmgcabbaa.ChM Go.Proofs.Ytionognmgcabbaa.GaussM Go.Proofs.Ytionognmgcabbaa.WalkM Go.Proofs.Ytionognmgcabbaa.GiveM
open Go.Proofs.Ytionognmgcabbaa.Inv (natOf natOf_eq len_pos Rat3 not_slice not_bool frz)
set_option linter.unusedVariables false
def RvRel (n : Nat) (x : Nat → Rat) (W : Nat → Nat → Rat) (w : World) (iv : Value) (wr : World) : Prop := ∃ i : Nat, iv = .int .i64 (i : Int) ∧ i ≤ n ∧ Hid (RvTo x W i 0) ∧ Hid (Below w.heap.size w wr)
def RvRel2 (i : Nat) (x : Nat → Rat) (W : Nat → Nat → Rat) (w : World) (kv : Value) (wr : World) : Prop := ∃ k : Nat, kv = .int .i64 (k : Int) ∧ k ≤ i ∧ Hid (RvTo x W i k) ∧ Hid (Below w.heap.size w wr)
set_option maxHeartbeats 2000000 in
set_option maxRecDepth 100000 in
theorem revI_any {A : Option Addr} {c B n : Nat} {L : Nat → Nat} {fs : Nat → List Int} (w : World) (hx : RdFF w B A n L fs) (hB : B ≤ w.heap.size) (hL : ∀ i, i < n → L i ≤ 1048576) (hn : n ≤ 1048576) :
    Calls Try.prog 18 #[.agg #[.slice A n c]] w fun e w' => e = .returned (.bool (rvB n L fs)) ∧ Below w.heap.size w w' := by
  obtain ⟨W0, hW0⟩ : ∃ W0, W0 = w.alloc (.cells #[.slice A n c] 33) := ⟨_, rfl⟩
  have hb0 : Below w.heap.size w W0 := by rw [hW0]; exact (Below.refl _ _).alloc (Nat.le_refl _) _
  have K0 : Hid (Blk W0 w.heap.size 33 #[.slice A n c]) := Lib.hid (by rw [hW0]; exact Blk.new w _ _)
  have HX := Lib.hid ((hx.below hb0 hB).more (Nat.le_trans hB hb0.size))
  have HS := Lib.hid (setOfI_any (c := c) W0 HX.out (Nat.le_refl _) hL hn)
  have HB0 := Lib.hid hb0
  have HW0 := Lib.hid hW0
  clear hx hb0 hW0
  have x0 := K0.out.at 0 (v := .slice A n c) rfl
  rw [HW0.out] at x0
  cases hv : stO n L fs with
  | false =>
    have hrv : rvB n L fs = false := by unfold rvB; rw [hv]; rfl
    rw [hrv]
    rw [hv] at HS
    clear hv hrv hL
    go_enter Try.func18, Try.ntmps18
    go_wp2_with fail
    rw [← HW0.out]
    clear x0
    refine HS.out.mono ?_
    rintro e w1 ⟨A1, c1, rfl, _, hb1⟩
    have HBZ := Lib.hid (Base.Below.nextA HB0.out hb1)
    clear hb1
    generalize stN n L fs = N at *
    go_wp2
    go_ret
    exact ⟨rfl, HBZ.out⟩
  | true =>
    have hrv : rvB n L fs = revT n fs := by unfold rvB; rw [hv]; rfl
    rw [hrv]
    obtain ⟨hz1, hwk, hz2, hsm, hN, hR⟩ := stO_true hv
    obtain ⟨hn1, hn6, hLn, hfs, hsum, hdg⟩ := wk_all hwk
    obtain ⟨hvo, hfo⟩ := outF_vf hsm
    rw [hv, hN, hR] at HS
    have HRW := Lib.hid (fun W (h : Below W0.heap.size W0 W) => show Calls Try.prog 38 #[.agg #[.slice A n c]] W (RrRet n L (wQ fs) W) from rowsI_any (c := c) W (HX.out.below h (Nat.le_refl _)) h.size (fun i hi => by rw [hLn i hi]; exact hfs i hi) (fun i hi => by rw [hLn i hi]; omega) (by omega))
    have HLN := Lib.hid hLn
    have HVO : Hid (∀ i, i < n → VF ((outF (stX n fs) n).getD (2 * i) 0) ((outF (stX n fs) n).getD (2 * i + 1) 0) ∧ qf ((outF (stX n fs) n).getD (2 * i) 0) ((outF (stX n fs) n).getD (2 * i + 1) 0) = stX n fs i) := Lib.hid (fun i hi => ⟨hvo i hi, hfo i hi⟩)
    have HDX : Hid (∀ i, i < n → Dg (B32 ^ 2) (stX n fs i)) := Lib.hid (fun i hi => by rw [← hfo i hi]; exact dgb_vf (hvo i hi))
    have HDW := Lib.hid hdg
    have HYES := Lib.hid (fun h => revT_yes (n := n) (fs := fs) h)
    have HNO := Lib.hid (fun i k (hi : i < n) (hk : k < i) h => revT_no (n := n) (fs := fs) hi hk h)
    clear hz1 hz2 hv hrv hwk hsm hN hR hLn hfs hsum hdg hvo hfo hL
    generalize outF (stX n fs) n = ps at *
    generalize stX n fs = x at *
    generalize wQ fs = W at *
    generalize revT n fs = rt at *
    go_enter Try.func18, Try.ntmps18
    go_wp2_with fail
    rw [← HW0.out]
    clear x0
    refine HS.out.mono ?_
    rintro e w1 ⟨A1, c1, rfl, ho1, hb1⟩
    have HW1 := Lib.hid hb1
    have x1 := (K0.out.belowS hb1).at 0 (v := .slice A n c) rfl
    have HP := Lib.hid (MemF.OwnF.rd ho1)
    clear hb1 HS ho1
    go_wp2_with fail
    refine (HRW.out _ HW1.out).mono ?_
    rintro e w3 ⟨A3, c3, rfl, hrr, hb3⟩
    have HW3 := Lib.hid (Base.Below.nextA HW1.out hb3)
    have HRR := Lib.hid (hrr.congrL (L' := fun _ => n) HLN.out)
    have HP3 := Lib.hid ((HP.out.below hb3 (Nat.le_refl _)).more hb3.size)
    have H0 : Hid (RvRel n x W w3 (.int .i64 0) w3) := Lib.hid ⟨0, rfl, Nat.zero_le _, Lib.hid (RvTo.zero x W), Lib.hid (Below.refl _ _)⟩
    clear hb3 hrr HRW HW1 x1 HP
    go_wp2
    go_loopw [19] (fun iv wr => RvRel n x W w3 iv wr) (fun iv _ => n - (intOf iv).toNat)
    case atStart => exact H0.out
    case round =>
      obtain ⟨i, rfl, hi, HT, HB⟩ := hrel
      clear H0
      by_cases hin : i < n
      · have H1 : Hid (RvRel2 i x W w3 (.int .i64 0) wr) := Lib.hid ⟨0, rfl, Nat.zero_le _, HT, HB⟩
        clear HT HB
        go_wp2
        go_loopw [23] (fun kv w2 => RvRel2 i x W w3 kv w2) (fun kv _ => i - (intOf kv).toNat)
        case atStart => exact H1.out
        case round =>
          obtain ⟨k, rfl, hk, HT, HB⟩ := hrel
          clear H1
          by_cases hki : k < i
          · have hkn : k < n := by omega
            have hkn2 : (k : Int) < (n : Int) := by omega
            have hin2 : (i : Int) < (n : Int) := by omega
            have HPr := Lib.hid ((HP3.out.below HB.out (Nat.le_refl _)).more HB.out.size)
            obtain ⟨bp, op, rfl, hbp, p0, p1⟩ := HPr.out.at hin
            obtain ⟨bp', op', ebp, _, q0, q1⟩ := HPr.out.at hkn
            injection ebp with ebp
            injection ebp with e1 e2 e3
            subst e1 e2
            clear e3
            obtain ⟨gr, A6, c6, rfl, hgr, hri, hrow⟩ := (HRR.out.below HB.out).at hin
            obtain ⟨gr', A7, c7, egr, _, hrk, hrow2⟩ := (HRR.out.below HB.out).at hkn
            injection egr with egr
            injection egr with e1 e2 e3
            subst e1
            clear e2 e3
            obtain ⟨gm, s3, D1, i1, b1, D2, i2, b2, rfl, hgm, m0, m1, m2, hmk⟩ := hrow.at hkn
            obtain ⟨gm', s4, E1, j1, d1, E2, j2, d2, rfl, hgm', n0, n1, n2, hmk'⟩ := hrow2.at hin
            have HM1 : Hid (∀ W', Below wr.heap.size wr W' → W'.cell? ⟨gm, k * 3, none⟩ = some (.bool s3) ∧ W'.cell? ⟨gm, k * 3 + 1, none⟩ = some (.slice D1 i1 b1) ∧ W'.cell? ⟨gm, k * 3 + 2, none⟩ = some (.slice D2 i2 b2)) := Lib.hid fun W' hW =>
              ⟨(hW.cell (p := ⟨gm, k * 3, none⟩) hgm).trans m0, (hW.cell (p := ⟨gm, k * 3 + 1, none⟩) hgm).trans m1, (hW.cell (p := ⟨gm, k * 3 + 2, none⟩) hgm).trans m2⟩
            have HM2 : Hid (∀ W', Below wr.heap.size wr W' → W'.cell? ⟨gm', i * 3, none⟩ = some (.bool s4) ∧ W'.cell? ⟨gm', i * 3 + 1, none⟩ = some (.slice E1 j1 d1) ∧ W'.cell? ⟨gm', i * 3 + 2, none⟩ = some (.slice E2 j2 d2)) := Lib.hid fun W' hW =>
              ⟨(hW.cell (p := ⟨gm', i * 3, none⟩) hgm').trans n0, (hW.cell (p := ⟨gm', i * 3 + 1, none⟩) hgm').trans n1, (hW.cell (p := ⟨gm', i * 3 + 2, none⟩) hgm').trans n2⟩
            have HK1 := Lib.hid hmk
            have HK2 := Lib.hid hmk'
            obtain ⟨vi, ei⟩ := HVO.out i hin
            obtain ⟨vk, ek⟩ := HVO.out k hkn
            have HRI := Lib.hid (fun W' => ratioOf_vf vi W')
            have HRK := Lib.hid (fun W' => ratioOf_vf vk W')
            rw [ei] at HRI
            rw [ek] at HRK
            have HZ : Hid (szR (x i) ≤ 200000 ∧ szR (W i k) ≤ 200000 ∧ szR (x k) ≤ 200000 ∧ szR (W k i) ≤ 200000 ∧ szR (x i * W i k) ≤ 200000 ∧ szR (x k * W k i) ≤ 200000) := Lib.hid (by
              have g1 := HDX.out i hin
              have g2 := HDX.out k hkn
              have g3 := HDW.out i k hin hkn
              have g4 := HDW.out k i hkn hin
              have z1 := dgb_sz g1
              have z2 := dgb_sz g2
              have z3 := dgb_sz g3
              have z4 := dgb_sz g4
              have z5 := dgb_sz (dgb_mul g1 g3)
              have z6 := dgb_sz (dgb_mul g2 g4)
              omega)
            have HYE : Hid (x i * W i k = x k * W k i → RvTo x W i (k + 1)) := Lib.hid (fun e => HT.out.step hki e)
            have HNE := Lib.hid (fun h => HNO.out i k hin hki h)
            clear hmk hmk' hrow hrow2 m0 m1 m2 n0 n1 n2 vi ei vk ek HPr HT
            generalize x i = xi at *
            generalize x k = xk at *
            generalize W i k = mik at *
            generalize W k i = mki at *
            generalize ps.getD (2 * i) 0 = a0 at *
            generalize ps.getD (2 * i + 1) 0 = a1 at *
            generalize ps.getD (2 * k) 0 = b0 at *
            generalize ps.getD (2 * k + 1) 0 = b1' at *
            obtain ⟨z, hz⟩ : ∃ z, z = cmpQ (xi * mik) (xk * mki) := ⟨_, rfl⟩
            have HC := Lib.hid hz.symm
            have hz0 : (z != 0) = true ↔ xi * mik ≠ xk * mki := by
              rw [hz]
              unfold cmpQ
              by_cases e : xi * mik = xk * mki
              · simp [e]
              · simp only [e, if_false, ne_eq, not_false_eq_true, iff_true]
                split <;> rfl
            clear hz
            obtain ⟨bz, hbz⟩ : ∃ bz, bz = (z != 0) := ⟨_, rfl⟩
            have HZ0 : Hid ((bz = true ↔ xi * mik ≠ xk * mki)) := Lib.hid (by rw [hbz]; exact hz0)
            replace hbz := hbz.symm
            clear hz0
            go_upto_region 11 with (fail)
            refine Rel.wp_region_rel 27 (by kernel_rfl) (by kernel_rfl) (fun F hF => ?_)
            simp only [List.take_succ_cons, List.take_zero, List.drop_succ_cons, List.drop_zero, Rel.putL] at hF ⊢
            have HF := Lib.hid hF
            clear hF
            have uv := @Rel.upon_value Try.prog
            have ue := @Rel.upon_enter Try.prog
            apply Rel.rel_pure
            apply Exists.intro
            refine ⟨fun vs wq hq hdp R hR => ?_, ?_⟩
            · (rw [HF.out, Rel.stepAt_eq]; clear hdp; skip; go_simp; exact hR)
            apply Rel.rel_pure
            apply Exists.intro
            refine ⟨fun vs wq hq hdp R hR => ?_, ?_⟩
            · (rw [HF.out, Rel.stepAt_eq]; clear hdp; skip; go_simp; exact hR)
            apply Rel.rel_pure
            apply Exists.intro
            refine ⟨fun vs wq hq hdp R hR => ?_, ?_⟩
            · (rw [HF.out, Rel.stepAt_eq]; have qd0 : vs 0 = _ := Rel.dep hdp 0 (by kernel_rfl); have qd1 : vs 1 = _ := Rel.dep hdp 1 (by kernel_rfl); clear hdp; skip; go_simp; exact hR)
            apply Rel.rel_pure
            apply Exists.intro
            refine ⟨fun vs wq hq hdp R hR => ?_, ?_⟩
            · (rw [HF.out, Rel.stepAt_eq]; have qd2 : vs 2 = _ := Rel.dep hdp 2 (by kernel_rfl); clear hdp; have f0 := (hq.cell (p := ⟨bp, op + i * 2, none⟩) hbp).trans p0; have f1 := (hq.cell (p := ⟨bp, op + i * 2 + 1, none⟩) hbp).trans p1; go_simp; exact hR)
            refine Rel.rel_law (S := fun v w' => IsRt w' xi v) (isRt_mono _) (fun vs wq hq hdp => ?_) ?_
            · (rw [HF.out, Rel.stepAt_eq]; have qd3 : vs 3 = _ := Rel.dep hdp 3 (by kernel_rfl); clear hdp; skip; go_simp; refine (HRI.out wq).mono ?_; rintro e w7 ⟨B1, d1, B2, d2, rfl, r1, r2, hb⟩; exact ⟨_, rfl, ⟨B1, d1, B2, d2, rfl, r1.1, r2.1⟩, hb⟩)
            apply Rel.rel_pure
            apply Exists.intro
            refine ⟨fun vs wq hq hdp R hR => ?_, ?_⟩
            · (rw [HF.out, Rel.stepAt_eq]; clear hdp; skip; go_simp; exact hR)
            apply Rel.rel_pure
            apply Exists.intro
            refine ⟨fun vs wq hq hdp R hR => ?_, ?_⟩
            · (rw [HF.out, Rel.stepAt_eq]; clear hdp; skip; go_simp; exact hR)
            apply Rel.rel_pure
            apply Exists.intro
            refine ⟨fun vs wq hq hdp R hR => ?_, ?_⟩
            · (rw [HF.out, Rel.stepAt_eq]; have qd5 : vs 5 = _ := Rel.dep hdp 5 (by kernel_rfl); have qd6 : vs 6 = _ := Rel.dep hdp 6 (by kernel_rfl); clear hdp; skip; go_simp; exact hR)
            apply Rel.rel_pure
            apply Exists.intro
            refine ⟨fun vs wq hq hdp R hR => ?_, ?_⟩
            · (rw [HF.out, Rel.stepAt_eq]; have qd7 : vs 7 = _ := Rel.dep hdp 7 (by kernel_rfl); clear hdp; have r0 := (hq.cell (p := ⟨gr, i, none⟩) hgr).trans hri; go_simp; exact hR)
            apply Rel.rel_pure
            apply Exists.intro
            refine ⟨fun vs wq hq hdp R hR => ?_, ?_⟩
            · (rw [HF.out, Rel.stepAt_eq]; clear hdp; skip; go_simp; exact hR)
            apply Rel.rel_pure
            apply Exists.intro
            refine ⟨fun vs wq hq hdp R hR => ?_, ?_⟩
            · (rw [HF.out, Rel.stepAt_eq]; have qd8 : vs 8 = _ := Rel.dep hdp 8 (by kernel_rfl); have qd9 : vs 9 = _ := Rel.dep hdp 9 (by kernel_rfl); clear hdp; skip; go_simp; exact hR)
            apply Rel.rel_pure
            apply Exists.intro
            refine ⟨fun vs wq hq hdp R hR => ?_, ?_⟩
            · (rw [HF.out, Rel.stepAt_eq]; have qd10 : vs 10 = _ := Rel.dep hdp 10 (by kernel_rfl); clear hdp; obtain ⟨u0, u1, u2⟩ := HM1.out wq hq; go_simp; exact hR)
            refine Rel.rel_law (S := fun v w' => IsRt w' (xi * mik) v) (isRt_mono _) (fun vs wq hq hdp => ?_) ?_
            · (rw [HF.out, Rel.stepAt_eq]; have qd4 : IsRt wq _ (vs 4) := Rel.dep hdp 4 (by kernel_rfl); have qd11 : vs 11 = _ := Rel.dep hdp 11 (by kernel_rfl); clear hdp; skip; go_simp; refine (ratTimes wq qd4 (HK1.out.below hq) HZ.out.1 HZ.out.2.1).mono ?_; rintro e w7 h; obtain ⟨v, rfl, hv, hb⟩ := h.is; exact ⟨_, rfl, hv, hb⟩)
            apply Rel.rel_pure
            apply Exists.intro
            refine ⟨fun vs wq hq hdp R hR => ?_, ?_⟩
            · (rw [HF.out, Rel.stepAt_eq]; clear hdp; skip; go_simp; exact hR)
            apply Rel.rel_pure
            apply Exists.intro
            refine ⟨fun vs wq hq hdp R hR => ?_, ?_⟩
            · (rw [HF.out, Rel.stepAt_eq]; clear hdp; skip; go_simp; exact hR)
            apply Rel.rel_pure
            apply Exists.intro
            refine ⟨fun vs wq hq hdp R hR => ?_, ?_⟩
            · (rw [HF.out, Rel.stepAt_eq]; have qd13 : vs 13 = _ := Rel.dep hdp 13 (by kernel_rfl); have qd14 : vs 14 = _ := Rel.dep hdp 14 (by kernel_rfl); clear hdp; skip; go_simp; exact hR)
            apply Rel.rel_pure
            apply Exists.intro
            refine ⟨fun vs wq hq hdp R hR => ?_, ?_⟩
            · (rw [HF.out, Rel.stepAt_eq]; have qd15 : vs 15 = _ := Rel.dep hdp 15 (by kernel_rfl); clear hdp; have f0 := (hq.cell (p := ⟨bp, op + k * 2, none⟩) hbp).trans q0; have f1 := (hq.cell (p := ⟨bp, op + k * 2 + 1, none⟩) hbp).trans q1; go_simp; exact hR)
            refine Rel.rel_law (S := fun v w' => IsRt w' xk v) (isRt_mono _) (fun vs wq hq hdp => ?_) ?_
            · (rw [HF.out, Rel.stepAt_eq]; have qd16 : vs 16 = _ := Rel.dep hdp 16 (by kernel_rfl); clear hdp; skip; go_simp; refine (HRK.out wq).mono ?_; rintro e w7 ⟨B1, d1, B2, d2, rfl, r1, r2, hb⟩; exact ⟨_, rfl, ⟨B1, d1, B2, d2, rfl, r1.1, r2.1⟩, hb⟩)
            apply Rel.rel_pure
            apply Exists.intro
            refine ⟨fun vs wq hq hdp R hR => ?_, ?_⟩
            · (rw [HF.out, Rel.stepAt_eq]; clear hdp; skip; go_simp; exact hR)
            apply Rel.rel_pure
            apply Exists.intro
            refine ⟨fun vs wq hq hdp R hR => ?_, ?_⟩
            · (rw [HF.out, Rel.stepAt_eq]; clear hdp; skip; go_simp; exact hR)
            apply Rel.rel_pure
            apply Exists.intro
            refine ⟨fun vs wq hq hdp R hR => ?_, ?_⟩
            · (rw [HF.out, Rel.stepAt_eq]; have qd18 : vs 18 = _ := Rel.dep hdp 18 (by kernel_rfl); have qd19 : vs 19 = _ := Rel.dep hdp 19 (by kernel_rfl); clear hdp; skip; go_simp; exact hR)
            apply Rel.rel_pure
            apply Exists.intro
            refine ⟨fun vs wq hq hdp R hR => ?_, ?_⟩
            · (rw [HF.out, Rel.stepAt_eq]; have qd20 : vs 20 = _ := Rel.dep hdp 20 (by kernel_rfl); clear hdp; have r0 := (hq.cell (p := ⟨gr, k, none⟩) hgr).trans hrk; go_simp; exact hR)
            apply Rel.rel_pure
            apply Exists.intro
            refine ⟨fun vs wq hq hdp R hR => ?_, ?_⟩
            · (rw [HF.out, Rel.stepAt_eq]; clear hdp; skip; go_simp; exact hR)
            apply Rel.rel_pure
            apply Exists.intro
            refine ⟨fun vs wq hq hdp R hR => ?_, ?_⟩
            · (rw [HF.out, Rel.stepAt_eq]; have qd21 : vs 21 = _ := Rel.dep hdp 21 (by kernel_rfl); have qd22 : vs 22 = _ := Rel.dep hdp 22 (by kernel_rfl); clear hdp; skip; go_simp; exact hR)
            apply Rel.rel_pure
            apply Exists.intro
            refine ⟨fun vs wq hq hdp R hR => ?_, ?_⟩
            · (rw [HF.out, Rel.stepAt_eq]; have qd23 : vs 23 = _ := Rel.dep hdp 23 (by kernel_rfl); clear hdp; obtain ⟨u0, u1, u2⟩ := HM2.out wq hq; go_simp; exact hR)
            refine Rel.rel_law (S := fun v w' => IsRt w' (xk * mki) v) (isRt_mono _) (fun vs wq hq hdp => ?_) ?_
            · (rw [HF.out, Rel.stepAt_eq]; have qd17 : IsRt wq _ (vs 17) := Rel.dep hdp 17 (by kernel_rfl); have qd24 : vs 24 = _ := Rel.dep hdp 24 (by kernel_rfl); clear hdp; skip; go_simp; refine (ratTimes wq qd17 (HK2.out.below hq) HZ.out.2.2.1 HZ.out.2.2.2.1).mono ?_; rintro e w7 h; obtain ⟨v, rfl, hv, hb⟩ := h.is; exact ⟨_, rfl, hv, hb⟩)
            apply Rel.rel_same
            apply Exists.intro
            refine ⟨fun vs wq hq hdp => ?_, ?_⟩
            · (rw [HF.out, Rel.stepAt_eq]; have qd12 : IsRt wq _ (vs 12) := Rel.dep hdp 12 (by kernel_rfl); have qd25 : IsRt wq _ (vs 25) := Rel.dep hdp 25 (by kernel_rfl); clear hdp; skip; go_simp; refine (ratCompare wq qd12 qd25 HZ.out.2.2.2.2.1 HZ.out.2.2.2.2.2).mono ?_; rintro e w7 ⟨rfl, hb⟩; rw [HC.out]; exact ⟨_, rfl, rfl, hb⟩)
            refine Rel.rel_end (fun vs wq hq hall => ?_)
            rw [HF.out]
            have qe0 : vs 0 = _ := Rel.fin hall 0 (by decide)
            have qe1 : vs 1 = _ := Rel.fin hall 1 (by decide)
            have qe2 : vs 2 = _ := Rel.fin hall 2 (by decide)
            have qe3 : vs 3 = _ := Rel.fin hall 3 (by decide)
            have qe4 : IsRt wq _ (vs 4) := Rel.fin hall 4 (by decide)
            have qe5 : vs 5 = _ := Rel.fin hall 5 (by decide)
            have qe6 : vs 6 = _ := Rel.fin hall 6 (by decide)
            have qe7 : vs 7 = _ := Rel.fin hall 7 (by decide)
            have qe8 : vs 8 = _ := Rel.fin hall 8 (by decide)
            have qe9 : vs 9 = _ := Rel.fin hall 9 (by decide)
            have qe10 : vs 10 = _ := Rel.fin hall 10 (by decide)
            have qe11 : vs 11 = _ := Rel.fin hall 11 (by decide)
            have qe12 : IsRt wq _ (vs 12) := Rel.fin hall 12 (by decide)
            have qe13 : vs 13 = _ := Rel.fin hall 13 (by decide)
            have qe14 : vs 14 = _ := Rel.fin hall 14 (by decide)
            have qe15 : vs 15 = _ := Rel.fin hall 15 (by decide)
            have qe16 : vs 16 = _ := Rel.fin hall 16 (by decide)
            have qe17 : IsRt wq _ (vs 17) := Rel.fin hall 17 (by decide)
            have qe18 : vs 18 = _ := Rel.fin hall 18 (by decide)
            have qe19 : vs 19 = _ := Rel.fin hall 19 (by decide)
            have qe20 : vs 20 = _ := Rel.fin hall 20 (by decide)
            have qe21 : vs 21 = _ := Rel.fin hall 21 (by decide)
            have qe22 : vs 22 = _ := Rel.fin hall 22 (by decide)
            have qe23 : vs 23 = _ := Rel.fin hall 23 (by decide)
            have qe24 : vs 24 = _ := Rel.fin hall 24 (by decide)
            have qe25 : IsRt wq _ (vs 25) := Rel.fin hall 25 (by decide)
            have qe26 : vs 26 = _ := Rel.fin hall 26 (by decide)
            clear hall HF uv ue
            have HBQ := Lib.hid (Base.Below.nextA HB0.out (Base.Below.nextA HW3.out (Base.Below.nextA HB.out hq)))
            have HBN := Lib.hid (Base.Below.nextA HB.out hq)
            have q26 : vs 26 = .int .i64 z := qe26
            clear hq HB HM1 HM2 HK1 HK2 HRI HRK HZ HC p0 p1 q0 q1 hri hrk qe0 qe1 qe2 qe3 qe4 qe5 qe6 qe7 qe8 qe9 qe10 qe11 qe12 qe13 qe14 qe15 qe16 qe17 qe18 qe19 qe20 qe21 qe22 qe23 qe24 qe25 qe26
            cases bz with
            | false =>
              have HN : Hid (RvRel2 i x W w3 (.int .i64 ((k : Int) + 1)) wq) := Lib.hid ⟨k + 1, by simp, hki, Lib.hid (HYE.out (Classical.byContradiction fun e => by have := HZ0.out.2 e; cases this)), HBN⟩
              clear HYE HNE HBN HZ0
              go_wp2
              go_roundw
              case rel => exact HN.out
              case measure => simp [intOf]; omega
            | true =>
              have HF := Lib.hid (HNE.out (HZ0.out.1 rfl))
              clear HYE HNE HBN HZ0
              go_wp2
              go_ret
              exact ⟨by rw [HF.out]; rfl, HBQ.out⟩
          · have HN : Hid (RvRel n x W w3 (.int .i64 ((i : Int) + 1)) wr) := Lib.hid ⟨i + 1, by simp, hin, Lib.hid (HT.out.next (by omega)), HB⟩
            clear HT HB
            go_wp2
            go_roundw
            case rel => exact HN.out
            case measure => simp [intOf]; omega
      · have HF := Lib.hid (HYES.out (by
          obtain rfl : i = n := by omega
          exact HT.out))
        have HBQ := Lib.hid (Base.Below.nextA HB0.out (Base.Below.nextA HW3.out HB.out))
        clear HT HB
        go_wp2
        go_ret
        exact ⟨by rw [HF.out]; rfl, HBQ.out⟩
end Go.Proofs.Ytionognmgcabbaa.Ratio
/- The reference's small fractions: products. -/
namespace Go.Proofs.Ytionognmgcabbaa.Fine
open Go.RowKit Go.Proofs.Ytionognmgcabbaa Go.Proofs.Ytionognmgcabbaa.Base Go.Proofs.Ytionognmgcabbaa.Mem Go.Proofs.Ytionognmgcabbaa.RatM Go.Proofs.Ytionognmgcabbaa.Two Go.Proofs.Ytionognmgcabbaa.Blk
set_option linter.unusedVariables false
/-- the rational of a result, if it is small -/
def FRet (q : Rat) (w : World) (e : Ending) (w' : World) : Prop := e = .returned (.tuple #[.agg #[.int .i64 (numQ q), .int .i64 (denQ q)], .bool (smallQ q)]) ∧ Below w.heap.size w w'
theorem mul_parts {n1 d1 n2 d2 : Int} (h1 : VF n1 d1) (h2 : VF n2 d2) :
    ∃ N1 N2 : Int, ∃ D1 D2 : Nat, lowV n1 d2.toNat = .agg #[.int .i64 N1, .int .i64 (D2 : Int)] ∧ lowV n2 d1.toNat = .agg #[.int .i64 N2, .int .i64 (D1 : Int)] ∧
      -1000000000000000000 ≤ N1 ∧ N1 ≤ 1000000000000000000 ∧ -1000000000000000000 ≤ N2 ∧ N2 ≤ 1000000000000000000 ∧ D1 ≤ 1000000000000000000 ∧ D2 ≤ 1000000000000000000 ∧
      (qf n1 d1 * qf n2 d2).num.natAbs = N1.natAbs * N2.natAbs ∧ (qf n1 d1 * qf n2 d2).den = D2 * D1 ∧
      (decide (N1 < 0) = decide (N2 < 0) → (qf n1 d1 * qf n2 d2).num = ((N1.natAbs * N2.natAbs : Nat) : Int)) ∧ (decide (N1 < 0) ≠ decide (N2 < 0) → (qf n1 d1 * qf n2 d2).num = -((N1.natAbs * N2.natAbs : Nat) : Int)) := by
  obtain ⟨a1, a2, a3, a4, a5⟩ := h1
  obtain ⟨b1, b2, b3, b4, b5⟩ := h2
  have hd1 : 0 < d1.toNat := by omega
  have hd2 : 0 < d2.toNat := by omega
  have p1 : 0 < Nat.gcd n1.natAbs d2.toNat := Nat.gcd_pos_of_pos_right _ hd2
  have p2 : 0 < Nat.gcd n2.natAbs d1.toNat := Nat.gcd_pos_of_pos_right _ hd1
  obtain ⟨_, q1, s1⟩ := exact_div (Nat.gcd_dvd_left n1.natAbs d2.toNat) p1
  obtain ⟨_, q2, s2⟩ := exact_div (Nat.gcd_dvd_left n2.natAbs d1.toNat) p2
  have hc := prod_cop hd1 hd2 a5 b5
  have hv := prod_val (decide (n1 < 0) != decide (n2 < 0)) (n1 := n1.natAbs) (n2 := n2.natAbs) hd1 hd2
  have hm := qv_mul (decide (n1 < 0)) (decide (n2 < 0)) (n := n1.natAbs) (n' := n2.natAbs) (d := d1.toNat) (d' := d2.toNat) (by omega) (by omega)
  have hne : d2.toNat / Nat.gcd n1.natAbs d2.toNat * (d1.toNat / Nat.gcd n2.natAbs d1.toNat) ≠ 0 := by
    refine Nat.mul_ne_zero ?_ ?_
    · exact Nat.ne_of_gt (Nat.div_pos (Nat.gcd_le_right _ hd2) p1)
    · exact Nat.ne_of_gt (Nat.div_pos (Nat.gcd_le_right _ hd1) p2)
  have e : qf n1 d1 * qf n2 d2 = qv (decide (n1 < 0) != decide (n2 < 0)) (n1.natAbs / Nat.gcd n1.natAbs d2.toNat * (n2.natAbs / Nat.gcd n2.natAbs d1.toNat)) (d2.toNat / Nat.gcd n1.natAbs d2.toNat * (d1.toNat / Nat.gcd n2.natAbs d1.toNat)) := by
    rw [hv, hm]; rfl
  obtain ⟨l1, l2⟩ := low_of (s := decide (n1 < 0) != decide (n2 < 0)) hne hc
  have l0 := (own_num (s := decide (n1 < 0) != decide (n2 < 0)) hne hc).1
  refine ⟨_, _, d1.toNat / Nat.gcd n2.natAbs d1.toNat, d2.toNat / Nat.gcd n1.natAbs d2.toNat, rfl, rfl, ?_, ?_, ?_, ?_, ?_, ?_, ?_, ?_, ?_, ?_⟩
  · have := Nat.div_le_self n1.natAbs (Nat.gcd n1.natAbs d2.toNat); omega
  · have := Nat.div_le_self n1.natAbs (Nat.gcd n1.natAbs d2.toNat); omega
  · have := Nat.div_le_self n2.natAbs (Nat.gcd n2.natAbs d1.toNat); omega
  · have := Nat.div_le_self n2.natAbs (Nat.gcd n2.natAbs d1.toNat); omega
  · have := Nat.div_le_self d1.toNat (Nat.gcd n2.natAbs d1.toNat); omega
  · have := Nat.div_le_self d2.toNat (Nat.gcd n1.natAbs d2.toNat); omega
  · rw [e, l0, q1, q2]
  · rw [e, l2]
  · intro hs
    rw [e, l1, q1, q2]
    simp only [s1, s2] at hs
    rw [hs, bne_self_eq_false]; rfl
  · intro hs
    rw [e, l1, q1, q2]
    simp only [s1, s2] at hs
    have : (decide (n1 < 0) != decide (n2 < 0)) = true := by simpa using hs
    rw [this]; rfl
theorem smallE (t : Nat) : ∃ (i : Int) (b : Bool), b = decide (t ≤ 1000000000000000000) ∧ (b = true → i = (t : Int)) ∧ Hid (∀ w, Calls Try.prog 108 #[two t] w fun e w' => e = .returned (.tuple #[.int .i64 i, .bool b]) ∧ Below w.heap.size w w') :=
  ⟨_, _, rfl, fun h => by rw [if_pos (of_decide_eq_true h)], Lib.hid (fun w => small_any t w)⟩
set_option maxHeartbeats 4000000 in
set_option maxRecDepth 100000 in
theorem fMul_any {n1 d1 n2 d2 : Int} (h1 : VF n1 d1) (h2 : VF n2 d2) (w : World) : Calls Try.prog 78 #[.agg #[.int .i64 n1, .int .i64 d1], .agg #[.int .i64 n2, .int .i64 d2]] w (FRet (qf n1 d1 * qf n2 d2) w) := by
  obtain ⟨N1, N2, D1, D2, ea, eb, r1, r2, r3, r4, r5, r6, hnum, hden, hsame, hdiff⟩ := mul_parts h1 h2
  have HM1 := Lib.hid (fun W => fMakeG n1 d2.toNat h1.2.2.1 h1.2.2.2.1 (by have := h2.1; omega) (by have := h2.2.1; omega) W)
  have HM2 := Lib.hid (fun W => fMakeG n2 d1.toNat h2.2.2.1 h2.2.2.2.1 (by have := h1.1; omega) (by have := h1.2.1; omega) W)
  rw [ea, show ((d2.toNat : Nat) : Int) = d2 by have := h2.1; omega] at HM1
  rw [eb, show ((d1.toNat : Nat) : Int) = d1 by have := h1.1; omega] at HM2
  have HX1 := Lib.hid (fun W => maxG N1 r1 r2 W)
  have HX2 := Lib.hid (fun W => maxG N2 r3 r4 W)
  have HT1 := Lib.hid (fun W => times_any N1.natAbs N2.natAbs (by omega) (by omega) W)
  have HT2 := Lib.hid (fun W => times_any D2 D1 r6 r5 W)
  obtain ⟨i1, b1, f1, f2, HS1⟩ := smallE (N1.natAbs * N2.natAbs)
  obtain ⟨i2, b2, f3, f4, HS2⟩ := smallE (D2 * D1)
  rw [← hnum] at HT1 HS1 f1 f2
  rw [← hden] at HT2 HS2 f3 f4
  have hend : (b1 = false ∨ b2 = false → smallQ (qf n1 d1 * qf n2 d2) = false ∧ numQ (qf n1 d1 * qf n2 d2) = 0 ∧ denQ (qf n1 d1 * qf n2 d2) = 0) ∧ (b1 = true → b2 = true → smallQ (qf n1 d1 * qf n2 d2) = true ∧ (decide (N1 < 0) = decide (N2 < 0) → numQ (qf n1 d1 * qf n2 d2) = i1) ∧ (decide (N1 < 0) ≠ decide (N2 < 0) → numQ (qf n1 d1 * qf n2 d2) = -i1) ∧ denQ (qf n1 d1 * qf n2 d2) = i2 ∧ 0 ≤ i1 ∧ i1 ≤ 1000000000000000000) := by
    refine ⟨fun h => small_no ?_, fun e1 e2 => ?_⟩
    · rcases h with h | h
      · rw [f1] at h; exact .inl (of_decide_eq_false h)
      · rw [f3] at h; exact .inr (of_decide_eq_false h)
    · have k1 := f2 e1
      have k2 := f4 e2
      rw [f1] at e1
      rw [f3] at e2
      obtain ⟨g1, g2, g3⟩ := small_yes (of_decide_eq_true e1) (of_decide_eq_true e2)
      have := of_decide_eq_true e1
      refine ⟨g1, fun hs => ?_, fun hs => ?_, by rw [g3, k2], by omega, by omega⟩
      · rw [g2, hsame hs, k1, hnum]
      · rw [g2, hdiff hs, k1, hnum]
  have HEnd := Lib.hid hend
  clear f1 f2 f3 f4 hend
  have g1 : -1000000000000000000 ≤ n1 ∧ n1 ≤ 1000000000000000000 := ⟨h1.2.2.1, h1.2.2.2.1⟩
  clear h1 h2 ea eb hnum hden hsame hdiff
  generalize qf n1 d1 * qf n2 d2 = q at *
  generalize N1.natAbs = A1 at *
  generalize N2.natAbs = A2 at *
  obtain ⟨W3, hW3⟩ : ∃ W3, W3 = ((w.alloc (.cells #[.int .i64 n1, .int .i64 d1] 63)).alloc (.cells #[.int .i64 n2, .int .i64 d2] 63)).alloc (.cells #[.int .i64 0, .int .i64 0] 63) := ⟨_, rfl⟩
  have K0 : Hid (Blk W3 w.heap.size 63 #[.int .i64 n1, .int .i64 d1]) := Lib.hid (by rw [hW3]; exact ((Blk.new w _ _).alloc _).alloc _)
  have K1 : Hid (Blk W3 (w.heap.size + 1) 63 #[.int .i64 n2, .int .i64 d2]) := Lib.hid (by rw [hW3]; exact (Blk.newAt _ _ (by simp)).alloc _)
  have KR : Hid (Blk W3 (w.heap.size + 1 + 1) 63 #[.int .i64 0, .int .i64 0]) := Lib.hid (by rw [hW3]; exact Blk.newAt _ _ (by simp))
  have HB : Hid (Below w.heap.size w W3) := Lib.hid (by rw [hW3]; exact (((Below.refl _ _).alloc (Nat.le_refl _) _).alloc (by simp) _).alloc (by simp; omega) _)
  have HW := Lib.hid hW3
  clear hW3
  go_enter Try.func78, Try.ntmps78
  go_wp2_with fail
  rw [← HW.out]
  refine (HM1.out _).mono ?_
  rintro e w1 ⟨rfl, hb1⟩
  have K0a := K0.out.belowS hb1
  have K1a := K1.out.belowS hb1
  have KRa := KR.out.belowS hb1
  have HBa := Lib.hid (Base.Below.nextA HB.out hb1)
  have x0 := K1a.at 0 (v := .int .i64 n2) rfl
  have x1 := K0a.at 1 (v := .int .i64 d1) rfl
  have hz1 : w.heap.size + 1 < w1.heap.size := K1a.lt
  have hz0 : w.heap.size < w1.heap.size := K0a.lt
  have KK := Lib.hid (And.intro K0a (And.intro K1a KRa))
  clear hb1 K0a K1a KRa K0 K1 KR HB HW
  go_wp2_with fail
  obtain ⟨W4, hW4⟩ : ∃ W4, W4 = w1.alloc (.cells #[.int .i64 N1, .int .i64 (D2 : Int)] 63) := ⟨_, rfl⟩
  rw [← hW4]
  have K0 : Hid (Blk W4 w.heap.size 63 #[.int .i64 n1, .int .i64 d1]) := Lib.hid (by rw [hW4]; exact KK.out.1.alloc _)
  have K1 : Hid (Blk W4 (w.heap.size + 1) 63 #[.int .i64 n2, .int .i64 d2]) := Lib.hid (by rw [hW4]; exact KK.out.2.1.alloc _)
  have KR : Hid (Blk W4 (w.heap.size + 1 + 1) 63 #[.int .i64 0, .int .i64 0]) := Lib.hid (by rw [hW4]; exact KK.out.2.2.alloc _)
  have KA : Hid (Blk W4 w1.heap.size 63 #[.int .i64 N1, .int .i64 (D2 : Int)]) := Lib.hid (by rw [hW4]; exact Blk.new w1 _ _)
  have HB : Hid (Below w.heap.size w W4) := Lib.hid (by rw [hW4]; exact HBa.out.alloc HBa.out.size _)
  have hz4 : w1.heap.size < W4.heap.size := KA.out.lt
  clear hW4 KK HBa x0 x1
  refine (HM2.out _).mono ?_
  rintro e w2 ⟨rfl, hb2⟩
  obtain ⟨W5, hW5⟩ : ∃ W5, W5 = w2.alloc (.cells #[.int .i64 N2, .int .i64 (D1 : Int)] 63) := ⟨_, rfl⟩
  have KR5 : Hid (Blk W5 (w.heap.size + 1 + 1) 63 #[.int .i64 0, .int .i64 0]) := Lib.hid (by rw [hW5]; exact (KR.out.belowS hb2).alloc _)
  have KA5 : Hid (Blk W5 w1.heap.size 63 #[.int .i64 N1, .int .i64 (D2 : Int)]) := Lib.hid (by rw [hW5]; exact (KA.out.belowS hb2).alloc _)
  have KB5 : Hid (Blk W5 w2.heap.size 63 #[.int .i64 N2, .int .i64 (D1 : Int)]) := Lib.hid (by rw [hW5]; exact Blk.new w2 _ _)
  have HB5 : Hid (Below w.heap.size w W5) := Lib.hid (by
    have := Base.Below.nextA HB.out hb2
    rw [hW5]; exact this.alloc this.size _)
  have HW5 := Lib.hid hW5
  clear hW5 hb2 K0 K1 KR KA HB
  go_wp2_with fail
  rw [← HW5.out]
  have hlw : w.heap.size + 1 + 1 < W5.heap.size := KR5.out.lt
  have hlA : w1.heap.size < W5.heap.size := KA5.out.lt
  have hlB : w2.heap.size < W5.heap.size := KB5.out.lt
  clear HW5
  unfold two at HT1 HS1 HT2 HS2
  have hn1 : IntKind.i64.wrap (-N1) = -N1 := by rw [IntKind.wrap_i64]; omega
  have hn2 : IntKind.i64.wrap (-N2) = -N2 := by rw [IntKind.wrap_i64]; omega
  (refine wp_region_below (by kernel_rfl) (by kernel_rfl) ?_; (repeat (refine wpQuiet_step (fun K hK => ?_); go_simp; first | (refine hK _ ?_; clear hK K) | (apply Exists.intro; refine ⟨fun wq hq => ?_, hK _ ?_⟩; (first | rfl | (have x0 := (KA5.out.belowS hq).at 0 (v := .int .i64 N1) rfl; have x1 := (KB5.out.belowS hq).at 0 (v := .int .i64 N2) rfl; first | (go_simp; done) | (go_simp; rfl) | (first | (go_at_call 79; refine (HX1.out _).mono ?_; rintro e w7 ⟨rfl, rfl⟩; exact ⟨rfl, hq⟩) | (go_at_call 79; refine (HX2.out _).mono ?_; rintro e w7 ⟨rfl, rfl⟩; exact ⟨rfl, hq⟩) | (go_at_call 109; refine (HT1.out _).mono ?_; rintro e w7 ⟨rfl, hb7⟩; exact ⟨rfl, Base.Below.nextA hq hb7⟩) | (go_at_call 108; refine (HS1.out _).mono ?_; rintro e w7 ⟨rfl, hb7⟩; exact ⟨rfl, Base.Below.nextA hq hb7⟩)))); clear hK K))); refine wpQuiet_nil ?_; intro wq hq)
  have KAq := KA5.out.belowS hq
  have KBq := KB5.out.belowS hq
  have KRq := KR5.out.belowS hq
  have HBq := Lib.hid (Base.Below.nextA HB5.out hq)
  have x0 := KAq.at 1 (v := .int .i64 (D2 : Int)) rfl
  have x1 := KBq.at 1 (v := .int .i64 (D1 : Int)) rfl
  have KK := Lib.hid (And.intro KAq (And.intro KBq KRq))
  clear KAq KBq KRq hq KA5 KB5 KR5 HB5 HM1 HM2 HX1 HX2 HT1 HS1 hn1 hn2
  go_wp2_with fail
  refine (HT2.out _).mono ?_
  rintro e w8 ⟨rfl, hb8⟩
  have HB8 := Lib.hid hb8
  clear hb8
  go_wp2_with fail
  refine (HS2.out _).mono ?_
  rintro e w9 ⟨rfl, hb9⟩
  have hb := Base.Below.nextA HB8.out hb9
  have KA9 := KK.out.1.belowS hb
  have KB9 := KK.out.2.1.belowS hb
  have KR9 := KK.out.2.2.belowS hb
  have HB9 := Lib.hid (Base.Below.nextA HBq.out hb)
  have y0 := KA9.at 0 (v := .int .i64 N1) rfl
  have y1 := KB9.at 0 (v := .int .i64 N2) rfl
  have z0 := KR9.frz 0
  have z1 := KR9.frz 1
  have c0 := KR9.at 0 (v := .int .i64 0) rfl
  have c1 := KR9.at 1 (v := .int .i64 0) rfl
  have KR := Lib.hid KR9
  clear x0 x1 KK hb hb9 HB8 HBq HT2 HS2 KA9 KB9 KR9
  cases b1 with
  | false =>
    have HE := Lib.hid (HEnd.out.1 (.inl rfl))
    clear HEnd
    have S := (KR.out.setTo 0 (.int .i64 0) rfl).setTo 1 (.int .i64 0) rfl
    have s0 := S.at 0 rfl
    have s1 := S.at 1 rfl
    cases b2 <;>
    · go_wp2
      refine bodyPost_ret (v := .tuple #[.agg #[.int .i64 0, .int .i64 0], .bool false]) (by simp [results, Try.results78, go_sem, s0, s1]) rfl ⟨by rw [HE.out.1, HE.out.2.1, HE.out.2.2], (HB9.out.setCell (by simp; omega) _).setCell (by simp; omega) _⟩
  | true =>
    cases b2 with
    | false =>
      have HE := Lib.hid (HEnd.out.1 (.inr rfl))
      clear HEnd
      have S := (KR.out.setTo 0 (.int .i64 0) rfl).setTo 1 (.int .i64 0) rfl
      have s0 := S.at 0 rfl
      have s1 := S.at 1 rfl
      go_wp2
      refine bodyPost_ret (v := .tuple #[.agg #[.int .i64 0, .int .i64 0], .bool false]) (by simp [results, Try.results78, go_sem, s0, s1]) rfl ⟨by rw [HE.out.1, HE.out.2.1, HE.out.2.2], (HB9.out.setCell (by simp; omega) _).setCell (by simp; omega) _⟩
    | true =>
      obtain ⟨e1, hs, hd, e2, k0, k1⟩ := HEnd.out.2 rfl rfl
      have HE := Lib.hid (And.intro e1 (And.intro e2 (And.intro hs hd)))
      clear HEnd e1 e2 hs hd
      have hneg : decide (N1 < 0) = false ∨ decide (N1 < 0) = true := by cases decide (N1 < 0) <;> simp
      have hneg2 : decide (N2 < 0) = false ∨ decide (N2 < 0) = true := by cases decide (N2 < 0) <;> simp
      rcases hneg with g1 | g1 <;> rcases hneg2 with g2 | g2
      · have HQ := Lib.hid (HE.out.2.2.1 (by rw [g1, g2]))
        have S := (KR.out.setTo 0 (.int .i64 i1) rfl).setTo 1 (.int .i64 i2) rfl
        have s0 := S.at 0 rfl
        have s1 := S.at 1 rfl
        go_wp2
        refine bodyPost_ret (v := .tuple #[.agg #[.int .i64 i1, .int .i64 i2], .bool true]) (by simp [results, Try.results78, go_sem, s0, s1]) rfl ⟨by rw [HE.out.1, HE.out.2.1, HQ.out], (HB9.out.setCell (by simp; omega) _).setCell (by simp; omega) _⟩
      · have HQ := Lib.hid (HE.out.2.2.2 (by rw [g1, g2]; decide))
        have S := (KR.out.setTo 0 (.int .i64 (-i1)) rfl).setTo 1 (.int .i64 i2) rfl
        have s0 := S.at 0 rfl
        have s1 := S.at 1 rfl
        go_wp2
        refine bodyPost_ret (v := .tuple #[.agg #[.int .i64 (-i1), .int .i64 i2], .bool true]) (by simp [results, Try.results78, go_sem, s0, s1]) rfl ⟨by rw [HE.out.1, HE.out.2.1, HQ.out], (HB9.out.setCell (by simp; omega) _).setCell (by simp; omega) _⟩
      · have HQ := Lib.hid (HE.out.2.2.2 (by rw [g1, g2]; decide))
        have S := (KR.out.setTo 0 (.int .i64 (-i1)) rfl).setTo 1 (.int .i64 i2) rfl
        have s0 := S.at 0 rfl
        have s1 := S.at 1 rfl
        go_wp2
        refine bodyPost_ret (v := .tuple #[.agg #[.int .i64 (-i1), .int .i64 i2], .bool true]) (by simp [results, Try.results78, go_sem, s0, s1]) rfl ⟨by rw [HE.out.1, HE.out.2.1, HQ.out], (HB9.out.setCell (by simp; omega) _).setCell (by simp; omega) _⟩
      · have HQ := Lib.hid (HE.out.2.2.1 (by rw [g1, g2]))
        have S := (KR.out.setTo 0 (.int .i64 i1) rfl).setTo 1 (.int .i64 i2) rfl
        have s0 := S.at 0 rfl
        have s1 := S.at 1 rfl
        go_wp2
        refine bodyPost_ret (v := .tuple #[.agg #[.int .i64 i1, .int .i64 i2], .bool true]) (by simp [results, Try.results78, go_sem, s0, s1]) rfl ⟨by rw [HE.out.1, HE.out.2.1, HQ.out], (HB9.out.setCell (by simp; omega) _).setCell (by simp; omega) _⟩
end Go.Proofs.Ytionognmgcabbaa.Fine
/- Naturals by their digits to the base 2^30. -/
namespace Go.Proofs.Ytionognmgcabbaa.BigM
set_option linter.unusedVariables false
def D30 : Nat := 1073741824
def val : List Nat → Nat
  | [] => 0
  | x :: xs => x + D30 * val xs
def okN (xs : List Nat) : Prop := ∀ x ∈ xs, x < D30
theorem val_append : ∀ (xs ys : List Nat), val (xs ++ ys) = val xs + D30 ^ xs.length * val ys
  | [], ys => by simp [val]
  | x :: xs, ys => by
    rw [List.cons_append, val, val, val_append xs ys, List.length_cons, Nat.pow_succ, Nat.mul_add, ← Nat.mul_assoc, Nat.mul_comm D30 (D30 ^ xs.length), Nat.add_assoc]
theorem val_lt : ∀ (xs : List Nat), okN xs → val xs < D30 ^ xs.length
  | [], _ => by simp [val]
  | x :: xs, h => by
    have h1 := val_lt xs fun y hy => h y (by simp [hy])
    have h2 := h x (by simp)
    rw [val, List.length_cons, Nat.pow_succ, Nat.mul_comm (D30 ^ xs.length)]
    have h3 : val xs + 1 ≤ D30 ^ xs.length := h1
    have h4 := Nat.mul_le_mul_left D30 h3
    rw [Nat.mul_add] at h4
    omega
/-- the digits of a number, the last one not 0 -/
def bigL (x : Nat) : List Nat := if h : x = 0 then [] else x % D30 :: bigL (x / D30)
termination_by x
decreasing_by exact Nat.div_lt_self (Nat.pos_of_ne_zero h) (by decide)
theorem bigL_zero : bigL 0 = [] := by rw [bigL]; simp
theorem bigL_pos {x : Nat} (h : x ≠ 0) : bigL x = x % D30 :: bigL (x / D30) := by
  conv => lhs; rw [bigL]
  simp [h]
theorem bigL_val (x : Nat) : val (bigL x) = x := by
  induction x using Nat.strongRecOn with
  | _ x ih =>
    by_cases h : x = 0
    · subst h; rw [bigL_zero]; rfl
    · rw [bigL_pos h, val, ih (x / D30) (Nat.div_lt_self (Nat.pos_of_ne_zero h) (by decide))]
      exact Nat.mod_add_div x D30
theorem bigL_ok (x : Nat) : okN (bigL x) := by
  induction x using Nat.strongRecOn with
  | _ x ih =>
    by_cases h : x = 0
    · subst h; rw [bigL_zero]; intro y hy; cases hy
    · rw [bigL_pos h]
      intro y hy
      rcases List.mem_cons.1 hy with rfl | hy
      · exact Nat.mod_lt _ (by decide)
      · exact ih (x / D30) (Nat.div_lt_self (Nat.pos_of_ne_zero h) (by decide)) y hy
/-- the last digit is not 0 -/
def canon (xs : List Nat) : Prop := okN xs ∧ ∀ n, xs.length = n + 1 → xs.getD n 0 ≠ 0
theorem okN_cons {x : Nat} {xs : List Nat} (h : okN (x :: xs)) : okN xs := fun y hy => h y (by simp [hy])
theorem canon_bigL : ∀ {xs : List Nat}, canon xs → bigL (val xs) = xs
  | [], _ => bigL_zero
  | x :: xs, h => by
    have hx := h.1 x (by simp)
    have hc : canon xs := ⟨okN_cons h.1, fun n hn => by have := h.2 (n + 1) (by simp [hn]); simpa [List.getD] using this⟩
    have hne : val (x :: xs) ≠ 0 := by
      intro h0
      rw [val] at h0
      rcases xs with _ | ⟨y, ys⟩
      · have := h.2 0 rfl
        simp [List.getD] at this
        omega
      · have hy : val (y :: ys) = 0 := by
          have : D30 * val (y :: ys) = 0 := by omega
          rcases Nat.mul_eq_zero.1 this with h1 | h1
          · exact absurd h1 (by decide)
          · exact h1
        have e := canon_bigL hc
        rw [hy, bigL_zero] at e
        cases e
    rw [bigL_pos hne]
    have hm : val (x :: xs) % D30 = x := by rw [val, Nat.add_mul_mod_self_left, Nat.mod_eq_of_lt hx]
    have hd : val (x :: xs) / D30 = val xs := by rw [val, Nat.add_mul_div_left _ _ (by decide : 0 < D30), Nat.div_eq_of_lt hx, Nat.zero_add]
    rw [hm, hd, canon_bigL hc]
theorem bigL_canon (x : Nat) : canon (bigL x) := by
  refine ⟨bigL_ok x, ?_⟩
  induction x using Nat.strongRecOn with
  | _ x ih =>
    intro n hn
    by_cases h : x = 0
    · subst h; rw [bigL_zero] at hn; cases hn
    · rw [bigL_pos h] at hn ⊢
      have hlt := Nat.div_lt_self (Nat.pos_of_ne_zero h) (show 1 < D30 by decide)
      rcases n with _ | n
      · simp only [List.length_cons] at hn
        have h0 : (bigL (x / D30)).length = 0 := by omega
        have h1 : bigL (x / D30) = [] := List.eq_nil_of_length_eq_zero h0
        have h2 : x / D30 = 0 := by rw [← bigL_val (x / D30), h1]; rfl
        have h3 := Nat.mod_add_div x D30
        rw [h2] at h3
        simp [List.getD]
        omega
      · have := ih (x / D30) hlt n (by simp only [List.length_cons] at hn; omega)
        simpa [List.getD] using this
theorem okN_take {xs : List Nat} (h : okN xs) (n : Nat) : okN (xs.take n) := fun y hy => h y (List.mem_of_mem_take hy)
theorem val_snoc (xs : List Nat) (y : Nat) : val (xs ++ [y]) = val xs + D30 ^ xs.length * y := by
  rw [val_append]; simp [val]
theorem val_take_succ (xs : List Nat) (k : Nat) (h : k < xs.length) : val (xs.take (k + 1)) = val (xs.take k) + D30 ^ k * xs.getD k 0 := by
  rw [List.take_succ_eq_append_getElem h, val_snoc, List.length_take, Nat.min_eq_left (Nat.le_of_lt h)]
  simp [List.getD, h]
/-- trimming: the digits behind n are 0 -/
theorem trim_done {xs : List Nat} {n : Nat} (hok : okN xs) (hn : n ≤ xs.length) (hv : val (xs.take n) = val xs) (hl : n = 0 ∨ xs.getD (n - 1) 0 ≠ 0) : xs.take n = bigL (val xs) := by
  rw [← hv]
  refine (canon_bigL ⟨okN_take hok n, fun m hm => ?_⟩).symm
  rw [List.length_take, Nat.min_eq_left hn] at hm
  rcases hl with h0 | h0
  · omega
  · have e : n - 1 = m := by omega
    rw [e] at h0
    have : (xs.take n).getD m 0 = xs.getD m 0 := by simp [List.getD, show m < n by omega]
    rw [this]; exact h0
theorem trim_step {xs : List Nat} {n : Nat} (hn : n + 1 ≤ xs.length) (hv : val (xs.take (n + 1)) = val xs) (h0 : xs.getD n 0 = 0) : val (xs.take n) = val xs := by
  rw [val_take_succ xs n (by omega), h0] at hv
  omega
/-- numbers of the same length compare as their first digits that differ, from the last one on -/
theorem val_cmp {xs ys : List Nat} (hl : xs.length = ys.length) (hx : okN xs) (hy : okN ys) : ∀ (n : Nat), n ≤ xs.length → (∀ j, n ≤ j → j < xs.length → xs.getD j 0 = ys.getD j 0) → (val xs < val ys ↔ val (xs.take n) < val (ys.take n)) ∧ (val xs = val ys ↔ val (xs.take n) = val (ys.take n)) := by
  intro n hn
  obtain ⟨d, hd⟩ : ∃ d, xs.length = n + d := ⟨xs.length - n, by omega⟩
  induction d generalizing n with
  | zero =>
    intro _
    rw [List.take_of_length_le (by omega), List.take_of_length_le (by omega)]
    exact ⟨Iff.rfl, Iff.rfl⟩
  | succ d ih =>
    intro he
    have h1 := ih (n + 1) (by omega) (by omega) (fun j hj hj2 => he j (by omega) hj2)
    have e := he n (Nat.le_refl _) (by omega)
    rw [val_take_succ xs n (by omega), val_take_succ ys n (by omega), e] at h1
    refine ⟨h1.1.trans ?_, h1.2.trans ?_⟩ <;> omega
theorem cmp_lt {xs ys : List Nat} (hl : xs.length = ys.length) (hx : okN xs) (hy : okN ys) {n : Nat} (hn : n < xs.length) (he : ∀ j, n + 1 ≤ j → j < xs.length → xs.getD j 0 = ys.getD j 0) (h : xs.getD n 0 < ys.getD n 0) : val xs < val ys := by
  refine (val_cmp hl hx hy (n + 1) (by omega) he).1.2 ?_
  rw [val_take_succ xs n hn, val_take_succ ys n (by omega)]
  have h1 := val_lt _ (okN_take hx n)
  rw [List.length_take, Nat.min_eq_left (by omega)] at h1
  have h2 := Nat.mul_le_mul_left (D30 ^ n) (show xs.getD n 0 + 1 ≤ ys.getD n 0 from h)
  rw [Nat.mul_add, Nat.mul_one] at h2
  omega
/-- more digits, a greater number -/
theorem bigL_len_lt {x y : Nat} (h : (bigL x).length < (bigL y).length) : x < y := by
  have h1 := val_lt _ (bigL_ok x)
  rw [bigL_val] at h1
  obtain ⟨n, hn⟩ : ∃ n, (bigL y).length = n + 1 := ⟨(bigL y).length - 1, by omega⟩
  have h2 := (bigL_canon y).2 n hn
  have h3 := val_take_succ (bigL y) n (by omega)
  rw [List.take_of_length_le (by omega), bigL_val] at h3
  have h4 : D30 ^ (bigL x).length ≤ D30 ^ n := Nat.pow_le_pow_right (by decide) (by omega)
  have h5 : D30 ^ n * 1 ≤ D30 ^ n * (bigL y).getD n 0 := Nat.mul_le_mul_left _ (by omega)
  omega
theorem bigL_len_le {x k : Nat} (h : x < D30 ^ k) : (bigL x).length ≤ k := by
  rcases Nat.lt_or_ge k (bigL x).length with hl | hl
  · obtain ⟨n, hn⟩ : ∃ n, (bigL x).length = n + 1 := ⟨(bigL x).length - 1, by omega⟩
    have h2 := (bigL_canon x).2 n hn
    have h3 := val_take_succ (bigL x) n (by omega)
    rw [List.take_of_length_le (by omega), bigL_val] at h3
    have h4 : D30 ^ k ≤ D30 ^ n := Nat.pow_le_pow_right (by decide) (by omega)
    have h5 : D30 ^ n * 1 ≤ D30 ^ n * (bigL x).getD n 0 := Nat.mul_le_mul_left _ (by omega)
    omega
  · exact hl
theorem val_take_any (ys : List Nat) (i : Nat) : val (ys.take (i + 1)) = val (ys.take i) + D30 ^ i * ys.getD i 0 := by
  rcases Nat.lt_or_ge i ys.length with h | h
  · exact val_take_succ ys i h
  · rw [List.take_of_length_le (by omega), List.take_of_length_le h]
    have : ys.getD i 0 = 0 := by simp [List.getD, h]
    rw [this]; simp
theorem sub_step {i vo vy vx b b' D x y : Nat} (h : vo + vy = vx + D30 ^ i * b) (hD : D + y + b = x + D30 * b') :
    (vo + D30 ^ i * D) + (vy + D30 ^ i * y) = (vx + D30 ^ i * x) + D30 ^ (i + 1) * b' := by
  have e : D30 ^ i * D + D30 ^ i * y + D30 ^ i * b = D30 ^ i * x + D30 ^ (i + 1) * b' := by
    rw [← Nat.mul_add, ← Nat.mul_add, hD, Nat.mul_add, Nat.pow_succ, Nat.mul_assoc]
  omega
theorem val_setw : ∀ (l : List Nat) (j d : Nat), j < l.length → val (l.set j d) + D30 ^ j * l.getD j 0 = val l + D30 ^ j * d
  | [], j, d, h => by simp at h
  | x :: l, 0, d, _ => by simp [val]; omega
  | x :: l, j + 1, d, h => by
    have ih := val_setw l j d (by simpa using h)
    rw [List.set_cons_succ, val, val, show (x :: l).getD (j + 1) 0 = l.getD j 0 by simp [List.getD]]
    have e : D30 ^ (j + 1) = D30 * D30 ^ j := by rw [Nat.pow_succ, Nat.mul_comm]
    rw [e, Nat.mul_assoc, Nat.mul_assoc]
    have := congrArg (D30 * ·) ih
    simp only [Nat.mul_add] at this
    omega
theorem okN_setw {l : List Nat} {j d : Nat} (h : okN l) (hd : d < D30) : okN (l.set j d) := fun y hy => by
  rcases List.mem_or_eq_of_mem_set hy with hy | rfl
  · exact h y hy
  · exact hd
theorem getD_set_ne {l : List Nat} {i j d : Nat} (h : i ≠ j) : (l.set i d).getD j 0 = l.getD j 0 := by
  simp [List.getD, h]
theorem okN_at {l : List Nat} (h : okN l) (j : Nat) : l.getD j 0 < D30 := by
  rcases Nat.lt_or_ge j l.length with hl | hl
  · exact h _ (by simp [List.getD, hl])
  · rw [show l.getD j 0 = 0 by simp [List.getD, hl]]; decide
theorem mul_step {i k vz vz' C V0 x y o vy S : Nat} (h : vz + D30 ^ (i + k) * C = V0 + x * D30 ^ i * vy) (hS : S = C + (o + x * y)) (hset : vz' + D30 ^ (i + k) * o = vz + D30 ^ (i + k) * (S % D30)) :
    vz' + D30 ^ (i + (k + 1)) * (S / D30) = V0 + x * D30 ^ i * (vy + D30 ^ k * y) := by
  have h1 := Nat.mod_add_div S D30
  have e1 : D30 ^ (i + (k + 1)) = D30 ^ (i + k) * D30 := by rw [← Nat.add_assoc, Nat.pow_succ]
  have e2 : D30 ^ (i + k) * S = D30 ^ (i + k) * (S % D30) + D30 ^ (i + k) * D30 * (S / D30) := by rw [Nat.mul_assoc, ← Nat.mul_add, h1]
  have e3 : D30 ^ (i + k) * S = D30 ^ (i + k) * C + (D30 ^ (i + k) * o + D30 ^ (i + k) * (x * y)) := by rw [hS, Nat.mul_add, Nat.mul_add]
  have e4 : x * D30 ^ i * (D30 ^ k * y) = D30 ^ (i + k) * (x * y) := by
    rw [Nat.pow_add]
    simp only [Nat.mul_assoc, Nat.mul_left_comm, Nat.mul_comm]
  rw [e1, Nat.mul_add, e4]
  omega
theorem val_set (ys : List Nat) (i x : Nat) (h : i < ys.length) : val ((ys.set i x).take (i + 1)) = val (ys.take i) + D30 ^ i * x := by
  rw [val_take_succ _ i (by rw [List.length_set]; exact h)]
  have e1 : (ys.set i x).take i = ys.take i := by rw [List.take_set, List.set_eq_of_length_le (by rw [List.length_take]; omega)]
  rw [e1]
  simp [List.getD, h]
theorem okN_set {ys : List Nat} {i x : Nat} (h : i < ys.length) (ho : okN (ys.take i)) (hx : x < D30) : okN ((ys.set i x).take (i + 1)) := by
  have e : (ys.set i x).take (i + 1) = ys.take i ++ [x] := by
    rw [List.take_succ_eq_append_getElem (by rw [List.length_set]; exact h)]
    rw [List.take_set, List.set_eq_of_length_le (by rw [List.length_take]; omega)]
    simp
  rw [e]
  intro y hy
  rcases List.mem_append.1 hy with hy | hy
  · exact ho y hy
  · simp only [List.mem_singleton] at hy; rw [hy]; exact hx
theorem val_zeros : ∀ n : Nat, val (List.replicate n 0) = 0
  | 0 => rfl
  | n + 1 => by rw [List.replicate_succ, val, val_zeros n]; rfl
theorem okN_drop {xs : List Nat} (h : okN xs) (k : Nat) : okN (xs.drop k) := fun y hy => h y (List.mem_of_mem_drop hy)
theorem okN_zeros (n : Nat) : okN (List.replicate n 0) := fun y hy => by rw [(List.mem_replicate.1 hy).2]; decide
theorem okN_append {xs ys : List Nat} (h : okN xs) (h' : okN ys) : okN (xs ++ ys) := fun y hy => by
  rcases List.mem_append.1 hy with hy | hy
  · exact h y hy
  · exact h' y hy
theorem len_pos {q : Nat} (h : 0 < q) : 0 < (bigL q).length := by
  rcases Nat.eq_zero_or_pos (bigL q).length with h0 | h0
  · have := bigL_val q
    rw [List.length_eq_zero_iff.1 h0, val] at this
    omega
  · exact h0
theorem getD_none {l : List Nat} {i : Nat} (h : l.length ≤ i) : l.getD i 0 = 0 := by simp [List.getD, h]
/-- the last digit of a number is not 0 -/
theorem big_top {x : Nat} (h : 0 < (bigL x).length) : (bigL x).getD ((bigL x).length - 1) 0 ≠ 0 := (bigL_canon x).2 ((bigL x).length - 1) (by omega)
/-- one digit of a number, its beginning told -/
theorem of_step {x m : Nat} {zs : List Nat} (h : bigL x = zs ++ bigL m) (hm : m ≠ 0) : bigL x = (zs ++ [m % D30]) ++ bigL (m / D30) := by
  rw [h, bigL_pos hm]; simp
/-- digits with a last one that is not 0 are the digits of their number -/
theorem top_done {zs : List Nat} {v : Nat} (hok : okN zs) (hv : val zs = v) (h : 0 < zs.length → zs.getD (zs.length - 1) 0 ≠ 0) : zs = bigL v := by
  subst hv
  refine (canon_bigL ⟨hok, fun n hn => ?_⟩).symm
  have := h (by omega)
  rwa [hn, Nat.add_sub_cancel] at this
theorem snoc_len (zs : List Nat) (d : Nat) : (zs ++ [d]).length = zs.length + 1 := by simp
theorem snoc_ok {zs : List Nat} {d : Nat} (h : okN zs) (hd : d < D30) : okN (zs ++ [d]) := okN_append h fun y hy => by rw [List.mem_singleton.1 hy]; exact hd
/-- a number by its bits: shifted right -/
theorem shr_step (x i : Nat) : x / 2 ^ i = 2 * (x / 2 ^ (i + 1)) + x / 2 ^ i % 2 := by
  have : x / 2 ^ (i + 1) = x / 2 ^ i / 2 := by rw [Nat.pow_succ, Nat.div_div_eq_div_mul]
  rw [this]
  omega
/-- one bit of a long division -/
theorem split_step {q r y h b : Nat} (hq : h = q * y + r) (hr : r < y) (hb : b ≤ 1) :
    (y ≤ 2 * r + b → 2 * h + b = (2 * q + 1) * y + (2 * r + b - y) ∧ 2 * r + b - y < y) ∧ (2 * r + b < y → 2 * h + b = (2 * q) * y + (2 * r + b)) := by
  have e1 : (2 * q + 1) * y = 2 * (q * y) + y := by rw [Nat.add_mul, Nat.mul_assoc, Nat.one_mul]
  have e2 : (2 * q) * y = 2 * (q * y) := Nat.mul_assoc _ _ _
  rw [e1, e2]
  refine ⟨fun h1 => ⟨by omega, by omega⟩, fun h1 => by omega⟩
theorem div_of {x q y r : Nat} (h : x = q * y + r) (hr : r < y) : x / y = q ∧ x % y = r := by
  subst h
  have hy : 0 < y := by omega
  refine ⟨?_, ?_⟩
  · rw [Nat.mul_comm, Nat.mul_add_div hy, Nat.div_eq_of_lt hr, Nat.add_zero]
  · rw [Nat.mul_comm, Nat.mul_add_mod, Nat.mod_eq_of_lt hr]
theorem val_drop_div {xs : List Nat} (hok : okN xs) : ∀ k, val (xs.drop k) = val xs / D30 ^ k := by
  intro k
  rcases Nat.lt_or_ge xs.length k with h | h
  · rw [List.drop_of_length_le (by omega), val]
    have h1 := val_lt xs hok
    have h2 : D30 ^ xs.length ≤ D30 ^ k := Nat.pow_le_pow_right (by decide) (by omega)
    exact (Nat.div_eq_of_lt (by omega)).symm
  · have e := val_append (xs.take k) (xs.drop k)
    rw [List.take_append_drop, List.length_take, Nat.min_eq_left h] at e
    have h1 := val_lt _ (okN_take hok k)
    rw [List.length_take, Nat.min_eq_left h] at h1
    rw [e, Nat.add_mul_div_left _ _ (Nat.pow_pos (by decide)), Nat.div_eq_of_lt h1, Nat.zero_add]
theorem drop_big (x : Nat) (k : Nat) : (bigL x).drop k = bigL (x / D30 ^ k) := by
  have h1 := val_drop_div (bigL_ok x) k
  rw [bigL_val] at h1
  refine top_done (okN_drop (bigL_ok x) k) h1 fun h => ?_
  rw [List.length_drop] at h ⊢
  have h2 := big_top (x := x) (by omega)
  have e : ((bigL x).drop k).getD ((bigL x).length - k - 1) 0 = (bigL x).getD ((bigL x).length - 1) 0 := by
    simp only [List.getD_eq_getElem?_getD, List.getElem?_drop]
    rw [show k + ((bigL x).length - k - 1) = (bigL x).length - 1 by omega]
  rw [e]; exact h2
/-- a digit's bit -/
theorem digit_bit (x i : Nat) : (bigL x).getD (i / 30) 0 / 2 ^ (i % 30) % 2 = x / 2 ^ i % 2 := by
  have e1 : (bigL x).getD (i / 30) 0 = x / D30 ^ (i / 30) % D30 := by
    have h := drop_big x (i / 30)
    rcases Nat.eq_zero_or_pos (x / D30 ^ (i / 30)) with h0 | h0
    · rw [h0, bigL_zero] at h
      rw [h0, Nat.zero_mod]
      have : (bigL x).length ≤ i / 30 := by
        have := congrArg List.length h
        rw [List.length_drop, List.length_nil] at this
        omega
      exact getD_none this
    · rw [bigL_pos (x := x / D30 ^ (i / 30)) (Nat.ne_of_gt h0)] at h
      have : ((bigL x).drop (i / 30)).getD 0 0 = (bigL x).getD (i / 30) 0 := by simp [List.getD_eq_getElem?_getD, List.getElem?_drop]
      rw [← this, h]; rfl
  have e2 : D30 = 2 ^ 30 := by decide
  have hr : i % 30 < 30 := Nat.mod_lt _ (by decide)
  rw [e1, e2, ← Nat.pow_mul]
  have e3 : 2 ^ i = 2 ^ (30 * (i / 30)) * 2 ^ (i % 30) := by rw [← Nat.pow_add]; congr 1; omega
  rw [e3, ← Nat.div_div_eq_div_mul]
  generalize x / 2 ^ (30 * (i / 30)) = z
  generalize i % 30 = r at *
  have e4 : 2 ^ 30 = 2 ^ r * (2 * 2 ^ (29 - r)) := by rw [← Nat.pow_succ', ← Nat.pow_add]; congr 1; omega
  rw [e4, Nat.mod_mul_right_div_self]
  rw [Nat.mod_mul_right_mod]
theorem big_lt_pow (x : Nat) : x < D30 ^ (bigL x).length := by
  have := val_lt _ (bigL_ok x)
  rwa [bigL_val] at this
/-- a digit of a number -/
theorem dig_at (x i : Nat) : (bigL x).getD i 0 = x / D30 ^ i % D30 := by
  have h := drop_big x i
  rcases Nat.eq_zero_or_pos (x / D30 ^ i) with h0 | h0
  · rw [h0, bigL_zero] at h
    rw [h0, Nat.zero_mod]
    have : (bigL x).length ≤ i := by
      have := congrArg List.length h
      rw [List.length_drop, List.length_nil] at this
      omega
    exact getD_none this
  · rw [bigL_pos (x := x / D30 ^ i) (Nat.ne_of_gt h0)] at h
    have : ((bigL x).drop i).getD 0 0 = (bigL x).getD i 0 := by simp [List.getD_eq_getElem?_getD, List.getElem?_drop]
    rw [← this, h]; rfl
theorem lt_iff (x i : Nat) : i < (bigL x).length ↔ 0 < x / D30 ^ i := by
  have h := congrArg List.length (drop_big x i)
  rw [List.length_drop] at h
  constructor
  · intro h1
    refine Nat.pos_of_ne_zero fun h0 => ?_
    rw [h0, bigL_zero, List.length_nil] at h
    omega
  · intro h1
    have := len_pos h1
    omega
theorem pow_succ_div (x i : Nat) : x / D30 ^ (i + 1) = x / D30 ^ i / D30 := by rw [Nat.pow_succ, Nat.div_div_eq_div_mul]
theorem len_add (x y : Nat) : (bigL (x + y)).length ≤ (bigL x).length + (bigL y).length + 1 := by
  refine bigL_len_le ?_
  have h1 := big_lt_pow x
  have h2 := big_lt_pow y
  have h3 : D30 ^ (bigL x).length ≤ D30 ^ ((bigL x).length + (bigL y).length) := Nat.pow_le_pow_right (by decide) (by omega)
  have h4 : D30 ^ (bigL y).length ≤ D30 ^ ((bigL x).length + (bigL y).length) := Nat.pow_le_pow_right (by decide) (by omega)
  rw [Nat.pow_succ]
  have : 2 * D30 ^ ((bigL x).length + (bigL y).length) ≤ D30 ^ ((bigL x).length + (bigL y).length) * D30 := by rw [Nat.mul_comm]; exact Nat.mul_le_mul_left _ (by decide)
  omega
theorem len_mul (x y : Nat) : (bigL (x * y)).length ≤ (bigL x).length + (bigL y).length := by
  refine bigL_len_le ?_
  rw [Nat.pow_add]
  have h1 := big_lt_pow x
  have h2 := big_lt_pow y
  rcases Nat.eq_zero_or_pos y with rfl | hy
  · rw [Nat.mul_zero]; exact Nat.mul_pos (by omega) (by omega)
  · exact Nat.lt_of_lt_of_le ((Nat.mul_lt_mul_right hy).2 h1) (Nat.mul_le_mul_left _ (by omega))
theorem len_mono {x y : Nat} (h : x ≤ y) : (bigL x).length ≤ (bigL y).length := bigL_len_le (Nat.lt_of_le_of_lt h (big_lt_pow y))
end Go.Proofs.Ytionognmgcabbaa.BigM
