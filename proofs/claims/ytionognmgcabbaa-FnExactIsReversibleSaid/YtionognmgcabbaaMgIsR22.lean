/- The reference: whether a walk is the same in both directions. -/
import Derived.Test.YtionognmgcabbaaMgIsR11
import Derived.Test.YtionognmgcabbaaMgIsR21
import Derived.Test.YtionognmgcabbaaMgIsR19
import Derived.Test.YtionognmgcabbaaMgIsR05
import Derived.Test.YtionognmgcabbaaMgIsR07
namespace Go.Proofs.Ytionognmgcabbaa.RevL
open Go.RowKit Go.Proofs.Ytionognmgcabbaa Go.Proofs.Ytionognmgcabbaa.Base Go.Proofs.Ytionognmgcabbaa.Mem Go.Proofs.Ytionognmgcabbaa.MemF Go.Proofs.Ytionognmgcabbaa.RatM Go.Proofs.Ytionognmgcabbaa.BigM Go.Proofs.Ytionognmgcabbaa.Big Go.Proofs.Ytionognmgcabbaa.Fine Go.Proofs.Ytionognmgcabbaa.Blk Go.Proofs.Ytionognmgcabbaa.GaussM Go.Proofs.Ytionognmgcabbaa.WalkM Go.Proofs.Ytionognmgcabbaa.ChM Go.Proofs.Ytionognmgcabbaa.GiveM Go.Proofs.Ytionognmgcabbaa.Wide
open Go.Proofs.Ytionognmgcabbaa.Ratio (below_next cast_ne eqS solB solX sN stN stR stO stV stX wQ st_no st_yes wk_all RvTo RvTo.zero RvTo.step RvTo.next revT rvB revT_yes revT_no stO_true)
set_option linter.unusedVariables false
theorem RdFF.congrS {w : World} {B n : Nat} {A : Option Addr} {L L' : Nat → Nat} {fs : Nat → List Int} (h : RdFF w B A n L fs) (hL : ∀ i, i < n → L i = L' i) : RdFF w B A n L' fs := fun h0 => by
  obtain ⟨b, off, e, hlt, hc⟩ := h h0
  refine ⟨b, off, e, hlt, fun i hi => ?_⟩
  rw [← hL i hi]
  exact hc i hi
theorem mDsix : mD 6 ≤ 30000 := by decide
theorem mDfive : 5 ≤ mD 6 := by decide
def RwRel (n : Nat) (x : Nat → Rat) (W : Nat → Nat → Rat) (w : World) (iv : Value) (wr : World) : Prop := ∃ i : Nat, iv = .int .i64 (i : Int) ∧ i ≤ n ∧ Hid (RvTo x W i 0) ∧ Hid (Below w.heap.size w wr)
def RwRel2 (i : Nat) (x : Nat → Rat) (W : Nat → Nat → Rat) (w : World) (kv : Value) (wr : World) : Prop := ∃ k : Nat, kv = .int .i64 (k : Int) ∧ k ≤ i ∧ Hid (RvTo x W i k) ∧ Hid (Below w.heap.size w wr)
set_option maxHeartbeats 4000000 in
set_option maxRecDepth 100000 in
theorem revS_any {A : Option Addr} {c B n : Nat} {L : Nat → Nat} {fs : Nat → List Int} (w : World) (hx : RdFF w B A n L fs) (hB : B ≤ w.heap.size) (hL : ∀ i, i < n → L i ≤ 1048576) (hn : n ≤ 1048576) :
    Calls Try.prog 17 #[.agg #[.slice A n c]] w fun e w' => e = .returned (.bool (rvB n L fs)) ∧ Below w.heap.size w w' := by
  obtain ⟨rv, hrv0⟩ : ∃ rv, rv = rvB n L fs := ⟨_, rfl⟩
  rw [← hrv0]
  have HRV := Lib.hid hrv0
  clear hrv0
  obtain ⟨W0, hW0⟩ : ∃ W0, W0 = w.alloc (.cells #[.slice A n c] 33) := ⟨_, rfl⟩
  have hb0 : Below w.heap.size w W0 := by rw [hW0]; exact (Below.refl _ _).alloc (Nat.le_refl _) _
  have k0 : Blk W0 w.heap.size 33 #[.slice A n c] := by rw [hW0]; exact Blk.new w _ _
  have K0 := Lib.hid k0
  have HX := Lib.hid ((hx.below hb0 hB).more (Nat.le_trans hB hb0.size))
  have HV := Lib.hid (walkS_any W0 (k0.at 0 (v := .slice A n c) rfl) k0.lt HX.out (Nat.le_refl _) (fun i hi => by have := hL i hi; omega) (by omega))
  have HB0 := Lib.hid hb0
  have HW0 := Lib.hid hW0
  clear hx hb0 hW0 hL k0
  cases hv : wkB n L fs with
  | false =>
    have hrv : rvB n L fs = false := by
      unfold rvB
      rw [(st_no (n := n) (L := L) (fs := fs) (by unfold stV; rw [hv]; rfl)).2.2]; rfl
    have HNF : Hid (rv = false) := Lib.hid (by rw [HRV.out, hrv])
    rw [hv] at HV
    clear hv hrv
    go_enter Try.func17, Try.ntmps17
    go_wp2_with fail
    rw [← HW0.out]
    refine HV.out.mono ?_
    rintro e w1 ⟨rfl, hb1⟩
    have HBZ := Lib.hid (Base.Below.nextA HB0.out hb1)
    clear hb1
    go_wp2
    go_ret
    exact ⟨(by rw [HNF.out]; try rfl), HBZ.out⟩
  | true =>
    rw [hv] at HV
    obtain ⟨hn1, hn6, hLn, hfs, hsum, hdg⟩ := wk_all hv
    have HXN := Lib.hid (RdFF.congrS (L' := fun _ => n) HX.out hLn)
    have HST := Lib.hid (fun W (h : Below W0.heap.size W0 W) => settledS_any (c := c) W ((K0.out.belowS h).at 0 (v := .slice A n c) rfl) (K0.out.belowS h).lt (HXN.out.below h (Nat.le_refl _)) h.size hn1 hn6 hfs hdg)
    have HVB := Lib.hid hv
    have HVF : Hid (∀ i k, i < n → k < n → VF ((fs i).getD (2 * k) 0) ((fs i).getD (2 * k + 1) 0) ∧ qf ((fs i).getD (2 * k) 0) ((fs i).getD (2 * k + 1) 0) = wQ fs i k) := Lib.hid (fun i k hi hk => ⟨hfs i hi k hk, rfl⟩)
    clear hv hLn hfs hsum hdg HX
    go_enter Try.func17, Try.ntmps17
    go_wp2_with fail
    rw [← HW0.out]
    refine HV.out.mono ?_
    rintro e w1 ⟨rfl, hb1⟩
    have HW1 := Lib.hid hb1
    have HS3 := Lib.hid (HST.out w1 hb1)
    clear hb1 HV HST
    go_wp2_with fail
    refine HS3.out.mono ?_
    rintro e w4 ⟨v, cs, rfl, ho, hb4⟩
    have HW4 := Lib.hid (Base.Below.nextA HW1.out hb4)
    have hs3 := HW1.out.size
    rw [show (fun i => fq (fs i)) = wQ fs from rfl] at ho ⊢
    have hmx := mDsix
    have hm5 := mDfive
    clear HS3
    generalize mD 6 = mx at *
    cases hsb : solB (eqS n (wQ fs)) n n with
    | false =>
      have hrv : rvB n L fs = false := by
        unfold rvB
        rw [(st_no (n := n) (L := L) (fs := fs) (by unfold stV; rw [HVB.out, hsb]; rfl)).2.2]; rfl
      have HNF : Hid (rv = false) := Lib.hid (by rw [HRV.out, hrv])
      have HBZ := Lib.hid (Base.Below.nextA HB0.out HW4.out)
      clear hsb ho hb4 HW1 HW4 hrv
      go_wp2
      go_ret
      exact ⟨(by rw [HNF.out]; try rfl), HBZ.out⟩
    | true =>
      obtain ⟨_, _, hso⟩ := st_yes (n := n) (L := L) (fs := fs) (by unfold stV; rw [HVB.out, hsb]; rfl)
      have hsn : sN (eqS n (wQ fs)) n n = n := by
        unfold sN
        rw [hsb, if_pos rfl]
      rw [hsn] at ho
      obtain ⟨A4, c4, rfl, hA4⟩ := ho.form
      obtain ⟨g4, rfl, _, _⟩ := hA4 (by omega)
      have HG := Lib.hid (giveS_any w4 (ho.base (Nat.zero_le _)) (by omega) (show n ≤ 1000 by omega))
      rw [show solX (eqS n (wQ fs)) n n = stX n fs from rfl] at HG ho
      rw [← hso] at HG
      have HO := Lib.hid ho
      clear hsb ho hb4 HW1 hsn hso hA4
      cases hst : stO n L fs with
      | false =>
        have hrv : rvB n L fs = false := by unfold rvB; rw [hst]; rfl
        have HNF : Hid (rv = false) := Lib.hid (by rw [HRV.out, hrv])
        rw [hst] at HG
        clear hst hrv
        generalize gN (stX n fs) n = N at *
        go_wp2_with fail
        refine HG.out.mono ?_
        rintro e w6 ⟨A6, c6, rfl, _, hb6⟩
        have HBZ := Lib.hid (Base.Below.nextA HB0.out (Base.Below.nextA HW4.out hb6))
        clear hb6 HG HO
        go_wp2
        go_ret
        exact ⟨(by rw [HNF.out]; try rfl), HBZ.out⟩
      | true =>
        have hrv : rvB n L fs = revT n fs := by unfold rvB; rw [hst]; rfl
        have HRT : Hid (rv = revT n fs) := Lib.hid (by rw [HRV.out, hrv])
        clear HRV
        rw [hst] at HG
        have HYES := Lib.hid (fun h => revT_yes (n := n) (fs := fs) h)
        have HNO := Lib.hid (fun i k (hi : i < n) (hk : k < i) h => revT_no (n := n) (fs := fs) hi hk h)
        clear hst hrv
        generalize gN (stX n fs) n = N at *
        generalize gR (stX n fs) n = R at *
        generalize revT n fs = rt at *
        generalize stX n fs = x at *
        generalize wQ fs = W at *
        go_wp2_with fail
        refine HG.out.mono ?_
        rintro e w6 ⟨A6, c6, rfl, ho6, hb6⟩
        have HW6' := Lib.hid (Base.Below.nextA HW4.out hb6)
        have HO6 := Lib.hid (HO.out.below hb6)
        have K06 := Lib.hid (K0.out.belowS HW6'.out)
        have HX6 := Lib.hid ((HXN.out.below HW6'.out (Nat.le_refl _)).more HW6'.out.size)
        have H0 : Hid (RwRel n x W w6 (.int .i64 0) w6) := Lib.hid ⟨0, rfl, Nat.zero_le _, Lib.hid (RvTo.zero x W), Lib.hid (Below.refl _ _)⟩
        clear hb6 ho6 HG HO HW4 K0 HXN
        go_wp2
        go_loopw [7] (fun iv wr => RwRel n x W w6 iv wr) (fun iv _ => n - (intOf iv).toNat)
        case atStart => exact H0.out
        case round =>
          obtain ⟨i, rfl, hi, HT, HB⟩ := hrel
          clear H0
          by_cases hin : i < n
          · have H1 : Hid (RwRel2 i x W w6 (.int .i64 0) wr) := Lib.hid ⟨0, rfl, Nat.zero_le _, HT, HB⟩
            clear HT HB
            go_wp2
            go_loopw [8] (fun kv w2 => RwRel2 i x W w6 kv w2) (fun kv _ => i - (intOf kv).toNat)
            case atStart => exact H1.out
            case round =>
              obtain ⟨k, rfl, hk, HT, HB⟩ := hrel
              clear H1
              by_cases hki : k < i
              · have hkn : k < n := by omega
                have hkn2 : (k : Int) < (n : Int) := by omega
                have hin2 : (i : Int) < (n : Int) := by omega
                obtain ⟨g, s, A1, k1, c1, A2, k2, c2, fi, fn, fd, nn, dd, eg, hgl, x0, x1, x2, x3, x4, x5, hp1⟩ := (HO6.out.below HB.out).at hin
                injection eg with eg
                injection eg with e1 e2 e3
                subst e1
                obtain ⟨g', s', B1, j1, d1, B2, j2, d2, fi', fn', fd', nn', dd', eg, hgl', y0, y1, y2, y3, y4, y5, hp2⟩ := (HO6.out.below HB.out).at hkn
                injection eg with eg
                injection eg with e1 e4 e5
                subst e1
                clear e2 e3 e4 e5
                have HXr := (HX6.out.below HB.out (Nat.le_refl _)).more HB.out.size
                obtain ⟨bf, of, Ai, ci, rfl, hbf, yi, hri⟩ := HXr.at hin
                obtain ⟨bf', of', Ak, ck, ebf, _, yk, hrk⟩ := HXr.at hkn
                injection ebf with ebf
                injection ebf with e1 e2 e3
                subst e1 e2
                clear e3
                obtain ⟨br, obr, rfl, hbr, fi0, fi1⟩ := hri.at hkn
                obtain ⟨bs, obs, rfl, hbs, fk0, fk1⟩ := hrk.at hin
                have K0r := Lib.hid (K06.out.belowS HB.out)
                have HP1 : Hid (∀ W', Below wr.heap.size wr W' → W'.cell? ⟨g4, i * 6, none⟩ = some (.bool s) ∧ W'.cell? ⟨g4, i * 6 + 1, none⟩ = some (.slice A1 k1 c1) ∧ W'.cell? ⟨g4, i * 6 + 2, none⟩ = some (.slice A2 k2 c2) ∧ W'.cell? ⟨g4, i * 6 + 3, none⟩ = some (.bool fi) ∧ W'.cell? ⟨g4, i * 6 + 4, none⟩ = some (.int .i64 fn) ∧ W'.cell? ⟨g4, i * 6 + 5, none⟩ = some (.int .i64 fd)) := Lib.hid fun W' hW =>
                  ⟨(hW.cell (p := ⟨g4, i * 6, none⟩) hgl).trans x0, (hW.cell (p := ⟨g4, i * 6 + 1, none⟩) hgl).trans x1, (hW.cell (p := ⟨g4, i * 6 + 2, none⟩) hgl).trans x2, (hW.cell (p := ⟨g4, i * 6 + 3, none⟩) hgl).trans x3, (hW.cell (p := ⟨g4, i * 6 + 4, none⟩) hgl).trans x4, (hW.cell (p := ⟨g4, i * 6 + 5, none⟩) hgl).trans x5⟩
                have HP2 : Hid (∀ W', Below wr.heap.size wr W' → W'.cell? ⟨g4, k * 6, none⟩ = some (.bool s') ∧ W'.cell? ⟨g4, k * 6 + 1, none⟩ = some (.slice B1 j1 d1) ∧ W'.cell? ⟨g4, k * 6 + 2, none⟩ = some (.slice B2 j2 d2) ∧ W'.cell? ⟨g4, k * 6 + 3, none⟩ = some (.bool fi') ∧ W'.cell? ⟨g4, k * 6 + 4, none⟩ = some (.int .i64 fn') ∧ W'.cell? ⟨g4, k * 6 + 5, none⟩ = some (.int .i64 fd')) := Lib.hid fun W' hW =>
                  ⟨(hW.cell (p := ⟨g4, k * 6, none⟩) hgl).trans y0, (hW.cell (p := ⟨g4, k * 6 + 1, none⟩) hgl).trans y1, (hW.cell (p := ⟨g4, k * 6 + 2, none⟩) hgl).trans y2, (hW.cell (p := ⟨g4, k * 6 + 3, none⟩) hgl).trans y3, (hW.cell (p := ⟨g4, k * 6 + 4, none⟩) hgl).trans y4, (hW.cell (p := ⟨g4, k * 6 + 5, none⟩) hgl).trans y5⟩
                have H61 : Hid (IsW wr (x i) mx _) := Lib.hid ⟨_, _, _, _, _, _, _, _, _, _, _, _, rfl, hp1⟩
                have H62 : Hid (IsW wr (x k) mx _) := Lib.hid ⟨_, _, _, _, _, _, _, _, _, _, _, _, rfl, hp2⟩
                obtain ⟨v1, q1⟩ := HVF.out i k hin hkn
                obtain ⟨v2, q2⟩ := HVF.out k i hkn hin
                have HWI := Lib.hid (fun W' => wideOf_any v1 W')
                have HWK := Lib.hid (fun W' => wideOf_any v2 W')
                rw [q1] at HWI
                rw [q2] at HWK
                have HYE : Hid (x i * W i k = x k * W k i → RvTo x W i (k + 1)) := Lib.hid (fun e => HT.out.step hki e)
                have HNE := Lib.hid (fun h => HNO.out i k hin hki h)
                clear hp1 hp2 v1 v2 q1 q2 x0 x1 x2 x3 x4 x5 y0 y1 y2 y3 y4 y5 HT hri hrk HXr
                generalize x i = xi at *
                generalize x k = xk at *
                generalize W i k = mik at *
                generalize W k i = mki at *
                generalize (fs i).getD (2 * k) 0 = a0 at *
                generalize (fs i).getD (2 * k + 1) 0 = a1 at *
                generalize (fs k).getD (2 * i) 0 = b0 at *
                generalize (fs k).getD (2 * i + 1) 0 = b1 at *
                go_upto_region 15 with (fail)
                refine Rel.wp_region_rel 16 (by kernel_rfl) (by kernel_rfl) (fun F hF => ?_)
                simp only [List.take_succ_cons, List.take_zero, List.drop_succ_cons, List.drop_zero, Rel.putL] at hF ⊢
                have HF := Lib.hid hF
                clear hF
                have uv := @Rel.upon_value Try.prog
                have ue := @Rel.upon_enter Try.prog
                apply Rel.rel_pure
                apply Exists.intro
                refine ⟨fun vs wq hq hdp R hR => ?_, ?_⟩
                · (rw [HF.out, Rel.stepAt_eq]; clear hdp; skip; go_simp; exact hR)
                apply Rel.rel_pure
                apply Exists.intro
                refine ⟨fun vs wq hq hdp R hR => ?_, ?_⟩
                · (rw [HF.out, Rel.stepAt_eq]; clear hdp; skip; go_simp; exact hR)
                apply Rel.rel_pure
                apply Exists.intro
                refine ⟨fun vs wq hq hdp R hR => ?_, ?_⟩
                · (rw [HF.out, Rel.stepAt_eq]; have qd0 : vs 0 = _ := Rel.dep hdp 0 (by kernel_rfl); have qd1 : vs 1 = _ := Rel.dep hdp 1 (by kernel_rfl); clear hdp; skip; go_simp; exact hR)
                apply Rel.rel_pure
                apply Exists.intro
                refine ⟨fun vs wq hq hdp R hR => ?_, ?_⟩
                · (rw [HF.out, Rel.stepAt_eq]; have qd2 : vs 2 = _ := Rel.dep hdp 2 (by kernel_rfl); clear hdp; obtain ⟨x0, x1, x2, x3, x4, x5⟩ := HP1.out wq hq; go_simp; exact hR)
                apply Rel.rel_pure
                apply Exists.intro
                refine ⟨fun vs wq hq hdp R hR => ?_, ?_⟩
                · (rw [HF.out, Rel.stepAt_eq]; clear hdp; skip; go_simp; exact hR)
                apply Rel.rel_pure
                apply Exists.intro
                refine ⟨fun vs wq hq hdp R hR => ?_, ?_⟩
                · (rw [HF.out, Rel.stepAt_eq]; have qd4 : vs 4 = _ := Rel.dep hdp 4 (by kernel_rfl); clear hdp; have x0 := (K0r.out.belowS hq).at 0 (v := .slice (some ⟨bf, of, none⟩) n c) rfl; go_simp; exact hR)
                apply Rel.rel_pure
                apply Exists.intro
                refine ⟨fun vs wq hq hdp R hR => ?_, ?_⟩
                · (rw [HF.out, Rel.stepAt_eq]; clear hdp; skip; go_simp; exact hR)
                apply Rel.rel_pure
                apply Exists.intro
                refine ⟨fun vs wq hq hdp R hR => ?_, ?_⟩
                · (rw [HF.out, Rel.stepAt_eq]; have qd5 : vs 5 = _ := Rel.dep hdp 5 (by kernel_rfl); have qd6 : vs 6 = _ := Rel.dep hdp 6 (by kernel_rfl); clear hdp; skip; go_simp; exact hR)
                apply Rel.rel_pure
                apply Exists.intro
                refine ⟨fun vs wq hq hdp R hR => ?_, ?_⟩
                · (rw [HF.out, Rel.stepAt_eq]; have qd7 : vs 7 = _ := Rel.dep hdp 7 (by kernel_rfl); clear hdp; have x0 := (hq.cell (p := ⟨bf, of + i, none⟩) hbf).trans yi; go_simp; exact hR)
                apply Rel.rel_pure
                apply Exists.intro
                refine ⟨fun vs wq hq hdp R hR => ?_, ?_⟩
                · (rw [HF.out, Rel.stepAt_eq]; clear hdp; skip; go_simp; exact hR)
                apply Rel.rel_pure
                apply Exists.intro
                refine ⟨fun vs wq hq hdp R hR => ?_, ?_⟩
                · (rw [HF.out, Rel.stepAt_eq]; have qd8 : vs 8 = _ := Rel.dep hdp 8 (by kernel_rfl); have qd9 : vs 9 = _ := Rel.dep hdp 9 (by kernel_rfl); clear hdp; skip; go_simp; exact hR)
                apply Rel.rel_pure
                apply Exists.intro
                refine ⟨fun vs wq hq hdp R hR => ?_, ?_⟩
                · (rw [HF.out, Rel.stepAt_eq]; have qd10 : vs 10 = _ := Rel.dep hdp 10 (by kernel_rfl); clear hdp; have x0 := (hq.cell (p := ⟨br, obr + k * 2, none⟩) hbr).trans fi0; have x1 := (hq.cell (p := ⟨br, obr + k * 2 + 1, none⟩) hbr).trans fi1; go_simp; exact hR)
                refine Rel.rel_law (S := fun v w' => IsW w' mik 2 v) (isW_mono _ _) (fun vs wq hq hdp => ?_) ?_
                · (rw [HF.out, Rel.stepAt_eq]; have qd11 : vs 11 = _ := Rel.dep hdp 11 (by kernel_rfl); clear hdp; skip; go_simp; refine (HWI.out _).mono ?_; rintro e w7 ⟨v, rfl, hv, hb⟩; exact ⟨_, rfl, hv, hb⟩)
                refine Rel.rel_law (S := fun v w' => IsW w' (xi * mik) (mx + 2) v) (isW_mono _ _) (fun vs wq hq hdp => ?_) ?_
                · (rw [HF.out, Rel.stepAt_eq]; have qd3 : vs 3 = _ := Rel.dep hdp 3 (by kernel_rfl); have qd12 : IsW wq _ _ (vs 12) := Rel.dep hdp 12 (by kernel_rfl); clear hdp; skip; go_simp; refine (wideMul_any wq (H61.out.below hq) qd12 (by omega) (by decide) (by omega) (by decide)).mono ?_; rintro e w7 ⟨v, rfl, hv, hb⟩; exact ⟨_, rfl, hv, hb⟩)
                refine Rel.rel_law (S := fun v w' => IsW w' (xi * mik) (mx + 2) v) (isW_mono _ _) (fun vs wq hq hdp => ?_) ?_
                · (rw [HF.out, Rel.stepAt_eq]; have qd13 : IsW wq _ _ (vs 13) := Rel.dep hdp 13 (by kernel_rfl); clear hdp; skip; go_simp; refine (lowest_any wq qd13 (by omega)).mono ?_; rintro e w7 ⟨v, rfl, hv, hb⟩; exact ⟨_, rfl, hv.wide, hb⟩)
                refine Rel.rel_alloc (cs := #[.bool false, .slice none 0 0, .slice none 0 0, .bool false, .int .i64 0, .int .i64 0]) (t := 65) (fun vs wq hq hdp R hR => ?_) ?_
                · (rw [HF.out, Rel.stepAt_eq]; clear hdp; go_simp; exact hR)
                refine Rel.rel_end (fun vs wq hq hall => ?_)
                rw [HF.out]
                have qe0 : vs 0 = _ := Rel.fin hall 0 (by decide)
                have qe1 : vs 1 = _ := Rel.fin hall 1 (by decide)
                have qe2 : vs 2 = _ := Rel.fin hall 2 (by decide)
                have qe3 : vs 3 = _ := Rel.fin hall 3 (by decide)
                have qe4 : vs 4 = _ := Rel.fin hall 4 (by decide)
                have qe5 : vs 5 = _ := Rel.fin hall 5 (by decide)
                have qe6 : vs 6 = _ := Rel.fin hall 6 (by decide)
                have qe7 : vs 7 = _ := Rel.fin hall 7 (by decide)
                have qe8 : vs 8 = _ := Rel.fin hall 8 (by decide)
                have qe9 : vs 9 = _ := Rel.fin hall 9 (by decide)
                have qe10 : vs 10 = _ := Rel.fin hall 10 (by decide)
                have qe11 : vs 11 = _ := Rel.fin hall 11 (by decide)
                have qe12 : IsW wq _ _ (vs 12) := Rel.fin hall 12 (by decide)
                have qe13 : IsW wq _ _ (vs 13) := Rel.fin hall 13 (by decide)
                have qe14 : IsW wq _ _ (vs 14) := Rel.fin hall 14 (by decide)
                have qe15 : Rel.NewB _ _ _ (vs 15) wq := Rel.fin hall 15 (by decide)
                clear hall HF uv ue
                obtain ⟨g9, eg, hg, hblk⟩ := qe15
                obtain ⟨s, A1, k1, c1, A2, k2, c2, fi, fn, fd, nn2, dd2, ev9, hp9⟩ := qe14
                have K13 : Blk wq g9 65 #[.bool false, .slice none 0 0, .slice none 0 0, .bool false, .int .i64 0, .int .i64 0] := hblk
                obtain ⟨W6, hW6⟩ : ∃ W6, W6 = put6 wq g9 (.bool s) (.slice A1 k1 c1) (.slice A2 k2 c2) (.bool fi) (.int .i64 fn) (.int .i64 fd) := ⟨_, rfl⟩
                have hb6 : Below wr.heap.size wr W6 := by rw [hW6]; exact put6_below hq hg _ _ _ _ _ _
                have z0 := K13.frz 0
                have d0 := K13.at 0 (v := .bool false) rfl
                have z1 := K13.frz 1
                have d1 := K13.at 1 (v := .slice none 0 0) rfl
                have z2 := K13.frz 2
                have d2 := K13.at 2 (v := .slice none 0 0) rfl
                have z3 := K13.frz 3
                have d3 := K13.at 3 (v := .bool false) rfl
                have z4 := K13.frz 4
                have d4 := K13.at 4 (v := .int .i64 0) rfl
                have z5 := K13.frz 5
                have d5 := K13.at 5 (v := .int .i64 0) rfl
                have KW6 : Hid (Blk W6 g9 65 #[.bool s, .slice A1 k1 c1, .slice A2 k2 c2, .bool fi, .int .i64 fn, .int .i64 fd]) := Lib.hid (by rw [hW6]; exact put6_blk K13 _ _ _ _ _ _)
                have IW6 : Hid (IsW W6 (xi * mik) (mx + 2) (.agg #[.bool s, .slice A1 k1 c1, .slice A2 k2 c2, .bool fi, .int .i64 fn, .int .i64 fd])) := Lib.hid (by rw [hW6]; exact ⟨_, _, _, _, _, _, _, _, _, _, nn2, dd2, rfl, hp9.put6 K13 (by decide) _ _ _ _ _ _⟩)
                have HB6 := Lib.hid (Base.Below.nextA HB.out hb6)
                have HF2 : Hid (Below wr.heap.size wr W6) := Lib.hid hb6
                unfold put6 at hW6
                have HW6 := Lib.hid hW6
                clear hW6 hb6 hp9 K13 hblk hg hq qe0 qe1 qe2 qe3 qe4 qe5 qe6 qe7 qe8 qe9 qe10 qe11 qe12 qe13
                go_upto_region 16 with (fail)
                rw [← HW6.out]
                clear HW6 z0 d0 z1 d1 z2 d2 z3 d3 z4 d4 z5 d5
                obtain ⟨wo, hwo⟩ : ∃ wo, wo = wr := ⟨_, rfl⟩
                have K0s := Lib.hid (K0r.out.belowS HF2.out)
                have HP2s := Lib.hid (fun W' (h : Below W6.heap.size W6 W') => HP2.out W' (Base.Below.nextA HF2.out h))
                have H62s := Lib.hid (H62.out.below HF2.out)
                have hbf2 : bf < W6.heap.size := Nat.lt_of_lt_of_le hbf HF2.out.size
                have hbs2 : bs < W6.heap.size := Nat.lt_of_lt_of_le hbs HF2.out.size
                have yk2 := (HF2.out.cell (p := ⟨bf, of + k, none⟩) hbf).trans yk
                have fk02 := (HF2.out.cell (p := ⟨bs, obs + i * 2, none⟩) hbs).trans fk0
                have fk12 := (HF2.out.cell (p := ⟨bs, obs + i * 2 + 1, none⟩) hbs).trans fk1
                have hF2s := HF2.out.size
                have hlt9 : g9 < W6.heap.size := KW6.out.lt
                clear yi yk fi0 fi1 fk0 fk1 K0r HP1 HP2 H61 H62 hbf hbr hbs hwo
                refine Rel.wp_region_rel 16 (by kernel_rfl) (by kernel_rfl) (fun F hF => ?_)
                simp only [List.take_succ_cons, List.take_zero, List.drop_succ_cons, List.drop_zero, Rel.putL] at hF ⊢
                have HF := Lib.hid hF
                clear hF
                have uv := @Rel.upon_value Try.prog
                have ue := @Rel.upon_enter Try.prog
                apply Rel.rel_pure
                apply Exists.intro
                refine ⟨fun vs wq hq hdp R hR => ?_, ?_⟩
                · (rw [HF.out, Rel.stepAt_eq]; clear hdp; skip; go_simp; exact hR)
                apply Rel.rel_pure
                apply Exists.intro
                refine ⟨fun vs wq hq hdp R hR => ?_, ?_⟩
                · (rw [HF.out, Rel.stepAt_eq]; clear hdp; skip; go_simp; exact hR)
                apply Rel.rel_pure
                apply Exists.intro
                refine ⟨fun vs wq hq hdp R hR => ?_, ?_⟩
                · (rw [HF.out, Rel.stepAt_eq]; have qd0 : vs 0 = _ := Rel.dep hdp 0 (by kernel_rfl); have qd1 : vs 1 = _ := Rel.dep hdp 1 (by kernel_rfl); clear hdp; skip; go_simp; exact hR)
                apply Rel.rel_pure
                apply Exists.intro
                refine ⟨fun vs wq hq hdp R hR => ?_, ?_⟩
                · (rw [HF.out, Rel.stepAt_eq]; have qd2 : vs 2 = _ := Rel.dep hdp 2 (by kernel_rfl); clear hdp; obtain ⟨x0, x1, x2, x3, x4, x5⟩ := HP2s.out wq hq; go_simp; exact hR)
                apply Rel.rel_pure
                apply Exists.intro
                refine ⟨fun vs wq hq hdp R hR => ?_, ?_⟩
                · (rw [HF.out, Rel.stepAt_eq]; clear hdp; skip; go_simp; exact hR)
                apply Rel.rel_pure
                apply Exists.intro
                refine ⟨fun vs wq hq hdp R hR => ?_, ?_⟩
                · (rw [HF.out, Rel.stepAt_eq]; have qd4 : vs 4 = _ := Rel.dep hdp 4 (by kernel_rfl); clear hdp; have x0 := (K0s.out.belowS hq).at 0 (v := .slice (some ⟨bf, of, none⟩) n c) rfl; go_simp; exact hR)
                apply Rel.rel_pure
                apply Exists.intro
                refine ⟨fun vs wq hq hdp R hR => ?_, ?_⟩
                · (rw [HF.out, Rel.stepAt_eq]; clear hdp; skip; go_simp; exact hR)
                apply Rel.rel_pure
                apply Exists.intro
                refine ⟨fun vs wq hq hdp R hR => ?_, ?_⟩
                · (rw [HF.out, Rel.stepAt_eq]; have qd5 : vs 5 = _ := Rel.dep hdp 5 (by kernel_rfl); have qd6 : vs 6 = _ := Rel.dep hdp 6 (by kernel_rfl); clear hdp; skip; go_simp; exact hR)
                apply Rel.rel_pure
                apply Exists.intro
                refine ⟨fun vs wq hq hdp R hR => ?_, ?_⟩
                · (rw [HF.out, Rel.stepAt_eq]; have qd7 : vs 7 = _ := Rel.dep hdp 7 (by kernel_rfl); clear hdp; have x0 := (hq.cell (p := ⟨bf, of + k, none⟩) hbf2).trans yk2; go_simp; exact hR)
                apply Rel.rel_pure
                apply Exists.intro
                refine ⟨fun vs wq hq hdp R hR => ?_, ?_⟩
                · (rw [HF.out, Rel.stepAt_eq]; clear hdp; skip; go_simp; exact hR)
                apply Rel.rel_pure
                apply Exists.intro
                refine ⟨fun vs wq hq hdp R hR => ?_, ?_⟩
                · (rw [HF.out, Rel.stepAt_eq]; have qd8 : vs 8 = _ := Rel.dep hdp 8 (by kernel_rfl); have qd9 : vs 9 = _ := Rel.dep hdp 9 (by kernel_rfl); clear hdp; skip; go_simp; exact hR)
                apply Rel.rel_pure
                apply Exists.intro
                refine ⟨fun vs wq hq hdp R hR => ?_, ?_⟩
                · (rw [HF.out, Rel.stepAt_eq]; have qd10 : vs 10 = _ := Rel.dep hdp 10 (by kernel_rfl); clear hdp; have x0 := (hq.cell (p := ⟨bs, obs + i * 2, none⟩) hbs2).trans fk02; have x1 := (hq.cell (p := ⟨bs, obs + i * 2 + 1, none⟩) hbs2).trans fk12; go_simp; exact hR)
                refine Rel.rel_law (S := fun v w' => IsW w' mki 2 v) (isW_mono _ _) (fun vs wq hq hdp => ?_) ?_
                · (rw [HF.out, Rel.stepAt_eq]; have qd11 : vs 11 = _ := Rel.dep hdp 11 (by kernel_rfl); clear hdp; skip; go_simp; refine (HWK.out _).mono ?_; rintro e w7 ⟨v, rfl, hv, hb⟩; exact ⟨_, rfl, hv, hb⟩)
                refine Rel.rel_law (S := fun v w' => IsW w' (xk * mki) (mx + 2) v) (isW_mono _ _) (fun vs wq hq hdp => ?_) ?_
                · (rw [HF.out, Rel.stepAt_eq]; have qd3 : vs 3 = _ := Rel.dep hdp 3 (by kernel_rfl); have qd12 : IsW wq _ _ (vs 12) := Rel.dep hdp 12 (by kernel_rfl); clear hdp; skip; go_simp; refine (wideMul_any wq (H62s.out.below hq) qd12 (by omega) (by decide) (by omega) (by decide)).mono ?_; rintro e w7 ⟨v, rfl, hv, hb⟩; exact ⟨_, rfl, hv, hb⟩)
                refine Rel.rel_law (S := fun v w' => IsW w' (xk * mki) (mx + 2) v) (isW_mono _ _) (fun vs wq hq hdp => ?_) ?_
                · (rw [HF.out, Rel.stepAt_eq]; have qd13 : IsW wq _ _ (vs 13) := Rel.dep hdp 13 (by kernel_rfl); clear hdp; skip; go_simp; refine (lowest_any wq qd13 (by omega)).mono ?_; rintro e w7 ⟨v, rfl, hv, hb⟩; exact ⟨_, rfl, hv.wide, hb⟩)
                refine Rel.rel_alloc (cs := #[.bool false, .slice none 0 0, .slice none 0 0, .bool false, .int .i64 0, .int .i64 0]) (t := 65) (fun vs wq hq hdp R hR => ?_) ?_
                · (rw [HF.out, Rel.stepAt_eq]; clear hdp; go_simp; exact hR)
                refine Rel.rel_end (fun vs wq hq hall => ?_)
                rw [HF.out]
                have qe0 : vs 0 = _ := Rel.fin hall 0 (by decide)
                have qe1 : vs 1 = _ := Rel.fin hall 1 (by decide)
                have qe2 : vs 2 = _ := Rel.fin hall 2 (by decide)
                have qe3 : vs 3 = _ := Rel.fin hall 3 (by decide)
                have qe4 : vs 4 = _ := Rel.fin hall 4 (by decide)
                have qe5 : vs 5 = _ := Rel.fin hall 5 (by decide)
                have qe6 : vs 6 = _ := Rel.fin hall 6 (by decide)
                have qe7 : vs 7 = _ := Rel.fin hall 7 (by decide)
                have qe8 : vs 8 = _ := Rel.fin hall 8 (by decide)
                have qe9 : vs 9 = _ := Rel.fin hall 9 (by decide)
                have qe10 : vs 10 = _ := Rel.fin hall 10 (by decide)
                have qe11 : vs 11 = _ := Rel.fin hall 11 (by decide)
                have qe12 : IsW wq _ _ (vs 12) := Rel.fin hall 12 (by decide)
                have qe13 : IsW wq _ _ (vs 13) := Rel.fin hall 13 (by decide)
                have qe14 : IsW wq _ _ (vs 14) := Rel.fin hall 14 (by decide)
                have qe15 : Rel.NewB _ _ _ (vs 15) wq := Rel.fin hall 15 (by decide)
                clear hall HF uv ue
                obtain ⟨g10, eg, hg, hblk⟩ := qe15
                obtain ⟨t, C1, m1, l1, C2, m2, l2, fi2, fn2, fd2, nn2, dd2, ev9, hp9⟩ := qe14
                have K13 : Blk wq g10 65 #[.bool false, .slice none 0 0, .slice none 0 0, .bool false, .int .i64 0, .int .i64 0] := hblk
                obtain ⟨W8, hW6⟩ : ∃ W6, W6 = put6 wq g10 (.bool t) (.slice C1 m1 l1) (.slice C2 m2 l2) (.bool fi2) (.int .i64 fn2) (.int .i64 fd2) := ⟨_, rfl⟩
                have hb6 : Below W6.heap.size W6 W8 := by rw [hW6]; exact put6_below hq hg _ _ _ _ _ _
                have z0 := K13.frz 0
                have d0 := K13.at 0 (v := .bool false) rfl
                have z1 := K13.frz 1
                have d1 := K13.at 1 (v := .slice none 0 0) rfl
                have z2 := K13.frz 2
                have d2 := K13.at 2 (v := .slice none 0 0) rfl
                have z3 := K13.frz 3
                have d3 := K13.at 3 (v := .bool false) rfl
                have z4 := K13.frz 4
                have d4 := K13.at 4 (v := .int .i64 0) rfl
                have z5 := K13.frz 5
                have d5 := K13.at 5 (v := .int .i64 0) rfl
                have KW8 : Hid (Blk W8 g10 65 #[.bool t, .slice C1 m1 l1, .slice C2 m2 l2, .bool fi2, .int .i64 fn2, .int .i64 fd2]) := Lib.hid (by rw [hW6]; exact put6_blk K13 _ _ _ _ _ _)
                have IW8 : Hid (IsW W8 (xk * mki) (mx + 2) (.agg #[.bool t, .slice C1 m1 l1, .slice C2 m2 l2, .bool fi2, .int .i64 fn2, .int .i64 fd2])) := Lib.hid (by rw [hW6]; exact ⟨_, _, _, _, _, _, _, _, _, _, nn2, dd2, rfl, hp9.put6 K13 (by decide) _ _ _ _ _ _⟩)
                unfold put6 at hW6
                have HW8 := Lib.hid hW6
                have K98 := Lib.hid (KW6.out.belowS hb6)
                have I98 := Lib.hid (IW6.out.below hb6)
                have HB8 := Lib.hid (Base.Below.nextA HB6.out hb6)
                have HCM := Lib.hid (cmp_any W8 I98.out IW8.out (by omega) (by omega) (by omega))
                clear hW6 hb6 hp9 K13 hblk hg hq yk2 fk02 fk12 KW6 IW6 IW8 I98 HB HB6 HP2s H62s K0s HWI HWK HF2 qe0 qe1 qe2 qe3 qe4 qe5 qe6 qe7 qe8 qe9 qe10 qe11 qe12 qe13
                go_upto_region 17 with (fail)
                rw [← HW8.out]
                clear HW8 z0 d0 z1 d1 z2 d2 z3 d3 z4 d4 z5 d5
                have x0 := K98.out.at 0 (v := .bool s) rfl
                have x1 := K98.out.at 1 (v := .slice A1 k1 c1) rfl
                have x2 := K98.out.at 2 (v := .slice A2 k2 c2) rfl
                have x3 := K98.out.at 3 (v := .bool fi) rfl
                have x4 := K98.out.at 4 (v := .int .i64 fn) rfl
                have x5 := K98.out.at 5 (v := .int .i64 fd) rfl
                have y0 := KW8.out.at 0 (v := .bool t) rfl
                have y1 := KW8.out.at 1 (v := .slice C1 m1 l1) rfl
                have y2 := KW8.out.at 2 (v := .slice C2 m2 l2) rfl
                have y3 := KW8.out.at 3 (v := .bool fi2) rfl
                have y4 := KW8.out.at 4 (v := .int .i64 fn2) rfl
                have y5 := KW8.out.at 5 (v := .int .i64 fd2) rfl
                obtain ⟨z, hz⟩ : ∃ z, z = cmpW (xi * mik) (xk * mki) := ⟨_, rfl⟩
                have hz0 : (z != 0) = true ↔ xi * mik ≠ xk * mki := by
                  rw [hz]
                  unfold cmpW
                  by_cases e : xi * mik = xk * mki
                  · simp [e]
                  · simp only [e, if_false, ne_eq, not_false_eq_true, iff_true]
                    split <;> rfl
                rw [← hz] at HCM
                clear hz
                cases hbz : (z != 0) with
                | false =>
                  have HTN := Lib.hid (HYE.out (Classical.byContradiction fun e => by rw [hz0.2 e] at hbz; cases hbz))
                  clear hz0 HYE HNE
                  go_wp2_with fail
                  refine HCM.out.mono ?_
                  rintro e w9 ⟨rfl, hb9⟩
                  have HN : Hid (RwRel2 i x W w6 (.int .i64 ((k : Int) + 1)) w9) := Lib.hid ⟨k + 1, by simp, hki, HTN, Lib.hid (Base.Below.nextA HB8.out hb9)⟩
                  clear hb9 HCM HTN HB8 K98 KW8 x0 x1 x2 x3 x4 x5 y0 y1 y2 y3 y4 y5
                  go_wp2
                  go_roundw
                  case rel => exact HN.out
                  case measure => simp [intOf]; omega
                | true =>
                  have HF := Lib.hid (HNE.out (hz0.1 hbz))
                  clear hz0 HYE HNE
                  go_wp2_with fail
                  refine HCM.out.mono ?_
                  rintro e w9 ⟨rfl, hb9⟩
                  have HBQ := Lib.hid (Base.Below.nextA HB0.out (Base.Below.nextA HW6'.out (Base.Below.nextA HB8.out hb9)))
                  clear hb9 HCM HB8 K98 KW8 x0 x1 x2 x3 x4 x5 y0 y1 y2 y3 y4 y5
                  go_wp2
                  go_ret
                  exact ⟨(by rw [HRT.out, HF.out]; try rfl), HBQ.out⟩
              · have HN : Hid (RwRel n x W w6 (.int .i64 ((i : Int) + 1)) wr) := Lib.hid ⟨i + 1, by simp, hin, Lib.hid (HT.out.next (by omega)), HB⟩
                clear HT HB
                go_wp2
                go_roundw
                case rel => exact HN.out
                case measure => simp [intOf]; omega
          · have HF := Lib.hid (HYES.out (by
              obtain rfl : i = n := by omega
              exact HT.out))
            have HBQ := Lib.hid (Base.Below.nextA HB0.out (Base.Below.nextA HW6'.out HB.out))
            clear HT HB
            go_wp2
            go_ret
            exact ⟨(by rw [HRT.out, HF.out]; try rfl), HBQ.out⟩
end Go.Proofs.Ytionognmgcabbaa.RevL
/- The laws' sizes and copies of lists of fractions. -/
namespace Go.Proofs.Ytionognmgcabbaa.CpyF
open Go.RowKit Go.Proofs.Ytionognmgcabbaa Go.Proofs.Ytionognmgcabbaa.Base Go.Proofs.Ytionognmgcabbaa.Mem Go.Proofs.Ytionognmgcabbaa.Cpy Go.Proofs.Ytionognmgcabbaa.MemF Go.Proofs.Ytionognmgcabbaa.WalkM
set_option linter.unusedVariables false
theorem szF_any (A : Option Addr) (n c : Nat) (k : Int) (w : World) (hn : n ≤ 9223372036854775807) (hk : 0 ≤ k) (hk2 : k ≤ 1048576) :
    Calls Try.prog 7 #[.slice A n c, .int .i64 k] w fun e w' => ∃ r : Int, e = .returned (.int .i64 r) ∧ (r = -1 ∨ (0 ≤ r ∧ r = k - n)) ∧ w = w' := by
  by_cases h0 : k - (n : Int) < 0
  · go_enter Try.func7, Try.ntmps7
    go_wp2
    go_ret
    exact ⟨-1, rfl, .inl rfl, rfl⟩
  · go_enter Try.func7, Try.ntmps7
    go_wp2
    go_ret
    exact ⟨k - n, rfl, .inr ⟨by omega, rfl⟩, rfl⟩
/-! ### Fractions that are copied -/
theorem toFr_any (a b : Int) (w : World) : Calls Try.prog 34 #[.agg #[.int .i64 a, .int .i64 b]] w fun e w' => e = .returned (.agg #[.int .i64 a, .int .i64 b]) ∧ Below w.heap.size w w' := by
  go_enter Try.func34, Try.ntmps34
  go_wp2
  exact bodyPost_ret (v := .agg #[.int .i64 a, .int .i64 b]) (by simp [results, Try.results34, go_sem]) rfl ⟨rfl, (((Below.refl _ _).alloc (Nat.le_refl _) _).alloc (by simp) _).alloc (by simp; omega) _⟩
theorem set2_half {fs : List Int} {n j : Nat} (hl : fs.length = 2 * n) (hj : j < n) (t : Nat) (ht : t < 2) :
    (ints (fs.take (2 * j + t) ++ List.replicate (2 * n - (2 * j + t)) 0)).set (2 * j + t) (.int .i64 (fs.getD (2 * j + t) 0)) = ints (fs.take (2 * j + t + 1) ++ List.replicate (2 * n - (2 * j + t + 1)) 0) := by
  have hlt : 2 * j + t < fs.length := by omega
  rw [ints_set, List.set_append_right _ _ (by rw [List.length_take]; omega), List.length_take, Nat.min_eq_left (by omega), Nat.sub_self,
    show 2 * n - (2 * j + t) = (2 * n - (2 * j + t + 1)) + 1 by omega, List.replicate_succ, List.set_cons_zero, List.take_succ_eq_append_getElem hlt, List.append_assoc]
  simp [List.getD, hlt]
def HalfF (wr : World) (B g n j : Nat) (fs : List Int) : Prop := wr.ownsRow B 63 2 (.slice (some ⟨g, 0, none⟩) n n) n (ints (fs.take (2 * j) ++ List.replicate (2 * n - 2 * j) 0))
theorem halfF_store {wr : World} {B g n j t : Nat} {fs : List Int} (h : wr.ownsRow B 63 2 (.slice (some ⟨g, 0, none⟩) n n) n (ints (fs.take (2 * j + t) ++ List.replicate (2 * n - (2 * j + t)) 0))) (hl : fs.length = 2 * n) (hj : j < n) (ht : t < 2) :
    (wr.setCell ⟨g, 2 * j + t, none⟩ (.int .i64 (fs.getD (2 * j + t) 0))).ownsRow B 63 2 (.slice (some ⟨g, 0, none⟩) n n) n (ints (fs.take (2 * j + t + 1) ++ List.replicate (2 * n - (2 * j + t + 1)) 0)) := by
  obtain ⟨h1, h2⟩ := h.stored (2 * j + t) (.int .i64 (fs.getD (2 * j + t) 0))
  rw [set2_half hl hj t ht] at h1
  exact h1
theorem halfF_next {wr : World} {B g n j : Nat} {fs : List Int} (h : HalfF wr B g n j fs) (hl : fs.length = 2 * n) (hj : j < n) : HalfF ((wr.setCell ⟨g, j * 2, none⟩ (.int .i64 (fs.getD (2 * j) 0))).setCell ⟨g, j * 2 + 1, none⟩ (.int .i64 (fs.getD (2 * j + 1) 0))) B g n (j + 1) fs := by
  have h1 := halfF_store (t := 0) h hl hj (by decide)
  have h2 := halfF_store (t := 1) h1 hl hj (by decide)
  unfold HalfF
  rw [Nat.mul_comm j 2]
  exact h2
def ToRelF (B g n : Nat) (fs : List Int) (w : World) (i : Value) (wr : World) : Prop := ∃ j : Nat, j ≤ n ∧ i = .int .i64 (j : Int) ∧ Hid (HalfF wr B g n j fs) ∧ Hid (Below B w wr)
def zero2 : Array Value := #[.int .i64 0, .int .i64 0]
theorem zero2_at : ∀ m, m < 2 → zero2[m]! = .int .i64 0
  | 0, _ => rfl
  | 1, _ => rfl
  | n + 2, h => absurd h (by omega)
theorem made2 (n : Nat) : (madeCells zero2 (n * 2)).toList = ints (List.replicate (2 * n) 0) := by
  apply List.ext_getElem?
  intro j
  rw [Nat.mul_comm n 2]
  by_cases hj : j < 2 * n
  · have h1 := zero2_at (j % 2) (Nat.mod_lt _ (by decide))
    have h2 : zero2.size = 2 := rfl
    simp [madeCells, ints, hj, h2, h1]
  · simp [madeCells, ints, hj]
theorem run_make2 (n : Nat) (hn : n ≤ 1048576) (w : World) : (Instr.makeSlice 28 (.int .i64 (n : Int)) (.int .i64 (n : Int))).run Try.prog w = .ok (.slice (some ⟨w.heap.size, 0, none⟩) n n) (w.alloc (.cells (madeCells zero2 (n * 2)) 63)) := by
  obtain ⟨i, hi, hzz⟩ := Option.map_eq_some_iff.1 infoFr
  simp only [Prod.mk.injEq] at hzz
  obtain ⟨hz, hs, hb⟩ := hzz
  have hr := run_make (P := Try.prog) w 28 63 i _ Try.underlying28 hi hz .i64 .i64 n n (by omega) (Int.le_refl _) (by rw [hb]; omega) (by omega)
  simp only [Int.toNat_natCast, hs] at hr
  exact hr
theorem halfF_start (w : World) (n : Nat) (hn : n ≤ 1048576) (fs : List Int) : HalfF (w.alloc (.cells (madeCells zero2 (n * 2)) 63)) w.heap.size w.heap.size n 0 fs := by
  have := World.ownsRow_lit (e := 63) (size := 2) (base := w.heap.size) w (madeCells zero2 (n * 2)) n (Nat.le_refl _) (by simp [maxLen]; omega) (by rw [size_madeCells])
  rw [made2] at this
  unfold HalfF
  simpa using this
set_option maxHeartbeats 1000000 in
set_option maxRecDepth 100000 in
theorem toF_any (A : Option Addr) (c B0 n : Nat) (fs : List Int) (w : World) (hx : RdF w B0 A n fs) (hB : B0 ≤ w.heap.size) (hn : n ≤ 1048576) (hl : fs.length = 2 * n) :
    Calls Try.prog 10 #[.slice A n c] w fun e w' => ∃ g, e = .returned (.slice (some ⟨g, 0, none⟩) n n) ∧ OwnF w' w.heap.size (.slice (some ⟨g, 0, none⟩) n n) n fs ∧ Below w.heap.size w w' := by
  have HX := Lib.hid (hx.more hB)
  have HL := Lib.hid hl
  have hmk := fun w => run_make2 n hn w
  have H0 : Hid (ToRelF w.heap.size w.heap.size n fs w (.int .i64 0) (w.alloc (.cells (madeCells zero2 (n * 2)) 63))) := Lib.hid ⟨0, Nat.zero_le _, rfl, Lib.hid (halfF_start w n hn fs), Lib.hid ((Below.refl _ _).alloc (Nat.le_refl _) _)⟩
  clear hx hl
  go_enter Try.func10, Try.ntmps10
  go_wp2
  clear hmk
  go_loopw [4] (fun i wr => ToRelF w.heap.size w.heap.size n fs w i wr) (fun i _ => n - (intOf i).toNat)
  case atStart => exact H0.out
  case round =>
    obtain ⟨j, hj, rfl, hrow, hb⟩ := hrel
    by_cases hlt : j < n
    · obtain ⟨b, off, rfl, hbl, c0, c1⟩ := (HX.out.below hb.out (Nat.le_refl _)).at hlt
      have hcell : ∀ i, i < 2 → ∃ x : Int, wr.cell? ⟨w.heap.size, j * 2 + i, none⟩ = some (.int .i64 x) := fun i hi => by
        have hh : wr.ownsRow w.heap.size 63 2 (.slice (some ⟨w.heap.size, 0, none⟩) n n) n (ints (fs.take (2 * j) ++ List.replicate (2 * n - 2 * j) 0)) := hrow.out
        have e1 := World.ownsRow.cellAt hh (j * 2 + i) (by omega)
        rw [ints_get _ (j * 2 + i) (by have := HL.out; simp; omega)] at e1
        exact ⟨_, e1⟩
      have hfz : ∀ i, wr.frozen? ⟨w.heap.size, i, none⟩ = false := fun i => by
        have hh : wr.ownsRow w.heap.size 63 2 (.slice (some ⟨w.heap.size, 0, none⟩) n n) n (ints (fs.take (2 * j) ++ List.replicate (2 * n - 2 * j) 0)) := hrow.out
        exact hh.frozenAt i
      have HN := Lib.hid (fun w1 (h1 : Below wr.heap.size wr w1) => (show ToRelF w.heap.size w.heap.size n fs w (.int .i64 ((j : Int) + 1)) ((w1.setCell ⟨w.heap.size, j * 2, none⟩ (.int .i64 (fs.getD (2 * j) 0))).setCell ⟨w.heap.size, j * 2 + 1, none⟩ (.int .i64 (fs.getD (2 * j + 1) 0))) from ⟨j + 1, hlt, by simp, Lib.hid (halfF_next (show HalfF w1 w.heap.size w.heap.size n j fs from ownsRow_below hrow.out h1) HL.out hlt), Lib.hid (((hb.out.trans (h1.mono hb.out.size)).setCell (p := ⟨w.heap.size, j * 2, none⟩) (Nat.le_refl _) _).setCell (p := ⟨w.heap.size, j * 2 + 1, none⟩) (Nat.le_refl _) _)⟩))
      have HT := Lib.hid (fun W => toFr_any (fs.getD (2 * j) 0) (fs.getD (2 * j + 1) 0) W)
      obtain ⟨x0, y0⟩ := hcell 0 (by decide)
      have hlz : w.heap.size < wr.heap.size := block_lt_of_cell y0
      obtain ⟨x1, y1⟩ := hcell 1 (by decide)
      rw [Nat.add_zero] at y0
      have HY := Lib.hid (And.intro y0 y1)
      have HZ := Lib.hid hfz
      clear hrow hb hcell hfz y0 y1
      generalize fs.getD (2 * j) 0 = f0 at *
      generalize fs.getD (2 * j + 1) 0 = f1 at *
      go_wp2_with fail
      refine (HT.out _).mono ?_
      rintro e w1 ⟨rfl, hb1⟩
      have y0 := (hb1.cell (p := ⟨w.heap.size, j * 2, none⟩) hlz).trans HY.out.1
      have y1 := (hb1.cell (p := ⟨w.heap.size, j * 2 + 1, none⟩) hlz).trans HY.out.2
      have z0 := (hb1.frozen (p := ⟨w.heap.size, j * 2, none⟩) hlz).trans (HZ.out _)
      have z1 := (hb1.frozen (p := ⟨w.heap.size, j * 2 + 1, none⟩) hlz).trans (HZ.out _)
      have HM := Lib.hid (HN.out w1 hb1)
      clear hb1 c0 c1
      go_wp2
      go_roundw
      case rel => exact HM.out
      case measure => simp [intOf]; omega
    · obtain rfl : j = n := by omega
      have HR : Hid (OwnF wr w.heap.size (.slice (some ⟨w.heap.size, 0, none⟩) j j) j fs) := Lib.hid (by
        have := hrow.out
        unfold HalfF at this
        rw [Nat.sub_self, List.replicate_zero, List.append_nil, List.take_of_length_le (by have := HL.out; omega)] at this
        exact this)
      have HB := Lib.hid hb.out
      clear hrow hb
      go_wp2
      go_ret
      exact ⟨w.heap.size, rfl, HR.out, HB.out⟩
end Go.Proofs.Ytionognmgcabbaa.CpyF
/- The laws' sizes, copies, comparison and marks of lists of lists of fractions, and of walks. -/
namespace Go.Proofs.Ytionognmgcabbaa.CpyW
open Go.RowKit Go.Proofs.Ytionognmgcabbaa Go.Proofs.Ytionognmgcabbaa.Base Go.Proofs.Ytionognmgcabbaa.Mem Go.Proofs.Ytionognmgcabbaa.Cpy Go.Proofs.Ytionognmgcabbaa.MemF Go.Proofs.Ytionognmgcabbaa.WalkM Go.Proofs.Ytionognmgcabbaa.CpyF Go.Proofs.Ytionognmgcabbaa.Blk
set_option linter.unusedVariables false
def totL (L : Nat → Nat) : Nat → Nat
  | 0 => 0
  | n + 1 => totL L n + L n
theorem le_totL {L : Nat → Nat} : ∀ {n i : Nat}, i < n → L i ≤ totL L n
  | 0, _, h => absurd h (Nat.not_lt_zero _)
  | n + 1, i, h => by
    rw [totL]
    rcases Nat.lt_or_ge i n with h1 | h1
    · have := le_totL (L := L) h1; omega
    · obtain rfl : i = n := by omega
      omega
/-- a number below 0, or all elements and lists counted fit -/
def SzRetF (k : Int) (n : Nat) (L : Nat → Nat) (w : World) (e : Ending) (w' : World) : Prop := ∃ r : Int, e = .returned (.int .i64 r) ∧ (r = -1 ∨ (0 ≤ r ∧ r = k - n - totL L n)) ∧ w = w'
set_option maxHeartbeats 1000000 in
theorem szFF_any (A : Option Addr) (c B n : Nat) (k : Int) (L : Nat → Nat) (fs : Nat → List Int) (w : World) (hx : RdFF w B A n L fs) (hn : n ≤ 9223372036854775807) (hL : ∀ i, i < n → L i ≤ 9223372036854775807) (hk : 0 ≤ k) (hk2 : k ≤ 1048576) :
    Calls Try.prog 24 #[.slice A n c, .int .i64 k] w (SzRetF k n L w) := by
  have HN := Lib.hid hL
  have HX := Lib.hid hx
  clear hL hx
  by_cases h0 : k - (n : Int) < 0
  · go_enter Try.func24, Try.ntmps24
    go_wp2
    go_ret
    exact ⟨-1, rfl, .inl rfl, rfl⟩
  · go_enter Try.func24, Try.ntmps24
    go_wp2
    go_loop [1, 5] (fun q i => ∃ j : Nat, j ≤ n ∧ i = .int .i64 (j : Int) ∧ ∃ r : Int, q = .int .i64 r ∧ 0 ≤ r ∧ r ≤ 1048576 ∧ Hid (r = k - n - totL L j)) (fun _ i => n - (intOf i).toNat)
    case atStart => exact ⟨0, Nat.zero_le _, rfl, _, rfl, by omega, by omega, Lib.hid (by simp [totL])⟩
    case round =>
      obtain ⟨j, hj, rfl, r, rfl, r0, r1, hr⟩ := hrel
      by_cases hlt : j < n
      · obtain ⟨b, off, A1, c1, rfl, _, g1, _⟩ := HX.out.at hlt
        have hs : Hid (totL L (j + 1) = totL L j + L j) := Lib.hid rfl
        have HC := Lib.hid (fun W => szF_any A1 (L j) c1 r W (HN.out j hlt) r0 r1)
        generalize L j = l at *
        go_wp2_with fail
        refine (HC.out _).mono ?_
        rintro e w' ⟨r', rfl, hr', rfl⟩
        rcases hr' with rfl | ⟨q0, q1⟩
        · go_wp2
          go_ret
          exact ⟨-1, rfl, .inl rfl, rfl⟩
        · have HQ : Hid (r' = k - n - totL L (j + 1)) := Lib.hid (by rw [hs.out, q1, hr.out]; simp; omega)
          have r2 : r' ≤ 1048576 := by omega
          clear q1 hs hr
          go_wp2
          go_round
          case rel => exact ⟨j + 1, by omega, by go_num, r', rfl, q0, r2, HQ⟩
          case measure => simp [intOf]; omega
      · obtain rfl : j = n := by omega
        go_wp2
        go_ret
        exact ⟨r, rfl, .inr ⟨r0, hr.out⟩, rfl⟩
/-! ### Copies -/
/-- lists of the call's own, without the list that holds them -/
structure RowsF (w : World) (B j : Nat) (us : List Value) (L : Nat → Nat) (fs : Nat → List Int) : Prop where
  len : us.length = j
  inner : ∀ i, i < j → OwnF w B (us.getD i undef) (L i) (fs i)
  apart : ∀ i k g, i < k → k < j → (us.getD i undef).ownBlock = some g → (us.getD k undef).ownBlock ≠ some g
theorem RowsF.nil (w : World) (B : Nat) (L : Nat → Nat) (fs : Nat → List Int) : RowsF w B 0 [] L fs := ⟨rfl, fun i hi => absurd hi (Nat.not_lt_zero i), fun i j g _ hj => absurd hj (Nat.not_lt_zero j)⟩
theorem RowsF.push {wr w1 w2 : World} {B n j : Nat} {v u : Value} {us vs : List Value} {L : Nat → Nat} {fs : Nat → List Int} (h : RowsF wr B j us L fs) (h1 : Below wr.heap.size wr w1)
    (hu : OwnF w1 wr.heap.size u (L j) (fs j)) (ho : w1.ownsRow B 28 1 v n vs) (hg : w1.grownBy w2 v.ownBlock) (hB : B ≤ wr.heap.size) :
    RowsF w2 B (j + 1) (us ++ [u]) L fs := by
  have hl := h.len
  refine ⟨by simp [hl], fun i hi => ?_, fun i k g hik hk hg1 hg2 => ?_⟩
  · rcases Nat.lt_or_ge i j with hlt | hge
    · rw [show (us ++ [u]).getD i undef = us.getD i undef by simp [List.getD, List.getElem?_append_left (show i < us.length by omega)]]
      have hi1 := (h.inner i hlt).below h1
      exact World.ownsRow.kept hi1 hg (own_ne hi1 ho (by decide))
    · obtain rfl : i = j := by omega
      rw [show (us ++ [u]).getD i undef = u by simp [List.getD, ← hl]]
      exact World.ownsRow.kept (ownsRow_base hu hB) hg (own_ne hu ho (by decide))
  · have hlt : i < j := by omega
    rw [show (us ++ [u]).getD i undef = us.getD i undef by simp [List.getD, List.getElem?_append_left (show i < us.length by omega)]] at hg1
    rcases Nat.lt_or_ge k j with hk1 | hge
    · rw [show (us ++ [u]).getD k undef = us.getD k undef by simp [List.getD, List.getElem?_append_left (show k < us.length by omega)]] at hg2
      exact h.apart i k g hik hk1 hg1 hg2
    · obtain rfl : k = j := by omega
      rw [show (us ++ [u]).getD k undef = u by simp [List.getD, ← hl]] at hg2
      obtain ⟨_, _, _, b1⟩ := ownsRow_block (h.inner i hlt) hg1
      obtain ⟨_, _, b2, _⟩ := ownsRow_block hu hg2
      omega
/-- the lists are the call's own, in blocks from B on that all differ -/
structure OwnFF (w : World) (B : Nat) (v : Value) (n : Nat) (L : Nat → Nat) (fs : Nat → List Int) (us : List Value) : Prop where
  outer : w.ownsRow B 28 1 v n us
  rows : RowsF w B n us L fs
theorem OwnFF.below {w w' : World} {B n : Nat} {v : Value} {L : Nat → Nat} {fs : Nat → List Int} {us : List Value} (h : OwnFF w B v n L fs us) (hb : Below w.heap.size w w') : OwnFF w' B v n L fs us :=
  ⟨ownsRow_below h.outer hb, h.rows.len, fun i hi => (h.rows.inner i hi).below hb, h.rows.apart⟩
theorem OwnFF.above {w w' : World} {B n : Nat} {v : Value} {L : Nat → Nat} {fs : Nat → List Int} {us : List Value} (h : OwnFF w B v n L fs us) (hb : Above B w w') : OwnFF w' B v n L fs us :=
  ⟨ownsRow_above h.outer hb, h.rows.len, fun i hi => OwnF_above (h.rows.inner i hi) hb, h.rows.apart⟩
theorem OwnFF.rd {w : World} {B n c : Nat} {A : Option Addr} {L : Nat → Nat} {fs : Nat → List Int} {us : List Value} (h : OwnFF w B (.slice A n c) n L fs us) : RdFF w w.heap.size A n L fs := fun h0 => by
  obtain ⟨A', c', e, hf⟩ := ownsRow_form h.outer
  injection e with e1 e2 e3
  subst e1 e3
  obtain ⟨g, rfl, _, hlt⟩ := hf h0
  refine ⟨g, 0, rfl, hlt, fun i hi => ?_⟩
  have hi' := h.rows.inner i hi
  obtain ⟨A2, c2, e2, _⟩ := hi'.form
  rw [e2] at hi'
  refine ⟨A2, c2, ?_, hi'.rd⟩
  rw [Nat.zero_add, World.ownsRow.cellAt h.outer i (by omega), ← e2]
  have hl : i < us.length := by rw [h.rows.len]; exact hi
  simp [List.getD, hl]
def ToRelFF (B g n : Nat) (L : Nat → Nat) (fs : Nat → List Int) (w : World) (i : Value) (wr : World) : Prop :=
  ∃ (j : Nat) (us : List Value), j ≤ n ∧ i = .int .i64 (j : Int) ∧ Hid (wr.ownsRow B 28 1 (.slice (some ⟨g, 0, none⟩) n n) n (us ++ List.replicate (n - j) (.slice none 0 0))) ∧ Hid (RowsF wr B j us L fs) ∧ Hid (Below B w wr)
theorem ToRelFF.next {B g n j : Nat} {L : Nat → Nat} {fs : Nat → List Int} {us : List Value} {w wr w1 : World} {u : Value} (hj : j < n) (hg : B ≤ g)
    (ho : wr.ownsRow B 28 1 (.slice (some ⟨g, 0, none⟩) n n) n (us ++ List.replicate (n - j) (.slice none 0 0))) (hr : RowsF wr B j us L fs) (hb : Below B w wr) (hB : B ≤ wr.heap.size)
    (h1 : Below wr.heap.size wr w1) (hu : OwnF w1 wr.heap.size u (L j) (fs j)) :
    ToRelFF B g n L fs w (.int .i64 ((j : Int) + 1)) (w1.setCell ⟨g, j, none⟩ u) := by
  have ho1 := ownsRow_below ho h1
  obtain ⟨s1, s2⟩ := ho1.stored j u
  rw [us_set hr.len hj] at s1
  exact ⟨j + 1, us ++ [u], hj, by simp, Lib.hid s1, Lib.hid (hr.push h1 hu ho1 s2 hB), Lib.hid ((hb.trans (h1.mono hB)).setCell hg _)⟩
theorem infoFS : (Try.prog.info? 28).map (fun i => (i.zero, i.size, i.bytes)) = some (some (.slice none 0 0), 1, 24) := by kernel_rfl
set_option maxHeartbeats 1000000 in
set_option maxRecDepth 100000 in
theorem toFF_any (A : Option Addr) (c B0 n : Nat) (L : Nat → Nat) (fs : Nat → List Int) (w : World) (hx : RdFF w B0 A n L fs) (hB : B0 ≤ w.heap.size) (hn : n ≤ 1048576) (hL : ∀ i, i < n → L i ≤ 1048576) (hl : ∀ i, i < n → (fs i).length = 2 * L i) :
    Calls Try.prog 33 #[.slice A n c] w fun e w' => ∃ g us, e = .returned (.slice (some ⟨g, 0, none⟩) n n) ∧ OwnFF w' w.heap.size (.slice (some ⟨g, 0, none⟩) n n) n L fs us ∧ Below w.heap.size w w' := by
  have hmk := run_make_row' (P := Try.prog) 31 28 (.slice none 0 0) 24 Try.underlying31 infoFS rfl .i64 .i64 n (by omega) (by omega)
  have H0 : Hid (ToRelFF w.heap.size w.heap.size n L fs w (.int .i64 0) (w.alloc (.cells (madeCells #[.slice none 0 0] n) 28))) := Lib.hid (by
    refine ⟨0, [], Nat.zero_le _, rfl, Lib.hid ?_, Lib.hid (RowsF.nil _ _ _ _), Lib.hid ((Below.refl _ _).alloc (Nat.le_refl _) _)⟩
    have := World.ownsRow_lit (e := 28) (size := 1) (base := w.heap.size) w (madeCells #[.slice none 0 0] n) n (Nat.le_refl _) (by simp [maxLen]; omega) (by simp [size_madeCells])
    rw [toList_madeCells_one] at this
    simpa using this)
  have HX := Lib.hid (hx.more hB)
  have HL := Lib.hid (And.intro hL hl)
  clear hx hL hl
  go_enter Try.func33, Try.ntmps33
  go_wp2
  clear hmk
  go_loopw [4] (fun i wr => ToRelFF w.heap.size w.heap.size n L fs w i wr) (fun i _ => n - (intOf i).toNat)
  case atStart => exact H0.out
  case round =>
    obtain ⟨j, us, hj, rfl, hrow, hR, hb⟩ := hrel
    clear H0
    by_cases hlt : j < n
    · obtain ⟨b, off, A1, c1, rfl, hbl, g1, r1⟩ := (HX.out.below hb.out (Nat.le_refl _)).at hlt
      have hcell := (hrow.out.cellAt j (by omega)).trans (us_get hR.out.len hlt _)
      have hfz := hrow.out.frozenAt j
      have hsz : w.heap.size < wr.heap.size := block_lt_of_cell hcell
      have hcall := Lib.hid (toF_any A1 c1 w.heap.size (L j) (fs j) wr r1 (by omega) (HL.out.1 j hlt) (HL.out.2 j hlt))
      have HN := Lib.hid (fun (w1 : World) (u : Value) => ToRelFF.next (w := w) (w1 := w1) (u := u) hlt (Nat.le_refl _) hrow.out hR.out hb.out (by omega))
      have hblt : b < wr.heap.size := by omega
      clear hrow hb hR r1
      generalize L j = l at *
      generalize fs j = ys at *
      go_wp2_with fail
      refine hcall.out.mono ?_
      rintro e w1 ⟨g, rfl, hu, h1⟩
      have e1 := (h1.cell (p := ⟨w.heap.size, j, none⟩) hsz).trans hcell
      have e2 := (h1.frozen (p := ⟨w.heap.size, j, none⟩) hsz).trans hfz
      have HM := Lib.hid (HN.out w1 _ h1 hu)
      clear h1 hu hcell hfz
      go_wp2
      go_roundw
      case rel => exact HM.out
      case measure => simp [intOf]; omega
    · obtain rfl : j = n := by omega
      have HO : Hid (OwnFF wr w.heap.size (.slice (some ⟨w.heap.size, 0, none⟩) j j) j L fs us) := Lib.hid (by
        have hrow := hrow.out
        rw [Nat.sub_self, List.replicate_zero, List.append_nil] at hrow
        exact ⟨hrow, hR.out⟩)
      have HB := hb
      clear hrow hb hR
      go_wp2
      go_ret
      exact ⟨w.heap.size, us, rfl, HO.out, HB.out⟩
/-! ### Comparison -/
set_option maxHeartbeats 1000000 in
set_option maxRecDepth 100000 in
theorem eqFF_yes (A A' : Option Addr) (c c' B B' n : Nat) (L : Nat → Nat) (fs : Nat → List Int) (w : World) (hx : RdFF w B A n L fs) (hy : RdFF w B' A' n L fs) (hB : B ≤ w.heap.size) (hB' : B' ≤ w.heap.size) (hm : n ≤ 1099511627776) (hL : ∀ i, i < n → L i ≤ 1099511627776) :
    Calls Try.prog 43 #[.slice A n c, .slice A' n c'] w fun e w' => e = .returned (.bool true) ∧ Below w.heap.size w w' := by
  have HX := Lib.hid (hx.more hB)
  have HY := Lib.hid (hy.more hB')
  have HL := Lib.hid hL
  clear hx hy hL
  go_enter Try.func43, Try.ntmps43
  go_wp2
  go_loopw [5] (fun i wr => ∃ j : Nat, j ≤ n ∧ i = .int .i64 (j : Int) ∧ Hid (Below w.heap.size w wr)) (fun i _ => n - (intOf i).toNat)
  case atStart => exact ⟨0, Nat.zero_le _, rfl, Lib.hid (Below.refl _ _)⟩
  case round =>
    obtain ⟨j, hj, rfl, HB⟩ := hrel
    by_cases hlt : j < n
    · obtain ⟨b, off, A1, c1, rfl, hbl, g1, r1⟩ := (HX.out.below HB.out (Nat.le_refl _)).at hlt
      obtain ⟨b', off', A2, c2, rfl, hbl', g2, r2⟩ := (HY.out.below HB.out (Nat.le_refl _)).at hlt
      have hsz := HB.out.size
      have HC : Hid (∀ W, Below wr.heap.size wr W → Calls Try.prog 12 #[.slice A1 (L j) c1, .slice A2 (L j) c2] W fun e w' => e = .returned (.bool true) ∧ Below W.heap.size W w') := Lib.hid (fun W hW => eqF_yes A1 A2 c1 c2 _ _ (L j) (fs j) W (r1.below hW hsz) (r2.below hW hsz) (Nat.le_trans hsz hW.size) (Nat.le_trans hsz hW.size) (HL.out j hlt))
      have HG := Lib.hid (And.intro g1 g2)
      have hl1 : b < wr.heap.size := Nat.lt_of_lt_of_le hbl hsz
      have hl2 : b' < wr.heap.size := Nat.lt_of_lt_of_le hbl' hsz
      clear r1 r2 g1 g2
      generalize L j = l at *
      go_wp2
      (refine wp_region_below (by kernel_rfl) (by kernel_rfl) ?_; (repeat (refine wpQuiet_step (fun K hK => ?_); go_simp; first | (refine hK _ ?_; clear hK K) | (apply Exists.intro; refine ⟨fun wq hq => ?_, hK _ ?_⟩; (first | rfl | (have c0 := (hq.cell (p := ⟨b, off + j, none⟩) hl1).trans HG.out.1; have d0 := (hq.cell (p := ⟨b', off' + j, none⟩) hl2).trans HG.out.2; first | (go_simp; done) | (go_simp; rfl) | (first | (go_at_call 12; refine (HC.out _ hq).mono ?_; rintro e w1 ⟨rfl, hb1⟩; exact ⟨rfl, Base.Below.nextA hq hb1⟩)))); clear hK K))); refine wpQuiet_nil ?_; intro wq hq)
      have HB1 := Lib.hid (Base.Below.nextA HB.out hq)
      clear hq
      go_wp2
      go_roundw
      case rel => exact ⟨j + 1, hlt, by go_num, HB1⟩
      case measure => simp [intOf]; omega
    · obtain rfl : j = n := by omega
      go_wp2
      go_ret
      exact ⟨rfl, HB.out⟩
/-! ### Marks -/
end Go.Proofs.Ytionognmgcabbaa.CpyW
/- The laws' sizes, copies, comparison and marks of walks. -/
namespace Go.Proofs.Ytionognmgcabbaa.CpyW
open Go.RowKit Go.Proofs.Ytionognmgcabbaa Go.Proofs.Ytionognmgcabbaa.Base Go.Proofs.Ytionognmgcabbaa.Mem Go.Proofs.Ytionognmgcabbaa.Cpy Go.Proofs.Ytionognmgcabbaa.MemF Go.Proofs.Ytionognmgcabbaa.WalkM Go.Proofs.Ytionognmgcabbaa.CpyF Go.Proofs.Ytionognmgcabbaa.Blk
set_option linter.unusedVariables false
def SzW (k : Int) (n : Nat) (L : Nat → Nat) (w : World) (e : Ending) (w' : World) : Prop := ∃ r : Int, e = .returned (.int .i64 r) ∧ (r = -1 ∨ (0 ≤ r ∧ r = k - n - totL L n)) ∧ Below w.heap.size w w'
set_option maxHeartbeats 1000000 in
theorem szW_any (A : Option Addr) (c B n : Nat) (k : Int) (L : Nat → Nat) (fs : Nat → List Int) (w : World) (hx : RdFF w B A n L fs) (hB : B ≤ w.heap.size) (hn : n ≤ 9223372036854775807) (hL : ∀ i, i < n → L i ≤ 9223372036854775807) (hk : 0 ≤ k) (hk2 : k ≤ 1048576) :
    Calls Try.prog 6 #[.agg #[.slice A n c], .int .i64 k] w (SzW k n L w) := by
  have hb0 : Below w.heap.size w (w.alloc (.cells #[.slice A n c] 24)) := (Below.refl _ _).alloc (Nat.le_refl _) _
  have HS := Lib.hid (szFF_any A c B n k L fs (w.alloc (.cells #[.slice A n c] 24)) (hx.below hb0 hB) hn hL hk hk2)
  have HB := Lib.hid hb0
  clear hx hL hb0
  go_enter Try.func6, Try.ntmps6
  go_wp2_with fail
  refine HS.out.mono ?_
  rintro e w1 ⟨r, rfl, hr, rfl⟩
  rcases hr with rfl | ⟨r0, hr⟩
  · go_wp2
    go_ret
    exact ⟨-1, rfl, .inl rfl, HB.out⟩
  · have HR := Lib.hid hr
    clear hr
    go_wp2
    go_ret
    exact ⟨r, rfl, .inr ⟨r0, HR.out⟩, HB.out⟩
/-- a walk that is copied -/
def ToW (n : Nat) (L : Nat → Nat) (fs : Nat → List Int) (w : World) (e : Ending) (w' : World) : Prop := ∃ g us, e = .returned (.agg #[.slice (some ⟨g, 0, none⟩) n n]) ∧ OwnFF w' w.heap.size (.slice (some ⟨g, 0, none⟩) n n) n L fs us ∧ Below w.heap.size w w'
theorem OwnFF.base {w : World} {B B' n : Nat} {v : Value} {L : Nat → Nat} {fs : Nat → List Int} {us : List Value} (h : OwnFF w B v n L fs us) (hB : B' ≤ B) : OwnFF w B' v n L fs us :=
  ⟨ownsRow_base h.outer hB, h.rows.len, fun i hi => ownsRow_base (h.rows.inner i hi) hB, h.rows.apart⟩
theorem above_set {C b o : Nat} {w : World} (hb : b < C) (v : Value) : Above C w (w.setCell ⟨b, o, none⟩ v) := Above.grown (Src.grown_setCell w ⟨b, o, none⟩ v) (fun g e => by have := Option.some.inj e; show g < C; rw [← this]; exact hb)
set_option maxHeartbeats 1000000 in
theorem toW_any (A : Option Addr) (c B0 n : Nat) (L : Nat → Nat) (fs : Nat → List Int) (w : World) (hx : RdFF w B0 A n L fs) (hB : B0 ≤ w.heap.size) (hn : n ≤ 1048576) (hL : ∀ i, i < n → L i ≤ 1048576) (hl : ∀ i, i < n → (fs i).length = 2 * L i) :
    Calls Try.prog 9 #[.agg #[.slice A n c]] w (ToW n L fs w) := by
  obtain ⟨W3, hW3⟩ : ∃ W3, W3 = ((w.alloc (.cells #[.slice A n c] 24)).alloc (.cells #[.slice none 0 0] 33)).alloc (.cells #[.slice none 0 0] 33) := ⟨_, rfl⟩
  have hb3 : Below w.heap.size w W3 := by rw [hW3]; exact (((Below.refl _ _).alloc (Nat.le_refl _) _).alloc (by simp) _).alloc (by simp; omega) _
  have hz3 : W3.heap.size = w.heap.size + 3 := by rw [hW3]; simp
  have K1 : Hid (Blk W3 (w.heap.size + 1) 33 #[.slice none 0 0]) := Lib.hid (by rw [hW3]; exact (Blk.newAt _ _ (by simp)).alloc _)
  have K2 : Hid (Blk W3 (w.heap.size + 2) 33 #[.slice none 0 0]) := Lib.hid (by rw [hW3]; exact Blk.newAt _ _ (by simp))
  have HC := Lib.hid (toFF_any A c B0 n L fs W3 (hx.below hb3 hB) (Nat.le_trans hB hb3.size) hn hL hl)
  have HB3 := Lib.hid hb3
  have HW3 := Lib.hid hW3
  have HZ3 := Lib.hid hz3
  clear hx hL hl hb3 hW3 hz3
  go_enter Try.func9, Try.ntmps9
  go_wp2_with fail
  rw [← HW3.out]
  refine HC.out.mono ?_
  rintro e w4 ⟨g, us, rfl, ho, hb4⟩
  have k1 := K1.out.belowS hb4
  have k2 := K2.out.belowS hb4
  have hz := HZ3.out
  have hz4 := hb4.size
  have HF : Hid (ToW n L fs w (.returned (.agg #[.slice (some ⟨g, 0, none⟩) n n])) ((w4.setCell ⟨w.heap.size + 2, 0, none⟩ (.slice (some ⟨g, 0, none⟩) n n)).setCell ⟨w.heap.size + 1, 0, none⟩ (.slice (some ⟨g, 0, none⟩) n n))) := Lib.hid
    ⟨g, us, rfl, OwnFF.base ((ho.above (above_set (by omega) _)).above (above_set (by omega) _)) (by omega), ((Base.Below.nextA HB3.out hb4).setCell (p := ⟨w.heap.size + 2, 0, none⟩) (by show w.heap.size ≤ w.heap.size + 2; omega) _).setCell (p := ⟨w.heap.size + 1, 0, none⟩) (by show w.heap.size ≤ w.heap.size + 1; omega) _⟩
  have c1 := k1.at 0 (v := .slice none 0 0) rfl
  have c2 := k2.at 0 (v := .slice none 0 0) rfl
  have z1 := k1.frz 0
  have z2 := k2.frz 0
  have s1 := ((k1.other (a := ⟨w.heap.size + 2, 0, none⟩) (.slice (some ⟨g, 0, none⟩) n n) (by show w.heap.size + 2 ≠ w.heap.size + 1; omega)).setTo 0 (.slice (some ⟨g, 0, none⟩) n n) rfl).at 0 (v := .slice (some ⟨g, 0, none⟩) n n) rfl
  clear ho hb4 k1 k2 hz hz4 HC HB3 HW3 HZ3 K1 K2
  go_wp2
  refine bodyPost_ret (v := .agg #[.slice (some ⟨g, 0, none⟩) n n]) (by simp [results, Try.results9, go_sem, s1]) rfl ?_
  exact HF.out
set_option maxHeartbeats 1000000 in
theorem eqW_yes (A A' : Option Addr) (c c' B B' n : Nat) (L : Nat → Nat) (fs : Nat → List Int) (w : World) (hx : RdFF w B A n L fs) (hy : RdFF w B' A' n L fs) (hB : B ≤ w.heap.size) (hB' : B' ≤ w.heap.size) (hm : n ≤ 1099511627776) (hL : ∀ i, i < n → L i ≤ 1099511627776) :
    Calls Try.prog 13 #[.agg #[.slice A n c], .agg #[.slice A' n c']] w fun e w' => e = .returned (.bool true) ∧ Below w.heap.size w w' := by
  obtain ⟨W2, hW2⟩ : ∃ W2, W2 = (w.alloc (.cells #[.slice A n c] 33)).alloc (.cells #[.slice A' n c'] 33) := ⟨_, rfl⟩
  have hb2 : Below w.heap.size w W2 := by rw [hW2]; exact ((Below.refl _ _).alloc (Nat.le_refl _) _).alloc (by simp) _
  have HC := Lib.hid (eqFF_yes A A' c c' B B' n L fs W2 (hx.below hb2 hB) (hy.below hb2 hB') (Nat.le_trans hB hb2.size) (Nat.le_trans hB' hb2.size) hm hL)
  have HB := Lib.hid hb2
  have HW := Lib.hid hW2
  clear hx hy hL hb2 hW2
  go_enter Try.func13, Try.ntmps13
  go_wp2_with fail
  rw [← HW.out]
  refine HC.out.mono ?_
  rintro e w1 ⟨rfl, hb1⟩
  have HB1 := Lib.hid (Base.Below.nextA HB.out hb1)
  clear hb1
  go_wp2
  go_ret
  exact ⟨rfl, HB1.out⟩
end Go.Proofs.Ytionognmgcabbaa.CpyW
