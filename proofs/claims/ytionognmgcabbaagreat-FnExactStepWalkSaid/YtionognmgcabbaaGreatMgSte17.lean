/- The reference: a step of a walk. -/
import Derived.Test.YtionognmgcabbaaGreatMgSte16
import Derived.Deep.Cut
namespace Go.Proofs.YtionognmgcabbaaGreat.ComS
open Go.RowKit Go.Proofs.YtionognmgcabbaaGreat Go.Proofs.YtionognmgcabbaaGreat.Base Go.Proofs.YtionognmgcabbaaGreat.Mem Go.Proofs.YtionognmgcabbaaGreat.BigM Go.Proofs.YtionognmgcabbaaGreat.Big Go.Proofs.YtionognmgcabbaaGreat.Blk Go.Proofs.YtionognmgcabbaaGreat.MemF Go.Proofs.YtionognmgcabbaaGreat.ChM Go.Proofs.YtionognmgcabbaaGreat.ComM Go.Proofs.YtionognmgcabbaaGreat.RatM Go.Proofs.YtionognmgcabbaaGreat.Wide
set_option linter.unusedVariables false
/-- numbers that are returned -/
def BsRet (n : Nat) (f : Nat → Nat) (w : World) (e : Ending) (w' : World) : Prop := ∃ A c us, e = .returned (.slice A n c) ∧ OwnB w' w.heap.size (.slice A n c) n f us ∧ Below w.heap.size w w'
/-- a part of the sum -/
def partN (n : Nat) (R v : Nat → Nat) (i k : Nat) : Nat := sumN i (fun i => v i * R (i * n + k))
def SmB (n : Nat) (R v : Nat → Nat) (k : Nat) (w : World) (sv iv : Value) (wr : World) : Prop :=
  ∃ (i : Nat) (A : Option Addr) (c : Nat), iv = .int .i64 (i : Int) ∧ i ≤ n ∧ sv = .slice A (bigL (partN n R v i k)).length c ∧ Hid (IsB wr (partN n R v i k) (.slice A (bigL (partN n R v i k)).length c)) ∧ Hid (Below w.heap.size w wr)
theorem SmB.start (n : Nat) (R v : Nat → Nat) (k : Nat) (w : World) : SmB n R v k w (.slice (some ⟨w.heap.size, 0, none⟩) 0 0) (.int .i64 0) (w.alloc (.cells #[] 2)) := by
  have h0 : partN n R v 0 k = 0 := rfl
  refine ⟨0, some ⟨w.heap.size, 0, none⟩, 0, rfl, Nat.zero_le _, ?_, Lib.hid ?_, Lib.hid ((Below.refl _ _).alloc (Nat.le_refl _) _)⟩
  · rw [h0, bigL_zero]; rfl
  · rw [h0, bigL_zero]
    exact (Dig.lit0 w).isB bigL_zero.symm
set_option maxHeartbeats 2000000 in
set_option maxRecDepth 100000 in
theorem stepS_any {A A' : Option Addr} {c c' n a b B B' : Nat} {R v : Nat → Nat} {us us' : List Value} (w : World) (hx : OwnB w B (.slice A (n * n) c) (n * n) R us) (hy : OwnB w B' (.slice A' n c') n v us') (hn : n ≤ 100) (hv : ∀ i, i < n → v i < D30 ^ a) (hR : ∀ j, j < n * n → R j < D30 ^ b) (hab : a + b + 1 ≤ 900000) :
    Calls Tryz.prog 100 #[.slice A (n * n) c, .slice A' n c'] w (BsRet n (stepN n R v) w) := by
  have HX := Lib.hid hx
  have HY := Lib.hid hy
  have HV := Lib.hid hv
  have HR := Lib.hid hR
  obtain ⟨ig, gi, gz0, gz1, gz2⟩ := info_parts infoBg
  have H0 := Lib.hid (GrB.start n (stepN n R v) w)
  clear hx hy hv hR
  have HNN : Hid (∀ i, i < n → i * n + n ≤ n * n) := Lib.hid fun i hi => by
    have := Nat.mul_le_mul_right n (show i + 1 ≤ n by omega)
    rw [Nat.add_mul] at this
    omega
  have hnn : n * n ≤ 10000 := Nat.mul_le_mul hn hn
  obtain ⟨N2, hN2⟩ : ∃ N2, N2 = n * n := ⟨_, rfl⟩
  rw [← hN2] at HX HR HNN hnn ⊢
  clear hN2
  go_enter Tryz.func100, Tryz.ntmps100
  go_wp2
  go_loopw [6, 7] (fun ov kv wr => GrB n (stepN n R v) w ov kv wr) (fun _ kv _ => n - (intOf kv).toNat)
  case atStart => exact H0.out
  case round =>
    obtain ⟨k, us, rfl, hk, HO, HB⟩ := hrel
    clear H0
    by_cases hkn : k < n
    · obtain ⟨w1, rfl⟩ : ∃ x, x = wr := ⟨_, rfl⟩
      have H1 := Lib.hid (SmB.start n R v k w1)
      go_wp2
      go_loopw [8, 9] (fun sv iv w2 => SmB n R v k w1 sv iv w2) (fun _ iv _ => n - (intOf iv).toNat)
      case atStart => exact H1.out
      case round =>
        obtain ⟨i, A2, c2, rfl, hi, rfl, HS, HB2⟩ := hrel
        clear H1
        by_cases hlt : i < n
        · have hin := HNN.out i hlt
          obtain ⟨gv, A3, c3, ev3, hgv, hvc, hvb⟩ := (HY.out.below (Base.Below.nextA HB.out HB2.out)).at hlt
          obtain ⟨gr, A4, c4, er4, hgr, hrc, hrb⟩ := (HX.out.below (Base.Below.nextA HB.out HB2.out)).at (show i * n + k < N2 by omega)
          subst ev3 er4
          have hlx : (bigL (v i)).length ≤ 1000000 := Nat.le_trans (bigL_len_le (HV.out i hlt)) (by omega)
          have hly : (bigL (R (i * n + k))).length ≤ 1000000 := Nat.le_trans (bigL_len_le (HR.out _ (by omega))) (by omega)
          have hls : (bigL (partN n R v i k)).length ≤ 1000000 := Nat.le_trans (bigL_len_le (part_lt' hn (Nat.le_of_lt hlt) HV.out (fun i k h1 h2 => HR.out _ (by have := HNN.out i h1; omega)) hkn)) (by omega)
          have hlp : (bigL (v i * R (i * n + k))).length ≤ 1000000 := Nat.le_trans (bigL_len_le (mul_lt (HV.out i hlt) (HR.out _ (by omega)))) (by omega)
          have HNX : Hid (partN n R v (i + 1) k = partN n R v i k + v i * R (i * n + k)) := Lib.hid rfl
          have HVx := Lib.hid hvb
          have HRy := Lib.hid hrb
          have hmul : (i : Int) * (n : Int) = ((i * n : Nat) : Int) := by simp
          have hi1 : i * n ≤ 10000 := by omega
          have hJ0 : i * n + k < N2 := by omega
          clear hvb hrb hin
          generalize hxe : v i = x at *
          generalize hye : R (i * n + k) = y at *
          have HXE := Lib.hid (And.intro hxe hye)
          clear hxe hye
          generalize hse : partN n R v i k = s at *
          have HSE := Lib.hid hse
          clear hse
          obtain ⟨j, hj⟩ : ∃ j, j = i * n := ⟨_, rfl⟩
          rw [← hj] at hmul hi1 hrc
          obtain ⟨J, hJ⟩ : ∃ J, J = j + k := ⟨_, rfl⟩
          have hJN : J < N2 := by rw [hJ, hj]; exact hJ0
          have hJI : (J : Int) < (N2 : Int) := by omega
          have hw1 : IntKind.i64.wrap (j : Int) = (j : Int) := by rw [IntKind.wrap_i64]; omega
          have hw2 : IntKind.i64.wrap ((j : Int) + (k : Int)) = (J : Int) := by rw [IntKind.wrap_i64, hJ]; omega
          rw [← hJ] at hrc
          clear hj hJ hJ0
          go_upto_region 10 with (fail)
          refine Rel.wp_region_rel 15 (by kernel_rfl) (by kernel_rfl) (fun F hF => ?_)
          simp only [List.take_succ_cons, List.take_zero, List.drop_succ_cons, List.drop_zero, Rel.putL] at hF ⊢
          have HF := Lib.hid hF
          clear hF
          have uv := @Rel.upon_value Tryz.prog
          have ue := @Rel.upon_enter Tryz.prog
          apply Rel.rel_pure
          apply Exists.intro
          refine ⟨fun vs wq hq hdp R hR => ?_, ?_⟩
          · (rw [HF.out, Rel.stepAt_eq]; clear hdp; skip; go_simp; exact hR)
          apply Rel.rel_pure
          apply Exists.intro
          refine ⟨fun vs wq hq hdp R hR => ?_, ?_⟩
          · (rw [HF.out, Rel.stepAt_eq]; clear hdp; skip; go_simp; exact hR)
          apply Rel.rel_pure
          apply Exists.intro
          refine ⟨fun vs wq hq hdp R hR => ?_, ?_⟩
          · (rw [HF.out, Rel.stepAt_eq]; clear hdp; skip; go_simp; exact hR)
          apply Rel.rel_pure
          apply Exists.intro
          refine ⟨fun vs wq hq hdp R hR => ?_, ?_⟩
          · (rw [HF.out, Rel.stepAt_eq]; have qd1 : vs 1 = _ := Rel.dep hdp 1 (by kernel_rfl); have qd2 : vs 2 = _ := Rel.dep hdp 2 (by kernel_rfl); clear hdp; skip; go_simp; exact hR)
          apply Rel.rel_pure
          apply Exists.intro
          refine ⟨fun vs wq hq hdp R hR => ?_, ?_⟩
          · (rw [HF.out, Rel.stepAt_eq]; have qd3 : vs 3 = _ := Rel.dep hdp 3 (by kernel_rfl); clear hdp; have y0 := (hq.cell (p := ⟨gv, i, none⟩) hgv).trans hvc; go_simp; exact hR)
          apply Rel.rel_pure
          apply Exists.intro
          refine ⟨fun vs wq hq hdp R hR => ?_, ?_⟩
          · (rw [HF.out, Rel.stepAt_eq]; clear hdp; skip; go_simp; exact hR)
          apply Rel.rel_pure
          apply Exists.intro
          refine ⟨fun vs wq hq hdp R hR => ?_, ?_⟩
          · (rw [HF.out, Rel.stepAt_eq]; clear hdp; skip; go_simp; exact hR)
          apply Rel.rel_pure
          apply Exists.intro
          refine ⟨fun vs wq hq hdp R hR => ?_, ?_⟩
          · (rw [HF.out, Rel.stepAt_eq]; clear hdp; skip; go_simp; exact hR)
          apply Rel.rel_pure
          apply Exists.intro
          refine ⟨fun vs wq hq hdp R hR => ?_, ?_⟩
          · (rw [HF.out, Rel.stepAt_eq]; have qd6 : vs 6 = _ := Rel.dep hdp 6 (by kernel_rfl); have qd7 : vs 7 = _ := Rel.dep hdp 7 (by kernel_rfl); clear hdp; skip; go_simp; exact hR)
          apply Rel.rel_pure
          apply Exists.intro
          refine ⟨fun vs wq hq hdp R hR => ?_, ?_⟩
          · (rw [HF.out, Rel.stepAt_eq]; clear hdp; skip; go_simp; exact hR)
          apply Rel.rel_pure
          apply Exists.intro
          refine ⟨fun vs wq hq hdp R hR => ?_, ?_⟩
          · (rw [HF.out, Rel.stepAt_eq]; have qd8 : vs 8 = _ := Rel.dep hdp 8 (by kernel_rfl); have qd9 : vs 9 = _ := Rel.dep hdp 9 (by kernel_rfl); clear hdp; skip; go_simp; exact hR)
          apply Rel.rel_pure
          apply Exists.intro
          refine ⟨fun vs wq hq hdp R hR => ?_, ?_⟩
          · (rw [HF.out, Rel.stepAt_eq]; have qd5 : vs 5 = _ := Rel.dep hdp 5 (by kernel_rfl); have qd10 : vs 10 = _ := Rel.dep hdp 10 (by kernel_rfl); clear hdp; skip; go_simp; exact hR)
          apply Rel.rel_pure
          apply Exists.intro
          refine ⟨fun vs wq hq hdp R hR => ?_, ?_⟩
          · (rw [HF.out, Rel.stepAt_eq]; have qd11 : vs 11 = _ := Rel.dep hdp 11 (by kernel_rfl); clear hdp; have u0 := (hq.cell (p := ⟨gr, J, none⟩) hgr).trans hrc; go_simp; exact hR)
          refine Rel.rel_law (S := fun v w' => IsB w' (x * y) v) (isB_mono _) (fun vs wq hq hdp => ?_) ?_
          · (rw [HF.out, Rel.stepAt_eq]; have qd4 : vs 4 = _ := Rel.dep hdp 4 (by kernel_rfl); have qd12 : vs 12 = _ := Rel.dep hdp 12 (by kernel_rfl); clear hdp; skip; go_simp; refine (bigTimes_any wq (HVx.out.below hq) (HRy.out.below hq) hlx hly).mono ?_; rintro e w7 ⟨v, rfl, hv, hb⟩; exact ⟨_, rfl, hv, hb⟩)
          refine Rel.rel_law (S := fun v w' => IsB w' (s + x * y) v) (isB_mono _) (fun vs wq hq hdp => ?_) ?_
          · (rw [HF.out, Rel.stepAt_eq]; have qd0 : vs 0 = _ := Rel.dep hdp 0 (by kernel_rfl); have qd13 : IsB wq _ (vs 13) := Rel.dep hdp 13 (by kernel_rfl); clear hdp; skip; go_simp; refine (bigPlus_any wq (HS.out.below hq) qd13 hls hlp).mono ?_; rintro e w7 ⟨v, rfl, hv, hb⟩; exact ⟨_, rfl, hv, hb⟩)
          refine Rel.rel_end (fun vs wq hq hall => ?_)
          rw [HF.out]
          have qe0 : vs 0 = _ := Rel.fin hall 0 (by decide)
          have qe1 : vs 1 = _ := Rel.fin hall 1 (by decide)
          have qe2 : vs 2 = _ := Rel.fin hall 2 (by decide)
          have qe3 : vs 3 = _ := Rel.fin hall 3 (by decide)
          have qe4 : vs 4 = _ := Rel.fin hall 4 (by decide)
          have qe5 : vs 5 = _ := Rel.fin hall 5 (by decide)
          have qe6 : vs 6 = _ := Rel.fin hall 6 (by decide)
          have qe7 : vs 7 = _ := Rel.fin hall 7 (by decide)
          have qe8 : vs 8 = _ := Rel.fin hall 8 (by decide)
          have qe9 : vs 9 = _ := Rel.fin hall 9 (by decide)
          have qe10 : vs 10 = _ := Rel.fin hall 10 (by decide)
          have qe11 : vs 11 = _ := Rel.fin hall 11 (by decide)
          have qe12 : vs 12 = _ := Rel.fin hall 12 (by decide)
          have qe13 : IsB wq _ (vs 13) := Rel.fin hall 13 (by decide)
          have qe14 : IsB wq _ (vs 14) := Rel.fin hall 14 (by decide)
          clear hall HF uv ue
          obtain ⟨A5, c5, ev5, _⟩ := Dig.form qe14
          rw [ev5] at qe14
          have HN : Hid (SmB n R v k w1 (.slice A5 (bigL (s + x * y)).length c5) (.int .i64 ((i : Int) + 1)) wq) := Lib.hid ⟨i + 1, A5, c5, by simp, hlt, by rw [HNX.out], Lib.hid (by rw [HNX.out]; exact qe14), Lib.hid (Base.Below.nextA HB2.out hq)⟩
          clear qe14 hq HS HB2 HNX HVx HRy hw1 hw2 qe0 qe1 qe2 qe3 qe4 qe5 qe6 qe7 qe8 qe9 qe10 qe11 qe12 qe13 hvc hrc
          go_wp2
          go_roundw
          case rel => exact HN.out
          case measure => simp [intOf]; omega
        · obtain rfl : i = n := by omega
          have HSS : Hid (IsB wr (stepN i R v k) (.slice A2 (bigL (partN i R v i k)).length c2)) := Lib.hid HS.out
          have HN := Lib.hid (fun w3 v' ca t hown hg => GrB.next (w2 := w3) (v' := v') (ca := ca) (t := t) hkn HO.out HB.out HB2.out HSS.out hown hg)
          have HOA := Lib.hid (World.ownsRow.alloc (ownsRow_below HO.out.row HB2.out) (.cells #[.slice A2 (bigL (partN i R v i k)).length c2] 79))
          have hs1 := HB.out.size
          have hs2 := HB2.out.size
          clear HS HSS HO HB HB2
          generalize (bigL (partN i R v i k)).length = l at *
          go_wp2_with (at_builtin; refine wpList_append_own_at _ rfl (.tmp 39) (.tmp 41) 126 rfl w.heap.size 79 ig (.slice none 0 0) 1 24 Tryz.underlying126 gi gz0 gz1 gz2 rfl (by decide) _ _ _ rfl HOA.out ⟨wr.heap.size, 0, none⟩ 1 1 [.slice A2 l c2] rfl rfl ?p1b ?p2b ?p3b ?p4b ?p5b ?_)
          try case p1b => exact news_one _ _ _ (by simp)
          try case p2b => (intro u hu; simp only [List.mem_cons, List.not_mem_nil, or_false] at hu; subst hu; rfl)
          try case p3b => first | (simp only [maxLen]; omega) | omega
          try case p4b => omega
          try case p5b => first | (simp only [World.size_alloc]; omega) | omega
          intro v' w8 hown' hg' _ he
          have HN3 := Lib.hid (HN.out w8 v' _ _ hown' hg')
          clear hown' hg' he HN HOA
          go_wp2
          go_roundw
          case rel => exact HN3.out
          case measure => simp [intOf]; omega
    · obtain rfl : k = n := by omega
      obtain ⟨A9, c9, rfl, _⟩ := HO.out.form
      have HF : Hid (BsRet k (stepN k R v) w (.returned (.slice A9 k c9)) wr) := Lib.hid ⟨A9, c9, us, rfl, HO.out, HB.out⟩
      clear HO HB
      go_wp2
      go_ret
      exact HF.out
end Go.Proofs.YtionognmgcabbaaGreat.ComS
