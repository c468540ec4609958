/- The program's search among values. -/
import Derived.Test.YtgipnbeipfhekaaGreatDoorMgFnL07
import Derived.Test.YtgipnbeipfhekaaGreatDoorMgFnL10
import Derived.Test.YtgipnbeipfhekaaGreatDoorMgFnL14
import Derived.Test.YtgipnbeipfhekaaGreatDoorMgFnL08
import Derived.Deep.Cut
import Derived.Test.YtgipnbeipfhekaaGreatDoorMgFnL11
import Derived.Test.YtgipnbeipfhekaaGreatDoorMgFnL02
import Derived.Test.YtgipnbeipfhekaaGreatDoorMgFnL06
import Derived.Shelf.Lay
import Derived.Shelf.Strings.SlTrimAscii
import Derived.Shelf.Strings.Count
import Derived.Test.YtgipnbeipfhekaaGreatDoorMgFnL03
import Derived.Test.YtgipnbeipfhekaaGreatDoorMgFnL12
import Derived.Test.YtgipnbeipfhekaaGreatDoorMgFnL00
set_option linter.unusedVariables false
set_option linter.unusedSimpArgs false
namespace Go.Proofs.YtgipnbeipfhekaaGreatDoor
namespace LpS
open Go.RowKit Base Mem LvQ LvO LvT LvG
theorem nan_c (x : Int) (w : World) : Calls Tryz.prog 233 #[.int .i64 x] w fun e w' => e = .returned (.bool false) ∧ w = w' := by
 have h : (x != x) = false := by simp
 go_enter Tryz.func233, Tryz.ntmps233
 go_wp2
 go_ret
 exact ⟨ret_bool (by simp), rfl⟩
theorem less_c (x y : Int) (w : World) : Calls Tryz.prog 200 #[.int .i64 x, .int .i64 y] w fun e w' => e = .returned (.bool (decide (x < y))) ∧ w = w' := by
 go_enter Tryz.func200, Tryz.ntmps200
 go_wp2_with fail
 refine (nan_c x _).mono ?_
 rintro e w' ⟨rfl, rfl⟩
 go_wp2
 go_ret
 exact ⟨ret_bool (by simp), rfl⟩
set_option maxHeartbeats 2000000 in
theorem search_d {A : Option Addr} {B c N p : Nat} {C : Cnt} (hf : C.first ≤ 1) (hp : p < N) (hN : N ≤ 60) (w : World) (hx : RdI w B A (fl N (vD C))) :
  Calls Tryz.prog 158 #[.slice A N c, .int .i64 ((C.first + p : Nat) : Int)] w fun e w' => e = .returned (.tuple #[.int .i64 (p : Int), .bool true]) ∧ w = w' := by
 obtain ⟨b, off, rfl, _, hc⟩ := rdV hx hp
 have HC := J hc
 rw [show ((C.first + p : Nat) : Int) = (C.first : Int) + (p : Int) by simp]
 clear hx hc
 go_enter Tryz.func158, Tryz.ntmps158
 go_wp2
 go_loop [7, 8] (fun iv jv => ∃ i j : Nat, i ≤ p ∧ p ≤ j ∧ j ≤ N ∧ iv = .int .i64 (i : Int) ∧ jv = .int .i64 (j : Int)) (fun iv jv => (intOf jv).toNat - (intOf iv).toNat)
 case atStart => exact ⟨0, N, Nat.zero_le _, by omega, Nat.le_refl _, rfl, rfl⟩
 case round =>
  obtain ⟨i, j, hi, hj, hjN, rfl, rfl⟩ := hrel
  by_cases hij : i < j
  ·obtain ⟨h, hh⟩ : ∃ h, h = (i + j) / 2 := ⟨_, rfl⟩
   have hhN : h < N := by omega
   have g1 := HC.out h hhN
   have hl := fun W => less_c ((C.first : Int) + (h : Int)) ((C.first : Int) + (p : Int)) W
   have hdiv : ((i : Int) + (j : Int)) / 2 = (h : Int) := by omega
   have hih : i ≤ h := by omega
   have hhj : h < j := by omega
   clear hh
   by_cases hhp : h < p
   ·rw [decide_eq_true (show (C.first : Int) + (h : Int) < (C.first : Int) + (p : Int) by omega)] at hl
    have HL := J hl
    clear hl
    go_wp2_with fail
    refine (HL.out _).mono ?_
    rintro e w' ⟨rfl, rfl⟩
    go_wp2
    go_round
    case rel => exact ⟨h + 1, j, by omega, hj, hjN, by simp, rfl⟩
    case measure => simp [intOf]; omega
   ·rw [decide_eq_false (show ¬ (C.first : Int) + (h : Int) < (C.first : Int) + (p : Int) by omega)] at hl
    have HL := J hl
    clear hl
    go_wp2_with fail
    refine (HL.out _).mono ?_
    rintro e w' ⟨rfl, rfl⟩
    go_wp2
    go_round
    case rel => exact ⟨i, h, hi, by omega, by omega, rfl, rfl⟩
    case measure => simp [intOf]; omega
  ·obtain rfl : i = j := by omega
   obtain rfl : i = p := by omega
   have g1 := HC.out i hp
   have hiN : (i : Int) < (N : Int) := by omega
   have heq : (((C.first : Int) + (i : Int)) == ((C.first : Int) + (i : Int))) = true := by simp
   go_wp2
   refine bodyPost_ret (v := .tuple #[.int .i64 (i : Int), .bool true]) (by simp [results, Tryz.results158, go_sem]) rfl ⟨rfl, rfl⟩
end LpS
namespace LpC
open Go.RowKit Base Mem MemF GiveM Blk LvQ LvO LvT LvW LvF LvG LpS
set_option maxHeartbeats 2000000 in
theorem chanceI_d {n p : Nat} {C : Cnt} {v : Value} (hC : C.ok n) (hp : p < C.many) (hn : n ≤ 50) (w : World) (hv : LawIs C n w v) :
  Calls Tryz.prog 97 #[v, .int .i64 ((C.first + p : Nat) : Int)] w fun e w' => e = .returned (.agg #[.int .i64 (nD n (C.c p)), .int .i64 (dD n (C.c p))]) ∧ Below w.heap.size w w' := by
 obtain ⟨A, c, A', c', rfl, hx, hy⟩ := hv
 have hN60 : C.many ≤ 51 := by have := hC.2.1; omega
 obtain ⟨W2, hW2⟩ : ∃ W2, W2 = (w.alloc (.cells #[.slice A C.many c, .slice A' C.many c'] 60)).alloc (.cells #[.int .i64 0, .int .i64 0] 49) := ⟨_, rfl⟩
 have b2 : Below w.heap.size w W2 := by rw [hW2]; exact ((Below.refl _ _).alloc (Nat.le_refl _) _).alloc (by simp) _
 have KL : Blk W2 w.heap.size 60 #[.slice A C.many c, .slice A' C.many c'] := by rw [hW2]; exact (Blk.new w _ _).alloc _
 have KR : Blk W2 (w.heap.size + 1) 49 #[.int .i64 0, .int .i64 0] := by rw [hW2]; exact Blk.newAt _ _ (by simp)
 have HS := J (search_d (c := c) hC.1 hp (by omega) W2 (hx.below b2 (Nat.le_refl _)))
 obtain ⟨fb, fo, rfl, hfb, g1, g2⟩ := rdD (hy.below b2 (Nat.le_refl _)) hp
 have HW := J hW2
 have d0 := KL.at 0 (v := .slice A C.many c) rfl
 have d1 := KL.at 1 (v := .slice (some ⟨fb, fo, none⟩) C.many c') rfl
 have r0 := KR.at 0 (v := .int .i64 0) rfl
 have r1 := KR.at 1 (v := .int .i64 0) rfl
 have f0 := KR.frz 0
 have f1 := KR.frz 1
 have SS := (KR.setTo 0 (.int .i64 (nD n (C.c p))) rfl).setTo 1 (.int .i64 (dD n (C.c p))) rfl
 have k0 := SS.at 0 (v := .int .i64 (nD n (C.c p))) rfl
 have k1 := SS.at 1 (v := .int .i64 (dD n (C.c p))) rfl
 have HBF := J ((b2.setCell (p := ⟨w.heap.size + 1, 0, none⟩) (Nat.le_succ _) (.int .i64 (nD n (C.c p)))).setCell (p := ⟨w.heap.size + 1, 1, none⟩) (Nat.le_succ _) (.int .i64 (dD n (C.c p))))
 have hpN : (p : Int) < (C.many : Int) := by omega
 generalize nD n (C.c p) = x1 at *
 generalize dD n (C.c p) = x2 at *
 rw [show ((C.first + p : Nat) : Int) = (C.first : Int) + (p : Int) by simp] at HS ⊢
 generalize (C.first : Int) + (p : Int) = vv at *
 generalize C.many = N at *
 clear hC hx hy hW2 b2 KL KR SS
 go_enter Tryz.func97, Tryz.ntmps97
 go_wp2_with fail
 rw [← HW.out]
 refine HS.out.mono ?_
 rintro e w' ⟨rfl, rfl⟩
 clear HS HW
 go_wp2
 refine bodyPost_ret (v := .agg #[.int .i64 x1, .int .i64 x2]) (by simp [results, Tryz.results97, go_sem, k0, k1]) rfl ⟨rfl, HBF.out⟩
end LpC
namespace LpK
open Go.RowKit Base Mem MemF GiveM NatM RatM Ratio Blk LvQ LvO LvT LvW LvF LvG
theorem isRtM (q : Rat) : Rel.Mono (fun v w => IsRt w q v) := fun v w w' h hb => h.below hb
theorem dy_sz {n x : Nat} (hx : x ≤ 2 ^ n) (hn : n ≤ 50) : szR (dy n x) ≤ 200000 := by
 obtain ⟨h1, h2⟩ := small_true (dy_small hx hn)
 have g1 : (natL (dy n x).num.natAbs).length ≤ 2 := natL_len_le (k := 2) (Nat.lt_of_le_of_lt h1 (by decide))
 have g2 : (natL (dy n x).den).length ≤ 2 := natL_len_le (k := 2) (Nat.lt_of_le_of_lt h2 (by decide))
 unfold szR
 omega
theorem rof_d {n x : Nat} (hx : x ≤ 2 ^ n) (hn : n ≤ 50) (w : World) : Calls Tryz.prog 96 #[.agg #[.int .i64 (nD n x), .int .i64 (dD n x)]] w (RV (dy n x) w) := by
 obtain ⟨h1, h2⟩ := small_true (dy_small hx hn)
 obtain ⟨e1, e2⟩ := dy_numQ hx hn
 obtain ⟨_, _, e3⟩ := (dy_vf hx hn).num
 rw [qf_self] at e3
 unfold nD dD
 rw [e1, e2]
 have h := ratioOf_any (dy n x).num ((dy n x).den : Int) h1 (by omega) (by omega) w
 rw [Int.toNat_natCast, ← e3] at h
 exact h
theorem cmp_le {n x y : Nat} (h : x ≤ y) : cmpQ (dy n x) (dy n y) = -1 ∨ cmpQ (dy n x) (dy n y) = 0 := by
 unfold cmpQ
 rcases Nat.lt_or_ge x y with h1 | h1
 ·have := dy_lt (n := n) h1
  rw [if_neg (fun e => by grind), if_pos this]; exact .inl rfl
 ·rw [if_pos (by rw [show x = y by omega])]; exact .inr rfl
theorem cmp_gt {n x y : Nat} (h : ¬ x ≤ y) : cmpQ (dy n x) (dy n y) = 1 := by
 have := dy_lt (n := n) (Nat.not_le.1 h)
 unfold cmpQ
 rw [if_neg (fun e => by grind), if_neg (by grind)]
set_option maxHeartbeats 2000000 in
set_option maxRecDepth 100000 in
theorem close_d {n i y lb mb : Nat} {A A' : Option Addr} {c c' : Nat} {C : Cnt} {s : Bool} {A1 A2 : Option Addr} {k1 c1 k2 c2 : Nat} (hC : C.ok n) (hi : i < C.many) (hn : n ≤ 50) (hy : y ≤ 2 ^ n) (w : World)
  (KL0 : Blk w lb 60 #[.slice A C.many c, .slice A' C.many c']) (hf : RdF w w.heap.size A' C.many (outF (fD C n) C.many)) (KM0 : Blk w mb 147 #[.bool s, .slice A1 k1 c1, .slice A2 k2 c2]) (hm : IsRt w (dy n y) (.agg #[.bool s, .slice A1 k1 c1, .slice A2 k2 c2])) :
  Calls Tryz.prog 99 #[.int .i64 (i : Int), .pointer (some ⟨lb, 0, none⟩), .pointer (some ⟨mb, 0, none⟩)] w fun e w' => e = .returned (.bool (decide (C.c i ≤ y))) ∧ Below w.heap.size w w' := by
 have hx := Cnt.one_le hC hi
 have hN60 : C.many ≤ 51 := by have := hC.2.1; omega
 obtain ⟨fb, fo, rfl, hfb, g1, g2⟩ := rdD hf hi
 have HRO := J (fun W => rof_d hx hn W)
 have KL := J KL0
 have KM := J KM0
 have HM := J hm
 have HZ := J (And.intro (dy_sz hx hn) (dy_sz hy hn))
 have hcr : ∃ r : Int, cmpQ (dy n (C.c i)) (dy n y) = r ∧ (r = -1 ∨ r = 0 ∨ r = 1) ∧ (decide (r ≤ 0) = decide (C.c i ≤ y)) := by
  by_cases h : C.c i ≤ y
  ·rcases cmp_le (n := n) h with e | e
   ·exact ⟨_, e, .inl rfl, by rw [decide_eq_true h]; rfl⟩
   ·exact ⟨_, e, .inr (.inl rfl), by rw [decide_eq_true h]; rfl⟩
  ·exact ⟨_, cmp_gt h, .inr (.inr rfl), by rw [decide_eq_false h]; rfl⟩
 obtain ⟨r, hr, hr3, hrd⟩ := hcr
 have HR := J hr
 have HRD := J (And.intro hr3 hrd)
 have hiN : (i : Int) < (C.many : Int) := by omega
 generalize dy n (C.c i) = q at *
 generalize dy n y = q2 at *
 generalize nD n (C.c i) = x1 at *
 generalize dD n (C.c i) = x2 at *
 generalize C.many = N at *
 clear hC hx hf hm KL0 KM0 hr hr3 hrd
 go_enter Tryz.func99, Tryz.ntmps99
 go_wp2_with fail
 refine Rel.wp_region_rel 8 (by kernel_rfl) (by kernel_rfl) (fun F hF => ?_)
 simp only [List.take_succ_cons, List.take_zero, List.drop_succ_cons, List.drop_zero, Rel.putL] at hF ⊢
 have HF := J hF
 clear hF
 have uv := @Rel.upon_value Tryz.prog
 have ue := @Rel.upon_enter Tryz.prog
 apply Rel.rel_pure
 apply Exists.intro
 refine ⟨fun vs wq hq hdp R hR => ?_, ?_⟩
 ·(rw [HF.out, Rel.stepAt_eq]; clear hdp; skip; go_simp; exact hR)
 apply Rel.rel_pure
 apply Exists.intro
 refine ⟨fun vs wq hq hdp R hR => ?_, ?_⟩
 ·(rw [HF.out, Rel.stepAt_eq]; have qd0 : vs 0 = _ := Rel.dep hdp 0 (by kernel_rfl); clear hdp; have x1 := (KL.out.belowS hq).at 1 (v := .slice (some ⟨fb, fo, none⟩) N c') rfl; go_simp; exact hR)
 apply Rel.rel_pure
 apply Exists.intro
 refine ⟨fun vs wq hq hdp R hR => ?_, ?_⟩
 ·(rw [HF.out, Rel.stepAt_eq]; clear hdp; skip; go_simp; exact hR)
 apply Rel.rel_pure
 apply Exists.intro
 refine ⟨fun vs wq hq hdp R hR => ?_, ?_⟩
 ·(rw [HF.out, Rel.stepAt_eq]; have qd1 : vs 1 = _ := Rel.dep hdp 1 (by kernel_rfl); have qd2 : vs 2 = _ := Rel.dep hdp 2 (by kernel_rfl); clear hdp; skip; go_simp; exact hR)
 apply Rel.rel_pure
 apply Exists.intro
 refine ⟨fun vs wq hq hdp R hR => ?_, ?_⟩
 ·(rw [HF.out, Rel.stepAt_eq]; have qd3 : vs 3 = _ := Rel.dep hdp 3 (by kernel_rfl); clear hdp; have y0 := (hq.cell (p := ⟨fb, fo + i * 2, none⟩) hfb).trans g1; have y1 := (hq.cell (p := ⟨fb, fo + i * 2 + 1, none⟩) hfb).trans g2; go_simp; exact hR)
 refine Rel.rel_law (S := fun v w' => IsRt w' q v) (isRtM q) (fun vs wq hq hdp => ?_) ?_
 ·(rw [HF.out, Rel.stepAt_eq]; have qd4 : vs 4 = _ := Rel.dep hdp 4 (by kernel_rfl); clear hdp; skip; go_simp; refine (HRO.out _).mono ?_; rintro e w7 h; obtain ⟨v, rfl, hv, hb⟩ := h.is; exact ⟨_, rfl, hv, hb⟩)
 apply Rel.rel_pure
 apply Exists.intro
 refine ⟨fun vs wq hq hdp R hR => ?_, ?_⟩
 ·(rw [HF.out, Rel.stepAt_eq]; clear hdp; have x0 := (KM.out.belowS hq).at 0 (v := .bool s) rfl; have x1 := (KM.out.belowS hq).at 1 (v := .slice A1 k1 c1) rfl; have x2 := (KM.out.belowS hq).at 2 (v := .slice A2 k2 c2) rfl; go_simp; exact hR)
 apply Rel.rel_same
 apply Exists.intro
 refine ⟨fun vs wq hq hdp => ?_, ?_⟩
 ·(rw [HF.out, Rel.stepAt_eq]; have qd5 : IsRt wq q (vs 5) := Rel.dep hdp 5 (by kernel_rfl); have qd6 : vs 6 = _ := Rel.dep hdp 6 (by kernel_rfl); clear hdp; skip; go_simp; refine (ratCompare wq qd5 (HM.out.below hq) HZ.out.1 HZ.out.2).mono ?_; rintro e w7 ⟨rfl, hb⟩; exact ⟨_, rfl, rfl, hb⟩)
 refine Rel.rel_end (fun vs wq hq hall => ?_)
 rw [HF.out]
 have qe0 : vs 0 = _ := Rel.fin hall 0 (by decide)
 have qe1 : vs 1 = _ := Rel.fin hall 1 (by decide)
 have qe2 : vs 2 = _ := Rel.fin hall 2 (by decide)
 have qe3 : vs 3 = _ := Rel.fin hall 3 (by decide)
 have qe4 : vs 4 = _ := Rel.fin hall 4 (by decide)
 have qe5 : IsRt wq q (vs 5) := Rel.fin hall 5 (by decide)
 have qe6 : vs 6 = _ := Rel.fin hall 6 (by decide)
 have qe7 : vs 7 = _ := Rel.fin hall 7 (by decide)
 clear hall HF uv ue
 have ev : vs 7 = .int .i64 r := by rw [qe7, HR.out]
 have HB := J hq
 clear qe0 qe1 qe2 qe3 qe4 qe5 qe6 qe7 hq
 rcases HRD.out.1 with e | e | e
 all_goals
  subst e
  go_wp2
  go_ret
  exact ⟨by rw [← HRD.out.2]; rfl, HB.out⟩
end LpK
namespace LpO
open Go.RowKit Base Mem MemF GiveM NatM Nat32 RatM Ratio LvQ LvO LvT LvW LvF LvG LpK
open Blk (Blk)
open YtgipnbeipfhekaaGreatDoor.Inv (not_slice not_bool)
def p3 (w : World) (b : Nat) (v0 v1 v2 : Value) : World := ((w.setCell ⟨b, 0, none⟩ v0).setCell ⟨b, 1, none⟩ v1).setCell ⟨b, 2, none⟩ v2
theorem p3_blk {w : World} {b : Nat} {t : TypeId} {u0 u1 u2 : Value} (K : Blk w b t #[u0, u1, u2]) (v0 v1 v2 : Value) : Blk (p3 w b v0 v1 v2) b t #[v0, v1, v2] := ((K.setTo 0 v0 rfl).setTo 1 v1 rfl).setTo 2 v2 rfl
theorem p3_other {w : World} {b b' : Nat} {t : TypeId} {cs : Array Value} (K : Blk w b' t cs) (hne : b ≠ b') (v0 v1 v2 : Value) : Blk (p3 w b v0 v1 v2) b' t cs := ((K.other v0 hne).other v1 hne).other v2 hne
theorem p3_below {w0 w : World} {b B : Nat} (h : Below B w0 w) (hb : B ≤ b) (v0 v1 v2 : Value) : Below B w0 (p3 w b v0 v1 v2) := ((h.setCell (p := ⟨b, 0, none⟩) hb v0).setCell (p := ⟨b, 1, none⟩) hb v1).setCell (p := ⟨b, 2, none⟩) hb v2
theorem rdUp3 {w : World} {A : Option Addr} {xs : List Nat} {b : Nat} {t : TypeId} {s : Bool} {A1 A2 : Option Addr} {k1 c1 k2 c2 : Nat} (h : RdU w w.heap.size A xs) (K : Blk w b t #[.bool s, .slice A1 k1 c1, .slice A2 k2 c2]) (v0 v1 v2 : Value) : RdU (p3 w b v0 v1 v2) (p3 w b v0 v1 v2).heap.size A xs := by
 have e : (p3 w b v0 v1 v2).heap.size = w.heap.size := by simp [p3]
 rw [e]
 have K0 := K.setTo 0 v0 rfl
 have K1 := K0.setTo 1 v1 rfl
 exact ((h.non (K.at 0 (v := .bool s) rfl) (not_bool _) _).non (K0.at 1 (v := .slice A1 k1 c1) rfl) (not_slice _ _ _) _).non (K1.at 2 (v := .slice A2 k2 c2) rfl) (not_slice _ _ _) _
theorem isRtp3 {w : World} {q : Rat} {v : Value} {b : Nat} {t : TypeId} {s : Bool} {A1 A2 : Option Addr} {k1 c1 k2 c2 : Nat} (h : IsRt w q v) (K : Blk w b t #[.bool s, .slice A1 k1 c1, .slice A2 k2 c2]) (v0 v1 v2 : Value) : IsRt (p3 w b v0 v1 v2) q v := by
 obtain ⟨A, c, A', c', e, h1, h2⟩ := h
 exact ⟨A, c, A', c', e, rdUp3 h1 K _ _ _, rdUp3 h2 K _ _ _⟩
theorem isRt_open {w : World} {q : Rat} {v : Value} (h : IsRt w q v) : ∃ s A1 k1 c1 A2 k2 c2, v = .agg #[.bool s, .slice A1 k1 c1, .slice A2 k2 c2] ∧ IsRt w q (.agg #[.bool s, .slice A1 k1 c1, .slice A2 k2 c2]) := by
 have h' := h
 obtain ⟨A, c, A', c', e, _, _⟩ := h
 rw [e] at h'
 exact ⟨_, A, _, c, A', _, c', e, h'⟩
def SoRel (C : Cnt) (n y b6 : Nat) (vl1 vl2 : Value) (w : World) (iv : Value) (wr : World) : Prop :=
 ∃ (i : Nat) (s : Bool) (A1 : Option Addr) (k1 c1 : Nat) (A2 : Option Addr) (k2 c2 : Nat), i ≤ C.many ∧ iv = .int .i64 (i : Int) ∧ Hid (Blk wr b6 147 #[.bool s, .slice A1 k1 c1, .slice A2 k2 c2]) ∧ Hid (IsRt wr (dy n (upS C y i)) (.agg #[.bool s, .slice A1 k1 c1, .slice A2 k2 c2])) ∧ Hid (Blk wr (w.heap.size + 1) 49 #[.int .i64 0, .int .i64 0]) ∧ Hid (Below w.heap.size w wr)
set_option maxHeartbeats 4000000 in
set_option maxRecDepth 100000 in
theorem sumOver_d {n y lb mb : Nat} {A A' B1 B1' : Option Addr} {c c' e1 e1' : Nat} {C : Cnt} {s0 : Bool} {M1 M2 : Option Addr} {m1 l1 m2 l2 : Nat} (hC : C.ok n) (hn : n ≤ 50) (hy : y ≤ 2 ^ n) (w : World) (hyy : RdF w w.heap.size A' C.many (outF (fD C n) C.many))
  (KL0 : Blk w lb 60 #[.slice B1 C.many e1, .slice B1' C.many e1']) (hf : RdF w w.heap.size B1' C.many (outF (fD C n) C.many)) (KM0 : Blk w mb 147 #[.bool s0, .slice M1 m1 l1, .slice M2 m2 l2]) (hm : IsRt w (dy n y) (.agg #[.bool s0, .slice M1 m1 l1, .slice M2 m2 l2])) :
  Calls Tryz.prog 98 #[.agg #[.slice A C.many c, .slice A' C.many c'], .func (Fn.func 99) #[] #[.pointer (some ⟨lb, 0, none⟩), .pointer (some ⟨mb, 0, none⟩)]] w fun e w' => e = .returned (.tuple #[.agg #[.int .i64 (nD n (upS C y C.many)), .int .i64 (dD n (upS C y C.many))], .bool true]) ∧ Below w.heap.size w w' := by
 have hN60 : C.many ≤ 51 := by have := hC.2.1; omega
 have HCl := J (fun i (hi : i < C.many) W (hW : Below w.heap.size w W) => close_d (c := e1) hC hi hn hy W (KL0.belowS hW) ((hf.below hW (Nat.le_refl _)).more hW.size) (KM0.belowS hW) (hm.below hW))
 have HWh := J (fun W => whole_any 0 (by decide) W)
 obtain ⟨W2, hW2⟩ : ∃ W2, W2 = (w.alloc (.cells #[.slice A C.many c, .slice A' C.many c'] 60)).alloc (.cells #[.int .i64 0, .int .i64 0] 49) := ⟨_, rfl⟩
 have b2 : Below w.heap.size w W2 := by rw [hW2]; exact ((Below.refl _ _).alloc (Nat.le_refl _) _).alloc (by simp) _
 have KL : Hid (Blk W2 w.heap.size 60 #[.slice A C.many c, .slice A' C.many c']) := J (by rw [hW2]; exact (Blk.new w _ _).alloc _)
 have KR : Hid (Blk W2 (w.heap.size + 1) 49 #[.int .i64 0, .int .i64 0]) := J (by rw [hW2]; exact Blk.newAt _ _ (by simp))
 have HB := J b2
 have HW := J hW2
 have HY := J hyy
 have HC := J hC
 clear KL0 hf KM0 hm b2 hW2 hyy hC
 go_enter Tryz.func98, Tryz.ntmps98
 go_wp2_with fail
 rw [← HW.out]
 refine (HWh.out _).mono ?_
 rintro e w3 h
 obtain ⟨v, rfl, hv3, hb3⟩ := (RV.of_zero h).is
 obtain ⟨s, A1, k1, c1, A2, k2, c2, rfl, hI⟩ := isRt_open hv3
 have hlo : Hid (w.heap.size + 1 < w3.heap.size) := J (by have := KR.out.lt; have := hb3.size; omega)
 have B3 := Base.Below.nextA HB.out hb3
 have H0 : Hid (SoRel C n y w3.heap.size (.slice A C.many c) (.slice A' C.many c') w (.int .i64 0) (w3.alloc (.cells #[.bool s, .slice A1 k1 c1, .slice A2 k2 c2] 147))) := J (by
  refine ⟨0, s, A1, k1, c1, A2, k2, c2, Nat.zero_le _, rfl, J (Blk.new w3 _ _), J ?_, J ((KR.out.belowS hb3).alloc _), J (B3.alloc B3.size _)⟩
  rw [upS_zero, dy_zero]
  exact hI.below ((Below.refl _ _).alloc (Nat.le_refl _) _))
 have KL3 := (KL.out.belowS hb3).alloc (.cells #[.bool s, .slice A1 k1 c1, .slice A2 k2 c2] 147)
 have d1 := KL3.at 1 (v := .slice A' C.many c') rfl
 have d1' := (KL.out.belowS hb3).at 1 (v := .slice A' C.many c') rfl
 have hl3 := (KL.out.belowS hb3).lt
 clear hv3 hI h hb3 B3 KL3 HWh HW KR
 go_wp2
 go_loopw [13] (fun iv wr => SoRel C n y w3.heap.size (.slice A C.many c) (.slice A' C.many c') w iv wr) (fun iv _ => C.many - (intOf iv).toNat)
 case atStart => exact H0.out
 case round =>
  obtain ⟨i, s, A1, k1, c1, A2, k2, c2, hi, rfl, KS, HS, KR, HBr⟩ := hrel
  obtain ⟨wp, rfl⟩ : ∃ x, x = wr := ⟨_, rfl⟩
  clear H0 d1 d1' hl3
  by_cases hlt : i < C.many
  ·obtain ⟨fb, fo, eA, hfb, g1, g2⟩ := rdD (HY.out.below HBr.out (Nat.le_refl _)) hlt
   subst eA
   have hx := Cnt.one_le HC.out hlt
   have hu := upS_le HC.out y (k := i) (by omega)
   have HRO := J (fun W => rof_d hx hn W)
   have hfw : Below wp.heap.size wp (wp.alloc (.cells #[.int .i64 (nD n (C.c i)), .int .i64 (dD n (C.c i))] 49)) := (Below.refl _ _).alloc (Nat.le_refl _) _
   have HCi := J (HCl.out i hlt _ (Base.Below.nextA HBr.out hfw))
   have KF0 := J (Blk.new wp 49 #[.int .i64 (nD n (C.c i)), .int .i64 (dD n (C.c i))])
   have HF1 := J hfw
   have HSz := J (And.intro (dy_sz hu hn) (dy_sz hx hn))
   have HPl0 : Hid (∀ W u v, IsRt W (dy n (upS C y i)) u → IsRt W (dy n (C.c i)) v → Calls Tryz.prog 160 #[u, v] W (RV (dy n (upS C y i + C.c i)) W)) := J fun W u v h1 h2 => by
    have := ratPlus W h1 h2 HSz.out.1 HSz.out.2
    rwa [dy_add] at this
   clear hfw hx hu
   by_cases hle : C.c i ≤ y
   ·rw [decide_eq_true hle] at HCi
    rw [← upS_yes hle] at HPl0
    have HN : Hid (∀ s A1 k1 c1 A2 k2 c2 w5, Blk w5 w3.heap.size 147 #[.bool s, .slice A1 k1 c1, .slice A2 k2 c2] → IsRt w5 (dy n (upS C y (i + 1))) (.agg #[.bool s, .slice A1 k1 c1, .slice A2 k2 c2]) → Blk w5 (w.heap.size + 1) 49 #[.int .i64 0, .int .i64 0] → Below w.heap.size w w5 → SoRel C n y w3.heap.size (.slice A C.many c) (.slice (some ⟨fb, fo, none⟩) C.many c') w (.int .i64 ((i : Int) + 1)) w5) := J fun s A1 k1 c1 A2 k2 c2 w5 h1 h2 h3 h4 => ⟨i + 1, s, A1, k1, c1, A2, k2, c2, hlt, by simp, J h1, J h2, J h3, J h4⟩
    have HPl := HPl0
    clear HPl0 hle
    generalize dy n (upS C y (i + 1)) = qn at *
    generalize dy n (upS C y i) = qc at *
    generalize dy n (C.c i) = q at *
    generalize nD n (C.c i) = x1 at *
    generalize dD n (C.c i) = x2 at *
    go_wp2_with fail
    refine HCi.out.mono ?_
    rintro e w4 ⟨rfl, hb4⟩
    have hb5 := Base.Below.nextA HF1.out hb4
    have KF := J (KF0.out.belowS hb4)
    replace KS := J (KS.out.belowS hb5)
    replace HS := J (HS.out.below hb5)
    replace KR := J (KR.out.belowS hb5)
    replace HBr := J (Base.Below.nextA HBr.out hb5)
    clear hb4 hb5 KF0 HF1 HCi g1 g2
    go_wp2_with fail
    refine Rel.wp_region_rel 4 (by kernel_rfl) (by kernel_rfl) (fun F hF => ?_)
    simp only [List.take_succ_cons, List.take_zero, List.drop_succ_cons, List.drop_zero, Rel.putL] at hF ⊢
    have HF := J hF
    clear hF
    have uv := @Rel.upon_value Tryz.prog
    have ue := @Rel.upon_enter Tryz.prog
    apply Rel.rel_pure
    apply Exists.intro
    refine ⟨fun vs wq hq hdp R hR => ?_, ?_⟩
    ·(rw [HF.out, Rel.stepAt_eq]; clear hdp; have x0 := (KS.out.belowS hq).at 0 (v := .bool s) rfl; have x1 := (KS.out.belowS hq).at 1 (v := .slice A1 k1 c1) rfl; have x2 := (KS.out.belowS hq).at 2 (v := .slice A2 k2 c2) rfl; go_simp; exact hR)
    apply Rel.rel_pure
    apply Exists.intro
    refine ⟨fun vs wq hq hdp R hR => ?_, ?_⟩
    ·(rw [HF.out, Rel.stepAt_eq]; clear hdp; have y0 := (KF.out.belowS hq).at 0 (v := .int .i64 x1) rfl; have y1 := (KF.out.belowS hq).at 1 (v := .int .i64 x2) rfl; go_simp; exact hR)
    refine Rel.rel_law (S := fun v w' => IsRt w' q v) (isRtM q) (fun vs wq hq hdp => ?_) ?_
    ·(rw [HF.out, Rel.stepAt_eq]; have qd1 : vs 1 = _ := Rel.dep hdp 1 (by kernel_rfl); clear hdp; skip; go_simp; refine (HRO.out _).mono ?_; rintro e w7 h; obtain ⟨v, rfl, hv, hb⟩ := h.is; exact ⟨_, rfl, hv, hb⟩)
    refine Rel.rel_law (S := fun v w' => IsRt w' qn v) (isRtM qn) (fun vs wq hq hdp => ?_) ?_
    ·(rw [HF.out, Rel.stepAt_eq]; have qd0 : vs 0 = _ := Rel.dep hdp 0 (by kernel_rfl); have qd2 : IsRt wq q (vs 2) := Rel.dep hdp 2 (by kernel_rfl); clear hdp; skip; go_simp; refine (HPl.out wq _ _ (HS.out.below hq) qd2).mono ?_; rintro e w7 h; obtain ⟨v, rfl, hv, hb⟩ := h.is; exact ⟨_, rfl, hv, hb⟩)
    refine Rel.rel_end (fun vs wq hq hall => ?_)
    rw [HF.out]
    have qe0 : vs 0 = _ := Rel.fin hall 0 (by decide)
    have qe1 : vs 1 = _ := Rel.fin hall 1 (by decide)
    have qe2 : IsRt wq q (vs 2) := Rel.fin hall 2 (by decide)
    have qe3 : IsRt wq qn (vs 3) := Rel.fin hall 3 (by decide)
    clear hall HF uv ue
    obtain ⟨s', B1', j1', e1', B2', j2', e2', ev, hI⟩ := isRt_open qe3
    have KSq := KS.out.belowS hq
    have HN2 := J (HN.out s' B1' j1' e1' B2' j2' e2' _ (p3_blk KSq _ _ _) (isRtp3 hI KSq _ _ _) (p3_other (KR.out.belowS hq) (Nat.ne_of_gt hlo.out) _ _ _) (p3_below (Base.Below.nextA HBr.out hq) (by have := hlo.out; omega) _ _ _))
    unfold p3 at HN2
    have z0 := KSq.frz 0
    have z1 := KSq.frz 1
    have z2 := KSq.frz 2
    have c0 := KSq.at 0 (v := .bool s) rfl
    have c1 := KSq.at 1 (v := .slice A1 k1 c1) rfl
    have c2 := KSq.at 2 (v := .slice A2 k2 c2) rfl
    clear hq hI KSq KS HS KR HBr KF HN HPl HRO qe3
    go_wp2
    go_roundw
    case rel => exact HN2.out
    case measure => simp [intOf]; omega
   ·rw [decide_eq_false hle] at HCi
    have hb0 := upS_no hle
    generalize nD n (C.c i) = x1 at *
    generalize dD n (C.c i) = x2 at *
    go_wp2_with fail
    refine HCi.out.mono ?_
    rintro e w4 ⟨rfl, hb4⟩
    have hb5 := Base.Below.nextA HF1.out hb4
    have HN : Hid (SoRel C n y w3.heap.size (.slice A C.many c) (.slice (some ⟨fb, fo, none⟩) C.many c') w (.int .i64 ((i : Int) + 1)) w4) := J ⟨i + 1, s, A1, k1, c1, A2, k2, c2, hlt, by simp, J (KS.out.belowS hb5), J (by rw [hb0]; exact HS.out.below hb5), J (KR.out.belowS hb5), J (Base.Below.nextA HBr.out hb5)⟩
    clear hb4 hb5 KF0 HF1 HCi g1 g2 hb0 HPl0 HRO
    go_wp2
    go_roundw
    case rel => exact HN.out
    case measure => simp [intOf]; omega
  ·obtain rfl : i = C.many := by omega
   have HFr := J (ratFraction wp HS.out)
   rw [(dy_numQ (upS_le HC.out y (Nat.le_refl _)) hn).1, (dy_numQ (upS_le HC.out y (Nat.le_refl _)) hn).2, ← (dy_numQ (upS_le HC.out y (Nat.le_refl _)) hn).1, ← (dy_numQ (upS_le HC.out y (Nat.le_refl _)) hn).2, dy_small (upS_le HC.out y (Nat.le_refl _)) hn] at HFr
   obtain ⟨P, hP⟩ : ∃ P, P = nD n (upS C y C.many) := ⟨_, rfl⟩
   obtain ⟨Q, hQ⟩ : ∃ Q, Q = dD n (upS C y C.many) := ⟨_, rfl⟩
   unfold nD at hP
   unfold dD at hQ
   rw [← hP, ← hQ] at HFr
   have HPQ := J (And.intro hP hQ)
   have x0 := KS.out.at 0 (v := .bool s) rfl
   have x1 := KS.out.at 1 (v := .slice A1 k1 c1) rfl
   have x2 := KS.out.at 2 (v := .slice A2 k2 c2) rfl
   clear hP hQ
   go_wp2_with fail
   refine HFr.out.mono ?_
   rintro e w8 ⟨rfl, hb8⟩
   have KR8 := KR.out.belowS hb8
   have HB8 := J (Base.Below.nextA HBr.out hb8)
   have r0 := KR8.at 0 (v := .int .i64 0) rfl
   have r1 := KR8.at 1 (v := .int .i64 0) rfl
   have f0 := KR8.frz 0
   have f1 := KR8.frz 1
   have SS := (KR8.setTo 0 (.int .i64 P) rfl).setTo 1 (.int .i64 Q) rfl
   have k0 := SS.at 0 (v := .int .i64 P) rfl
   have k1 := SS.at 1 (v := .int .i64 Q) rfl
   clear SS KR8 hb8 KS KR HS HFr x0 x1 x2
   go_wp2
   refine bodyPost_ret (v := .tuple #[.agg #[.int .i64 P, .int .i64 Q], .bool true]) (by simp [results, Tryz.results98, go_sem, k0, k1]) rfl ⟨by rw [HPQ.out.1, HPQ.out.2]; rfl, (HB8.out.setCell (p := ⟨w.heap.size + 1, 0, none⟩) (Nat.le_succ _) _).setCell (p := ⟨w.heap.size + 1, 1, none⟩) (Nat.le_succ _) _⟩
end LpO
namespace LpL
open Go.RowKit Base Mem MemF GiveM RatM Ratio LvQ LvO LvT LvW LvF LvG LpK LpO
open Blk (Blk)
set_option maxHeartbeats 2000000 in
set_option maxRecDepth 100000 in
theorem levelI_d {n p : Nat} {C : Cnt} {v : Value} (hC : C.ok n) (hp : p < C.many) (hn : n ≤ 50) (w : World) (hv : LawIs C n w v) :
  Calls Tryz.prog 51 #[v, .int .i64 ((C.first + p : Nat) : Int)] w fun e w' => e = .returned (.tuple #[.agg #[.int .i64 (nD n (upS C (C.c p) C.many)), .int .i64 (dD n (upS C (C.c p) C.many))], .bool true]) ∧ Below w.heap.size w w' := by
 have hv0 := hv
 obtain ⟨A, c, A', c', rfl, hx, hy⟩ := hv
 obtain ⟨W2, hW2⟩ : ∃ W2, W2 = (w.alloc (.cells #[.slice A C.many c, .slice A' C.many c'] 60)).alloc (.cells #[.int .i64 0, .int .i64 0] 49) := ⟨_, rfl⟩
 have b2 : Below w.heap.size w W2 := by rw [hW2]; exact ((Below.refl _ _).alloc (Nat.le_refl _) _).alloc (by simp) _
 have KL : Hid (Blk W2 w.heap.size 60 #[.slice A C.many c, .slice A' C.many c']) := J (by rw [hW2]; exact (Blk.Blk.new w _ _).alloc _)
 have KR : Hid (Blk W2 (w.heap.size + 1) 49 #[.int .i64 0, .int .i64 0]) := J (by rw [hW2]; exact Blk.Blk.newAt _ _ (by simp))
 have HB := J b2
 have HW := J hW2
 have HCh := J (LpC.chanceI_d hC hp hn W2 (hv0.below b2))
 have HRO := J (fun W => rof_d (Cnt.one_le hC hp) hn W)
 have HF := J (hy.below b2 (Nat.le_refl _) |>.more b2.size)
 have HSO : Hid (∀ (W : World) (lb mb : Nat) (s : Bool) (M1 M2 : Option Addr) (m1 l1 m2 l2 : Nat), RdF W W.heap.size A' C.many (outF (fD C n) C.many) → Blk W lb 60 #[.slice A C.many c, .slice A' C.many c'] → Blk W mb 147 #[.bool s, .slice M1 m1 l1, .slice M2 m2 l2] → IsRt W (dy n (C.c p)) (.agg #[.bool s, .slice M1 m1 l1, .slice M2 m2 l2]) → Calls Tryz.prog 98 #[.agg #[.slice A C.many c, .slice A' C.many c'], .func (Fn.func 99) #[] #[.pointer (some ⟨lb, 0, none⟩), .pointer (some ⟨mb, 0, none⟩)]] W fun e w' => e = .returned (.tuple #[.agg #[.int .i64 (nD n (upS C (C.c p) C.many)), .int .i64 (dD n (upS C (C.c p) C.many))], .bool true]) ∧ Below W.heap.size W w') :=
  J fun W lb mb s M1 M2 m1 l1 m2 l2 h1 h2 h3 h4 => sumOver_d hC hn (Cnt.one_le hC hp) W h1 h2 h1 h3 h4
 have d0 := KL.out.at 0 (v := .slice A C.many c) rfl
 have d1 := KL.out.at 1 (v := .slice A' C.many c') rfl
 rw [show ((C.first + p : Nat) : Int) = (C.first : Int) + (p : Int) by simp] at HCh ⊢
 generalize (C.first : Int) + (p : Int) = vv at *
 generalize dy n (C.c p) = q at *
 generalize nD n (C.c p) = x1 at *
 generalize dD n (C.c p) = x2 at *
 generalize nD n (upS C (C.c p) C.many) = P at *
 generalize dD n (upS C (C.c p) C.many) = Q at *
 clear hC hx hy hv0 b2 hW2
 go_enter Tryz.func51, Tryz.ntmps51
 go_wp2_with fail
 rw [← HW.out]
 refine HCh.out.mono ?_
 rintro e w3 ⟨rfl, hb3⟩
 have KL3 := J (KL.out.belowS hb3)
 have KR3 := J (KR.out.belowS hb3)
 have HB3 := J (Base.Below.nextA HB.out hb3)
 have HF3 := J ((HF.out.below hb3 (Nat.le_refl _)).more hb3.size)
 clear hb3 HCh KL KR HB HF HW d0 d1
 go_wp2_with fail
 refine (HRO.out _).mono ?_
 rintro e w4 h
 obtain ⟨v, rfl, hv4, hb4⟩ := h.is
 obtain ⟨s, A1, k1, c1, A2, k2, c2, rfl, hI⟩ := isRt_open hv4
 obtain ⟨W5, hW5⟩ : ∃ W5, W5 = w4.alloc (.cells #[.bool s, .slice A1 k1 c1, .slice A2 k2 c2] 147) := ⟨_, rfl⟩
 have hb5 : Below w4.heap.size w4 W5 := by rw [hW5]; exact (Below.refl _ _).alloc (Nat.le_refl _) _
 have hb35 := Base.Below.nextA hb4 hb5
 have KL5 := J (KL3.out.belowS hb35)
 have KR5 := J (KR3.out.belowS hb35)
 have HB5 := J (Base.Below.nextA HB3.out hb35)
 have KM : Hid (Blk W5 w4.heap.size 147 #[.bool s, .slice A1 k1 c1, .slice A2 k2 c2]) := J (by rw [hW5]; exact Blk.Blk.new w4 _ _)
 have HS := J (HSO.out W5 w.heap.size w4.heap.size s A1 A2 k1 c1 k2 c2 ((HF3.out.below hb35 (Nat.le_refl _)).more hb35.size) KL5.out KM.out (hI.below hb5))
 have d0 := KL5.out.at 0 (v := .slice A C.many c) rfl
 have d1 := KL5.out.at 1 (v := .slice A' C.many c') rfl
 have HW5 := J hW5
 rw [hW5] at d0 d1
 clear h hv4 hI hb4 hb5 hb35 hW5 KL3 KR3 HB3 HF3 HSO HRO KM
 go_wp2_with fail
 rw [← HW5.out]
 refine HS.out.mono ?_
 rintro e w6 ⟨rfl, hb6⟩
 have KR6 := KR5.out.belowS hb6
 have HB6 := J (Base.Below.nextA HB5.out hb6)
 have r0 := KR6.at 0 (v := .int .i64 0) rfl
 have r1 := KR6.at 1 (v := .int .i64 0) rfl
 have f0 := KR6.frz 0
 have f1 := KR6.frz 1
 have SS := (KR6.setTo 0 (.int .i64 P) rfl).setTo 1 (.int .i64 Q) rfl
 have k0 := SS.at 0 (v := .int .i64 P) rfl
 have k1 := SS.at 1 (v := .int .i64 Q) rfl
 clear SS KR6 hb6 KL5 KR5 HS d0 d1 HW5
 go_wp2
 refine bodyPost_ret (v := .tuple #[.agg #[.int .i64 P, .int .i64 Q], .bool true]) (by simp [results, Tryz.results51, go_sem, k0, k1]) rfl ⟨rfl, (HB6.out.setCell (p := ⟨w.heap.size + 1, 0, none⟩) (Nat.le_succ _) _).setCell (p := ⟨w.heap.size + 1, 1, none⟩) (Nat.le_succ _) _⟩
end LpL
namespace LpR
open Go.RowKit Base Mem LvR LvO LvJ Dice
set_option maxHeartbeats 4000000 in
set_option maxRecDepth 100000 in
theorem runsI_d (s : ByteArray) (hs : s.size ≤ 400) (w : World) : Calls Tryz.prog 55 #[.string s] w (RunRet s w) := by
 obtain ⟨i0, hi, hz0, hz1, hz2⟩ := info_parts infoI
 have H0 : Hid (RnRel s w (.slice (some ⟨w.heap.size, 0, none⟩) 0 0) 0 (w.alloc (.cells #[] 2))) := J ⟨J (own_lit w (Nat.le_refl _) [] (by decide)), J ((Below.refl _ _).alloc (Nat.le_refl _) _)⟩
 go_enter Tryz.func55, Tryz.ntmps55
 go_wp2
 go_loopw [3, 8] (fun ov iv wr => ∃ i : Nat, i ≤ s.size ∧ iv = .int .i64 (i : Int) ∧ RnRel s w ov i wr) (fun _ iv _ => s.size - (intOf iv).toNat)
 case atStart => exact ⟨0, Nat.zero_le _, rfl, H0.out⟩
 case round =>
  obtain ⟨i, hi_, rfl, HO, HB⟩ := hrel
  obtain ⟨A, c, eA, _⟩ := HO.out.form
  subst eA
  obtain ⟨wp, rfl⟩ : ∃ x, x = wr := ⟨_, rfl⟩
  clear H0
  by_cases hlt : i < s.size
  ·have hsz := HB.out.size
   obtain ⟨hr1, hr2, hr3⟩ := runs_in (byt s) i
   have hst : runsTo (byt s) (i + 1) = bump (if newRun (byt s) i then runsTo (byt s) i ++ [0] else runsTo (byt s) i) := rfl
   have HST := J hst
   clear hst
   have HQ : Hid (∀ W, Below wp.heap.size wp W → OwnI W w.heap.size (.slice A (runsTo (byt s) i).length c) (runsTo (byt s) i) ∧ Below w.heap.size w W) := J fun W h => ⟨OwnI.below HO.out h, HB.out.trans (h.mono hsz)⟩
   cases hn : newRun (byt s) i with
   | true =>
    rw [hn] at HST
    have hlt1 : (i : Int) < (s.size : Int) := by omega
    generalize runsTo (byt s) i = xs at *
    rcases Nat.eq_zero_or_pos i with h0 | h0
    ·subst h0
     clear hn hr3
     go_wp2
     (refine wp_region_below (by kernel_rfl) (by kernel_rfl) ?_; (repeat (with_reducible refine wpQuiet_step (fun K hK => ?_); go_simp; first | (with_reducible refine hK _ ?_; clear hK K) | (apply Exists.intro; refine ⟨fun wq hq => ?_, hK _ ?_⟩; (first | rfl | (skip; first | (go_simp; done) | (go_simp; rfl) | fail)); clear hK K))); with_reducible refine wpQuiet_nil ?_; intro wq hq)
     obtain ⟨o7, b7⟩ := HQ.out _ hq
     have HOq := J o7
     have HBq := J b7
     have hzq := b7.size
     have hrow := World.ownsRow.alloc o7 (.cells #[.int .i64 0] 2)
     have HWn := J hrow
     clear hq o7 b7 hrow HQ
     go_wp2_with (at_builtin; refine wpList_append_own_at _ rfl (.tmp 23) (.tmp 24) 43 rfl w.heap.size 2 i0 (.int .i64 0) 1 8 Tryz.underlying43 hi hz0 hz1 hz2 rfl (by decide) _ _ _ rfl HWn.out ⟨wq.heap.size, 0, none⟩ 1 1 [.int .i64 0] rfl rfl ?p1a ?p2a ?p3a ?p4a ?p5a ?_)
     try case p1a => exact news_one _ _ _ (by simp)
     try case p2a => first | exact one_int | rfl | simp
     try case p3a => first | (simp only [maxLen]; omega) | omega
     try case p4a => omega
     try case p5a => first | (simp only [World.size_alloc]; omega) | omega
     intro v' w2 hown' hg' _ he
     have P1 := pushI HOq.out hzq hown'
     have P2 := pushB HOq.out hzq ((Below.refl _ _).alloc (Nat.le_refl _) _) hg'
     obtain ⟨g, c2, ev, hg2, e1, f1, o2⟩ := lastI (m := xs.length) P1 (by simp)
     subst ev
     have e0 : (xs ++ [0]).getD xs.length 0 = 0 := by simp [List.getD]
     rw [e0] at e1 o2
     have HN := J (And.intro o2 ((HBq.out.trans P2).setCell (p := ⟨g, xs.length, none⟩) hg2 (.int .i64 (0 + 1))))
     rw [show (0 : Int) + 1 = 1 from rfl] at HN
     clear P1 P2 o2 e0 hown' hg' he HOq
     generalize xs.length = L at *
     go_wp2
     go_roundw
     case rel => exact ⟨_, hlt, by simp, J (by rw [HST.out]; exact HN.out.1), J HN.out.2⟩
     case measure => first | (simp [intOf]; done) | (simp [intOf]; omega)
    ·obtain ⟨k, rfl⟩ : ∃ k, i = k + 1 := ⟨i - 1, by omega⟩
     have hne : ¬ byt s (k + 1) = byt s k := by
      unfold newRun at hn
      simpa using hn
     rw [byt_at hlt, byt_at (show k < s.size by omega)] at hne
     obtain ⟨x, hx⟩ : ∃ x, (s[k + 1]'hlt).toNat = x := ⟨_, rfl⟩
     obtain ⟨y, hy⟩ : ∃ y, (s[k]'(by omega)).toNat = y := ⟨_, rfl⟩
     rw [hx, hy] at hne
     have hxy : ((y : Int) != (x : Int)) = true := by simp only [bne_iff_ne]; omega
     have hk1 : (k : Int) < (s.size : Int) := by omega
     have hkw : IntKind.i64.wrap (k : Int) = (k : Int) := by rw [IntKind.wrap_i64]; omega
     have hk0 : (0 : Int) ≤ (k : Int) + 1 := by omega
     have hk2 : ((k : Int) + 1).toNat = k + 1 := by omega
     have hk4 : ((k : Int) + 1 == 0) = false := by simp only [beq_eq_false_iff_ne]; omega
     clear hn hr3
     go_wp2
     (refine wp_region_below (by kernel_rfl) (by kernel_rfl) ?_; (repeat (with_reducible refine wpQuiet_step (fun K hK => ?_); go_simp; first | (with_reducible refine hK _ ?_; clear hK K) | (apply Exists.intro; refine ⟨fun wq hq => ?_, hK _ ?_⟩; (first | rfl | (skip; first | (go_simp; done) | (go_simp; rfl) | fail)); clear hK K))); with_reducible refine wpQuiet_nil ?_; intro wq hq)
     obtain ⟨o7, b7⟩ := HQ.out _ hq
     have HOq := J o7
     have HBq := J b7
     have hzq := b7.size
     have hrow := World.ownsRow.alloc o7 (.cells #[.int .i64 0] 2)
     have HWn := J hrow
     clear hq o7 b7 hrow HQ
     go_wp2_with (at_builtin; refine wpList_append_own_at _ rfl (.tmp 23) (.tmp 24) 43 rfl w.heap.size 2 i0 (.int .i64 0) 1 8 Tryz.underlying43 hi hz0 hz1 hz2 rfl (by decide) _ _ _ rfl HWn.out ⟨wq.heap.size, 0, none⟩ 1 1 [.int .i64 0] rfl rfl ?p1a ?p2a ?p3a ?p4a ?p5a ?_)
     try case p1a => exact news_one _ _ _ (by simp)
     try case p2a => first | exact one_int | rfl | simp
     try case p3a => first | (simp only [maxLen]; omega) | omega
     try case p4a => omega
     try case p5a => first | (simp only [World.size_alloc]; omega) | omega
     intro v' w2 hown' hg' _ he
     have P1 := pushI HOq.out hzq hown'
     have P2 := pushB HOq.out hzq ((Below.refl _ _).alloc (Nat.le_refl _) _) hg'
     obtain ⟨g, c2, ev, hg2, e1, f1, o2⟩ := lastI (m := xs.length) P1 (by simp)
     subst ev
     have e0 : (xs ++ [0]).getD xs.length 0 = 0 := by simp [List.getD]
     rw [e0] at e1 o2
     have HN := J (And.intro o2 ((HBq.out.trans P2).setCell (p := ⟨g, xs.length, none⟩) hg2 (.int .i64 (0 + 1))))
     rw [show (0 : Int) + 1 = 1 from rfl] at HN
     clear P1 P2 o2 e0 hown' hg' he HOq
     generalize xs.length = L at *
     go_wp2
     go_roundw
     case rel => exact ⟨_, hlt, by simp, J (by rw [HST.out]; exact HN.out.1), J HN.out.2⟩
     case measure => first | (simp [intOf]; done) | (simp [intOf]; omega)
   | false =>
    rw [hn] at HST
    have hlt1 : (i : Int) < (s.size : Int) := by omega
    have h0 : 0 < i := by
     refine Nat.pos_of_ne_zero fun h => ?_
     rw [h] at hn
     simp [newRun] at hn
    have hpos := hr2 h0
    obtain ⟨hz', hz⟩ := hr3 ((runsTo (byt s) i).length - 1) (by omega)
    obtain ⟨m, hm⟩ : ∃ m, (runsTo (byt s) i).length = m + 1 := ⟨(runsTo (byt s) i).length - 1, by omega⟩
    rw [hm, Nat.add_sub_cancel] at hz hz'
    rw [hm] at hr1
    rw [hm] at HQ ⊢
    have HM := J hm
    clear hr3 hr2 hpos hm HO
    generalize runsTo (byt s) i = xs at *
    obtain ⟨k, rfl⟩ : ∃ k, i = k + 1 := ⟨i - 1, by omega⟩
    have hne : byt s (k + 1) = byt s k := by
     unfold newRun at hn
     simpa using hn
    rw [byt_at hlt, byt_at (show k < s.size by omega)] at hne
    obtain ⟨x, hx⟩ : ∃ x, (s[k + 1]'hlt).toNat = x := ⟨_, rfl⟩
    obtain ⟨y, hy⟩ : ∃ y, (s[k]'(by omega)).toNat = y := ⟨_, rfl⟩
    rw [hx, hy] at hne
    subst hne
    have hxy : ((x : Int) != (x : Int)) = false := by simp
    have hk1 : (k : Int) < (s.size : Int) := by omega
    have hkw : IntKind.i64.wrap (k : Int) = (k : Int) := by rw [IntKind.wrap_i64]; omega
    have hk0 : (0 : Int) ≤ (k : Int) + 1 := by omega
    have hk2 : ((k : Int) + 1).toNat = k + 1 := by omega
    have hk4 : ((k : Int) + 1 == 0) = false := by simp only [beq_eq_false_iff_ne]; omega
    clear hn
    go_wp2
    (refine wp_region_below (by kernel_rfl) (by kernel_rfl) ?_; (repeat (with_reducible refine wpQuiet_step (fun K hK => ?_); go_simp; first | (with_reducible refine hK _ ?_; clear hK K) | (apply Exists.intro; refine ⟨fun wq hq => ?_, hK _ ?_⟩; (first | rfl | (skip; first | (go_simp; done) | (go_simp; rfl) | fail)); clear hK K))); with_reducible refine wpQuiet_nil ?_; intro wq hq)
    obtain ⟨o7, b7⟩ := HQ.out _ hq
    obtain ⟨g, c2, ev, hg2, e1, f1, o2⟩ := lastI (m := m) o7 HM.out
    obtain ⟨eA, _, _⟩ : A = some ⟨g, 0, none⟩ ∧ m + 1 = m + 1 ∧ c = c2 := by injection ev with h1 h2 h3; exact ⟨h1, h2, h3⟩
    subst eA
    have HN := J (And.intro o2 (b7.setCell (p := ⟨g, m, none⟩) hg2 (.int .i64 (xs.getD m 0 + 1))))
    generalize xs.getD m 0 = z at *
    clear hq o7 b7 o2 HQ ev
    go_wp2
    go_roundw
    case rel => exact ⟨_, hlt, by simp, J (by rw [HST.out, if_neg (by simp)]; exact HN.out.1), J HN.out.2⟩
    case measure => first | (simp [intOf]; done) | (simp [intOf]; omega)
  ·obtain rfl : i = s.size := by omega
   go_wp2
   go_ret
   exact ⟨A, c, rfl, HO.out, HB.out⟩
set_option maxHeartbeats 2000000 in
theorem mostI_d (s : ByteArray) (hs : s.size ≤ 400) (w : World) : Calls Tryz.prog 57 #[.string s] w fun e w' => e = .returned (.int .i64 (mostR (byt s) s.size)) ∧ Below w.heap.size w w' := by
 have HR := J (runsI_d s hs w)
 have HE : Hid (mostR (byt s) s.size = maxTo (runsTo (byt s) s.size) (runsTo (byt s) s.size).length) := J rfl
 have hl := (runs_in (byt s) s.size).1
 unfold RunRet at HR
 generalize runsTo (byt s) s.size = xs at *
 generalize mostR (byt s) s.size = mm at *
 go_enter Tryz.func57, Tryz.ntmps57
 go_wp2_with fail
 refine HR.out.mono ?_
 rintro e w1 ⟨A, c, rfl, ho, hb⟩
 have HX := J (OwnI.rd ho)
 have HB := J hb
 clear ho hb HR
 go_wp2
 go_loop [3, 9] (fun nv iv => ∃ i : Nat, i ≤ xs.length ∧ iv = .int .i64 (i : Int) ∧ nv = .int .i64 (maxTo xs i)) (fun _ iv => xs.length - (intOf iv).toNat)
 case atStart => exact ⟨0, Nat.zero_le _, rfl, rfl⟩
 case round =>
  obtain ⟨i, hi, rfl, rfl⟩ := hrel
  by_cases hlt : i < xs.length
  ·obtain ⟨b, off, rfl, _, hc⟩ := HX.out (by omega)
   have g1 := hc i hlt
   have HE2 : Hid (maxTo xs (i + 1) = max (maxTo xs i) (xs.getD i 0)) := J rfl
   clear hc
   generalize maxTo xs i = q at *
   generalize xs.getD i 0 = z at *
   go_wp2
   go_round
   case rel => exact ⟨i + 1, hlt, by go_num, by rw [HE2.out] <;> congr 1 <;> (split <;> omega)⟩
   case measure => simp [intOf]; omega
  ·obtain rfl : i = xs.length := by omega
   rw [← HE.out]
   go_wp2
   go_ret
   exact ⟨rfl, HB.out⟩
theorem isFair_d (n : Int) (w : World) : Calls Tryz.prog 34 #[.int .i64 n] w fun e w' => e = .returned (.bool (inR n 1 50)) ∧ w = w' := by
 go_enter Tryz.func34, Tryz.ntmps34
 go_wp2_with fail
 refine (inRange_any n 1 50 w).mono ?_
 rintro e w' ⟨rfl, rfl⟩
 go_wp2
 go_ret
 exact ⟨rfl, rfl⟩
end LpR
end Go.Proofs.YtgipnbeipfhekaaGreatDoor
namespace Go.Proofs
open Go.Shelf
def YtgipnbeipfhekaaGreatDoor.lays160_ren : Go.Shelf.Ren := ⟨fun | 160 => 93 | 232 => 147 | 231 => 146 | 227 => 148 | 234 => 150 | 233 => 149 | 236 => 152 | 235 => 151 | 228 => 193 | 271 => 195 | 151 => 194 | 197 => 183 | 120 => 230 | 152 => 229 | 260 => 218 | 137 => 247 | 119 => 248 | 224 => 209 | 225 => 208 | 217 => 207 | 266 => 234 | n => n, fun | 9 => 9 | 4 => 4 | 3 => 3 | 5 => 5 | 117 => 195 | 116 => 194 | 0 => 0 | 124 => 198 | 21 => 21 | 105 => 224 | 46 => 118 | 119 => 262 | 139 => 265 | 138 => 264 | n => n, fun | 3 => 6 | 4 => 7 | n => n⟩
theorem YtgipnbeipfhekaaGreatDoor.lays160 : Go.Proofs.Lays.n160 Tryz.prog YtgipnbeipfhekaaGreatDoor.lays160_ren := {
 mixed := by kernel_rfl
 f119 := Tryz.func248.trans (congrArg some (by kernel_rfl))
 f120 := Tryz.func230.trans (congrArg some (by kernel_rfl))
 f137 := Tryz.func247.trans (congrArg some (by kernel_rfl))
 f151 := Tryz.func194.trans (congrArg some (by kernel_rfl))
 f152 := Tryz.func229.trans (congrArg some (by kernel_rfl))
 f160 := Tryz.func93.trans (congrArg some (by kernel_rfl))
 f197 := Tryz.func183.trans (congrArg some (by kernel_rfl))
 f217 := Tryz.func207.trans (congrArg some (by kernel_rfl))
 f224 := Tryz.func209.trans (congrArg some (by kernel_rfl))
 f225 := Tryz.func208.trans (congrArg some (by kernel_rfl))
 f227 := Tryz.func148.trans (congrArg some (by kernel_rfl))
 f228 := Tryz.func193.trans (congrArg some (by kernel_rfl))
 f231 := Tryz.func146.trans (congrArg some (by kernel_rfl))
 f232 := Tryz.func147.trans (congrArg some (by kernel_rfl))
 f233 := Tryz.func149.trans (congrArg some (by kernel_rfl))
 f234 := Tryz.func150.trans (congrArg some (by kernel_rfl))
 f235 := Tryz.func151.trans (congrArg some (by kernel_rfl))
 f236 := Tryz.func152.trans (congrArg some (by kernel_rfl))
 f260 := Tryz.func218.trans (congrArg some (by kernel_rfl))
 f266 := Tryz.func234.trans (congrArg some (by kernel_rfl))
 f271 := Tryz.func195.trans (congrArg some (by kernel_rfl))
 t0 := Tryz.underlying0
 a0 := Tryz.isAgg0
 z0 := Tryz.sizeOf0
 v0 := Tryz.zeroValue0
 t3 := Tryz.underlying3
 a3 := Tryz.isAgg3
 z3 := Tryz.sizeOf3
 v3 := Tryz.zeroValue3
 t4 := Tryz.underlying4
 a4 := Tryz.isAgg4
 z4 := Tryz.sizeOf4
 v4 := Tryz.zeroValue4
 t5 := Tryz.underlying5
 a5 := Tryz.isAgg5
 z5 := Tryz.sizeOf5
 v5 := Tryz.zeroValue5
 t9 := Tryz.underlying9
 a9 := Tryz.isAgg9
 z9 := Tryz.sizeOf9
 v9 := Tryz.zeroValue9
 t21 := Tryz.underlying21
 a21 := Tryz.isAgg21
 z21 := Tryz.sizeOf21
 v21 := Tryz.zeroValue21
 t46 := Tryz.underlying118
 a46 := Tryz.isAgg118
 z46 := Tryz.sizeOf118
 v46 := Tryz.zeroValue118
 t105 := Tryz.underlying224
 a105 := Tryz.isAgg224
 z105 := Tryz.sizeOf224
 v105 := Tryz.zeroValue224
 t116 := Tryz.underlying194
 a116 := Tryz.isAgg194
 z116 := Tryz.sizeOf194
 t117 := Tryz.underlying195
 a117 := Tryz.isAgg195
 z117 := Tryz.sizeOf195
 v117 := Tryz.zeroValue195
 t119 := Tryz.underlying262
 a119 := Tryz.isAgg262
 z119 := Tryz.sizeOf262
 t124 := Tryz.underlying198
 a124 := Tryz.isAgg198
 z124 := Tryz.sizeOf198
 v124 := Tryz.zeroValue198
 t138 := Tryz.underlying264
 a138 := Tryz.isAgg264
 z138 := Tryz.sizeOf264
 v138 := Tryz.zeroValue264
 t139 := Tryz.underlying265
 a139 := Tryz.isAgg265
 z139 := Tryz.sizeOf265
 v139 := Tryz.zeroValue265
 g3 := by kernel_rfl
 g4 := by kernel_rfl }
end Go.Proofs
namespace Go.Proofs.YtgipnbeipfhekaaGreatDoor
namespace Dice
open Go.RowKit Base Mem
theorem drop_all : ∀ (l cs : List UInt8), (∀ b ∈ l, cs.contains b = true) → l.dropWhile (cs.contains ·) = []
 | [], _, _ => rfl
 | b :: l, cs, h => by
  have h1 := h b List.mem_cons_self
  rw [List.dropWhile_cons, if_pos h1]
  exact drop_all l cs fun b hb => h b (List.mem_cons_of_mem _ hb)
theorem trim_bits {s : ByteArray} (h : BitsS s) : Lib.trimS s.data.toList #[48, 49].toList = [] := by
 have h1 : ∀ b ∈ s.data.toList, #[48, 49].toList.contains b = true := by
  intro b hb
  obtain ⟨i, hi, rfl⟩ := List.getElem_of_mem hb
  have hi' : i < s.size := by simpa using hi
  have h2 := h i hi'
  have e : s.data.toList[i] = s[i] := rfl
  rw [e]
  rcases h2 with h2 | h2
  ·have : s[i] = 48 := UInt8.toNat_inj.1 h2
   rw [this]; rfl
  ·have : s[i] = 49 := UInt8.toNat_inj.1 h2
   rw [this]; rfl
 unfold Lib.trimS Lib.trimRightS Lib.trimLeftS
 rw [drop_all s.data.toList.reverse _ fun b hb => h1 b (List.mem_reverse.1 hb)]
 rfl
theorem isBits_yes (s : ByteArray) (hs : s.size ≤ 400) (hB : BitsS s) (w : World) : Calls Tryz.prog 49 #[.string s] w fun e w' => e = .returned (.bool true) ∧ Below w.heap.size w w' := by
 have HT := J (Any.strings_Trim_laid YtgipnbeipfhekaaGreatDoor.lays160 (by kernel_rfl) s ⟨#[48, 49]⟩ w (by omega) (by decide) (ascii_of_all (by decide)))
 rw [show (⟨#[48, 49]⟩ : ByteArray).data = #[48, 49] from rfl, trim_bits hB] at HT
 have hs2 : (s.size : Int) ≤ 400 := by omega
 go_enter Tryz.func49, Tryz.ntmps49
 go_wp2_with fail
 refine HT.out.mono ?_
 rintro e w' ⟨rfl, hb⟩
 have HB := J hb
 clear hb
 go_wp2
 go_ret
 exact ⟨rfl, HB.out⟩
end Dice
end Go.Proofs.YtgipnbeipfhekaaGreatDoor
namespace Go.Proofs
open Go.Shelf
def YtgipnbeipfhekaaGreatDoor.lays138_ren : Go.Shelf.Ren := ⟨fun | 138 => 52 | 195 => 101 | 218 => 102 | 143 => 103 | 219 => 163 | 217 => 207 | 225 => 208 | 224 => 209 | 267 => 210 | 266 => 234 | 314 => 235 | n => n, fun | 9 => 9 | 3 => 3 | 4 => 4 | 5 => 5 | 0 => 0 | 46 => 118 | 146 => 257 | 51 => 221 | n => n, fun | 1 => 0 | n => n⟩
theorem YtgipnbeipfhekaaGreatDoor.lays138 : Go.Proofs.Lays.n138 Tryz.prog YtgipnbeipfhekaaGreatDoor.lays138_ren := {
 mixed := by kernel_rfl
 f138 := Tryz.func52.trans (congrArg some (by kernel_rfl))
 f143 := Tryz.func103.trans (congrArg some (by kernel_rfl))
 f195 := Tryz.func101.trans (congrArg some (by kernel_rfl))
 f217 := Tryz.func207.trans (congrArg some (by kernel_rfl))
 f218 := Tryz.func102.trans (congrArg some (by kernel_rfl))
 f219 := Tryz.func163.trans (congrArg some (by kernel_rfl))
 f224 := Tryz.func209.trans (congrArg some (by kernel_rfl))
 f225 := Tryz.func208.trans (congrArg some (by kernel_rfl))
 f266 := Tryz.func234.trans (congrArg some (by kernel_rfl))
 f267 := Tryz.func210.trans (congrArg some (by kernel_rfl))
 f314 := Tryz.func235.trans (congrArg some (by kernel_rfl))
 t0 := Tryz.underlying0
 a0 := Tryz.isAgg0
 z0 := Tryz.sizeOf0
 v0 := Tryz.zeroValue0
 t3 := Tryz.underlying3
 a3 := Tryz.isAgg3
 z3 := Tryz.sizeOf3
 v3 := Tryz.zeroValue3
 t4 := Tryz.underlying4
 a4 := Tryz.isAgg4
 z4 := Tryz.sizeOf4
 v4 := Tryz.zeroValue4
 t5 := Tryz.underlying5
 a5 := Tryz.isAgg5
 z5 := Tryz.sizeOf5
 v5 := Tryz.zeroValue5
 t9 := Tryz.underlying9
 a9 := Tryz.isAgg9
 z9 := Tryz.sizeOf9
 v9 := Tryz.zeroValue9
 t46 := Tryz.underlying118
 a46 := Tryz.isAgg118
 z46 := Tryz.sizeOf118
 v46 := Tryz.zeroValue118
 t51 := Tryz.underlying221
 a51 := Tryz.isAgg221
 z51 := Tryz.sizeOf221
 v51 := Tryz.zeroValue221
 t146 := Tryz.underlying257
 a146 := Tryz.isAgg257
 z146 := Tryz.sizeOf257
 v146 := Tryz.zeroValue257
 g1 := by kernel_rfl }
end Go.Proofs
namespace Go.Proofs.YtgipnbeipfhekaaGreatDoor
namespace LpT
open Go.RowKit Base Mem MemF Blk LvM LvQ LvO LvR LvT LvW LvJ LvK LpR Dice
theorem ones_count (s : ByteArray) : ∀ i, i ≤ s.size → onesTo (byt s) i = (s.data.toList.take i).count 49
 | 0, _ => by simp [onesTo]
 | i + 1, h => by
  have h1 : i < s.size := h
  have h2 : i < s.data.toList.length := by rw [Array.length_toList]; exact h1
  rw [onesTo, ones_count s i (by omega), List.take_succ_eq_append_getElem h2, List.count_append, byt_at h1]
  have e : s[i] = s.data.toList[i] := rfl
  rw [e]
  generalize s.data.toList[i] = x
  by_cases hb : x = 49
  ·subst hb; simp
  ·have : x.toNat ≠ 49 := fun h => hb (UInt8.toNat_inj.1 (by simpa using h))
   simp [this, hb]
theorem ones_all (s : ByteArray) : Lib.countByte s.data.toList 49 = onesTo (byt s) s.size := by
 unfold Lib.countByte
 rw [ones_count s s.size (Nat.le_refl _), List.take_of_length_le (by rw [Array.length_toList]; exact Nat.le_refl _)]
theorem count_d (s : ByteArray) (w : World) : Calls Tryz.prog 52 #[.string s, .string ⟨#[49]⟩] w fun e w' => e = .returned (.int .i64 ((onesTo (byt s) s.size : Nat) : Int)) ∧ w = w' := by
 refine (Any.strings_Count_one YtgipnbeipfhekaaGreatDoor.lays138 s 49 w).mono ?_
 rintro e w' ⟨rfl, rfl⟩
 rw [ones_all]
 exact ⟨rfl, rfl⟩
theorem ivA {s : ByteArray} (hs : s.size ≤ 50) {v : Value} (w : World) (hv : LawIs (onesC s.size) s.size w v) : Calls Tryz.prog 51 #[v, .int .i64 ((onesTo (byt s) s.size : Nat) : Int)] w (FrRet (nD s.size (lvA s)) (dD s.size (lvA s)) w) := by
 have h := LpL.levelI_d (p := onesTo (byt s) s.size) (onesC_ok s.size) (by have := ones_le (byt s) s.size; show _ < s.size + 1; omega) hs w hv
 rw [show (onesC s.size).first + onesTo (byt s) s.size = onesTo (byt s) s.size from Nat.zero_add _] at h
 exact h
theorem ivB {s : ByteArray} (h1 : 1 ≤ s.size) (hs : s.size ≤ 50) {v : Value} (w : World) (hv : LawIs (runsC s.size) s.size w v) : Calls Tryz.prog 51 #[v, .int .i64 (((runsTo (byt s) s.size).length : Nat) : Int)] w (FrRet (nD s.size (lvB s)) (dD s.size (lvB s)) w) := by
 obtain ⟨g1, g2, _⟩ := runs_in (byt s) s.size
 have g3 := g2 h1
 have h := LpL.levelI_d (p := (runsTo (byt s) s.size).length - 1) (runsC_ok h1) (by show _ < s.size; omega) hs w hv
 rw [show (runsC s.size).first + ((runsTo (byt s) s.size).length - 1) = (runsTo (byt s) s.size).length by show 1 + _ = _; omega] at h
 exact h
theorem ivC {s : ByteArray} (h1 : 1 ≤ s.size) (hs : s.size ≤ 50) {v : Value} (w : World) (hv : LawIs (lenC s.size) s.size w v) : Calls Tryz.prog 51 #[v, .int .i64 (mostR (byt s) s.size)] w (FrRet (nD s.size (lvC s)) (dD s.size (lvC s)) w) := by
 obtain ⟨g1, g2⟩ := mostR_in (byt s) h1
 have h := LpL.levelI_d (p := (mostR (byt s) s.size).toNat - 1) (lenC_ok h1) (by show _ < s.size; omega) hs w hv
 rw [show (((lenC s.size).first + ((mostR (byt s) s.size).toNat - 1) : Nat) : Int) = mostR (byt s) s.size by show ((1 + _ : Nat) : Int) = _; omega] at h
 exact h
def TlRet (s : ByteArray) (w : World) (e : Ending) (w' : World) : Prop := ∃ A c, e = .returned (.tuple #[.slice A 3 c, .bool true]) ∧ OwnF w' w.heap.size (.slice A 3 c) 3 (lvF s) ∧ Below w.heap.size w w'
set_option maxHeartbeats 4000000 in
set_option maxRecDepth 100000 in
theorem levelsI_d (s : ByteArray) (h1 : 1 ≤ s.size) (hs : s.size ≤ 50) (hB : BitsS s) (w : World) : Calls Tryz.prog 18 #[.string s] w (TlRet s w) := by
 have HIB := J (fun W => isBits_yes s (by omega) hB W)
 have HFR := J (fun W => isFair_d (s.size : Int) W)
 rw [inR_yes (show (1 : Int) ≤ s.size ∧ (s.size : Int) ≤ 50 by omega)] at HFR
 have HO := J (fun W => LpX.onesI_d s.size hs W)
 have HR := J (fun W => LpX.runsL_d s.size h1 hs W)
 have HL := J (fun W => LpX.longL_d s.size h1 hs W)
 have HO2 := J (fun W => count_d s W)
 have HR2 := J (fun W => runsI_d s (by omega) W)
 have HL2 := J (fun W => mostI_d s (by omega) W)
 have HLN := J (fun A n c W (h : n ≤ 9223372036854775807) => AllIn.lenI_any A n c W h)
 have HA : Hid (∀ v W, LawIs (onesC s.size) s.size W v → Calls Tryz.prog 51 #[v, .int .i64 ((onesTo (byt s) s.size : Nat) : Int)] W (FrRet (nD s.size (lvA s)) (dD s.size (lvA s)) W)) := J fun v W h => ivA hs W h
 have HBb : Hid (∀ v W, LawIs (runsC s.size) s.size W v → Calls Tryz.prog 51 #[v, .int .i64 (((runsTo (byt s) s.size).length : Nat) : Int)] W (FrRet (nD s.size (lvB s)) (dD s.size (lvB s)) W)) := J fun v W h => ivB h1 hs W h
 have HCc : Hid (∀ v W, LawIs (lenC s.size) s.size W v → Calls Tryz.prog 51 #[v, .int .i64 (mostR (byt s) s.size)] W (FrRet (nD s.size (lvC s)) (dD s.size (lvC s)) W)) := J fun v W h => ivC h1 hs W h
 have HF : Hid (lvF s = [nD s.size (lvA s), dD s.size (lvA s), nD s.size (lvB s), dD s.size (lvB s), nD s.size (lvC s), dD s.size (lvC s)]) := J rfl
 unfold RunRet at HR2
 have hrl := (runs_in (byt s) s.size).1
 generalize nD s.size (lvA s) = a1 at *
 generalize dD s.size (lvA s) = a2 at *
 generalize nD s.size (lvB s) = b1 at *
 generalize dD s.size (lvB s) = b2 at *
 generalize nD s.size (lvC s) = d1 at *
 generalize dD s.size (lvC s) = d2 at *
 generalize onesTo (byt s) s.size = n1 at *
 generalize runsTo (byt s) s.size = rs at *
 generalize mostR (byt s) s.size = mm at *
 clear hB
 go_enter Tryz.func18, Tryz.ntmps18
 go_wp2_with fail
 refine (HIB.out _).mono ?_
 rintro e w0 ⟨rfl, hb0⟩
 have B0 := J hb0
 clear hb0
 go_wp2_with fail
 refine (HFR.out _).mono ?_
 rintro e w' ⟨rfl, rfl⟩
 go_wp2_with fail
 refine (HO.out _).mono ?_
 rintro e w1 ⟨v, rfl, hv, hb1⟩
 have HV := J hv.is
 have B1 := J (Base.Below.nextA B0.out hb1)
 clear hv hb1 B0
 go_wp2_with fail
 refine (HO2.out _).mono ?_
 rintro e w' ⟨rfl, rfl⟩
 go_wp2_with fail
 refine (HA.out _ _ HV.out).mono ?_
 rintro e w2 ⟨rfl, hb2⟩
 have B2 := J (Base.Below.nextA B1.out hb2)
 clear hb2 HV HO HO2 HA B1
 go_wp2_with fail
 obtain ⟨W3, hW3⟩ : ∃ W3, W3 = w2.alloc (.cells #[.int .i64 a1, .int .i64 a2] 49) := ⟨_, rfl⟩
 have K3 : Hid (Blk W3 w2.heap.size 49 #[.int .i64 a1, .int .i64 a2]) := J (by rw [hW3]; exact Blk.new w2 _ _)
 have B3 : Hid (Below w.heap.size w W3) := J (by rw [hW3]; exact B2.out.alloc B2.out.size _)
 rw [← hW3]
 clear hW3 B2
 refine (HR.out _).mono ?_
 rintro e w4 ⟨v, rfl, hv, hb4⟩
 have HV := J hv.is
 have K4 := J (K3.out.belowS hb4)
 have B4 := J (Base.Below.nextA B3.out hb4)
 clear hv hb4 K3 B3
 go_wp2_with fail
 refine (HR2.out _).mono ?_
 rintro e w5 ⟨A5, c5, rfl, _, hb5⟩
 have HV5 := J (HV.out.below hb5)
 have K5 := J (K4.out.belowS hb5)
 have B5 := J (Base.Below.nextA B4.out hb5)
 clear hb5 K4 B4 HV
 go_wp2_with fail
 refine (HLN.out _ _ _ _ (by omega)).mono ?_
 rintro e w' ⟨rfl, rfl⟩
 go_wp2_with fail
 refine (HBb.out _ _ HV5.out).mono ?_
 rintro e w6 ⟨rfl, hb6⟩
 have K6 := J (K5.out.belowS hb6)
 have B6 := J (Base.Below.nextA B5.out hb6)
 clear hb6 K5 B5 HV5 HR HR2 HBb
 go_wp2_with fail
 obtain ⟨W7, hW7⟩ : ∃ W7, W7 = w6.alloc (.cells #[.int .i64 b1, .int .i64 b2] 49) := ⟨_, rfl⟩
 have K7 : Hid (Blk W7 w2.heap.size 49 #[.int .i64 a1, .int .i64 a2] ∧ Blk W7 w6.heap.size 49 #[.int .i64 b1, .int .i64 b2]) := J (by rw [hW7]; exact ⟨K6.out.alloc _, Blk.new w6 _ _⟩)
 have B7 : Hid (Below w.heap.size w W7) := J (by rw [hW7]; exact B6.out.alloc B6.out.size _)
 rw [← hW7]
 clear hW7 B6 K6
 refine (HL.out _).mono ?_
 rintro e w8 ⟨v, rfl, hv, hb8⟩
 have HV := J hv.is
 have K8 := J (And.intro (K7.out.1.belowS hb8) (K7.out.2.belowS hb8))
 have B8 := J (Base.Below.nextA B7.out hb8)
 clear hv hb8 K7 B7
 go_wp2_with fail
 refine (HL2.out _).mono ?_
 rintro e w9 ⟨rfl, hb9⟩
 have HV9 := J (HV.out.below hb9)
 have K9 := J (And.intro (K8.out.1.belowS hb9) (K8.out.2.belowS hb9))
 have B9 := J (Base.Below.nextA B8.out hb9)
 clear hb9 K8 B8 HV
 go_wp2_with fail
 refine (HCc.out _ _ HV9.out).mono ?_
 rintro e wa ⟨rfl, hba⟩
 have Ka := J (And.intro (K9.out.1.belowS hba) (K9.out.2.belowS hba))
 have Ba := J (Base.Below.nextA B9.out hba)
 clear hba K9 B9 HV9 HL HL2 HCc
 have x0 := Ka.out.1.at 0 (v := .int .i64 a1) rfl
 have x1 := Ka.out.1.at 1 (v := .int .i64 a2) rfl
 have y0 := Ka.out.2.at 0 (v := .int .i64 b1) rfl
 have y1 := Ka.out.2.at 1 (v := .int .i64 b2) rfl
 have l0 := Ka.out.1.lt
 have l1 := Ka.out.2.lt
 have HFIN : Hid (TlRet s w (.returned (.tuple #[.slice (some ⟨wa.heap.size + 1, 0, none⟩) 3 3, .bool true])) ((wa.alloc (.cells #[.int .i64 d1, .int .i64 d2] 49)).alloc (.cells #[.int .i64 a1, .int .i64 a2, .int .i64 b1, .int .i64 b2, .int .i64 d1, .int .i64 d2] 49))) := J (by
  refine ⟨_, _, rfl, ?_, (Ba.out.alloc Ba.out.size _).alloc (by have := Ba.out.size; simp; omega) _⟩
  have h := World.ownsRow_lit (e := 49) (size := 2) (base := w.heap.size) (wa.alloc (.cells #[.int .i64 d1, .int .i64 d2] 49)) #[.int .i64 a1, .int .i64 a2, .int .i64 b1, .int .i64 b2, .int .i64 d1, .int .i64 d2] 3 (by have := Ba.out.size; simp; omega) (by simp [maxLen]) rfl
  rw [HF.out]
  simpa [OwnF, ints] using h)
 clear Ka Ba
 go_wp2
 refine bodyPost_ret (v := .tuple #[.slice (some ⟨wa.heap.size + 1, 0, none⟩) 3 3, .bool true]) (by simp [results, Tryz.results18, go_sem]) rfl ?_
 exact HFIN.out
end LpT
namespace LpM
open Go.RowKit Base Mem MemF Blk LvK LvN LpR LpT Str Take
set_option maxHeartbeats 2000000 in
set_option maxRecDepth 100000 in
theorem implLv_any (K W T m f a s c : Int) (w : World) : Calls Tryz.prog 11 #[.agg #[.int .i64 K, .int .i64 W, .int .i64 T, .int .i64 m, .int .i64 f, .int .i64 a, .int .i64 s], .int .i64 c] w (LvRet K W T m f a s c w) := by
 obtain ⟨W1, hW1⟩ : ∃ W1, W1 = w.alloc (.cells #[.int .i64 K, .int .i64 W, .int .i64 T, .int .i64 m, .int .i64 f, .int .i64 a, .int .i64 s] 29) := ⟨_, rfl⟩
 have K1 : Hid (Blk W1 w.heap.size 29 #[.int .i64 K, .int .i64 W, .int .i64 T, .int .i64 m, .int .i64 f, .int .i64 a, .int .i64 s]) := J (by rw [hW1]; exact Blk.new w _ _)
 have B1 : Hid (Below w.heap.size w W1) := J (by rw [hW1]; exact (Below.refl _ _).alloc (Nat.le_refl _) _)
 have HW := J hW1
 have HVS := J (fun W' => validStream_any K W T m f a s W')
 clear hW1
 cases hB : streamB K W T m f a s with
 | false =>
  rw [hB] at HVS
  have HN := J (fun w' => LvRet.no (w := w) (w' := w') (show okL K W T m f a s c = false by simp [okL, hB]))
  clear hB
  go_enter Tryz.func11, Tryz.ntmps11
  go_wp2_with fail
  rw [← HW.out]
  refine (HVS.out _).mono ?_
  rintro e w1 ⟨rfl, hb1⟩
  have B2 := J (Base.Below.nextA B1.out hb1)
  clear hb1
  go_wp2
  refine bodyPost_ret (v := .tuple #[.slice none 0 0, .bool false]) (by simp [results, Tryz.results11, go_sem]) rfl ?_
  exact HN.out _ B2.out
 | true =>
  have HFR := J (fun W' => isFair_d c W')
  rw [hB] at HVS
  cases hc : inR c 1 50 with
  | false =>
   rw [hc] at HFR
   have HN := J (fun w' => LvRet.no (w := w) (w' := w') (show okL K W T m f a s c = false by simp [okL, hB, hc]))
   clear hB hc
   go_enter Tryz.func11, Tryz.ntmps11
   go_wp2_with fail
   rw [← HW.out]
   refine (HVS.out _).mono ?_
   rintro e w1 ⟨rfl, hb1⟩
   have B2 := J (Base.Below.nextA B1.out hb1)
   clear hb1
   go_wp2_with fail
   refine (HFR.out _).mono ?_
   rintro e w' ⟨rfl, rfl⟩
   go_wp2
   refine bodyPost_ret (v := .tuple #[.slice none 0 0, .bool false]) (by simp [results, Tryz.results11, go_sem]) rfl ?_
   exact HN.out _ B2.out
  | true =>
   rw [hc] at HFR
   have h7 := inR_true hc
   have hc4 : inR c 0 400 = true := by simp [inR]; omega
   have HT := J (fun w => implTake_yes hB hc4 w)
   have hsz := Face.takeL_size K W T m f a s c
   have hbt := Face.takeL_bits K W T m f a s c
   have HY := J (fun w' A k => LvRet.yes (w := w) (w' := w') (A := A) (k := k) (show okL K W T m f a s c = true by simp [okL, hB, hc]))
   unfold txtL at HY
   unfold TakeR at HT
   generalize takeX K W T m f a s c = x at *
   obtain ⟨t, ht⟩ : ∃ t, (⟨(takeL K W T m f a s c).toArray⟩ : ByteArray) = t := ⟨_, rfl⟩
   rw [ht] at HT HY hsz hbt
   have HL := J (fun W => levelsI_d t (by omega) (by omega) hbt W)
   clear hB hc ht hsz hbt h7 hc4
   go_enter Tryz.func11, Tryz.ntmps11
   go_wp2_with fail
   rw [← HW.out]
   refine (HVS.out _).mono ?_
   rintro e w1 ⟨rfl, hb1⟩
   have B2 := J (Base.Below.nextA B1.out hb1)
   have K2 := J (K1.out.belowS hb1)
   clear hb1
   go_wp2_with fail
   refine (HFR.out _).mono ?_
   rintro e w' ⟨rfl, rfl⟩
   have d0 := K2.out.at 0 (v := .int .i64 K) rfl
   have d1 := K2.out.at 1 (v := .int .i64 W) rfl
   have d2 := K2.out.at 2 (v := .int .i64 T) rfl
   have d3 := K2.out.at 3 (v := .int .i64 m) rfl
   have d4 := K2.out.at 4 (v := .int .i64 f) rfl
   have d5 := K2.out.at 5 (v := .int .i64 a) rfl
   have d6 := K2.out.at 6 (v := .int .i64 s) rfl
   go_wp2_with fail
   clear d0 d1 d2 d3 d4 d5 d6
   refine (HT.out _).mono ?_
   rintro e w2 ⟨rfl, hb2⟩
   have B3 := J (Base.Below.nextA B2.out hb2)
   clear hb2
   go_wp2_with fail
   refine (HL.out _).mono ?_
   rintro e w4 ⟨A, k, rfl, ho, hb4⟩
   have B4 := J (Base.Below.nextA (B3.out.alloc B3.out.size _) hb4)
   have O4 := J (ownsRow_base ho (B3.out.alloc B3.out.size _).size)
   clear ho hb4
   go_wp2
   refine bodyPost_ret (v := .tuple #[.slice A 3 k, .bool true]) (by simp [results, Tryz.results11, go_sem]) rfl ?_
   exact HY.out _ _ _ O4.out B4.out
end LpM
namespace StTx
open Go.RowKit Base Mem Dec Str Take
set_option maxHeartbeats 2000000 in
set_option maxRecDepth 100000 in
theorem streamText_any (K W T m f a s : Int) (w : World) (hp : Pow w.heap.size w) (hv : streamB K W T m f a s = true) :
  Calls Tryz.prog 30 #[.agg #[.int .i64 K, .int .i64 W, .int .i64 T, .int .i64 m, .int .i64 f, .int .i64 a, .int .i64 s]] w fun e w' => e = .returned (.string (tx (textS K W T m f a s))) ∧ Below w.heap.size w w' := by
 by_cases hK : K = 0
 ·subst hK
  obtain ⟨WX, hWX⟩ : ∃ WX, WX = ((w.alloc (.cells #[.int .i64 0, .int .i64 W, .int .i64 T, .int .i64 m, .int .i64 f, .int .i64 a, .int .i64 s] 29)).alloc (.cells #[.int .i64 W, .int .i64 T, .int .i64 s] 2)) := ⟨_, rfl⟩
  have b0 : Below w.heap.size w WX := by rw [hWX]; exact ((Below.refl _ _).alloc (Nat.le_refl _) _).alloc (by simp) _
  obtain ⟨WB, hWB⟩ : ∃ WB, WB = w.heap.size + 1 := ⟨_, rfl⟩
  have HX : Hid (RdI WX WX.heap.size (some ⟨WB, 0, none⟩) [W, T, s]) := J (by rw [hWX, hWB]; have := rd3 (w.alloc (.cells #[.int .i64 0, .int .i64 W, .int .i64 T, .int .i64 m, .int .i64 f, .int .i64 a, .int .i64 s] 29)) W T s; simp only [World.size_alloc] at this ⊢; exact this)
  have HF : Hid (Fit [W, T, s]) := J (fit3 (by simp [streamB] at hv; exact hv.2))
  have HR : Hid (textS 0 W T m f a s = joinTo [114] [W, T, s] 3) := J (by simp [textS])
  have HPX := J (fun w' (h : Below WX.heap.size WX w') => (show Pow WX.heap.size w' from fun w2 h2 => hp w2 (b0.trans ((h.trans h2).mono b0.size))))
  have HPX : Hid (Pow WX.heap.size WX) := J (HPX.out WX (Below.refl _ _))
  have HB0 := J b0
  have HWX := J hWX
  have hWB2 := hWB
  clear hp hv b0 hWX
  go_enter Tryz.func30, Tryz.ntmps30
  go_wp2
  rw [← HWX.out]
  rw [← hWB]
  clear hWB hWB2
  go_loopw [4, 33] (fun o i wr => ∃ k : Nat, k ≤ 3 ∧ i = .int .i64 (k : Int) ∧ o = .string (tx (joinTo [114] [W, T, s] k)) ∧ Hid (Below WX.heap.size WX wr)) (fun _ i _ => 3 - (intOf i).toNat)
  case atStart => exact ⟨0, Nat.zero_le _, rfl, rfl, J (Below.refl _ _)⟩
  case round =>
   obtain ⟨k, hk, rfl, rfl, HB⟩ := hrel
   by_cases hlt : k < 3
   ·obtain ⟨b, off, eb, hbB, hc⟩ := HX.out (by simp)
    cases eb
    have g0 := (HB.out.cell (p := ⟨WB, 0 + k, none⟩) hbB).trans (hc k (by simpa using hlt))
    rw [Nat.zero_add] at g0
    obtain ⟨u, d, o, a1, a2, e1, e2, e3, e4, r1, r2, e5⟩ := joinStep HF.out [114] (by decide) k (by simpa using hlt)
    have HD := J (decimal_any u (by omega) WX.heap.size wr (HPX.out.on HB.out) HB.out.size)
    have hws := HB.out.size
    rw [e3] at HD
    rw [e1] at g0
    have E5 := J e5
    rw [e4]
    clear hc e1 e3 e4 e5
    go_wp2_with (go_at_call 15; refine HD.out.mono ?_; rintro e w1 ⟨rfl, hb1⟩)
    go_roundw
    case rel => exact ⟨k + 1, hlt, by go_num, by rw [E5.out], J (HB.out.trans (hb1.mono hws))⟩
    case measure => simp [intOf]; omega
   ·obtain rfl : k = 3 := by omega
    go_wp2
    go_ret
    exact ⟨HR.out.symm ▸ rfl, HB0.out.trans (HB.out.mono HB0.out.size)⟩
 ·have hK1 : K = 1 := by
   by_cases h : K = 1
   ·exact h
   ·simp [streamB, hK, h] at hv
  subst hK1
  clear hK
  obtain ⟨WX, hWX⟩ : ∃ WX, WX = (((w.alloc (.cells #[.int .i64 1, .int .i64 W, .int .i64 T, .int .i64 m, .int .i64 f, .int .i64 a, .int .i64 s] 29)).alloc (.cells #[.int .i64 W, .int .i64 T, .int .i64 s] 2)).alloc (.cells #[.int .i64 m, .int .i64 f, .int .i64 a, .int .i64 s] 2)).drew := ⟨_, rfl⟩
  have b0 : Below w.heap.size w WX := by rw [hWX]; exact ((((Below.refl _ _).alloc (Nat.le_refl _) _).alloc (by simp) _).alloc (by simp; omega) _).drew
  obtain ⟨WB, hWB⟩ : ∃ WB, WB = w.heap.size + 1 + 1 := ⟨_, rfl⟩
  have HX : Hid (RdI WX WX.heap.size (some ⟨WB, 0, none⟩) [m, f, a, s]) := J (by
   rw [hWX, hWB]
   have := (rd4 ((w.alloc (.cells #[.int .i64 1, .int .i64 W, .int .i64 T, .int .i64 m, .int .i64 f, .int .i64 a, .int .i64 s] 29)).alloc (.cells #[.int .i64 W, .int .i64 T, .int .i64 s] 2)) m f a s).below ((Below.refl _ _).drew) (Nat.le_refl _)
   have e : ∀ W : World, W.drew.heap.size = W.heap.size := fun _ => rfl
   simp only [World.size_alloc, e] at this ⊢
   exact this)
  have HF : Hid (Fit [m, f, a, s]) := J (fit4 (by simp [streamB] at hv; exact hv.2))
  have HR : Hid (textS 1 W T m f a s = joinTo [99] [m, f, a, s] 4) := J (by simp [textS])
  have HPX : Hid (Pow WX.heap.size WX) := J (fun w2 h2 => hp w2 (b0.trans (h2.mono b0.size)))
  have HB0 := J b0
  have HWX := J hWX
  clear hp hv b0 hWX
  go_enter Tryz.func30, Tryz.ntmps30
  go_wp2
  go_region
  rw [← HWX.out]
  rw [← hWB]
  clear hWB
  go_wp2
  go_loopw [4, 33] (fun o i wr => ∃ k : Nat, k ≤ 4 ∧ i = .int .i64 (k : Int) ∧ o = .string (tx (joinTo [99] [m, f, a, s] k)) ∧ Hid (Below WX.heap.size WX wr)) (fun _ i _ => 4 - (intOf i).toNat)
  case atStart => exact ⟨0, Nat.zero_le _, rfl, rfl, J (Below.refl _ _)⟩
  case round =>
   obtain ⟨k, hk, rfl, rfl, HB⟩ := hrel
   by_cases hlt : k < 4
   ·obtain ⟨b, off, eb, hbB, hc⟩ := HX.out (by simp)
    cases eb
    have g0 := (HB.out.cell (p := ⟨WB, 0 + k, none⟩) hbB).trans (hc k (by simpa using hlt))
    rw [Nat.zero_add] at g0
    obtain ⟨u, d, o, a1, a2, e1, e2, e3, e4, r1, r2, e5⟩ := joinStep HF.out [99] (by decide) k (by simpa using hlt)
    have HD := J (decimal_any u (by omega) WX.heap.size wr (HPX.out.on HB.out) HB.out.size)
    have hws := HB.out.size
    rw [e3] at HD
    rw [e1] at g0
    have E5 := J e5
    rw [e4]
    clear hc e1 e3 e4 e5
    go_wp2_with (go_at_call 15; refine HD.out.mono ?_; rintro e w1 ⟨rfl, hb1⟩)
    go_roundw
    case rel => exact ⟨k + 1, hlt, by go_num, by rw [E5.out], J (HB.out.trans (hb1.mono hws))⟩
    case measure => simp [intOf]; omega
   ·obtain rfl : k = 4 := by omega
    go_wp2
    go_ret
    exact ⟨HR.out.symm ▸ rfl, HB0.out.trans (HB.out.mono HB0.out.size)⟩
end StTx
end Go.Proofs.YtgipnbeipfhekaaGreatDoor
