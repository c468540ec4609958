/- The program's chance of a value. -/
import Derived.Test.YtcimmgpmkfbpdaaGreatDoorMgStr17
import Derived.Test.YtcimmgpmkfbpdaaGreatDoorMgStr10
import Derived.Test.YtcimmgpmkfbpdaaGreatDoorMgStr14
import Derived.Deep.Cut
import Derived.Test.YtcimmgpmkfbpdaaGreatDoorMgStr08
import Derived.Test.YtcimmgpmkfbpdaaGreatDoorMgStr00
import Derived.Deep.QuietTactic
import Derived.BigQuiet
namespace Go.Proofs.YtcimmgpmkfbpdaaGreatDoor.LpC
open Go.RowKit Go.Proofs.YtcimmgpmkfbpdaaGreatDoor Go.Proofs.YtcimmgpmkfbpdaaGreatDoor.Base Go.Proofs.YtcimmgpmkfbpdaaGreatDoor.Mem Go.Proofs.YtcimmgpmkfbpdaaGreatDoor.MemF Go.Proofs.YtcimmgpmkfbpdaaGreatDoor.GiveM Go.Proofs.YtcimmgpmkfbpdaaGreatDoor.Blk Go.Proofs.YtcimmgpmkfbpdaaGreatDoor.LvQ Go.Proofs.YtcimmgpmkfbpdaaGreatDoor.LvO Go.Proofs.YtcimmgpmkfbpdaaGreatDoor.LvT Go.Proofs.YtcimmgpmkfbpdaaGreatDoor.LvW Go.Proofs.YtcimmgpmkfbpdaaGreatDoor.LvF Go.Proofs.YtcimmgpmkfbpdaaGreatDoor.LvG Go.Proofs.YtcimmgpmkfbpdaaGreatDoor.LpS
set_option linter.unusedVariables false
set_option maxHeartbeats 2000000 in
theorem chanceI_d {n p : Nat} {C : Cnt} {v : Value} (hC : C.ok n) (hp : p < C.many) (hn : n ≤ 50) (w : World) (hv : LawIs C n w v) :
  Calls Tryz.prog 71 #[v, .int .i64 ((C.first + p : Nat) : Int)] w fun e w' => e = .returned (.agg #[.int .i64 (nD n (C.c p)), .int .i64 (dD n (C.c p))]) ∧ Below w.heap.size w w' := by
 obtain ⟨A, c, A', c', rfl, hx, hy⟩ := hv
 have hN60 : C.many ≤ 51 := by have := hC.2.1; omega
 obtain ⟨W2, hW2⟩ : ∃ W2, W2 = (w.alloc (.cells #[.slice A C.many c, .slice A' C.many c'] 65)).alloc (.cells #[.int .i64 0, .int .i64 0] 52) := ⟨_, rfl⟩
 have b2 : Below w.heap.size w W2 := by rw [hW2]; exact ((Below.refl _ _).alloc (Nat.le_refl _) _).alloc (by simp) _
 have KL : Blk W2 w.heap.size 65 #[.slice A C.many c, .slice A' C.many c'] := by rw [hW2]; exact (Blk.new w _ _).alloc _
 have KR : Blk W2 (w.heap.size + 1) 52 #[.int .i64 0, .int .i64 0] := by rw [hW2]; exact Blk.newAt _ _ (by simp)
 have HS := Lib.hid (search_d (c := c) hC.1 hp (by omega) W2 (hx.below b2 (Nat.le_refl _)))
 obtain ⟨fb, fo, rfl, hfb, g1, g2⟩ := rdD (hy.below b2 (Nat.le_refl _)) hp
 have HW := Lib.hid hW2
 have d0 := KL.at 0 (v := .slice A C.many c) rfl
 have d1 := KL.at 1 (v := .slice (some ⟨fb, fo, none⟩) C.many c') rfl
 have r0 := KR.at 0 (v := .int .i64 0) rfl
 have r1 := KR.at 1 (v := .int .i64 0) rfl
 have f0 := KR.frz 0
 have f1 := KR.frz 1
 have SS := (KR.setTo 0 (.int .i64 (nD n (C.c p))) rfl).setTo 1 (.int .i64 (dD n (C.c p))) rfl
 have k0 := SS.at 0 (v := .int .i64 (nD n (C.c p))) rfl
 have k1 := SS.at 1 (v := .int .i64 (dD n (C.c p))) rfl
 have HBF := Lib.hid ((b2.setCell (p := ⟨w.heap.size + 1, 0, none⟩) (Nat.le_succ _) (.int .i64 (nD n (C.c p)))).setCell (p := ⟨w.heap.size + 1, 1, none⟩) (Nat.le_succ _) (.int .i64 (dD n (C.c p))))
 have hpN : (p : Int) < (C.many : Int) := by omega
 generalize nD n (C.c p) = x1 at *
 generalize dD n (C.c p) = x2 at *
 rw [show ((C.first + p : Nat) : Int) = (C.first : Int) + (p : Int) by simp] at HS ⊢
 generalize (C.first : Int) + (p : Int) = vv at *
 generalize C.many = N at *
 clear hC hx hy hW2 b2 KL KR SS
 go_enter Tryz.func71, Tryz.ntmps71
 go_wp2_with fail
 rw [← HW.out]
 refine HS.out.mono ?_
 rintro e w' ⟨rfl, rfl⟩
 clear HS HW
 go_wp2
 refine bodyPost_ret (v := .agg #[.int .i64 x1, .int .i64 x2]) (by simp [results, Tryz.results71, go_sem, k0, k1]) rfl ⟨rfl, HBF.out⟩
end Go.Proofs.YtcimmgpmkfbpdaaGreatDoor.LpC
namespace Go.Proofs.YtcimmgpmkfbpdaaGreatDoor.LpK
open Go.RowKit Go.Proofs.YtcimmgpmkfbpdaaGreatDoor Go.Proofs.YtcimmgpmkfbpdaaGreatDoor.Base Go.Proofs.YtcimmgpmkfbpdaaGreatDoor.Mem Go.Proofs.YtcimmgpmkfbpdaaGreatDoor.MemF Go.Proofs.YtcimmgpmkfbpdaaGreatDoor.GiveM Go.Proofs.YtcimmgpmkfbpdaaGreatDoor.NatM Go.Proofs.YtcimmgpmkfbpdaaGreatDoor.RatM Go.Proofs.YtcimmgpmkfbpdaaGreatDoor.Ratio Go.Proofs.YtcimmgpmkfbpdaaGreatDoor.Blk Go.Proofs.YtcimmgpmkfbpdaaGreatDoor.LvQ Go.Proofs.YtcimmgpmkfbpdaaGreatDoor.LvO Go.Proofs.YtcimmgpmkfbpdaaGreatDoor.LvT Go.Proofs.YtcimmgpmkfbpdaaGreatDoor.LvW Go.Proofs.YtcimmgpmkfbpdaaGreatDoor.LvF Go.Proofs.YtcimmgpmkfbpdaaGreatDoor.LvG
set_option linter.unusedVariables false
theorem isRtM (q : Rat) : Rel.Mono (fun v w => IsRt w q v) := fun v w w' h hb => h.below hb
theorem dy_sz {n x : Nat} (hx : x ≤ 2 ^ n) (hn : n ≤ 50) : szR (dy n x) ≤ 200000 := by
 obtain ⟨h1, h2⟩ := small_true (dy_small hx hn)
 have g1 : (natL (dy n x).num.natAbs).length ≤ 2 := natL_len_le (k := 2) (Nat.lt_of_le_of_lt h1 (by decide))
 have g2 : (natL (dy n x).den).length ≤ 2 := natL_len_le (k := 2) (Nat.lt_of_le_of_lt h2 (by decide))
 unfold szR
 omega
theorem rof_d {n x : Nat} (hx : x ≤ 2 ^ n) (hn : n ≤ 50) (w : World) : Calls Tryz.prog 70 #[.agg #[.int .i64 (nD n x), .int .i64 (dD n x)]] w (RV (dy n x) w) := by
 obtain ⟨h1, h2⟩ := small_true (dy_small hx hn)
 obtain ⟨e1, e2⟩ := dy_numQ hx hn
 obtain ⟨_, _, e3⟩ := (dy_vf hx hn).num
 rw [qf_self] at e3
 unfold nD dD
 rw [e1, e2]
 have h := ratioOf_any (dy n x).num ((dy n x).den : Int) h1 (by omega) (by omega) w
 rw [Int.toNat_natCast, ← e3] at h
 exact h
theorem cmp_le {n x y : Nat} (h : x ≤ y) : cmpQ (dy n x) (dy n y) = -1 ∨ cmpQ (dy n x) (dy n y) = 0 := by
 unfold cmpQ
 rcases Nat.lt_or_ge x y with h1 | h1
 ·have := dy_lt (n := n) h1
  rw [if_neg (fun e => by grind), if_pos this]; exact .inl rfl
 ·rw [if_pos (by rw [show x = y by omega])]; exact .inr rfl
theorem cmp_gt {n x y : Nat} (h : ¬ x ≤ y) : cmpQ (dy n x) (dy n y) = 1 := by
 have := dy_lt (n := n) (Nat.not_le.1 h)
 unfold cmpQ
 rw [if_neg (fun e => by grind), if_neg (by grind)]
set_option maxHeartbeats 2000000 in
set_option maxRecDepth 100000 in
theorem close_d {n i y lb mb : Nat} {A A' : Option Addr} {c c' : Nat} {C : Cnt} {s : Bool} {A1 A2 : Option Addr} {k1 c1 k2 c2 : Nat} (hC : C.ok n) (hi : i < C.many) (hn : n ≤ 50) (hy : y ≤ 2 ^ n) (w : World)
  (KL0 : Blk w lb 65 #[.slice A C.many c, .slice A' C.many c']) (hf : RdF w w.heap.size A' C.many (outF (fD C n) C.many)) (KM0 : Blk w mb 114 #[.bool s, .slice A1 k1 c1, .slice A2 k2 c2]) (hm : IsRt w (dy n y) (.agg #[.bool s, .slice A1 k1 c1, .slice A2 k2 c2])) :
  Calls Tryz.prog 73 #[.int .i64 (i : Int), .pointer (some ⟨lb, 0, none⟩), .pointer (some ⟨mb, 0, none⟩)] w fun e w' => e = .returned (.bool (decide (C.c i ≤ y))) ∧ Below w.heap.size w w' := by
 have hx := Cnt.one_le hC hi
 have hN60 : C.many ≤ 51 := by have := hC.2.1; omega
 obtain ⟨fb, fo, rfl, hfb, g1, g2⟩ := rdD hf hi
 have HRO := Lib.hid (fun W => rof_d hx hn W)
 have KL := Lib.hid KL0
 have KM := Lib.hid KM0
 have HM := Lib.hid hm
 have HZ := Lib.hid (And.intro (dy_sz hx hn) (dy_sz hy hn))
 have hcr : ∃ r : Int, cmpQ (dy n (C.c i)) (dy n y) = r ∧ (r = -1 ∨ r = 0 ∨ r = 1) ∧ (decide (r ≤ 0) = decide (C.c i ≤ y)) := by
  by_cases h : C.c i ≤ y
  ·rcases cmp_le (n := n) h with e | e
   ·exact ⟨_, e, .inl rfl, by rw [decide_eq_true h]; rfl⟩
   ·exact ⟨_, e, .inr (.inl rfl), by rw [decide_eq_true h]; rfl⟩
  ·exact ⟨_, cmp_gt h, .inr (.inr rfl), by rw [decide_eq_false h]; rfl⟩
 obtain ⟨r, hr, hr3, hrd⟩ := hcr
 have HR := Lib.hid hr
 have HRD := Lib.hid (And.intro hr3 hrd)
 have hiN : (i : Int) < (C.many : Int) := by omega
 generalize dy n (C.c i) = q at *
 generalize dy n y = q2 at *
 generalize nD n (C.c i) = x1 at *
 generalize dD n (C.c i) = x2 at *
 generalize C.many = N at *
 clear hC hx hf hm KL0 KM0 hr hr3 hrd
 go_enter Tryz.func73, Tryz.ntmps73
 go_wp2_with fail
 refine Rel.wp_region_rel 8 (by kernel_rfl) (by kernel_rfl) (fun F hF => ?_)
 simp only [List.take_succ_cons, List.take_zero, List.drop_succ_cons, List.drop_zero, Rel.putL] at hF ⊢
 have HF := Lib.hid hF
 clear hF
 have uv := @Rel.upon_value Tryz.prog
 have ue := @Rel.upon_enter Tryz.prog
 apply Rel.rel_pure
 apply Exists.intro
 refine ⟨fun vs wq hq hdp R hR => ?_, ?_⟩
 ·(rw [HF.out, Rel.stepAt_eq]; clear hdp; skip; go_simp; exact hR)
 apply Rel.rel_pure
 apply Exists.intro
 refine ⟨fun vs wq hq hdp R hR => ?_, ?_⟩
 ·(rw [HF.out, Rel.stepAt_eq]; have qd0 : vs 0 = _ := Rel.dep hdp 0 (by kernel_rfl); clear hdp; have x1 := (KL.out.belowS hq).at 1 (v := .slice (some ⟨fb, fo, none⟩) N c') rfl; go_simp; exact hR)
 apply Rel.rel_pure
 apply Exists.intro
 refine ⟨fun vs wq hq hdp R hR => ?_, ?_⟩
 ·(rw [HF.out, Rel.stepAt_eq]; clear hdp; skip; go_simp; exact hR)
 apply Rel.rel_pure
 apply Exists.intro
 refine ⟨fun vs wq hq hdp R hR => ?_, ?_⟩
 ·(rw [HF.out, Rel.stepAt_eq]; have qd1 : vs 1 = _ := Rel.dep hdp 1 (by kernel_rfl); have qd2 : vs 2 = _ := Rel.dep hdp 2 (by kernel_rfl); clear hdp; skip; go_simp; exact hR)
 apply Rel.rel_pure
 apply Exists.intro
 refine ⟨fun vs wq hq hdp R hR => ?_, ?_⟩
 ·(rw [HF.out, Rel.stepAt_eq]; have qd3 : vs 3 = _ := Rel.dep hdp 3 (by kernel_rfl); clear hdp; have y0 := (hq.cell (p := ⟨fb, fo + i * 2, none⟩) hfb).trans g1; have y1 := (hq.cell (p := ⟨fb, fo + i * 2 + 1, none⟩) hfb).trans g2; go_simp; exact hR)
 refine Rel.rel_law (S := fun v w' => IsRt w' q v) (isRtM q) (fun vs wq hq hdp => ?_) ?_
 ·(rw [HF.out, Rel.stepAt_eq]; have qd4 : vs 4 = _ := Rel.dep hdp 4 (by kernel_rfl); clear hdp; skip; go_simp; refine (HRO.out _).mono ?_; rintro e w7 h; obtain ⟨v, rfl, hv, hb⟩ := h.is; exact ⟨_, rfl, hv, hb⟩)
 apply Rel.rel_pure
 apply Exists.intro
 refine ⟨fun vs wq hq hdp R hR => ?_, ?_⟩
 ·(rw [HF.out, Rel.stepAt_eq]; clear hdp; have x0 := (KM.out.belowS hq).at 0 (v := .bool s) rfl; have x1 := (KM.out.belowS hq).at 1 (v := .slice A1 k1 c1) rfl; have x2 := (KM.out.belowS hq).at 2 (v := .slice A2 k2 c2) rfl; go_simp; exact hR)
 apply Rel.rel_same
 apply Exists.intro
 refine ⟨fun vs wq hq hdp => ?_, ?_⟩
 ·(rw [HF.out, Rel.stepAt_eq]; have qd5 : IsRt wq q (vs 5) := Rel.dep hdp 5 (by kernel_rfl); have qd6 : vs 6 = _ := Rel.dep hdp 6 (by kernel_rfl); clear hdp; skip; go_simp; refine (ratCompare wq qd5 (HM.out.below hq) HZ.out.1 HZ.out.2).mono ?_; rintro e w7 ⟨rfl, hb⟩; exact ⟨_, rfl, rfl, hb⟩)
 refine Rel.rel_end (fun vs wq hq hall => ?_)
 rw [HF.out]
 have qe0 : vs 0 = _ := Rel.fin hall 0 (by decide)
 have qe1 : vs 1 = _ := Rel.fin hall 1 (by decide)
 have qe2 : vs 2 = _ := Rel.fin hall 2 (by decide)
 have qe3 : vs 3 = _ := Rel.fin hall 3 (by decide)
 have qe4 : vs 4 = _ := Rel.fin hall 4 (by decide)
 have qe5 : IsRt wq q (vs 5) := Rel.fin hall 5 (by decide)
 have qe6 : vs 6 = _ := Rel.fin hall 6 (by decide)
 have qe7 : vs 7 = _ := Rel.fin hall 7 (by decide)
 clear hall HF uv ue
 have ev : vs 7 = .int .i64 r := by rw [qe7, HR.out]
 have HB := Lib.hid hq
 clear qe0 qe1 qe2 qe3 qe4 qe5 qe6 qe7 hq
 rcases HRD.out.1 with e | e | e
 all_goals
  subst e
  go_wp2
  go_ret
  exact ⟨by rw [← HRD.out.2]; rfl, HB.out⟩
end Go.Proofs.YtcimmgpmkfbpdaaGreatDoor.LpK
namespace Go.Proofs.YtcimmgpmkfbpdaaGreatDoor.LpO
open Go.RowKit Go.Proofs.YtcimmgpmkfbpdaaGreatDoor Go.Proofs.YtcimmgpmkfbpdaaGreatDoor.Base Go.Proofs.YtcimmgpmkfbpdaaGreatDoor.Mem Go.Proofs.YtcimmgpmkfbpdaaGreatDoor.MemF Go.Proofs.YtcimmgpmkfbpdaaGreatDoor.GiveM Go.Proofs.YtcimmgpmkfbpdaaGreatDoor.NatM Go.Proofs.YtcimmgpmkfbpdaaGreatDoor.Nat32 Go.Proofs.YtcimmgpmkfbpdaaGreatDoor.RatM Go.Proofs.YtcimmgpmkfbpdaaGreatDoor.Ratio Go.Proofs.YtcimmgpmkfbpdaaGreatDoor.LvQ Go.Proofs.YtcimmgpmkfbpdaaGreatDoor.LvO Go.Proofs.YtcimmgpmkfbpdaaGreatDoor.LvT Go.Proofs.YtcimmgpmkfbpdaaGreatDoor.LvW Go.Proofs.YtcimmgpmkfbpdaaGreatDoor.LvF Go.Proofs.YtcimmgpmkfbpdaaGreatDoor.LvG Go.Proofs.YtcimmgpmkfbpdaaGreatDoor.LpK
open Go.Proofs.YtcimmgpmkfbpdaaGreatDoor.Blk (Blk)
open Go.Proofs.YtcimmgpmkfbpdaaGreatDoor.Inv (not_slice not_bool)
set_option linter.unusedVariables false
def p3 (w : World) (b : Nat) (v0 v1 v2 : Value) : World := ((w.setCell ⟨b, 0, none⟩ v0).setCell ⟨b, 1, none⟩ v1).setCell ⟨b, 2, none⟩ v2
theorem p3_blk {w : World} {b : Nat} {t : TypeId} {u0 u1 u2 : Value} (K : Blk w b t #[u0, u1, u2]) (v0 v1 v2 : Value) : Blk (p3 w b v0 v1 v2) b t #[v0, v1, v2] := ((K.setTo 0 v0 rfl).setTo 1 v1 rfl).setTo 2 v2 rfl
theorem p3_other {w : World} {b b' : Nat} {t : TypeId} {cs : Array Value} (K : Blk w b' t cs) (hne : b ≠ b') (v0 v1 v2 : Value) : Blk (p3 w b v0 v1 v2) b' t cs := ((K.other v0 hne).other v1 hne).other v2 hne
theorem p3_below {w0 w : World} {b B : Nat} (h : Below B w0 w) (hb : B ≤ b) (v0 v1 v2 : Value) : Below B w0 (p3 w b v0 v1 v2) := ((h.setCell (p := ⟨b, 0, none⟩) hb v0).setCell (p := ⟨b, 1, none⟩) hb v1).setCell (p := ⟨b, 2, none⟩) hb v2
theorem rdUp3 {w : World} {A : Option Addr} {xs : List Nat} {b : Nat} {t : TypeId} {s : Bool} {A1 A2 : Option Addr} {k1 c1 k2 c2 : Nat} (h : RdU w w.heap.size A xs) (K : Blk w b t #[.bool s, .slice A1 k1 c1, .slice A2 k2 c2]) (v0 v1 v2 : Value) : RdU (p3 w b v0 v1 v2) (p3 w b v0 v1 v2).heap.size A xs := by
 have e : (p3 w b v0 v1 v2).heap.size = w.heap.size := by simp [p3]
 rw [e]
 have K0 := K.setTo 0 v0 rfl
 have K1 := K0.setTo 1 v1 rfl
 exact ((h.non (K.at 0 (v := .bool s) rfl) (not_bool _) _).non (K0.at 1 (v := .slice A1 k1 c1) rfl) (not_slice _ _ _) _).non (K1.at 2 (v := .slice A2 k2 c2) rfl) (not_slice _ _ _) _
theorem isRtp3 {w : World} {q : Rat} {v : Value} {b : Nat} {t : TypeId} {s : Bool} {A1 A2 : Option Addr} {k1 c1 k2 c2 : Nat} (h : IsRt w q v) (K : Blk w b t #[.bool s, .slice A1 k1 c1, .slice A2 k2 c2]) (v0 v1 v2 : Value) : IsRt (p3 w b v0 v1 v2) q v := by
 obtain ⟨A, c, A', c', e, h1, h2⟩ := h
 exact ⟨A, c, A', c', e, rdUp3 h1 K _ _ _, rdUp3 h2 K _ _ _⟩
theorem isRt_open {w : World} {q : Rat} {v : Value} (h : IsRt w q v) : ∃ s A1 k1 c1 A2 k2 c2, v = .agg #[.bool s, .slice A1 k1 c1, .slice A2 k2 c2] ∧ IsRt w q (.agg #[.bool s, .slice A1 k1 c1, .slice A2 k2 c2]) := by
 have h' := h
 obtain ⟨A, c, A', c', e, _, _⟩ := h
 rw [e] at h'
 exact ⟨_, A, _, c, A', _, c', e, h'⟩
def SoRel (C : Cnt) (n y b6 : Nat) (vl1 vl2 : Value) (w : World) (iv : Value) (wr : World) : Prop :=
 ∃ (i : Nat) (s : Bool) (A1 : Option Addr) (k1 c1 : Nat) (A2 : Option Addr) (k2 c2 : Nat), i ≤ C.many ∧ iv = .int .i64 (i : Int) ∧ Hid (Blk wr b6 114 #[.bool s, .slice A1 k1 c1, .slice A2 k2 c2]) ∧ Hid (IsRt wr (dy n (upS C y i)) (.agg #[.bool s, .slice A1 k1 c1, .slice A2 k2 c2])) ∧ Hid (Blk wr (w.heap.size + 1) 52 #[.int .i64 0, .int .i64 0]) ∧ Hid (Below w.heap.size w wr)
set_option maxHeartbeats 4000000 in
set_option maxRecDepth 100000 in
theorem sumOver_d {n y lb mb : Nat} {A A' B1 B1' : Option Addr} {c c' e1 e1' : Nat} {C : Cnt} {s0 : Bool} {M1 M2 : Option Addr} {m1 l1 m2 l2 : Nat} (hC : C.ok n) (hn : n ≤ 50) (hy : y ≤ 2 ^ n) (w : World) (hyy : RdF w w.heap.size A' C.many (outF (fD C n) C.many))
  (KL0 : Blk w lb 65 #[.slice B1 C.many e1, .slice B1' C.many e1']) (hf : RdF w w.heap.size B1' C.many (outF (fD C n) C.many)) (KM0 : Blk w mb 114 #[.bool s0, .slice M1 m1 l1, .slice M2 m2 l2]) (hm : IsRt w (dy n y) (.agg #[.bool s0, .slice M1 m1 l1, .slice M2 m2 l2])) :
  Calls Tryz.prog 72 #[.agg #[.slice A C.many c, .slice A' C.many c'], .func (Fn.func 73) #[] #[.pointer (some ⟨lb, 0, none⟩), .pointer (some ⟨mb, 0, none⟩)]] w fun e w' => e = .returned (.tuple #[.agg #[.int .i64 (nD n (upS C y C.many)), .int .i64 (dD n (upS C y C.many))], .bool true]) ∧ Below w.heap.size w w' := by
 have hN60 : C.many ≤ 51 := by have := hC.2.1; omega
 have HCl := Lib.hid (fun i (hi : i < C.many) W (hW : Below w.heap.size w W) => close_d (c := e1) hC hi hn hy W (KL0.belowS hW) ((hf.below hW (Nat.le_refl _)).more hW.size) (KM0.belowS hW) (hm.below hW))
 have HWh := Lib.hid (fun W => whole_any 0 (by decide) W)
 obtain ⟨W2, hW2⟩ : ∃ W2, W2 = (w.alloc (.cells #[.slice A C.many c, .slice A' C.many c'] 65)).alloc (.cells #[.int .i64 0, .int .i64 0] 52) := ⟨_, rfl⟩
 have b2 : Below w.heap.size w W2 := by rw [hW2]; exact ((Below.refl _ _).alloc (Nat.le_refl _) _).alloc (by simp) _
 have KL : Hid (Blk W2 w.heap.size 65 #[.slice A C.many c, .slice A' C.many c']) := Lib.hid (by rw [hW2]; exact (Blk.new w _ _).alloc _)
 have KR : Hid (Blk W2 (w.heap.size + 1) 52 #[.int .i64 0, .int .i64 0]) := Lib.hid (by rw [hW2]; exact Blk.newAt _ _ (by simp))
 have HB := Lib.hid b2
 have HW := Lib.hid hW2
 have HY := Lib.hid hyy
 have HC := Lib.hid hC
 clear KL0 hf KM0 hm b2 hW2 hyy hC
 go_enter Tryz.func72, Tryz.ntmps72
 go_wp2_with fail
 rw [← HW.out]
 refine (HWh.out _).mono ?_
 rintro e w3 h
 obtain ⟨v, rfl, hv3, hb3⟩ := (RV.of_zero h).is
 obtain ⟨s, A1, k1, c1, A2, k2, c2, rfl, hI⟩ := isRt_open hv3
 have hlo : Hid (w.heap.size + 1 < w3.heap.size) := Lib.hid (by have := KR.out.lt; have := hb3.size; omega)
 have B3 := Base.Below.nextA HB.out hb3
 have H0 : Hid (SoRel C n y w3.heap.size (.slice A C.many c) (.slice A' C.many c') w (.int .i64 0) (w3.alloc (.cells #[.bool s, .slice A1 k1 c1, .slice A2 k2 c2] 114))) := Lib.hid (by
  refine ⟨0, s, A1, k1, c1, A2, k2, c2, Nat.zero_le _, rfl, Lib.hid (Blk.new w3 _ _), Lib.hid ?_, Lib.hid ((KR.out.belowS hb3).alloc _), Lib.hid (B3.alloc B3.size _)⟩
  rw [upS_zero, dy_zero]
  exact hI.below ((Below.refl _ _).alloc (Nat.le_refl _) _))
 have KL3 := (KL.out.belowS hb3).alloc (.cells #[.bool s, .slice A1 k1 c1, .slice A2 k2 c2] 114)
 have d1 := KL3.at 1 (v := .slice A' C.many c') rfl
 have d1' := (KL.out.belowS hb3).at 1 (v := .slice A' C.many c') rfl
 have hl3 := (KL.out.belowS hb3).lt
 clear hv3 hI h hb3 B3 KL3 HWh HW KR
 go_wp2
 go_loopw [13] (fun iv wr => SoRel C n y w3.heap.size (.slice A C.many c) (.slice A' C.many c') w iv wr) (fun iv _ => C.many - (intOf iv).toNat)
 case atStart => exact H0.out
 case round =>
  obtain ⟨i, s, A1, k1, c1, A2, k2, c2, hi, rfl, KS, HS, KR, HBr⟩ := hrel
  obtain ⟨wp, rfl⟩ : ∃ x, x = wr := ⟨_, rfl⟩
  clear H0 d1 d1' hl3
  by_cases hlt : i < C.many
  ·obtain ⟨fb, fo, eA, hfb, g1, g2⟩ := rdD (HY.out.below HBr.out (Nat.le_refl _)) hlt
   subst eA
   have hx := Cnt.one_le HC.out hlt
   have hu := upS_le HC.out y (k := i) (by omega)
   have HRO := Lib.hid (fun W => rof_d hx hn W)
   have hfw : Below wp.heap.size wp (wp.alloc (.cells #[.int .i64 (nD n (C.c i)), .int .i64 (dD n (C.c i))] 52)) := (Below.refl _ _).alloc (Nat.le_refl _) _
   have HCi := Lib.hid (HCl.out i hlt _ (Base.Below.nextA HBr.out hfw))
   have KF0 := Lib.hid (Blk.new wp 52 #[.int .i64 (nD n (C.c i)), .int .i64 (dD n (C.c i))])
   have HF1 := Lib.hid hfw
   have HSz := Lib.hid (And.intro (dy_sz hu hn) (dy_sz hx hn))
   have HPl0 : Hid (∀ W u v, IsRt W (dy n (upS C y i)) u → IsRt W (dy n (C.c i)) v → Calls Tryz.prog 106 #[u, v] W (RV (dy n (upS C y i + C.c i)) W)) := Lib.hid fun W u v h1 h2 => by
    have := ratPlus W h1 h2 HSz.out.1 HSz.out.2
    rwa [dy_add] at this
   clear hfw hx hu
   by_cases hle : C.c i ≤ y
   ·rw [decide_eq_true hle] at HCi
    rw [← upS_yes hle] at HPl0
    have HN : Hid (∀ s A1 k1 c1 A2 k2 c2 w5, Blk w5 w3.heap.size 114 #[.bool s, .slice A1 k1 c1, .slice A2 k2 c2] → IsRt w5 (dy n (upS C y (i + 1))) (.agg #[.bool s, .slice A1 k1 c1, .slice A2 k2 c2]) → Blk w5 (w.heap.size + 1) 52 #[.int .i64 0, .int .i64 0] → Below w.heap.size w w5 → SoRel C n y w3.heap.size (.slice A C.many c) (.slice (some ⟨fb, fo, none⟩) C.many c') w (.int .i64 ((i : Int) + 1)) w5) := Lib.hid fun s A1 k1 c1 A2 k2 c2 w5 h1 h2 h3 h4 => ⟨i + 1, s, A1, k1, c1, A2, k2, c2, hlt, by simp, Lib.hid h1, Lib.hid h2, Lib.hid h3, Lib.hid h4⟩
    have HPl := HPl0
    clear HPl0 hle
    generalize dy n (upS C y (i + 1)) = qn at *
    generalize dy n (upS C y i) = qc at *
    generalize dy n (C.c i) = q at *
    generalize nD n (C.c i) = x1 at *
    generalize dD n (C.c i) = x2 at *
    go_wp2_with fail
    refine HCi.out.mono ?_
    rintro e w4 ⟨rfl, hb4⟩
    have hb5 := Base.Below.nextA HF1.out hb4
    have KF := Lib.hid (KF0.out.belowS hb4)
    replace KS := Lib.hid (KS.out.belowS hb5)
    replace HS := Lib.hid (HS.out.below hb5)
    replace KR := Lib.hid (KR.out.belowS hb5)
    replace HBr := Lib.hid (Base.Below.nextA HBr.out hb5)
    clear hb4 hb5 KF0 HF1 HCi g1 g2
    go_wp2_with fail
    refine Rel.wp_region_rel 4 (by kernel_rfl) (by kernel_rfl) (fun F hF => ?_)
    simp only [List.take_succ_cons, List.take_zero, List.drop_succ_cons, List.drop_zero, Rel.putL] at hF ⊢
    have HF := Lib.hid hF
    clear hF
    have uv := @Rel.upon_value Tryz.prog
    have ue := @Rel.upon_enter Tryz.prog
    apply Rel.rel_pure
    apply Exists.intro
    refine ⟨fun vs wq hq hdp R hR => ?_, ?_⟩
    ·(rw [HF.out, Rel.stepAt_eq]; clear hdp; have x0 := (KS.out.belowS hq).at 0 (v := .bool s) rfl; have x1 := (KS.out.belowS hq).at 1 (v := .slice A1 k1 c1) rfl; have x2 := (KS.out.belowS hq).at 2 (v := .slice A2 k2 c2) rfl; go_simp; exact hR)
    apply Rel.rel_pure
    apply Exists.intro
    refine ⟨fun vs wq hq hdp R hR => ?_, ?_⟩
    ·(rw [HF.out, Rel.stepAt_eq]; clear hdp; have y0 := (KF.out.belowS hq).at 0 (v := .int .i64 x1) rfl; have y1 := (KF.out.belowS hq).at 1 (v := .int .i64 x2) rfl; go_simp; exact hR)
    refine Rel.rel_law (S := fun v w' => IsRt w' q v) (isRtM q) (fun vs wq hq hdp => ?_) ?_
    ·(rw [HF.out, Rel.stepAt_eq]; have qd1 : vs 1 = _ := Rel.dep hdp 1 (by kernel_rfl); clear hdp; skip; go_simp; refine (HRO.out _).mono ?_; rintro e w7 h; obtain ⟨v, rfl, hv, hb⟩ := h.is; exact ⟨_, rfl, hv, hb⟩)
    refine Rel.rel_law (S := fun v w' => IsRt w' qn v) (isRtM qn) (fun vs wq hq hdp => ?_) ?_
    ·(rw [HF.out, Rel.stepAt_eq]; have qd0 : vs 0 = _ := Rel.dep hdp 0 (by kernel_rfl); have qd2 : IsRt wq q (vs 2) := Rel.dep hdp 2 (by kernel_rfl); clear hdp; skip; go_simp; refine (HPl.out wq _ _ (HS.out.below hq) qd2).mono ?_; rintro e w7 h; obtain ⟨v, rfl, hv, hb⟩ := h.is; exact ⟨_, rfl, hv, hb⟩)
    refine Rel.rel_end (fun vs wq hq hall => ?_)
    rw [HF.out]
    have qe0 : vs 0 = _ := Rel.fin hall 0 (by decide)
    have qe1 : vs 1 = _ := Rel.fin hall 1 (by decide)
    have qe2 : IsRt wq q (vs 2) := Rel.fin hall 2 (by decide)
    have qe3 : IsRt wq qn (vs 3) := Rel.fin hall 3 (by decide)
    clear hall HF uv ue
    obtain ⟨s', B1', j1', e1', B2', j2', e2', ev, hI⟩ := isRt_open qe3
    have KSq := KS.out.belowS hq
    have HN2 := Lib.hid (HN.out s' B1' j1' e1' B2' j2' e2' _ (p3_blk KSq _ _ _) (isRtp3 hI KSq _ _ _) (p3_other (KR.out.belowS hq) (Nat.ne_of_gt hlo.out) _ _ _) (p3_below (Base.Below.nextA HBr.out hq) (by have := hlo.out; omega) _ _ _))
    unfold p3 at HN2
    have z0 := KSq.frz 0
    have z1 := KSq.frz 1
    have z2 := KSq.frz 2
    have c0 := KSq.at 0 (v := .bool s) rfl
    have c1 := KSq.at 1 (v := .slice A1 k1 c1) rfl
    have c2 := KSq.at 2 (v := .slice A2 k2 c2) rfl
    clear hq hI KSq KS HS KR HBr KF HN HPl HRO qe3
    go_wp2
    go_roundw
    case rel => exact HN2.out
    case measure => simp [intOf]; omega
   ·rw [decide_eq_false hle] at HCi
    have hb0 := upS_no hle
    generalize nD n (C.c i) = x1 at *
    generalize dD n (C.c i) = x2 at *
    go_wp2_with fail
    refine HCi.out.mono ?_
    rintro e w4 ⟨rfl, hb4⟩
    have hb5 := Base.Below.nextA HF1.out hb4
    have HN : Hid (SoRel C n y w3.heap.size (.slice A C.many c) (.slice (some ⟨fb, fo, none⟩) C.many c') w (.int .i64 ((i : Int) + 1)) w4) := Lib.hid ⟨i + 1, s, A1, k1, c1, A2, k2, c2, hlt, by simp, Lib.hid (KS.out.belowS hb5), Lib.hid (by rw [hb0]; exact HS.out.below hb5), Lib.hid (KR.out.belowS hb5), Lib.hid (Base.Below.nextA HBr.out hb5)⟩
    clear hb4 hb5 KF0 HF1 HCi g1 g2 hb0 HPl0 HRO
    go_wp2
    go_roundw
    case rel => exact HN.out
    case measure => simp [intOf]; omega
  ·obtain rfl : i = C.many := by omega
   have HFr := Lib.hid (ratFraction wp HS.out)
   rw [(dy_numQ (upS_le HC.out y (Nat.le_refl _)) hn).1, (dy_numQ (upS_le HC.out y (Nat.le_refl _)) hn).2, ← (dy_numQ (upS_le HC.out y (Nat.le_refl _)) hn).1, ← (dy_numQ (upS_le HC.out y (Nat.le_refl _)) hn).2, dy_small (upS_le HC.out y (Nat.le_refl _)) hn] at HFr
   obtain ⟨P, hP⟩ : ∃ P, P = nD n (upS C y C.many) := ⟨_, rfl⟩
   obtain ⟨Q, hQ⟩ : ∃ Q, Q = dD n (upS C y C.many) := ⟨_, rfl⟩
   unfold nD at hP
   unfold dD at hQ
   rw [← hP, ← hQ] at HFr
   have HPQ := Lib.hid (And.intro hP hQ)
   have x0 := KS.out.at 0 (v := .bool s) rfl
   have x1 := KS.out.at 1 (v := .slice A1 k1 c1) rfl
   have x2 := KS.out.at 2 (v := .slice A2 k2 c2) rfl
   clear hP hQ
   go_wp2_with fail
   refine HFr.out.mono ?_
   rintro e w8 ⟨rfl, hb8⟩
   have KR8 := KR.out.belowS hb8
   have HB8 := Lib.hid (Base.Below.nextA HBr.out hb8)
   have r0 := KR8.at 0 (v := .int .i64 0) rfl
   have r1 := KR8.at 1 (v := .int .i64 0) rfl
   have f0 := KR8.frz 0
   have f1 := KR8.frz 1
   have SS := (KR8.setTo 0 (.int .i64 P) rfl).setTo 1 (.int .i64 Q) rfl
   have k0 := SS.at 0 (v := .int .i64 P) rfl
   have k1 := SS.at 1 (v := .int .i64 Q) rfl
   clear SS KR8 hb8 KS KR HS HFr x0 x1 x2
   go_wp2
   refine bodyPost_ret (v := .tuple #[.agg #[.int .i64 P, .int .i64 Q], .bool true]) (by simp [results, Tryz.results72, go_sem, k0, k1]) rfl ⟨by rw [HPQ.out.1, HPQ.out.2]; rfl, (HB8.out.setCell (p := ⟨w.heap.size + 1, 0, none⟩) (Nat.le_succ _) _).setCell (p := ⟨w.heap.size + 1, 1, none⟩) (Nat.le_succ _) _⟩
end Go.Proofs.YtcimmgpmkfbpdaaGreatDoor.LpO
namespace Go.Proofs.YtcimmgpmkfbpdaaGreatDoor.LpL
open Go.RowKit Go.Proofs.YtcimmgpmkfbpdaaGreatDoor Go.Proofs.YtcimmgpmkfbpdaaGreatDoor.Base Go.Proofs.YtcimmgpmkfbpdaaGreatDoor.Mem Go.Proofs.YtcimmgpmkfbpdaaGreatDoor.MemF Go.Proofs.YtcimmgpmkfbpdaaGreatDoor.GiveM Go.Proofs.YtcimmgpmkfbpdaaGreatDoor.RatM Go.Proofs.YtcimmgpmkfbpdaaGreatDoor.Ratio Go.Proofs.YtcimmgpmkfbpdaaGreatDoor.LvQ Go.Proofs.YtcimmgpmkfbpdaaGreatDoor.LvO Go.Proofs.YtcimmgpmkfbpdaaGreatDoor.LvT Go.Proofs.YtcimmgpmkfbpdaaGreatDoor.LvW Go.Proofs.YtcimmgpmkfbpdaaGreatDoor.LvF Go.Proofs.YtcimmgpmkfbpdaaGreatDoor.LvG Go.Proofs.YtcimmgpmkfbpdaaGreatDoor.LpK Go.Proofs.YtcimmgpmkfbpdaaGreatDoor.LpO
open Go.Proofs.YtcimmgpmkfbpdaaGreatDoor.Blk (Blk)
set_option linter.unusedVariables false
set_option maxHeartbeats 2000000 in
set_option maxRecDepth 100000 in
theorem levelI_d {n p : Nat} {C : Cnt} {v : Value} (hC : C.ok n) (hp : p < C.many) (hn : n ≤ 50) (w : World) (hv : LawIs C n w v) :
  Calls Tryz.prog 40 #[v, .int .i64 ((C.first + p : Nat) : Int)] w fun e w' => e = .returned (.tuple #[.agg #[.int .i64 (nD n (upS C (C.c p) C.many)), .int .i64 (dD n (upS C (C.c p) C.many))], .bool true]) ∧ Below w.heap.size w w' := by
 have hv0 := hv
 obtain ⟨A, c, A', c', rfl, hx, hy⟩ := hv
 obtain ⟨W2, hW2⟩ : ∃ W2, W2 = (w.alloc (.cells #[.slice A C.many c, .slice A' C.many c'] 65)).alloc (.cells #[.int .i64 0, .int .i64 0] 52) := ⟨_, rfl⟩
 have b2 : Below w.heap.size w W2 := by rw [hW2]; exact ((Below.refl _ _).alloc (Nat.le_refl _) _).alloc (by simp) _
 have KL : Hid (Blk W2 w.heap.size 65 #[.slice A C.many c, .slice A' C.many c']) := Lib.hid (by rw [hW2]; exact (Blk.Blk.new w _ _).alloc _)
 have KR : Hid (Blk W2 (w.heap.size + 1) 52 #[.int .i64 0, .int .i64 0]) := Lib.hid (by rw [hW2]; exact Blk.Blk.newAt _ _ (by simp))
 have HB := Lib.hid b2
 have HW := Lib.hid hW2
 have HCh := Lib.hid (LpC.chanceI_d hC hp hn W2 (hv0.below b2))
 have HRO := Lib.hid (fun W => rof_d (Cnt.one_le hC hp) hn W)
 have HF := Lib.hid (hy.below b2 (Nat.le_refl _) |>.more b2.size)
 have HSO : Hid (∀ (W : World) (lb mb : Nat) (s : Bool) (M1 M2 : Option Addr) (m1 l1 m2 l2 : Nat), RdF W W.heap.size A' C.many (outF (fD C n) C.many) → Blk W lb 65 #[.slice A C.many c, .slice A' C.many c'] → Blk W mb 114 #[.bool s, .slice M1 m1 l1, .slice M2 m2 l2] → IsRt W (dy n (C.c p)) (.agg #[.bool s, .slice M1 m1 l1, .slice M2 m2 l2]) → Calls Tryz.prog 72 #[.agg #[.slice A C.many c, .slice A' C.many c'], .func (Fn.func 73) #[] #[.pointer (some ⟨lb, 0, none⟩), .pointer (some ⟨mb, 0, none⟩)]] W fun e w' => e = .returned (.tuple #[.agg #[.int .i64 (nD n (upS C (C.c p) C.many)), .int .i64 (dD n (upS C (C.c p) C.many))], .bool true]) ∧ Below W.heap.size W w') :=
  Lib.hid fun W lb mb s M1 M2 m1 l1 m2 l2 h1 h2 h3 h4 => sumOver_d hC hn (Cnt.one_le hC hp) W h1 h2 h1 h3 h4
 have d0 := KL.out.at 0 (v := .slice A C.many c) rfl
 have d1 := KL.out.at 1 (v := .slice A' C.many c') rfl
 rw [show ((C.first + p : Nat) : Int) = (C.first : Int) + (p : Int) by simp] at HCh ⊢
 generalize (C.first : Int) + (p : Int) = vv at *
 generalize dy n (C.c p) = q at *
 generalize nD n (C.c p) = x1 at *
 generalize dD n (C.c p) = x2 at *
 generalize nD n (upS C (C.c p) C.many) = P at *
 generalize dD n (upS C (C.c p) C.many) = Q at *
 clear hC hx hy hv0 b2 hW2
 go_enter Tryz.func40, Tryz.ntmps40
 go_wp2_with fail
 rw [← HW.out]
 refine HCh.out.mono ?_
 rintro e w3 ⟨rfl, hb3⟩
 have KL3 := Lib.hid (KL.out.belowS hb3)
 have KR3 := Lib.hid (KR.out.belowS hb3)
 have HB3 := Lib.hid (Base.Below.nextA HB.out hb3)
 have HF3 := Lib.hid ((HF.out.below hb3 (Nat.le_refl _)).more hb3.size)
 clear hb3 HCh KL KR HB HF HW d0 d1
 go_wp2_with fail
 refine (HRO.out _).mono ?_
 rintro e w4 h
 obtain ⟨v, rfl, hv4, hb4⟩ := h.is
 obtain ⟨s, A1, k1, c1, A2, k2, c2, rfl, hI⟩ := isRt_open hv4
 obtain ⟨W5, hW5⟩ : ∃ W5, W5 = w4.alloc (.cells #[.bool s, .slice A1 k1 c1, .slice A2 k2 c2] 114) := ⟨_, rfl⟩
 have hb5 : Below w4.heap.size w4 W5 := by rw [hW5]; exact (Below.refl _ _).alloc (Nat.le_refl _) _
 have hb35 := Base.Below.nextA hb4 hb5
 have KL5 := Lib.hid (KL3.out.belowS hb35)
 have KR5 := Lib.hid (KR3.out.belowS hb35)
 have HB5 := Lib.hid (Base.Below.nextA HB3.out hb35)
 have KM : Hid (Blk W5 w4.heap.size 114 #[.bool s, .slice A1 k1 c1, .slice A2 k2 c2]) := Lib.hid (by rw [hW5]; exact Blk.Blk.new w4 _ _)
 have HS := Lib.hid (HSO.out W5 w.heap.size w4.heap.size s A1 A2 k1 c1 k2 c2 ((HF3.out.below hb35 (Nat.le_refl _)).more hb35.size) KL5.out KM.out (hI.below hb5))
 have d0 := KL5.out.at 0 (v := .slice A C.many c) rfl
 have d1 := KL5.out.at 1 (v := .slice A' C.many c') rfl
 have HW5 := Lib.hid hW5
 rw [hW5] at d0 d1
 clear h hv4 hI hb4 hb5 hb35 hW5 KL3 KR3 HB3 HF3 HSO HRO KM
 go_wp2_with fail
 rw [← HW5.out]
 refine HS.out.mono ?_
 rintro e w6 ⟨rfl, hb6⟩
 have KR6 := KR5.out.belowS hb6
 have HB6 := Lib.hid (Base.Below.nextA HB5.out hb6)
 have r0 := KR6.at 0 (v := .int .i64 0) rfl
 have r1 := KR6.at 1 (v := .int .i64 0) rfl
 have f0 := KR6.frz 0
 have f1 := KR6.frz 1
 have SS := (KR6.setTo 0 (.int .i64 P) rfl).setTo 1 (.int .i64 Q) rfl
 have k0 := SS.at 0 (v := .int .i64 P) rfl
 have k1 := SS.at 1 (v := .int .i64 Q) rfl
 clear SS KR6 hb6 KL5 KR5 HS d0 d1 HW5
 go_wp2
 refine bodyPost_ret (v := .tuple #[.agg #[.int .i64 P, .int .i64 Q], .bool true]) (by simp [results, Tryz.results40, go_sem, k0, k1]) rfl ⟨rfl, (HB6.out.setCell (p := ⟨w.heap.size + 1, 0, none⟩) (Nat.le_succ _) _).setCell (p := ⟨w.heap.size + 1, 1, none⟩) (Nat.le_succ _) _⟩
end Go.Proofs.YtcimmgpmkfbpdaaGreatDoor.LpL
namespace Go.Proofs.YtcimmgpmkfbpdaaGreatDoor.LvR
set_option linter.unusedVariables false
def bump (xs : List Int) : List Int := xs.set (xs.length - 1) (xs.getD (xs.length - 1) 0 + 1)
def newRun (f : Nat → Nat) (i : Nat) : Bool := decide (i = 0) || decide (f i ≠ f (i - 1))
def runsTo (f : Nat → Nat) : Nat → List Int
 | 0 => []
 | i + 1 => bump (if newRun f i then runsTo f i ++ [0] else runsTo f i)
theorem bump_len (xs : List Int) : (bump xs).length = xs.length := by simp [bump]
theorem bump_snoc (xs : List Int) : bump (xs ++ [0]) = xs ++ [1] := by simp [bump, List.getD]
theorem bump_mem {xs : List Int} {lo hi : Int} (h : ∀ k, k < xs.length → lo ≤ xs.getD k 0 ∧ xs.getD k 0 ≤ hi) : ∀ k, k < xs.length → lo ≤ (bump xs).getD k 0 ∧ (bump xs).getD k 0 ≤ hi + 1 := by
 intro k hk
 have h1 := h k hk
 have h2 := h (xs.length - 1) (by omega)
 unfold bump
 by_cases e : xs.length - 1 = k
 ·rw [← e] at hk ⊢
  simp only [List.getD, List.getElem?_set_self hk, Option.getD_some] at h2 ⊢
  omega
 ·simp only [List.getD, List.getElem?_set_ne e] at h1 ⊢
  omega
theorem runs_in (f : Nat → Nat) : ∀ i, (runsTo f i).length ≤ i ∧ (1 ≤ i → 1 ≤ (runsTo f i).length) ∧ ∀ k, k < (runsTo f i).length → 1 ≤ (runsTo f i).getD k 0 ∧ (runsTo f i).getD k 0 ≤ (i : Int)
 | 0 => ⟨Nat.le_refl _, fun h => by omega, fun k h => absurd h (Nat.not_lt_zero k)⟩
 | i + 1 => by
  obtain ⟨h1, h2, h3⟩ := runs_in f i
  rw [runsTo]
  by_cases hn : newRun f i = true
  ·rw [if_pos hn, bump_snoc]
   refine ⟨by simp; omega, fun _ => by simp, fun k hk => ?_⟩
   simp at hk
   by_cases e : k < (runsTo f i).length
   ·have := h3 k e
    simp only [List.getD, List.getElem?_append_left e] at this ⊢
    omega
   ·obtain rfl : k = (runsTo f i).length := by omega
    simp [List.getD]
    omega
  ·rw [if_neg hn]
   have hi : 1 ≤ i := by
    rcases Nat.eq_zero_or_pos i with h | h
    ·exact absurd (by simp [newRun, h]) hn
    ·exact h
   refine ⟨by rw [bump_len]; omega, fun _ => by rw [bump_len]; exact h2 hi, fun k hk => ?_⟩
   rw [bump_len] at hk
   have := bump_mem h3 k hk
   omega
def maxTo (xs : List Int) : Nat → Int
 | 0 => 0
 | k + 1 => max (maxTo xs k) (xs.getD k 0)
theorem maxTo_le {xs : List Int} {hi : Int} (h0 : 0 ≤ hi) (h : ∀ k, k < xs.length → xs.getD k 0 ≤ hi) : ∀ k, k ≤ xs.length → 0 ≤ maxTo xs k ∧ maxTo xs k ≤ hi
 | 0, _ => ⟨Int.le_refl _, h0⟩
 | k + 1, hk => by
  have := maxTo_le h0 h k (by omega)
  have := h k (by omega)
  rw [maxTo]; omega
theorem maxTo_ge {xs : List Int} : ∀ k, 1 ≤ k → xs.getD 0 0 ≤ maxTo xs k
 | 0, h => by omega
 | 1, _ => by rw [maxTo, maxTo]; omega
 | k + 2, _ => by
  have := maxTo_ge (xs := xs) (k + 1) (by omega)
  rw [maxTo]; omega
def mostR (f : Nat → Nat) (n : Nat) : Int := maxTo (runsTo f n) (runsTo f n).length
theorem mostR_in (f : Nat → Nat) {n : Nat} (hn : 1 ≤ n) : 1 ≤ mostR f n ∧ mostR f n ≤ (n : Int) := by
 obtain ⟨h1, h2, h3⟩ := runs_in f n
 have h4 := maxTo_le (xs := runsTo f n) (hi := (n : Int)) (by omega) (fun k hk => (h3 k hk).2) _ (Nat.le_refl _)
 have h5 := maxTo_ge (xs := runsTo f n) (runsTo f n).length (h2 hn)
 have h6 := h3 0 (h2 hn)
 unfold mostR
 omega
def onesTo (f : Nat → Nat) : Nat → Nat
 | 0 => 0
 | i + 1 => onesTo f i + (if f i = 49 then 1 else 0)
theorem ones_le (f : Nat → Nat) : ∀ i, onesTo f i ≤ i
 | 0 => Nat.le_refl _
 | i + 1 => by have := ones_le f i; rw [onesTo]; split <;> omega
end Go.Proofs.YtcimmgpmkfbpdaaGreatDoor.LvR
namespace Go.Proofs.YtcimmgpmkfbpdaaGreatDoor.Dice
open Go.RowKit Go.Proofs.YtcimmgpmkfbpdaaGreatDoor Go.Proofs.YtcimmgpmkfbpdaaGreatDoor.Base Go.Proofs.YtcimmgpmkfbpdaaGreatDoor.Mem Go.Proofs.YtcimmgpmkfbpdaaGreatDoor.Bits
set_option linter.unusedVariables false
def BitsS (s : ByteArray) : Prop := ∀ (u : Nat) (h : u < s.size), s[u].toNat = 48 ∨ s[u].toNat = 49
end Go.Proofs.YtcimmgpmkfbpdaaGreatDoor.Dice
