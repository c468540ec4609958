/- Small fractions in the reference's wide form: made, added, given. -/
import Derived.Test.YtcimmgpmkfbpdaaGreatDoorMgStr10
import Derived.Test.YtcimmgpmkfbpdaaGreatDoorMgStr13
import Derived.Test.YtcimmgpmkfbpdaaGreatDoorMgStr15
namespace Go.Proofs.YtcimmgpmkfbpdaaGreatDoor.LvW
open Go.RowKit Go.Proofs.YtcimmgpmkfbpdaaGreatDoor Go.Proofs.YtcimmgpmkfbpdaaGreatDoor.Base Go.Proofs.YtcimmgpmkfbpdaaGreatDoor.Mem Go.Proofs.YtcimmgpmkfbpdaaGreatDoor.RatM Go.Proofs.YtcimmgpmkfbpdaaGreatDoor.BigM Go.Proofs.YtcimmgpmkfbpdaaGreatDoor.Big Go.Proofs.YtcimmgpmkfbpdaaGreatDoor.Fine Go.Proofs.YtcimmgpmkfbpdaaGreatDoor.Blk Go.Proofs.YtcimmgpmkfbpdaaGreatDoor.LvQ Go.Proofs.YtcimmgpmkfbpdaaGreatDoor.LvT
set_option linter.unusedVariables false
def IsSl (v : Value) : Prop := ∃ A k c, v = .slice A k c
theorem isSl_mono : Rel.Mono (fun v _ => IsSl v) := fun v w w' h _ => h
theorem isSl {w : World} {x : Nat} {v : Value} (h : IsB w x v) : IsSl v := by
 obtain ⟨A, c, e, _⟩ := Dig.form h
 exact ⟨A, _, c, e⟩
def IsY (n d : Int) (v : Value) : Prop := ∃ s A1 k1 c1 A2 k2 c2, v = .agg #[.bool s, .slice A1 k1 c1, .slice A2 k2 c2, .bool true, .int .i64 n, .int .i64 d]
theorem isY_mono (n d : Int) : Rel.Mono (fun v _ => IsY n d v) := fun v w w' h _ => h
def YRet (n d : Int) (w : World) (e : Ending) (w' : World) : Prop := ∃ v, e = .returned v ∧ IsY n d v ∧ Below w.heap.size w w'
def Y6.put (w : World) (b : Nat) (v0 v1 v2 v3 v4 v5 : Value) : World := (((((w.setCell ⟨b, 0, none⟩ v0).setCell ⟨b, 1, none⟩ v1).setCell ⟨b, 2, none⟩ v2).setCell ⟨b, 3, none⟩ v3).setCell ⟨b, 4, none⟩ v4).setCell ⟨b, 5, none⟩ v5
theorem Y6.blk {w : World} {b : Nat} {t : TypeId} {u0 u1 u2 u3 u4 u5 : Value} (K : Blk w b t #[u0, u1, u2, u3, u4, u5]) (v0 v1 v2 v3 v4 v5 : Value) : Blk (Y6.put w b v0 v1 v2 v3 v4 v5) b t #[v0, v1, v2, v3, v4, v5] :=
 (((((K.setTo 0 v0 rfl).setTo 1 v1 rfl).setTo 2 v2 rfl).setTo 3 v3 rfl).setTo 4 v4 rfl).setTo 5 v5 rfl
theorem Y6.other {w : World} {b b' : Nat} {t : TypeId} {cs : Array Value} (K : Blk w b' t cs) (hne : b ≠ b') (v0 v1 v2 v3 v4 v5 : Value) : Blk (Y6.put w b v0 v1 v2 v3 v4 v5) b' t cs :=
 (((((K.other v0 hne).other v1 hne).other v2 hne).other v3 hne).other v4 hne).other v5 hne
theorem Y6.below {w0 w : World} {b B : Nat} (h : Below B w0 w) (hb : B ≤ b) (v0 v1 v2 v3 v4 v5 : Value) : Below B w0 (Y6.put w b v0 v1 v2 v3 v4 v5) :=
 (((((h.setCell (p := ⟨b, 0, none⟩) hb v0).setCell (p := ⟨b, 1, none⟩) hb v1).setCell (p := ⟨b, 2, none⟩) hb v2).setCell (p := ⟨b, 3, none⟩) hb v3).setCell (p := ⟨b, 4, none⟩) hb v4).setCell (p := ⟨b, 5, none⟩) hb v5
set_option maxHeartbeats 4000000 in
set_option maxRecDepth 100000 in
theorem wideOf_y {n d : Int} (h : VF n d) (w : World) : Calls Tryz.prog 55 #[.agg #[.int .i64 n, .int .i64 d]] w (YRet n d w) := by
 have HX := Lib.hid (fun W => maxG n h.2.2.1 h.2.2.2.1 W)
 have HBn := Lib.hid (fun W => bigOf_any n.natAbs (by have := h.2.2.1; have := h.2.2.2.1; omega) W)
 have HBd := Lib.hid (fun W => bigOf_any d.toNat (by have := h.2.1; omega) W)
 rw [show ((d.toNat : Nat) : Int) = d by have := h.1; omega] at HBd
 have r1 := h.2.2.1
 have r2 := h.2.2.2.1
 have hwn : IntKind.i64.wrap (-n) = -n := by rw [IntKind.wrap_i64]; omega
 clear h
 obtain ⟨W2, hW2⟩ : ∃ W2, W2 = (w.alloc (.cells #[.int .i64 n, .int .i64 d] 52)).alloc (.cells #[.bool false, .slice none 0 0, .slice none 0 0, .bool false, .int .i64 0, .int .i64 0] 92) := ⟨_, rfl⟩
 have K0 : Hid (Blk W2 w.heap.size 52 #[.int .i64 n, .int .i64 d]) := Lib.hid (by rw [hW2]; exact (Blk.new w _ _).alloc _)
 have KR : Hid (Blk W2 (w.heap.size + 1) 92 #[.bool false, .slice none 0 0, .slice none 0 0, .bool false, .int .i64 0, .int .i64 0]) := Lib.hid (by rw [hW2]; exact Blk.newAt _ _ (by simp))
 have HB : Hid (Below w.heap.size w W2) := Lib.hid (by rw [hW2]; exact ((Below.refl _ _).alloc (Nat.le_refl _) _).alloc (by simp) _)
 have HW := Lib.hid hW2
 clear hW2
 go_enter Tryz.func55, Tryz.ntmps55
 go_wp2_with fail
 rw [← HW.out]
 refine Rel.wp_region_rel 15 (by kernel_rfl) (by kernel_rfl) (fun F hF => ?_)
 simp only [List.take_succ_cons, List.take_zero, List.drop_succ_cons, List.drop_zero, Rel.putL] at hF ⊢
 have HF := Lib.hid hF
 clear hF
 have uv := @Rel.upon_value Tryz.prog
 have ue := @Rel.upon_enter Tryz.prog
 apply Rel.rel_pure
 apply Exists.intro
 refine ⟨fun vs wq hq hdp R hR => ?_, ?_⟩
 ·(rw [HF.out, Rel.stepAt_eq]; clear hdp; skip; go_simp; exact hR)
 apply Rel.rel_pure
 apply Exists.intro
 refine ⟨fun vs wq hq hdp R hR => ?_, ?_⟩
 ·(rw [HF.out, Rel.stepAt_eq]; have qd0 : vs 0 = _ := Rel.dep hdp 0 (by kernel_rfl); clear hdp; have x0 := (K0.out.belowS hq).at 0 (v := .int .i64 n) rfl; have x1 := (K0.out.belowS hq).at 1 (v := .int .i64 d) rfl; go_simp; exact hR)
 apply Rel.rel_pure
 apply Exists.intro
 refine ⟨fun vs wq hq hdp R hR => ?_, ?_⟩
 ·(rw [HF.out, Rel.stepAt_eq]; have qd1 : vs 1 = _ := Rel.dep hdp 1 (by kernel_rfl); clear hdp; skip; go_simp; exact hR)
 apply Rel.rel_pure
 apply Exists.intro
 refine ⟨fun vs wq hq hdp R hR => ?_, ?_⟩
 ·(rw [HF.out, Rel.stepAt_eq]; clear hdp; skip; go_simp; exact hR)
 apply Rel.rel_pure
 apply Exists.intro
 refine ⟨fun vs wq hq hdp R hR => ?_, ?_⟩
 ·(rw [HF.out, Rel.stepAt_eq]; have qd3 : vs 3 = _ := Rel.dep hdp 3 (by kernel_rfl); clear hdp; have x0 := (K0.out.belowS hq).at 0 (v := .int .i64 n) rfl; have x1 := (K0.out.belowS hq).at 1 (v := .int .i64 d) rfl; go_simp; exact hR)
 apply Rel.rel_pure
 apply Exists.intro
 refine ⟨fun vs wq hq hdp R hR => ?_, ?_⟩
 ·(rw [HF.out, Rel.stepAt_eq]; clear hdp; skip; go_simp; exact hR)
 apply Rel.rel_pure
 apply Exists.intro
 refine ⟨fun vs wq hq hdp R hR => ?_, ?_⟩
 ·(rw [HF.out, Rel.stepAt_eq]; have qd5 : vs 5 = _ := Rel.dep hdp 5 (by kernel_rfl); clear hdp; have x0 := (K0.out.belowS hq).at 0 (v := .int .i64 n) rfl; have x1 := (K0.out.belowS hq).at 1 (v := .int .i64 d) rfl; go_simp; exact hR)
 apply Rel.rel_pure
 apply Exists.intro
 refine ⟨fun vs wq hq hdp R hR => ?_, ?_⟩
 ·(rw [HF.out, Rel.stepAt_eq]; have qd6 : vs 6 = _ := Rel.dep hdp 6 (by kernel_rfl); clear hdp; skip; go_simp; exact hR)
 apply Rel.rel_same
 apply Exists.intro
 refine ⟨fun vs wq hq hdp => ?_, ?_⟩
 ·(rw [HF.out, Rel.stepAt_eq]; have qd4 : vs 4 = _ := Rel.dep hdp 4 (by kernel_rfl); have qd7 : vs 7 = _ := Rel.dep hdp 7 (by kernel_rfl); clear hdp; skip; go_simp; refine (HX.out _).mono ?_; rintro e w7 ⟨rfl, rfl⟩; exact ⟨_, rfl, rfl, Below.refl _ _⟩)
 refine Rel.rel_law (S := fun v w' => IsSl v) (isSl_mono) (fun vs wq hq hdp => ?_) ?_
 ·(rw [HF.out, Rel.stepAt_eq]; have qd8 : vs 8 = _ := Rel.dep hdp 8 (by kernel_rfl); clear hdp; skip; go_simp; refine (HBn.out _).mono ?_; rintro e w7 ⟨v, rfl, hv, hb⟩; exact ⟨_, rfl, isSl hv, hb⟩)
 apply Rel.rel_pure
 apply Exists.intro
 refine ⟨fun vs wq hq hdp R hR => ?_, ?_⟩
 ·(rw [HF.out, Rel.stepAt_eq]; clear hdp; skip; go_simp; exact hR)
 apply Rel.rel_pure
 apply Exists.intro
 refine ⟨fun vs wq hq hdp R hR => ?_, ?_⟩
 ·(rw [HF.out, Rel.stepAt_eq]; have qd10 : vs 10 = _ := Rel.dep hdp 10 (by kernel_rfl); clear hdp; have x0 := (K0.out.belowS hq).at 0 (v := .int .i64 n) rfl; have x1 := (K0.out.belowS hq).at 1 (v := .int .i64 d) rfl; go_simp; exact hR)
 refine Rel.rel_law (S := fun v w' => IsSl v) (isSl_mono) (fun vs wq hq hdp => ?_) ?_
 ·(rw [HF.out, Rel.stepAt_eq]; have qd11 : vs 11 = _ := Rel.dep hdp 11 (by kernel_rfl); clear hdp; skip; go_simp; refine (HBd.out _).mono ?_; rintro e w7 ⟨v, rfl, hv, hb⟩; exact ⟨_, rfl, isSl hv, hb⟩)
 apply Rel.rel_pure
 apply Exists.intro
 refine ⟨fun vs wq hq hdp R hR => ?_, ?_⟩
 ·(rw [HF.out, Rel.stepAt_eq]; clear hdp; have x0 := (K0.out.belowS hq).at 0 (v := .int .i64 n) rfl; have x1 := (K0.out.belowS hq).at 1 (v := .int .i64 d) rfl; go_simp; exact hR)
 refine Rel.rel_law (S := fun v w' => IsY n d v) (isY_mono n d) (fun vs wq hq hdp => ?_) ?_
 ·(rw [HF.out, Rel.stepAt_eq]; have qd2 : vs 2 = _ := Rel.dep hdp 2 (by kernel_rfl); have qd9 : IsSl (vs 9) := Rel.dep hdp 9 (by kernel_rfl); have qd12 : IsSl (vs 12) := Rel.dep hdp 12 (by kernel_rfl); have qd13 : vs 13 = _ := Rel.dep hdp 13 (by kernel_rfl); clear hdp; obtain ⟨A1, k1, c1, ev1⟩ := qd9; obtain ⟨A2, k2, c2, ev2⟩ := qd12; have HPP := Lib.hid (And.intro (⟨_, A1, k1, c1, A2, k2, c2, rfl⟩ : IsY n d (.agg #[.bool (decide (n < 0)), .slice A1 k1 c1, .slice A2 k2 c2, .bool true, .int .i64 n, .int .i64 d])) (Below.refl wq.heap.size wq)); go_simp; exact HPP.out)
 refine Rel.rel_end (fun vs wq hq hall => ?_)
 rw [HF.out]
 have qe0 : vs 0 = _ := Rel.fin hall 0 (by decide)
 have qe1 : vs 1 = _ := Rel.fin hall 1 (by decide)
 have qe2 : vs 2 = _ := Rel.fin hall 2 (by decide)
 have qe3 : vs 3 = _ := Rel.fin hall 3 (by decide)
 have qe4 : vs 4 = _ := Rel.fin hall 4 (by decide)
 have qe5 : vs 5 = _ := Rel.fin hall 5 (by decide)
 have qe6 : vs 6 = _ := Rel.fin hall 6 (by decide)
 have qe7 : vs 7 = _ := Rel.fin hall 7 (by decide)
 have qe8 : vs 8 = _ := Rel.fin hall 8 (by decide)
 have qe9 : IsSl (vs 9) := Rel.fin hall 9 (by decide)
 have qe10 : vs 10 = _ := Rel.fin hall 10 (by decide)
 have qe11 : vs 11 = _ := Rel.fin hall 11 (by decide)
 have qe12 : IsSl (vs 12) := Rel.fin hall 12 (by decide)
 have qe13 : vs 13 = _ := Rel.fin hall 13 (by decide)
 have qe14 : IsY n d (vs 14) := Rel.fin hall 14 (by decide)
 clear hall HF uv ue
 obtain ⟨s, A1, k1, c1', A2, k2, c2', ev⟩ := qe14
 have KRq := KR.out.belowS hq
 have HBq := Base.Below.nextA HB.out hq
 clear hq
 have z0 := (KRq).frz 0
 have z1 := (KRq).frz 1
 have z2 := (KRq).frz 2
 have z3 := (KRq).frz 3
 have z4 := (KRq).frz 4
 have z5 := (KRq).frz 5
 have c0 := (KRq).at 0 (v := .bool false) rfl
 have c1 := (KRq).at 1 (v := .slice none 0 0) rfl
 have c2 := (KRq).at 2 (v := .slice none 0 0) rfl
 have c3 := (KRq).at 3 (v := .bool false) rfl
 have c4 := (KRq).at 4 (v := .int .i64 0) rfl
 have c5 := (KRq).at 5 (v := .int .i64 0) rfl
 have SS := Y6.blk KRq (.bool s) (.slice A1 k1 c1') (.slice A2 k2 c2') (.bool true) (.int .i64 n) (.int .i64 d)
 unfold Y6.put at SS
 have s0 := SS.at 0 rfl
 have s1 := SS.at 1 rfl
 have s2 := SS.at 2 rfl
 have s3 := SS.at 3 rfl
 have s4 := SS.at 4 rfl
 have s5 := SS.at 5 rfl
 have HFIN := Lib.hid (Y6.below (b := (w.heap.size + 1)) HBq (by simp) (.bool s) (.slice A1 k1 c1') (.slice A2 k2 c2') (.bool true) (.int .i64 n) (.int .i64 d))
 unfold Y6.put at HFIN
 clear SS
 go_wp2
 refine bodyPost_ret (v := .agg #[.bool s, .slice A1 k1 c1', .slice A2 k2 c2', .bool true, .int .i64 n, .int .i64 d]) (by simp [results, Tryz.results55, go_sem, s0, s1, s2, s3, s4, s5]) rfl ?_
 exact ⟨_, rfl, ⟨s, A1, k1, c1', A2, k2, c2', rfl⟩, HFIN.out⟩
set_option maxHeartbeats 4000000 in
set_option maxRecDepth 100000 in
theorem wideAdd_y {n1 n2 : Int} {d1 d2 : Nat} {v u : Value} {q : Rat} (w : World) (hv : IsY n1 (d1 : Int) v) (hu : IsY n2 (d2 : Int) u) (h1 : VF n1 d1) (h2 : VF n2 d2) (hs : decide (n1 < 0) = decide (n2 < 0)) (hq : q = qf n1 d1 + qf n2 d2) (hS : smallQ q = true) :
  Calls Tryz.prog 87 #[v, u] w (YRet (numQ q) (denQ q) w) := by
 obtain ⟨s, A1, k1, c1, A2, k2, c2, rfl⟩ := hv
 obtain ⟨s', A3, k3, c3, A4, k4, c4, rfl⟩ := hu
 obtain ⟨W3, hW3⟩ : ∃ W3, W3 = ((w.alloc (.cells #[.bool s, .slice A1 k1 c1, .slice A2 k2 c2, .bool true, .int .i64 n1, .int .i64 (d1 : Int)] 92)).alloc (.cells #[(.bool s'), .slice A3 k3 c3, .slice A4 k4 c4, (.bool true), .int .i64 n2, .int .i64 (d2 : Int)] 92)).alloc (.cells #[.bool false, .slice none 0 0, .slice none 0 0, .bool false, .int .i64 0, .int .i64 0] 92) := ⟨_, rfl⟩
 have K0 : Hid (Blk W3 w.heap.size 92 #[.bool s, .slice A1 k1 c1, .slice A2 k2 c2, .bool true, .int .i64 n1, .int .i64 (d1 : Int)]) := Lib.hid (by rw [hW3]; exact ((Blk.new w _ _).alloc _).alloc _)
 have K1 : Hid (Blk W3 (w.heap.size + 1) 92 #[(.bool s'), .slice A3 k3 c3, .slice A4 k4 c4, (.bool true), .int .i64 n2, .int .i64 (d2 : Int)]) := Lib.hid (by rw [hW3]; exact (Blk.newAt _ _ (by simp)).alloc _)
 have KR : Hid (Blk W3 (w.heap.size + 1 + 1) 92 #[.bool false, .slice none 0 0, .slice none 0 0, .bool false, .int .i64 0, .int .i64 0]) := Lib.hid (by rw [hW3]; exact Blk.newAt _ _ (by simp))
 have HB : Hid (Below w.heap.size w W3) := Lib.hid (by rw [hW3]; exact (((Below.refl _ _).alloc (Nat.le_refl _) _).alloc (by simp) _).alloc (by simp; omega) _)
 have HW := Lib.hid hW3
 have HM := Lib.hid (fun W => fAdd_same h1 h2 hs W)
 rw [← hq] at HM
 unfold FRet at HM
 rw [hS] at HM
 have HO : Hid (∀ W, Calls Tryz.prog 55 #[.agg #[.int .i64 (numQ q), .int .i64 (denQ q)]] W (YRet (numQ q) (denQ q) W)) := Lib.hid fun W => by
  obtain ⟨t1, t2⟩ := small_true hS
  obtain ⟨_, e1, e2⟩ := RatM.small_yes t1 t2
  have := wideOf_y (VF.of q hS) W
  rw [e1, e2]; exact this
 clear hW3 h1 h2 hs hq hS
 generalize numQ q = qn at *
 generalize denQ q = qd at *
 have x3 := (K0.out).at 3 (v := .bool true) rfl
 have x4 := (K0.out).at 4 (v := .int .i64 n1) rfl
 have x5 := (K0.out).at 5 (v := .int .i64 (d1 : Int)) rfl
 have y3 := (K1.out).at 3 (v := (.bool true)) rfl
 have y4 := (K1.out).at 4 (v := .int .i64 n2) rfl
 have y5 := (K1.out).at 5 (v := .int .i64 (d2 : Int)) rfl
 go_enter Tryz.func87, Tryz.ntmps87
 go_upto_region 1 with (fail)
 rw [← HW.out]
 clear HW
 have lR := KR.out.lt
 go_wp2_with fail
 refine (HM.out _).mono ?_
 rintro e w4 ⟨rfl, hb4⟩
 have HBa := Lib.hid (Base.Below.nextA HB.out hb4)
 have KRa := Lib.hid (KR.out.belowS hb4)
 clear hb4 K0 K1 KR HB HM x3 x4 x5 y3 y4 y5 lR
 go_upto_region 3 with (fail)
 obtain ⟨W4, hW4⟩ : ∃ W4, W4 = w4.alloc (.cells #[.int .i64 qn, .int .i64 qd] 52) := ⟨_, rfl⟩
 rw [← hW4]
 have KR : Hid (Blk W4 (w.heap.size + 1 + 1) 92 #[.bool false, .slice none 0 0, .slice none 0 0, .bool false, .int .i64 0, .int .i64 0]) := Lib.hid (by rw [hW4]; exact KRa.out.alloc _)
 have K5 : Hid (Blk W4 w4.heap.size 52 #[.int .i64 qn, .int .i64 qd]) := Lib.hid (by rw [hW4]; exact Blk.new w4 _ _)
 have HB : Hid (Below w.heap.size w W4) := Lib.hid (by rw [hW4]; exact HBa.out.alloc HBa.out.size _)
 clear hW4 KRa HBa
 have p0 := K5.out.at 0 (v := .int .i64 qn) rfl
 have p1 := K5.out.at 1 (v := .int .i64 qd) rfl
 go_wp2_with fail
 refine (HO.out _).mono ?_
 rintro e wq ⟨v, rfl, ⟨s, A1, k1, c1', A2, k2, c2', rfl⟩, hq⟩
 have KRq := KR.out.belowS hq
 have HBq := Base.Below.nextA HB.out hq
 clear hq K5 p0 p1 HO
 have z0 := (KRq).frz 0
 have z1 := (KRq).frz 1
 have z2 := (KRq).frz 2
 have z3 := (KRq).frz 3
 have z4 := (KRq).frz 4
 have z5 := (KRq).frz 5
 have c0 := (KRq).at 0 (v := .bool false) rfl
 have c1 := (KRq).at 1 (v := .slice none 0 0) rfl
 have c2 := (KRq).at 2 (v := .slice none 0 0) rfl
 have c3 := (KRq).at 3 (v := .bool false) rfl
 have c4 := (KRq).at 4 (v := .int .i64 0) rfl
 have c5 := (KRq).at 5 (v := .int .i64 0) rfl
 have SS := Y6.blk KRq (.bool s) (.slice A1 k1 c1') (.slice A2 k2 c2') (.bool true) (.int .i64 qn) (.int .i64 qd)
 unfold Y6.put at SS
 have s0 := SS.at 0 rfl
 have s1 := SS.at 1 rfl
 have s2 := SS.at 2 rfl
 have s3 := SS.at 3 rfl
 have s4 := SS.at 4 rfl
 have s5 := SS.at 5 rfl
 have HFIN := Lib.hid (Y6.below (b := (w.heap.size + 1 + 1)) HBq (by omega) (.bool s) (.slice A1 k1 c1') (.slice A2 k2 c2') (.bool true) (.int .i64 qn) (.int .i64 qd))
 unfold Y6.put at HFIN
 clear SS
 go_wp2
 refine bodyPost_ret (v := .agg #[.bool s, .slice A1 k1 c1', .slice A2 k2 c2', .bool true, .int .i64 qn, .int .i64 qd]) (by simp [results, Tryz.results87, go_sem, s0, s1, s2, s3, s4, s5]) rfl ?_
 exact ⟨_, rfl, ⟨s, A1, k1, c1', A2, k2, c2', rfl⟩, HFIN.out⟩
set_option maxHeartbeats 4000000 in
set_option maxRecDepth 100000 in
theorem lowest_y {n d : Int} {v : Value} (w : World) (hv : IsY n d v) : Calls Tryz.prog 85 #[v] w (YRet n d w) := by
 obtain ⟨s, A1, k1, c1', A2, k2, c2', rfl⟩ := hv
 obtain ⟨W2, hW2⟩ : ∃ W2, W2 = (w.alloc (.cells #[.bool s, .slice A1 k1 c1', .slice A2 k2 c2', .bool true, .int .i64 n, .int .i64 d] 92)).alloc (.cells #[.bool false, .slice none 0 0, .slice none 0 0, .bool false, .int .i64 0, .int .i64 0] 92) := ⟨_, rfl⟩
 have K0 : Hid (Blk W2 w.heap.size 92 #[.bool s, .slice A1 k1 c1', .slice A2 k2 c2', .bool true, .int .i64 n, .int .i64 d]) := Lib.hid (by rw [hW2]; exact (Blk.new w _ _).alloc _)
 have KRq : Blk W2 (w.heap.size + 1) 92 #[.bool false, .slice none 0 0, .slice none 0 0, .bool false, .int .i64 0, .int .i64 0] := by rw [hW2]; exact Blk.newAt _ _ (by simp)
 have HBq : Below w.heap.size w W2 := by rw [hW2]; exact ((Below.refl _ _).alloc (Nat.le_refl _) _).alloc (by simp) _
 have HW := Lib.hid hW2
 clear hW2
 have x0 := K0.out.at 0 (v := .bool s) rfl
 have x1 := K0.out.at 1 (v := .slice A1 k1 c1') rfl
 have x2 := K0.out.at 2 (v := .slice A2 k2 c2') rfl
 have x3 := K0.out.at 3 (v := .bool true) rfl
 have x4 := K0.out.at 4 (v := .int .i64 n) rfl
 have x5 := K0.out.at 5 (v := .int .i64 d) rfl
 go_enter Tryz.func85, Tryz.ntmps85
 go_upto_region 1 with (fail)
 rw [← HW.out]
 clear HW
 have z0 := (KRq).frz 0
 have z1 := (KRq).frz 1
 have z2 := (KRq).frz 2
 have z3 := (KRq).frz 3
 have z4 := (KRq).frz 4
 have z5 := (KRq).frz 5
 have c0 := (KRq).at 0 (v := .bool false) rfl
 have c1 := (KRq).at 1 (v := .slice none 0 0) rfl
 have c2 := (KRq).at 2 (v := .slice none 0 0) rfl
 have c3 := (KRq).at 3 (v := .bool false) rfl
 have c4 := (KRq).at 4 (v := .int .i64 0) rfl
 have c5 := (KRq).at 5 (v := .int .i64 0) rfl
 have SS := Y6.blk KRq (.bool s) (.slice A1 k1 c1') (.slice A2 k2 c2') (.bool true) (.int .i64 n) (.int .i64 d)
 unfold Y6.put at SS
 have s0 := SS.at 0 rfl
 have s1 := SS.at 1 rfl
 have s2 := SS.at 2 rfl
 have s3 := SS.at 3 rfl
 have s4 := SS.at 4 rfl
 have s5 := SS.at 5 rfl
 have HFIN := Lib.hid (Y6.below (b := (w.heap.size + 1)) HBq (by simp) (.bool s) (.slice A1 k1 c1') (.slice A2 k2 c2') (.bool true) (.int .i64 n) (.int .i64 d))
 unfold Y6.put at HFIN
 clear SS
 go_wp2
 refine bodyPost_ret (v := .agg #[.bool s, .slice A1 k1 c1', .slice A2 k2 c2', .bool true, .int .i64 n, .int .i64 d]) (by simp [results, Tryz.results85, go_sem, s0, s1, s2, s3, s4, s5]) rfl ?_
 exact ⟨_, rfl, ⟨s, A1, k1, c1', A2, k2, c2', rfl⟩, HFIN.out⟩
set_option maxHeartbeats 4000000 in
set_option maxRecDepth 100000 in
theorem give_y {n d : Int} {v : Value} (w : World) (hv : IsY n d v) : Calls Tryz.prog 56 #[v] w fun e w' => e = .returned (.tuple #[.agg #[.int .i64 n, .int .i64 d], .bool true]) ∧ Below w.heap.size w w' := by
 obtain ⟨s, A1, k1, c1, A2, k2, c2, rfl⟩ := hv
 obtain ⟨W2, hW2⟩ : ∃ W2, W2 = (w.alloc (.cells #[.bool s, .slice A1 k1 c1, .slice A2 k2 c2, .bool true, .int .i64 n, .int .i64 d] 92)).alloc (.cells #[.int .i64 0, .int .i64 0] 52) := ⟨_, rfl⟩
 have K0 : Hid (Blk W2 w.heap.size 92 #[.bool s, .slice A1 k1 c1, .slice A2 k2 c2, .bool true, .int .i64 n, .int .i64 d]) := Lib.hid (by rw [hW2]; exact (Blk.new w _ _).alloc _)
 have KR : Hid (Blk W2 (w.heap.size + 1) 52 #[.int .i64 0, .int .i64 0]) := Lib.hid (by rw [hW2]; exact Blk.newAt _ _ (by simp))
 have HB : Hid (Below w.heap.size w W2) := Lib.hid (by rw [hW2]; exact ((Below.refl _ _).alloc (Nat.le_refl _) _).alloc (by simp) _)
 have HW := Lib.hid hW2
 clear hW2
 have x3 := K0.out.at 3 (v := .bool true) rfl
 have x4 := K0.out.at 4 (v := .int .i64 n) rfl
 have x5 := K0.out.at 5 (v := .int .i64 d) rfl
 go_enter Tryz.func56, Tryz.ntmps56
 go_upto_region 1 with (fail)
 rw [← HW.out]
 clear HW
 have z0 := KR.out.frz 0
 have z1 := KR.out.frz 1
 have c0 := KR.out.at 0 (v := .int .i64 0) rfl
 have c1 := KR.out.at 1 (v := .int .i64 0) rfl
 have SS := (KR.out.setTo 0 (.int .i64 n) rfl).setTo 1 (.int .i64 d) rfl
 have s0 := SS.at 0 rfl
 have s1 := SS.at 1 rfl
 clear SS
 go_wp2
 refine bodyPost_ret (v := .tuple #[.agg #[.int .i64 n, .int .i64 d], .bool true]) (by simp [results, Tryz.results56, go_sem, s0, s1]) rfl ⟨rfl, (HB.out.setCell (by simp) _).setCell (by simp) _⟩
end Go.Proofs.YtcimmgpmkfbpdaaGreatDoor.LvW
namespace Go.Proofs.YtcimmgpmkfbpdaaGreatDoor.LvW
open Go.RowKit Go.Proofs.YtcimmgpmkfbpdaaGreatDoor Go.Proofs.YtcimmgpmkfbpdaaGreatDoor.Base Go.Proofs.YtcimmgpmkfbpdaaGreatDoor.Mem Go.Proofs.YtcimmgpmkfbpdaaGreatDoor.RatM Go.Proofs.YtcimmgpmkfbpdaaGreatDoor.BigM Go.Proofs.YtcimmgpmkfbpdaaGreatDoor.Big Go.Proofs.YtcimmgpmkfbpdaaGreatDoor.Fine Go.Proofs.YtcimmgpmkfbpdaaGreatDoor.Blk Go.Proofs.YtcimmgpmkfbpdaaGreatDoor.LvQ Go.Proofs.YtcimmgpmkfbpdaaGreatDoor.LvT
set_option linter.unusedVariables false
def sixY (s : Bool) (vn vd : Value) (p q : Int) : List Value := [.bool s, vn, vd, .bool true, .int .i64 p, .int .i64 q]
def nD (n x : Nat) : Int := numQ (dy n x)
def dD (n x : Nat) : Int := denQ (dy n x)
structure OwnY (w : World) (B : Nat) (v : Value) (n : Nat) (xs : List Nat) (us : List Value) : Prop where
 row : w.ownsRow B 92 6 v xs.length us
 els : ∀ i, i < xs.length → ∃ s A1 k1 c1 A2 k2 c2, (us.drop (i * 6)).take 6 = sixY s (.slice A1 k1 c1) (.slice A2 k2 c2) (nD n (xs.getD i 0)) (dD n (xs.getD i 0))
theorem OwnY.below {w w' : World} {B n : Nat} {v : Value} {xs : List Nat} {us : List Value} (h : OwnY w B v n xs us) (hb : Below w.heap.size w w') : OwnY w' B v n xs us := ⟨ownsRow_below h.row hb, h.els⟩
def AtY (w : World) (g i : Nat) (s : Bool) (u1 u2 : Value) (p q : Int) : Prop :=
 w.cell? ⟨g, i * 6, none⟩ = some (.bool s) ∧ w.cell? ⟨g, i * 6 + 1, none⟩ = some u1 ∧ w.cell? ⟨g, i * 6 + 2, none⟩ = some u2 ∧ w.cell? ⟨g, i * 6 + 3, none⟩ = some (.bool true) ∧ w.cell? ⟨g, i * 6 + 4, none⟩ = some (.int .i64 p) ∧ w.cell? ⟨g, i * 6 + 5, none⟩ = some (.int .i64 q)
theorem OwnY.at {w : World} {B n c : Nat} {A : Option Addr} {xs : List Nat} {us : List Value} (h : OwnY w B (.slice A xs.length c) n xs us) {i : Nat} (hi : i < xs.length) :
  ∃ g s A1 k1 c1 A2 k2 c2, A = some ⟨g, 0, none⟩ ∧ g < w.heap.size ∧ ∀ w', Below w.heap.size w w' → AtY w' g i s (.slice A1 k1 c1) (.slice A2 k2 c2) (nD n (xs.getD i 0)) (dD n (xs.getD i 0)) := by
 obtain ⟨A', c', e, hf⟩ := ownsRow_form h.row
 injection e with e1 e2 e3
 subst e1 e3
 obtain ⟨g, rfl, _, hlt⟩ := hf (by omega)
 obtain ⟨s, A1, k1, c1, A2, k2, c2, e⟩ := h.els i hi
 have key : ∀ w', Below w.heap.size w w' → ∀ k, k < 6 → w'.cell? ⟨g, i * 6 + k, none⟩ = (sixY s (.slice A1 k1 c1) (.slice A2 k2 c2) (nD n (xs.getD i 0)) (dD n (xs.getD i 0)))[k]? := fun w' hb k hk => by
  rw [World.ownsRow.cellAt (h.below hb).row (i * 6 + k) (by omega), ← e, List.getElem?_take, if_pos hk, List.getElem?_drop]
 exact ⟨g, s, A1, k1, c1, A2, k2, c2, rfl, hlt, fun w' hb => ⟨key w' hb 0 (by decide), key w' hb 1 (by decide), key w' hb 2 (by decide), key w' hb 3 (by decide), key w' hb 4 (by decide), key w' hb 5 (by decide)⟩⟩
theorem sum_take (xs : List Nat) : ∀ i, i < xs.length → (xs.take (i + 1)).sum = (xs.take i).sum + xs.getD i 0 := fun i hi => by
 rw [List.take_succ_eq_append_getElem hi, List.sum_append]
 simp [List.getD, hi]
theorem sum_take_le (xs : List Nat) (i : Nat) : (xs.take i).sum ≤ xs.sum := by
 conv => rhs; rw [← List.take_append_drop i xs]
 rw [List.sum_append]; omega
theorem zero_y (w : World) : Calls Tryz.prog 81 #[] w fun e w' => e = .returned (.agg #[.int .i64 0, .int .i64 1]) ∧ Below w.heap.size w w' := by
 go_enter Tryz.func81, Tryz.ntmps81
 go_wp2
 exact bodyPost_ret (v := .agg #[.int .i64 0, .int .i64 1]) (by simp [results, Tryz.results81, go_sem]) rfl ⟨rfl, (Below.refl _ _).alloc (Nat.le_refl _) _⟩
theorem nD_zero (n : Nat) : nD n 0 = 0 ∧ dD n 0 = 1 := by
 unfold nD dD
 rw [dy_zero]
 exact ⟨by decide +kernel, by decide +kernel⟩
theorem add_dy {n x y : Nat} (hn : n ≤ 50) (hs : x + y ≤ 2 ^ n) {v u : Value} (w : World) (hv : IsY (nD n x) (dD n x) v) (hu : IsY (nD n y) (dD n y) u) : Calls Tryz.prog 87 #[v, u] w (YRet (nD n (x + y)) (dD n (x + y)) w) := by
 obtain ⟨a1, a2⟩ := dy_numQ (n := n) (x := x) (by omega) hn
 obtain ⟨b1, b2⟩ := dy_numQ (n := n) (x := y) (by omega) hn
 unfold nD dD at *
 rw [a1, a2] at hv
 rw [b1, b2] at hu
 obtain ⟨p1, _⟩ := dy_parts n x
 obtain ⟨p2, _⟩ := dy_parts n y
 refine wideAdd_y w hv hu (dy_vf (by omega) hn) (dy_vf (by omega) hn) ?_ ?_ (dy_small hs hn)
 ·rw [p1, p2, decide_eq_false (Int.not_lt.2 (Int.natCast_nonneg _)), decide_eq_false (Int.not_lt.2 (Int.natCast_nonneg _))]
 ·rw [qf_self, qf_self, dy_add]
def SuRel (n b : Nat) (xs : List Nat) (w : World) (iv : Value) (wr : World) : Prop :=
 ∃ (i : Nat) (s : Bool) (A1 : Option Addr) (k1 c1 : Nat) (A2 : Option Addr) (k2 c2 : Nat), i ≤ xs.length ∧ iv = .int .i64 (i : Int) ∧ Hid (Blk wr b 92 #[.bool s, .slice A1 k1 c1, .slice A2 k2 c2, .bool true, .int .i64 (nD n (xs.take i).sum), .int .i64 (dD n (xs.take i).sum)]) ∧ Hid (Blk wr w.heap.size 92 #[.bool false, .slice none 0 0, .slice none 0 0, .bool false, .int .i64 0, .int .i64 0]) ∧ Hid (Below w.heap.size w wr)
set_option maxHeartbeats 4000000 in
set_option maxRecDepth 100000 in
theorem sum_y {B n : Nat} {v : Value} {xs : List Nat} {us : List Value} (hn : n ≤ 50) (hs : xs.sum ≤ 2 ^ n) (w : World) (h : OwnY w B v n xs us) (hl : xs.length ≤ 60) : Calls Tryz.prog 57 #[v] w (YRet (nD n xs.sum) (dD n xs.sum) w) := by
 obtain ⟨A, c, e, hA⟩ := ownsRow_form h.row
 subst e
 have HX := Lib.hid h
 have HSum := Lib.hid hs
 have HZero := Lib.hid (fun W => zero_y W)
 have HWO : Hid (∀ W, Calls Tryz.prog 55 #[.agg #[.int .i64 0, .int .i64 1]] W (YRet 0 1 W)) := Lib.hid fun W => wideOf_y ⟨by decide, by decide, by decide, by decide, by decide⟩ W
 obtain ⟨W1, hW1⟩ : ∃ W1, W1 = w.alloc (.cells #[.bool false, .slice none 0 0, .slice none 0 0, .bool false, .int .i64 0, .int .i64 0] 92) := ⟨_, rfl⟩
 have KR : Hid (Blk W1 w.heap.size 92 #[.bool false, .slice none 0 0, .slice none 0 0, .bool false, .int .i64 0, .int .i64 0]) := Lib.hid (by rw [hW1]; exact Blk.new w _ _)
 have HB : Hid (Below w.heap.size w W1) := Lib.hid (by rw [hW1]; exact (Below.refl _ _).alloc (Nat.le_refl _) _)
 have HW := Lib.hid hW1
 clear h hs hA hW1
 go_enter Tryz.func57, Tryz.ntmps57
 go_wp2_with fail
 rw [← HW.out]
 refine (HZero.out _).mono ?_
 rintro e w2 ⟨rfl, hb2⟩
 have KR2 := Lib.hid (KR.out.belowS hb2)
 have HB2 := Lib.hid (Base.Below.nextA HB.out hb2)
 clear hb2 KR HB HW
 go_wp2_with fail
 refine (HWO.out _).mono ?_
 rintro e w3 ⟨v, rfl, ⟨s, A1, k1, c1, A2, k2, c2, rfl⟩, hb3⟩
 have H0 : Hid (SuRel n w3.heap.size xs w (.int .i64 0) (w3.alloc (.cells #[.bool s, .slice A1 k1 c1, .slice A2 k2 c2, .bool true, .int .i64 0, .int .i64 1] 92))) := Lib.hid (by
  refine ⟨0, s, A1, k1, c1, A2, k2, c2, Nat.zero_le _, rfl, Lib.hid ?_, Lib.hid ((KR2.out.belowS hb3).alloc _), Lib.hid ((Base.Below.nextA HB2.out hb3).alloc (Base.Below.nextA HB2.out hb3).size _)⟩
  rw [List.take_zero, List.sum_nil, (nD_zero n).1, (nD_zero n).2]
  exact Blk.new w3 _ _)
 have hlo : Hid (w.heap.size < w3.heap.size) := Lib.hid (KR2.out.belowS hb3).lt
 clear hb3 KR2 HB2 HWO HZero
 go_wp2
 go_loopw [4] (fun iv wr => SuRel n w3.heap.size xs w iv wr) (fun iv _ => xs.length - (intOf iv).toNat)
 case atStart => exact H0.out
 case round =>
  obtain ⟨i, s, A1, k1, c1, A2, k2, c2, hi, rfl, KB, KR, HB⟩ := hrel
  obtain ⟨wp, rfl⟩ : ∃ x, x = wr := ⟨_, rfl⟩
  clear H0
  by_cases hlt : i < xs.length
  ·obtain ⟨g, t, B1, j1, e1, B2, j2, e2, rfl, hg, hat⟩ := (HX.out.below HB.out).at hlt
   have HEl := Lib.hid hat
   have hst := sum_take xs i hlt
   have hle := sum_take_le xs (i + 1)
   have HAdd := Lib.hid (fun W => add_dy (n := n) (x := (xs.take i).sum) (y := xs.getD i 0) hn (by have := HSum.out; omega) W (⟨s, A1, k1, c1, A2, k2, c2, rfl⟩ : IsY _ _ (.agg #[.bool s, .slice A1 k1 c1, .slice A2 k2 c2, .bool true, .int .i64 (nD n (xs.take i).sum), .int .i64 (dD n (xs.take i).sum)])) (⟨t, B1, j1, e1, B2, j2, e2, rfl⟩ : IsY _ _ (.agg #[.bool t, .slice B1 j1 e1, .slice B2 j2 e2, .bool true, .int .i64 (nD n (xs.getD i 0)), .int .i64 (dD n (xs.getD i 0))])))
   rw [← hst] at HAdd
   have HN : Hid (∀ s A1 k1 c1 A2 k2 c2 w5, Blk w5 w3.heap.size 92 #[.bool s, .slice A1 k1 c1, .slice A2 k2 c2, .bool true, .int .i64 (nD n (xs.take (i + 1)).sum), .int .i64 (dD n (xs.take (i + 1)).sum)] → Blk w5 w.heap.size 92 #[.bool false, .slice none 0 0, .slice none 0 0, .bool false, .int .i64 0, .int .i64 0] → Below w.heap.size w w5 → SuRel n w3.heap.size xs w (.int .i64 ((i : Int) + 1)) w5) := Lib.hid fun s A1 k1 c1 A2 k2 c2 w5 h1 h2 h3 => ⟨i + 1, s, A1, k1, c1, A2, k2, c2, hlt, by simp, Lib.hid h1, Lib.hid h2, Lib.hid h3⟩
   generalize nD n (xs.take (i + 1)).sum = P at *
   generalize dD n (xs.take (i + 1)).sum = Q at *
   generalize nD n (xs.take i).sum = p at *
   generalize dD n (xs.take i).sum = q at *
   generalize nD n (xs.getD i 0) = p' at *
   generalize dD n (xs.getD i 0) = q' at *
   have hg2 := hg
   unfold AtY at HEl
   clear hat hst hle
   go_wp2_with fail
   refine Rel.wp_region_rel 7 (by kernel_rfl) (by kernel_rfl) (fun F hF => ?_)
   simp only [List.take_succ_cons, List.take_zero, List.drop_succ_cons, List.drop_zero, Rel.putL] at hF ⊢
   have HF := Lib.hid hF
   clear hF
   have uv := @Rel.upon_value Tryz.prog
   have ue := @Rel.upon_enter Tryz.prog
   apply Rel.rel_pure
   apply Exists.intro
   refine ⟨fun vs wq hq hdp R hR => ?_, ?_⟩
   ·(rw [HF.out, Rel.stepAt_eq]; clear hdp; have x0 := (KB.out.belowS hq).at 0 (v := .bool s) rfl; have x1 := (KB.out.belowS hq).at 1 (v := .slice A1 k1 c1) rfl; have x2 := (KB.out.belowS hq).at 2 (v := .slice A2 k2 c2) rfl; have x3 := (KB.out.belowS hq).at 3 (v := .bool true) rfl; have x4 := (KB.out.belowS hq).at 4 (v := .int .i64 p) rfl; have x5 := (KB.out.belowS hq).at 5 (v := .int .i64 q) rfl; go_simp; exact hR)
   apply Rel.rel_pure
   apply Exists.intro
   refine ⟨fun vs wq hq hdp R hR => ?_, ?_⟩
   ·(rw [HF.out, Rel.stepAt_eq]; clear hdp; skip; go_simp; exact hR)
   apply Rel.rel_pure
   apply Exists.intro
   refine ⟨fun vs wq hq hdp R hR => ?_, ?_⟩
   ·(rw [HF.out, Rel.stepAt_eq]; clear hdp; skip; go_simp; exact hR)
   apply Rel.rel_pure
   apply Exists.intro
   refine ⟨fun vs wq hq hdp R hR => ?_, ?_⟩
   ·(rw [HF.out, Rel.stepAt_eq]; have qd1 : vs 1 = _ := Rel.dep hdp 1 (by kernel_rfl); have qd2 : vs 2 = _ := Rel.dep hdp 2 (by kernel_rfl); clear hdp; skip; go_simp; exact hR)
   apply Rel.rel_pure
   apply Exists.intro
   refine ⟨fun vs wq hq hdp R hR => ?_, ?_⟩
   ·(rw [HF.out, Rel.stepAt_eq]; have qd3 : vs 3 = _ := Rel.dep hdp 3 (by kernel_rfl); clear hdp; have y0 := (HEl.out _ hq).1; have y1 := (HEl.out _ hq).2.1; have y2 := (HEl.out _ hq).2.2.1; have y3 := (HEl.out _ hq).2.2.2.1; have y4 := (HEl.out _ hq).2.2.2.2.1; have y5 := (HEl.out _ hq).2.2.2.2.2; go_simp; exact hR)
   refine Rel.rel_law (S := fun v w' => IsY P Q v) (isY_mono P Q) (fun vs wq hq hdp => ?_) ?_
   ·(rw [HF.out, Rel.stepAt_eq]; have qd0 : vs 0 = _ := Rel.dep hdp 0 (by kernel_rfl); have qd4 : vs 4 = _ := Rel.dep hdp 4 (by kernel_rfl); clear hdp; skip; go_simp; refine (HAdd.out _).mono ?_; rintro e w7 ⟨v, rfl, hv, hb⟩; exact ⟨_, rfl, hv, hb⟩)
   refine Rel.rel_law (S := fun v w' => IsY P Q v) (isY_mono P Q) (fun vs wq hq hdp => ?_) ?_
   ·(rw [HF.out, Rel.stepAt_eq]; have qd5 : IsY P Q (vs 5) := Rel.dep hdp 5 (by kernel_rfl); clear hdp; skip; go_simp; refine (lowest_y wq qd5).mono ?_; rintro e w7 ⟨v, rfl, hv, hb⟩; exact ⟨_, rfl, hv, hb⟩)
   refine Rel.rel_end (fun vs wq hq hall => ?_)
   rw [HF.out]
   have qe0 : vs 0 = _ := Rel.fin hall 0 (by decide)
   have qe1 : vs 1 = _ := Rel.fin hall 1 (by decide)
   have qe2 : vs 2 = _ := Rel.fin hall 2 (by decide)
   have qe3 : vs 3 = _ := Rel.fin hall 3 (by decide)
   have qe4 : vs 4 = _ := Rel.fin hall 4 (by decide)
   have qe5 : IsY P Q (vs 5) := Rel.fin hall 5 (by decide)
   have qe6 : IsY P Q (vs 6) := Rel.fin hall 6 (by decide)
   clear hall HF uv ue
   obtain ⟨s', B1', j1', e1', B2', j2', e2', ev⟩ := qe6
   have KBq := KB.out.belowS hq
   have HN2 := Lib.hid (HN.out s' B1' j1' e1' B2' j2' e2' _ (Y6.blk KBq _ _ _ _ _ _) (Y6.other (KR.out.belowS hq) (Nat.ne_of_gt hlo.out) _ _ _ _ _ _) (Y6.below (Base.Below.nextA HB.out hq) (Nat.le_of_lt hlo.out) _ _ _ _ _ _))
   unfold Y6.put at HN2
   have z0 := KBq.frz 0
   have z1 := KBq.frz 1
   have z2 := KBq.frz 2
   have z3 := KBq.frz 3
   have z4 := KBq.frz 4
   have z5 := KBq.frz 5
   have c0 := KBq.at 0 (v := .bool s) rfl
   have c1 := KBq.at 1 (v := .slice A1 k1 c1) rfl
   have c2 := KBq.at 2 (v := .slice A2 k2 c2) rfl
   have c3 := KBq.at 3 (v := .bool true) rfl
   have c4 := KBq.at 4 (v := .int .i64 p) rfl
   have c5 := KBq.at 5 (v := .int .i64 q) rfl
   clear hq KBq KB KR HB HEl HAdd HN
   go_wp2
   go_roundw
   case rel => exact HN2.out
   case measure => simp [intOf]; omega
  ·obtain rfl : i = xs.length := by omega
   rw [List.take_length] at KB
   have x0 := KB.out.at 0 (v := .bool s) rfl
   have x1 := KB.out.at 1 (v := .slice A1 k1 c1) rfl
   have x2 := KB.out.at 2 (v := .slice A2 k2 c2) rfl
   have x3 := KB.out.at 3 (v := .bool true) rfl
   have x4 := KB.out.at 4 (v := .int .i64 (nD n xs.sum)) rfl
   have x5 := KB.out.at 5 (v := .int .i64 (dD n xs.sum)) rfl
   have KRq := KR.out
   have HBq := HB.out
   obtain ⟨c1', hc1⟩ : ∃ x, x = c1 := ⟨_, rfl⟩
   obtain ⟨c2', hc2⟩ : ∃ x, x = c2 := ⟨_, rfl⟩
   rw [← hc1] at x1
   rw [← hc2] at x2
   clear hc1 hc2 KB KR HB HX
   generalize nD n xs.sum = P at *
   generalize dD n xs.sum = Q at *
   have z0 := (KRq).frz 0
   have z1 := (KRq).frz 1
   have z2 := (KRq).frz 2
   have z3 := (KRq).frz 3
   have z4 := (KRq).frz 4
   have z5 := (KRq).frz 5
   have c0 := (KRq).at 0 (v := .bool false) rfl
   have c1 := (KRq).at 1 (v := .slice none 0 0) rfl
   have c2 := (KRq).at 2 (v := .slice none 0 0) rfl
   have c3 := (KRq).at 3 (v := .bool false) rfl
   have c4 := (KRq).at 4 (v := .int .i64 0) rfl
   have c5 := (KRq).at 5 (v := .int .i64 0) rfl
   have SS := Y6.blk KRq (.bool s) (.slice A1 k1 c1') (.slice A2 k2 c2') (.bool true) (.int .i64 P) (.int .i64 Q)
   unfold Y6.put at SS
   have s0 := SS.at 0 rfl
   have s1 := SS.at 1 rfl
   have s2 := SS.at 2 rfl
   have s3 := SS.at 3 rfl
   have s4 := SS.at 4 rfl
   have s5 := SS.at 5 rfl
   have HFIN := Lib.hid (Y6.below (b := w.heap.size) HBq (Nat.le_refl _) (.bool s) (.slice A1 k1 c1') (.slice A2 k2 c2') (.bool true) (.int .i64 P) (.int .i64 Q))
   unfold Y6.put at HFIN
   clear SS
   go_wp2
   refine bodyPost_ret (v := .agg #[.bool s, .slice A1 k1 c1', .slice A2 k2 c2', .bool true, .int .i64 P, .int .i64 Q]) (by simp [results, Tryz.results57, go_sem, s0, s1, s2, s3, s4, s5]) rfl ?_
   exact ⟨_, rfl, ⟨s, A1, k1, c1', A2, k2, c2', rfl⟩, HFIN.out⟩
end Go.Proofs.YtcimmgpmkfbpdaaGreatDoor.LvW
