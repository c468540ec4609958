/- Small fractions of the reference compared, none below nought. -/
import Derived.Test.YtcimmgpmkfbpdaaGreatDoorMgStr09
import Derived.Test.YtcimmgpmkfbpdaaGreatDoorMgStr10
import Derived.Test.YtcimmgpmkfbpdaaGreatDoorMgStr14
import Derived.Deep.Cut
import Derived.Test.YtcimmgpmkfbpdaaGreatDoorMgStr05
import Derived.Test.YtcimmgpmkfbpdaaGreatDoorMgStr16
import Derived.Laws.StructEq
namespace Go.Proofs.YtcimmgpmkfbpdaaGreatDoor.LvX
open Go.RowKit Go.Proofs.YtcimmgpmkfbpdaaGreatDoor Go.Proofs.YtcimmgpmkfbpdaaGreatDoor.Base Go.Proofs.YtcimmgpmkfbpdaaGreatDoor.Two Go.Proofs.YtcimmgpmkfbpdaaGreatDoor.Blk
set_option linter.unusedVariables false
def cmpT (A B : Nat) : Int := if B < A then 1 else if A < B then -1 else 0
set_option maxHeartbeats 4000000 in
set_option maxRecDepth 100000 in
theorem cmp_pos (n1 d1 n2 d2 : Nat) (h1 : n1 ≤ 1000000000000000000) (h2 : d1 ≤ 1000000000000000000) (h3 : n2 ≤ 1000000000000000000) (h4 : d2 ≤ 1000000000000000000) (w : World) :
  Calls Tryz.prog 54 #[.agg #[.int .i64 (n1 : Int), .int .i64 (d1 : Int)], .agg #[.int .i64 (n2 : Int), .int .i64 (d2 : Int)]] w fun e w' => e = .returned (.int .i64 (cmpT (n1 * d2) (n2 * d1))) ∧ Below w.heap.size w w' := by
 obtain ⟨A, hA⟩ : ∃ A, A = n1 * d2 := ⟨_, rfl⟩
 obtain ⟨B, hB⟩ : ∃ B, B = n2 * d1 := ⟨_, rfl⟩
 rw [← hA, ← hB]
 obtain ⟨W2, hW2⟩ : ∃ W2, W2 = (w.alloc (.cells #[.int .i64 (n1 : Int), .int .i64 (d1 : Int)] 52)).alloc (.cells #[.int .i64 (n2 : Int), .int .i64 (d2 : Int)] 52) := ⟨_, rfl⟩
 have K0 : Hid (Blk W2 w.heap.size 52 #[.int .i64 (n1 : Int), .int .i64 (d1 : Int)]) := Lib.hid (by rw [hW2]; exact (Blk.new w _ _).alloc _)
 have K1 : Hid (Blk W2 (w.heap.size + 1) 52 #[.int .i64 (n2 : Int), .int .i64 (d2 : Int)]) := Lib.hid (by rw [hW2]; exact Blk.newAt _ _ (by simp))
 have HB : Hid (Below w.heap.size w W2) := Lib.hid (by rw [hW2]; exact ((Below.refl _ _).alloc (Nat.le_refl _) _).alloc (by simp) _)
 have HW := Lib.hid hW2
 have HM1 := Lib.hid (fun W => Fine.maxG (n1 : Int) (by omega) (by omega) W)
 have HM2 := Lib.hid (fun W => Fine.maxG (n2 : Int) (by omega) (by omega) W)
 have HT1 := Lib.hid (fun W => times_any n1 d2 h1 h4 W)
 have HT2 := Lib.hid (fun W => times_any n2 d1 h3 h2 W)
 rw [Int.natAbs_natCast] at HM1 HM2
 rw [← hA] at HT1
 rw [← hB] at HT2
 have hw1 : IntKind.i64.wrap (-(n1 : Int)) = -(n1 : Int) := by rw [IntKind.wrap_i64]; omega
 have hw2 : IntKind.i64.wrap (-(n2 : Int)) = -(n2 : Int) := by rw [IntKind.wrap_i64]; omega
 clear hW2 h1 h2 h3 h4 hA hB
 have x0 := K0.out.at 0 (v := .int .i64 (n1 : Int)) rfl
 have y0 := K1.out.at 0 (v := .int .i64 (n2 : Int)) rfl
 have m1 : ¬ ((n1 : Int) < 0) := by omega
 have m2 : ¬ ((n2 : Int) < 0) := by omega
 go_enter Tryz.func54, Tryz.ntmps54
 go_upto_region 1 with (fail)
 rw [← HW.out]
 clear HW
 go_upto_region 5 with (fail)
 clear x0 y0
 refine Rel.wp_region_rel 10 (by kernel_rfl) (by kernel_rfl) (fun F hF => ?_)
 simp only [List.take_succ_cons, List.take_zero, List.drop_succ_cons, List.drop_zero, Rel.putL] at hF ⊢
 have HF := Lib.hid hF
 clear hF
 have uv := @Rel.upon_value Tryz.prog
 have ue := @Rel.upon_enter Tryz.prog
 apply Rel.rel_pure
 apply Exists.intro
 refine ⟨fun vs wq hq hdp R hR => ?_, ?_⟩
 ·(rw [HF.out, Rel.stepAt_eq]; clear hdp; skip; go_simp; exact hR)
 apply Rel.rel_pure
 apply Exists.intro
 refine ⟨fun vs wq hq hdp R hR => ?_, ?_⟩
 ·(rw [HF.out, Rel.stepAt_eq]; have qd0 : vs 0 = _ := Rel.dep hdp 0 (by kernel_rfl); clear hdp; have x0 := (K0.out.belowS hq).at 0 (v := .int .i64 (n1 : Int)) rfl; go_simp; exact hR)
 apply Rel.rel_pure
 apply Exists.intro
 refine ⟨fun vs wq hq hdp R hR => ?_, ?_⟩
 ·(rw [HF.out, Rel.stepAt_eq]; clear hdp; skip; go_simp; exact hR)
 apply Rel.rel_pure
 apply Exists.intro
 refine ⟨fun vs wq hq hdp R hR => ?_, ?_⟩
 ·(rw [HF.out, Rel.stepAt_eq]; have qd2 : vs 2 = _ := Rel.dep hdp 2 (by kernel_rfl); clear hdp; have x0 := (K0.out.belowS hq).at 0 (v := .int .i64 (n1 : Int)) rfl; go_simp; exact hR)
 apply Rel.rel_pure
 apply Exists.intro
 refine ⟨fun vs wq hq hdp R hR => ?_, ?_⟩
 ·(rw [HF.out, Rel.stepAt_eq]; have qd3 : vs 3 = _ := Rel.dep hdp 3 (by kernel_rfl); clear hdp; skip; go_simp; exact hR)
 apply Rel.rel_same
 apply Exists.intro
 refine ⟨fun vs wq hq hdp => ?_, ?_⟩
 ·(rw [HF.out, Rel.stepAt_eq]; have qd1 : vs 1 = _ := Rel.dep hdp 1 (by kernel_rfl); have qd4 : vs 4 = _ := Rel.dep hdp 4 (by kernel_rfl); clear hdp; skip; go_simp; refine (HM1.out _).mono ?_; rintro e w7 ⟨rfl, rfl⟩; exact ⟨_, rfl, rfl, Below.refl _ _⟩)
 apply Rel.rel_pure
 apply Exists.intro
 refine ⟨fun vs wq hq hdp R hR => ?_, ?_⟩
 ·(rw [HF.out, Rel.stepAt_eq]; clear hdp; skip; go_simp; exact hR)
 apply Rel.rel_pure
 apply Exists.intro
 refine ⟨fun vs wq hq hdp R hR => ?_, ?_⟩
 ·(rw [HF.out, Rel.stepAt_eq]; have qd6 : vs 6 = _ := Rel.dep hdp 6 (by kernel_rfl); clear hdp; have x1 := (K1.out.belowS hq).at 1 (v := .int .i64 (d2 : Int)) rfl; go_simp; exact hR)
 apply Rel.rel_same
 apply Exists.intro
 refine ⟨fun vs wq hq hdp => ?_, ?_⟩
 ·(rw [HF.out, Rel.stepAt_eq]; have qd5 : vs 5 = _ := Rel.dep hdp 5 (by kernel_rfl); have qd7 : vs 7 = _ := Rel.dep hdp 7 (by kernel_rfl); clear hdp; skip; go_simp; refine (HT1.out _).mono ?_; rintro e w7 ⟨rfl, hb⟩; exact ⟨_, rfl, rfl, hb⟩)
 refine Rel.rel_alloc (cs := #[.int .u64 0, .int .u64 0]) (t := 127) (fun vs wq hq hdp R hR => ?_) ?_
 ·(rw [HF.out, Rel.stepAt_eq]; clear hdp; go_simp; exact hR)
 refine Rel.rel_end (fun vs wq hq hall => ?_)
 rw [HF.out]
 have qe0 : vs 0 = _ := Rel.fin hall 0 (by decide)
 have qe1 : vs 1 = _ := Rel.fin hall 1 (by decide)
 have qe2 : vs 2 = _ := Rel.fin hall 2 (by decide)
 have qe3 : vs 3 = _ := Rel.fin hall 3 (by decide)
 have qe4 : vs 4 = _ := Rel.fin hall 4 (by decide)
 have qe5 : vs 5 = _ := Rel.fin hall 5 (by decide)
 have qe6 : vs 6 = _ := Rel.fin hall 6 (by decide)
 have qe7 : vs 7 = _ := Rel.fin hall 7 (by decide)
 have qe8 : vs 8 = _ := Rel.fin hall 8 (by decide)
 have qe9 : Rel.NewB _ _ _ (vs 9) wq := Rel.fin hall 9 (by decide)
 clear hall HF uv ue
 obtain ⟨g5, eg5, hg5, hblk⟩ := qe9
 have K5 : Blk wq g5 127 #[.int .u64 0, .int .u64 0] := hblk
 have z0 := K5.frz 0
 have z1 := K5.frz 1
 have c0 := K5.at 0 (v := .int .u64 0) rfl
 have c1 := K5.at 1 (v := .int .u64 0) rfl
 clear HT1 HM1 hw1
 obtain ⟨a1, a2, ea⟩ : ∃ a1 a2 : Nat, two A = .agg #[.int .u64 (a1 : Int), .int .u64 (a2 : Int)] := ⟨_, _, rfl⟩
 obtain ⟨b1, b2, eb⟩ : ∃ b1 b2 : Nat, two B = .agg #[.int .u64 (b1 : Int), .int .u64 (b2 : Int)] := ⟨_, _, rfl⟩
 have HL1 := Lib.hid (fun W => less_any A B W)
 have HL2 := Lib.hid (fun W => less_any B A W)
 rw [ea, eb] at HL1 HL2
 rw [ea] at qe8
 rw [eb] at HT2
 obtain ⟨W6, hW6⟩ : ∃ W6, W6 = (wq.setCell ⟨g5, 0, none⟩ (.int .u64 (a1 : Int))).setCell ⟨g5, 1, none⟩ (.int .u64 (a2 : Int)) := ⟨_, rfl⟩
 have hz2 : w.heap.size + 2 ≤ W2.heap.size := by have := K1.out.lt; omega
 have KA : Hid (Blk W6 g5 127 #[.int .u64 (a1 : Int), .int .u64 (a2 : Int)]) := Lib.hid (by rw [hW6]; exact (K5.setTo 0 _ rfl).setTo 1 _ rfl)
 have K0b : Hid (Blk W6 w.heap.size 52 #[.int .i64 (n1 : Int), .int .i64 (d1 : Int)]) := Lib.hid (by rw [hW6]; exact ((K0.out.belowS hq).other _ (by simp; omega)).other _ (by simp; omega))
 have K1b : Hid (Blk W6 (w.heap.size + 1) 52 #[.int .i64 (n2 : Int), .int .i64 (d2 : Int)]) := Lib.hid (by rw [hW6]; exact ((K1.out.belowS hq).other _ (by simp; omega)).other _ (by simp; omega))
 have HB6 : Hid (Below w.heap.size w W6) := Lib.hid (by rw [hW6]; exact ((Base.Below.nextA HB.out hq).setCell (p := ⟨g5, 0, none⟩) (by show w.heap.size ≤ g5; omega) _).setCell (p := ⟨g5, 1, none⟩) (by show w.heap.size ≤ g5; omega) _)
 have HG5 := Lib.hid (And.intro hg5 hz2)
 rw [show vs (0 + 1 + 1 + 1 + 1 + 1 + 1 + 1 + 1) = .agg #[.int .u64 (a1 : Int), .int .u64 (a2 : Int)] from qe8, eg5]
 clear hblk K5 hq K0 K1 HB qe0 qe1 qe2 qe3 qe4 qe5 qe6 qe7 qe8 hz2 ea eb hg5 eg5
 go_upto_region 6 with (fail)
 rw [← hW6]
 clear hW6 z0 z1 c0 c1
 refine Rel.wp_region_rel 10 (by kernel_rfl) (by kernel_rfl) (fun F hF => ?_)
 simp only [List.take_succ_cons, List.take_zero, List.drop_succ_cons, List.drop_zero, Rel.putL] at hF ⊢
 have HF := Lib.hid hF
 clear hF
 have uv := @Rel.upon_value Tryz.prog
 have ue := @Rel.upon_enter Tryz.prog
 apply Rel.rel_pure
 apply Exists.intro
 refine ⟨fun vs wq hq hdp R hR => ?_, ?_⟩
 ·(rw [HF.out, Rel.stepAt_eq]; clear hdp; skip; go_simp; exact hR)
 apply Rel.rel_pure
 apply Exists.intro
 refine ⟨fun vs wq hq hdp R hR => ?_, ?_⟩
 ·(rw [HF.out, Rel.stepAt_eq]; have qd0 : vs 0 = _ := Rel.dep hdp 0 (by kernel_rfl); clear hdp; have x0 := (K1b.out.belowS hq).at 0 (v := .int .i64 (n2 : Int)) rfl; go_simp; exact hR)
 apply Rel.rel_pure
 apply Exists.intro
 refine ⟨fun vs wq hq hdp R hR => ?_, ?_⟩
 ·(rw [HF.out, Rel.stepAt_eq]; clear hdp; skip; go_simp; exact hR)
 apply Rel.rel_pure
 apply Exists.intro
 refine ⟨fun vs wq hq hdp R hR => ?_, ?_⟩
 ·(rw [HF.out, Rel.stepAt_eq]; have qd2 : vs 2 = _ := Rel.dep hdp 2 (by kernel_rfl); clear hdp; have x0 := (K1b.out.belowS hq).at 0 (v := .int .i64 (n2 : Int)) rfl; go_simp; exact hR)
 apply Rel.rel_pure
 apply Exists.intro
 refine ⟨fun vs wq hq hdp R hR => ?_, ?_⟩
 ·(rw [HF.out, Rel.stepAt_eq]; have qd3 : vs 3 = _ := Rel.dep hdp 3 (by kernel_rfl); clear hdp; skip; go_simp; exact hR)
 apply Rel.rel_same
 apply Exists.intro
 refine ⟨fun vs wq hq hdp => ?_, ?_⟩
 ·(rw [HF.out, Rel.stepAt_eq]; have qd1 : vs 1 = _ := Rel.dep hdp 1 (by kernel_rfl); have qd4 : vs 4 = _ := Rel.dep hdp 4 (by kernel_rfl); clear hdp; skip; go_simp; refine (HM2.out _).mono ?_; rintro e w7 ⟨rfl, rfl⟩; exact ⟨_, rfl, rfl, Below.refl _ _⟩)
 apply Rel.rel_pure
 apply Exists.intro
 refine ⟨fun vs wq hq hdp R hR => ?_, ?_⟩
 ·(rw [HF.out, Rel.stepAt_eq]; clear hdp; skip; go_simp; exact hR)
 apply Rel.rel_pure
 apply Exists.intro
 refine ⟨fun vs wq hq hdp R hR => ?_, ?_⟩
 ·(rw [HF.out, Rel.stepAt_eq]; have qd6 : vs 6 = _ := Rel.dep hdp 6 (by kernel_rfl); clear hdp; have x1 := (K0b.out.belowS hq).at 1 (v := .int .i64 (d1 : Int)) rfl; go_simp; exact hR)
 apply Rel.rel_same
 apply Exists.intro
 refine ⟨fun vs wq hq hdp => ?_, ?_⟩
 ·(rw [HF.out, Rel.stepAt_eq]; have qd5 : vs 5 = _ := Rel.dep hdp 5 (by kernel_rfl); have qd7 : vs 7 = _ := Rel.dep hdp 7 (by kernel_rfl); clear hdp; skip; go_simp; refine (HT2.out _).mono ?_; rintro e w7 ⟨rfl, hb⟩; exact ⟨_, rfl, rfl, hb⟩)
 refine Rel.rel_alloc (cs := #[.int .u64 0, .int .u64 0]) (t := 127) (fun vs wq hq hdp R hR => ?_) ?_
 ·(rw [HF.out, Rel.stepAt_eq]; clear hdp; go_simp; exact hR)
 refine Rel.rel_end (fun us wr hq hall => ?_)
 rw [HF.out]
 have pe0 : us 0 = _ := Rel.fin hall 0 (by decide)
 have pe1 : us 1 = _ := Rel.fin hall 1 (by decide)
 have pe2 : us 2 = _ := Rel.fin hall 2 (by decide)
 have pe3 : us 3 = _ := Rel.fin hall 3 (by decide)
 have pe4 : us 4 = _ := Rel.fin hall 4 (by decide)
 have pe5 : us 5 = _ := Rel.fin hall 5 (by decide)
 have pe6 : us 6 = _ := Rel.fin hall 6 (by decide)
 have pe7 : us 7 = _ := Rel.fin hall 7 (by decide)
 have pe8 : us 8 = _ := Rel.fin hall 8 (by decide)
 have pe9 : Rel.NewB _ _ _ (us 9) wr := Rel.fin hall 9 (by decide)
 clear hall HF uv ue
 obtain ⟨g6, eg6, hg6, hblk⟩ := pe9
 have K6 : Blk wr g6 127 #[.int .u64 0, .int .u64 0] := hblk
 have z0 := K6.frz 0
 have z1 := K6.frz 1
 have c0 := K6.at 0 (v := .int .u64 0) rfl
 have c1 := K6.at 1 (v := .int .u64 0) rfl
 obtain ⟨W7, hW7⟩ : ∃ W7, W7 = (wr.setCell ⟨g6, 0, none⟩ (.int .u64 (b1 : Int))).setCell ⟨g6, 1, none⟩ (.int .u64 (b2 : Int)) := ⟨_, rfl⟩
 have hzA := KA.out.lt
 have HK : Hid (Blk W7 g6 127 #[.int .u64 (b1 : Int), .int .u64 (b2 : Int)] ∧ Blk W7 g5 127 #[.int .u64 (a1 : Int), .int .u64 (a2 : Int)] ∧ Blk W7 w.heap.size 52 #[.int .i64 (n1 : Int), .int .i64 (d1 : Int)] ∧ Below w.heap.size w W7) := Lib.hid (by
  have h5 := HG5.out
  have hz6 := HB6.out.size
  have hz0 := K0b.out.lt
  rw [hW7]
  exact ⟨(K6.setTo 0 _ rfl).setTo 1 _ rfl, ((KA.out.belowS hq).other _ (by simp; omega)).other _ (by simp; omega), ((K0b.out.belowS hq).other _ (by simp; omega)).other _ (by simp; omega), ((Base.Below.nextA HB6.out hq).setCell (p := ⟨g6, 0, none⟩) (by show w.heap.size ≤ g6; omega) _).setCell (p := ⟨g6, 1, none⟩) (by show w.heap.size ≤ g6; omega) _⟩)
 rw [show us (0 + 1 + 1 + 1 + 1 + 1 + 1 + 1 + 1) = .agg #[.int .u64 (b1 : Int), .int .u64 (b2 : Int)] from pe8, eg6]
 clear hblk K6 hq K0b K1b HB6 pe0 pe1 pe2 pe3 pe4 pe5 pe6 pe7 pe8 hg6 eg6 HG5 KA hzA HM2 HT2 hw2 m2
 go_upto_region 8 with (fail)
 rw [← hW7]
 clear hW7 z0 z1 c0 c1
 have s0 := HK.out.1.at 0 (v := .int .u64 (b1 : Int)) rfl
 have s1 := HK.out.1.at 1 (v := .int .u64 (b2 : Int)) rfl
 have t0 := HK.out.2.1.at 0 (v := .int .u64 (a1 : Int)) rfl
 have t1 := HK.out.2.1.at 1 (v := .int .u64 (a2 : Int)) rfl
 rcases Nat.lt_trichotomy A B with h | h | h
 ·have HE : Hid (cmpT A B = -1) := Lib.hid (by unfold cmpT; rw [if_neg (show ¬ B < A by omega), if_pos h])
  rw [decide_eq_true h] at HL1
  rw [decide_eq_false (show ¬ B < A by omega)] at HL2
  clear h
  go_wp2_with fail
  refine (HL1.out _).mono ?_
  rintro e w8 ⟨rfl, hb8⟩
  have k0 := (HK.out.1.belowS hb8).at 0 (v := .int .u64 (b1 : Int)) rfl
  have k1 := (HK.out.1.belowS hb8).at 1 (v := .int .u64 (b2 : Int)) rfl
  have k2 := (HK.out.2.1.belowS hb8).at 0 (v := .int .u64 (a1 : Int)) rfl
  have k3 := (HK.out.2.1.belowS hb8).at 1 (v := .int .u64 (a2 : Int)) rfl
  have K8 := Lib.hid (HK.out.2.2.1.belowS hb8)
  have HB8 := Lib.hid (Base.Below.nextA HK.out.2.2.2 hb8)
  clear s0 s1 t0 t1 hb8 HL1 HK
  go_wp2_with fail
  refine (HL2.out _).mono ?_
  rintro e w9 ⟨rfl, hb9⟩
  have k4 := (K8.out.belowS hb9).at 0 (v := .int .i64 (n1 : Int)) rfl
  have HB9 := Lib.hid (Base.Below.nextA HB8.out hb9)
  clear k0 k1 k2 k3 hb9 HL2 K8
  go_wp2
  go_ret
  exact ⟨by rw [HE.out]; rfl, HB9.out⟩
 ·have HE : Hid (cmpT A B = 0) := Lib.hid (by unfold cmpT; rw [if_neg (show ¬ B < A by omega), if_neg (show ¬ A < B by omega)])
  rw [decide_eq_false (show ¬ A < B by omega)] at HL1
  rw [decide_eq_false (show ¬ B < A by omega)] at HL2
  clear h
  go_wp2_with fail
  refine (HL1.out _).mono ?_
  rintro e w8 ⟨rfl, hb8⟩
  have k0 := (HK.out.1.belowS hb8).at 0 (v := .int .u64 (b1 : Int)) rfl
  have k1 := (HK.out.1.belowS hb8).at 1 (v := .int .u64 (b2 : Int)) rfl
  have k2 := (HK.out.2.1.belowS hb8).at 0 (v := .int .u64 (a1 : Int)) rfl
  have k3 := (HK.out.2.1.belowS hb8).at 1 (v := .int .u64 (a2 : Int)) rfl
  have K8 := Lib.hid (HK.out.2.2.1.belowS hb8)
  have HB8 := Lib.hid (Base.Below.nextA HK.out.2.2.2 hb8)
  clear s0 s1 t0 t1 hb8 HL1 HK
  go_wp2_with fail
  refine (HL2.out _).mono ?_
  rintro e w9 ⟨rfl, hb9⟩
  have k4 := (K8.out.belowS hb9).at 0 (v := .int .i64 (n1 : Int)) rfl
  have HB9 := Lib.hid (Base.Below.nextA HB8.out hb9)
  clear k0 k1 k2 k3 hb9 HL2 K8
  go_wp2
  go_ret
  exact ⟨by rw [HE.out]; rfl, HB9.out⟩
 ·have HE : Hid (cmpT A B = 1) := Lib.hid (by unfold cmpT; rw [if_pos h])
  rw [decide_eq_false (show ¬ A < B by omega)] at HL1
  rw [decide_eq_true h] at HL2
  clear h
  go_wp2_with fail
  refine (HL1.out _).mono ?_
  rintro e w8 ⟨rfl, hb8⟩
  have k0 := (HK.out.1.belowS hb8).at 0 (v := .int .u64 (b1 : Int)) rfl
  have k1 := (HK.out.1.belowS hb8).at 1 (v := .int .u64 (b2 : Int)) rfl
  have k2 := (HK.out.2.1.belowS hb8).at 0 (v := .int .u64 (a1 : Int)) rfl
  have k3 := (HK.out.2.1.belowS hb8).at 1 (v := .int .u64 (a2 : Int)) rfl
  have K8 := Lib.hid (HK.out.2.2.1.belowS hb8)
  have HB8 := Lib.hid (Base.Below.nextA HK.out.2.2.2 hb8)
  clear s0 s1 t0 t1 hb8 HL1 HK
  go_wp2_with fail
  refine (HL2.out _).mono ?_
  rintro e w9 ⟨rfl, hb9⟩
  have k4 := (K8.out.belowS hb9).at 0 (v := .int .i64 (n1 : Int)) rfl
  have HB9 := Lib.hid (Base.Below.nextA HB8.out hb9)
  clear k0 k1 k2 k3 hb9 HL2 K8
  go_wp2
  go_ret
  exact ⟨by rw [HE.out]; rfl, HB9.out⟩
end Go.Proofs.YtcimmgpmkfbpdaaGreatDoor.LvX
namespace Go.Proofs.YtcimmgpmkfbpdaaGreatDoor.ValF
open Go.RowKit Go.Proofs.YtcimmgpmkfbpdaaGreatDoor Go.Proofs.YtcimmgpmkfbpdaaGreatDoor.Base Go.Proofs.YtcimmgpmkfbpdaaGreatDoor.Mem Go.Proofs.YtcimmgpmkfbpdaaGreatDoor.RatM Go.Proofs.YtcimmgpmkfbpdaaGreatDoor.Blk
set_option linter.unusedVariables false
def vfB (n d : Int) : Bool := inR d 1 1000000000000000000 && (inR n (-1000000000000000000) 1000000000000000000 && decide (Nat.gcd n.natAbs d.toNat = 1))
theorem vfB_true {n d : Int} : vfB n d = true ↔ VF n d := by
 constructor
 ·intro h
  simp only [vfB, Bool.and_eq_true, decide_eq_true_eq] at h
  have h1 := inR_true h.1
  have h2 := inR_true h.2.1
  exact ⟨h1.1, h1.2, h2.1, h2.2, h.2.2⟩
 ·rintro ⟨h1, h2, h3, h4, h5⟩
  simp [vfB, inR_yes ⟨h1, h2⟩, inR_yes ⟨h3, h4⟩, h5]
theorem max_q (n : Int) (h1 : -1000000000000000000 ≤ n) (h2 : n ≤ 1000000000000000000) (w : World) : Calls Tryz.prog 61 #[.int .i64 n, .int .i64 (-n)] w fun e w' => e = .returned (.int .i64 ((n.natAbs : Nat) : Int)) ∧ w' = w := (Fine.maxG n h1 h2 w).mono fun _ _ h => ⟨h.1, h.2.symm⟩
theorem gcd_q (x y : Nat) (hx : x ≤ 1000000000000000000) (hy : y ≤ 1000000000000000000) (w : World) : Calls Tryz.prog 117 #[.int .i64 (x : Int), .int .i64 (y : Int)] w fun e w' => e = .returned (.int .i64 ((Nat.gcd x y : Nat) : Int)) ∧ w' = w := (Fine.gcdG x y hx hy w).mono fun _ _ h => ⟨h.1, h.2.symm⟩
set_option maxHeartbeats 1000000 in
theorem validS_any (n d : Int) (w : World) : Calls Tryz.prog 110 #[.agg #[.int .i64 n, .int .i64 d]] w fun e w' => e = .returned (.bool (vfB n d)) ∧ Below w.heap.size w w' := by
 cases hd : inR d 1 1000000000000000000
 ·go_enter Tryz.func110, Tryz.ntmps110
  go_wp2
  go_quiet ((go_at_call 23; exact Calls.quiet_of_same (l00In_qb hd _)))
  go_wp2
  go_ret
  exact ⟨ret_bool (by simp [vfB, hd]), below_drewN ((Below.refl _ _).alloc (Nat.le_refl _) _) _⟩
 ·cases hn : inR n (-1000000000000000000) 1000000000000000000
  ·go_enter Tryz.func110, Tryz.ntmps110
   go_wp2
   go_quiet ((go_at_call 23; (first | (with_reducible exact Calls.quiet_of_same (l00In_qb hd _)) | (with_reducible exact Calls.quiet_of_same (l00In_qb hn _)))))
   go_wp2
   go_ret
   exact ⟨ret_bool (by simp [vfB, hd, hn]), below_drewN ((Below.refl _ _).alloc (Nat.le_refl _) _) _⟩
  ·obtain ⟨hd1, hd2⟩ := inR_true hd
   obtain ⟨hn1, hn2⟩ := inR_true hn
   have hb : n.natAbs ≤ 1000000000000000000 := by omega
   have hwn : IntKind.i64.wrap (-n) = -n := by rw [IntKind.wrap_i64]; omega
   have HE : Hid (vfB n d = decide (((Nat.gcd n.natAbs d.toNat : Nat) : Int) = 1)) := Lib.hid (by
    rw [vfB, hd, hn]
    simp only [Bool.true_and]
    congr 1
    exact propext ⟨fun h => by omega, fun h => by omega⟩)
   obtain ⟨D, rfl⟩ : ∃ D : Nat, d = (D : Int) := ⟨d.toNat, by omega⟩
   have hb2 : D ≤ 1000000000000000000 := by omega
   rw [Int.toNat_natCast] at HE
   go_enter Tryz.func110, Tryz.ntmps110
   go_wp2
   go_quiet ((first | (go_at_call 23; (first | (with_reducible exact Calls.quiet_of_same (l00In_qb hd _)) | (with_reducible exact Calls.quiet_of_same (l00In_qb hn _)))) | (go_at_call 61; exact Calls.quiet_of_same (max_q _ hn1 hn2 _)) | (go_at_call 117; exact Calls.quiet_of_same (gcd_q _ _ hb hb2 _))))
   go_wp2
   go_ret
   exact ⟨ret_bool (by rw [HE.out]; first | rfl | simp), below_drewN ((Below.refl _ _).alloc (Nat.le_refl _) _) _⟩
end Go.Proofs.YtcimmgpmkfbpdaaGreatDoor.ValF
namespace Go.Proofs.YtcimmgpmkfbpdaaGreatDoor.LvF
open Go.RowKit Go.Proofs.YtcimmgpmkfbpdaaGreatDoor Go.Proofs.YtcimmgpmkfbpdaaGreatDoor.Base Go.Proofs.YtcimmgpmkfbpdaaGreatDoor.Mem Go.Proofs.YtcimmgpmkfbpdaaGreatDoor.MemF Go.Proofs.YtcimmgpmkfbpdaaGreatDoor.GiveM Go.Proofs.YtcimmgpmkfbpdaaGreatDoor.RatM Go.Proofs.YtcimmgpmkfbpdaaGreatDoor.Fine Go.Proofs.YtcimmgpmkfbpdaaGreatDoor.Blk Go.Proofs.YtcimmgpmkfbpdaaGreatDoor.LvM Go.Proofs.YtcimmgpmkfbpdaaGreatDoor.LvQ Go.Proofs.YtcimmgpmkfbpdaaGreatDoor.LvO Go.Proofs.YtcimmgpmkfbpdaaGreatDoor.LvT Go.Proofs.YtcimmgpmkfbpdaaGreatDoor.LvW Go.Proofs.YtcimmgpmkfbpdaaGreatDoor.ValF
set_option linter.unusedVariables false
theorem out_len (f : Nat → Rat) : ∀ n, (outF f n).length = 2 * n
 | 0 => rfl
 | n + 1 => by rw [outF, List.length_append, out_len f n]; simp; omega
theorem out_at (f : Nat → Rat) : ∀ {n i : Nat}, i < n → (outF f n).getD (2 * i) 0 = numQ (f i) ∧ (outF f n).getD (2 * i + 1) 0 = denQ (f i)
 | 0, i, h => absurd h (Nat.not_lt_zero i)
 | n + 1, i, h => by
  have hl := out_len f n
  rw [outF]
  rcases Nat.lt_or_ge i n with g | g
  ·obtain ⟨h1, h2⟩ := out_at f g
   simp only [List.getD] at h1 h2 ⊢
   rw [List.getElem?_append_left (by omega), List.getElem?_append_left (by omega)]
   exact ⟨h1, h2⟩
  ·obtain rfl : i = n := by omega
   simp only [List.getD]
   rw [List.getElem?_append_right (by omega), List.getElem?_append_right (by omega), hl]
   simp
theorem nD_vf {n x : Nat} (hx : x ≤ 2 ^ n) (hn : n ≤ 50) : VF (nD n x) (dD n x) := by
 obtain ⟨h1, h2⟩ := dy_numQ hx hn
 unfold nD dD
 rw [h1, h2]
 exact dy_vf hx hn
theorem rdD {w : World} {B n N : Nat} {A : Option Addr} {C : Cnt} (h : RdF w B A N (outF (fD C n) N)) {j : Nat} (hj : j < N) : ∃ b off, A = some ⟨b, off, none⟩ ∧ b < B ∧ w.cell? ⟨b, off + j * 2, none⟩ = some (.int .i64 (nD n (C.c j))) ∧ w.cell? ⟨b, off + j * 2 + 1, none⟩ = some (.int .i64 (dD n (C.c j))) := by
 obtain ⟨b, off, e, hb, h1, h2⟩ := h.at hj
 obtain ⟨e1, e2⟩ := out_at (fD C n) hj
 rw [e1] at h1
 rw [e2] at h2
 exact ⟨b, off, e, hb, h1, h2⟩
set_option maxHeartbeats 2000000 in
theorem fAll_d {A : Option Addr} {c B n N : Nat} {C : Cnt} (hC : C.ok n) (hN : N = C.many) (hn : n ≤ 50) (w : World) (hx : RdF w B A N (outF (fD C n) N)) (hB : B ≤ w.heap.size) :
  Calls Tryz.prog 79 #[.slice A N c] w fun e w' => e = .returned (.bool true) ∧ Below w.heap.size w w' := by
 have HX := Lib.hid hx
 have HV : Hid (∀ j, j < N → ∀ W, Calls Tryz.prog 110 #[.agg #[.int .i64 (nD n (C.c j)), .int .i64 (dD n (C.c j))]] W fun e w' => e = .returned (.bool true) ∧ Below W.heap.size W w') := Lib.hid fun j hj W => by
  have := validS_any (nD n (C.c j)) (dD n (C.c j)) W
  rwa [vfB_true.2 (nD_vf (Cnt.one_le hC (by omega)) hn)] at this
 have hN60 : N ≤ 60 := by have := hC.2.1; omega
 clear hx hC hN
 go_enter Tryz.func79, Tryz.ntmps79
 go_wp2
 go_loopw [3] (fun iv wr => ∃ i : Nat, i ≤ N ∧ iv = .int .i64 (i : Int) ∧ Hid (Below w.heap.size w wr)) (fun iv _ => N - (intOf iv).toNat)
 case atStart => exact ⟨0, Nat.zero_le _, rfl, Lib.hid (Below.refl _ _)⟩
 case round =>
  obtain ⟨i, hi, rfl, HB⟩ := hrel
  obtain ⟨wp, rfl⟩ : ∃ x, x = wr := ⟨_, rfl⟩
  by_cases hlt : i < N
  ·obtain ⟨b, off, rfl, hb, g1, g2⟩ := rdD (HX.out.below HB.out hB) hlt
   have HVi := Lib.hid (HV.out i hlt)
   generalize nD n (C.c i) = p at *
   generalize dD n (C.c i) = q at *
   go_wp2_with fail
   refine (HVi.out _).mono ?_
   rintro e w2 ⟨rfl, hb2⟩
   have HB2 := Lib.hid (Base.Below.nextA HB.out hb2)
   clear hb2 g1 g2
   go_wp2
   go_roundw
   case rel => exact ⟨i + 1, hlt, by simp, HB2⟩
   case measure => simp [intOf]; omega
  ·obtain rfl : i = N := by omega
   go_wp2
   go_ret
   exact ⟨rfl, HB.out⟩
theorem fAdd_d {n x y : Nat} (hn : n ≤ 50) (hs : x + y ≤ 2 ^ n) (w : World) : Calls Tryz.prog 111 #[.agg #[.int .i64 (nD n x), .int .i64 (dD n x)], .agg #[.int .i64 (nD n y), .int .i64 (dD n y)]] w fun e w' => e = .returned (.tuple #[.agg #[.int .i64 (nD n (x + y)), .int .i64 (dD n (x + y))], .bool true]) ∧ Below w.heap.size w w' := by
 obtain ⟨a1, a2⟩ := dy_numQ (n := n) (x := x) (by omega) hn
 obtain ⟨b1, b2⟩ := dy_numQ (n := n) (x := y) (by omega) hn
 obtain ⟨p1, _⟩ := dy_parts n x
 obtain ⟨p2, _⟩ := dy_parts n y
 have h := fAdd_same (n1 := (dy n x).num) (n2 := (dy n y).num) (d1 := (dy n x).den) (d2 := (dy n y).den) (dy_vf (by omega) hn) (dy_vf (by omega) hn) (by rw [p1, p2, decide_eq_false (Int.not_lt.2 (Int.natCast_nonneg _)), decide_eq_false (Int.not_lt.2 (Int.natCast_nonneg _))]) w
 rw [qf_self, qf_self, dy_add] at h
 unfold FRet at h
 rw [dy_small hs hn] at h
 unfold nD dD
 rw [a1, a2, b1, b2]
 exact h
def FsRel (C : Cnt) (n b N : Nat) (w : World) (iv : Value) (wr : World) : Prop :=
 ∃ i : Nat, i ≤ N ∧ iv = .int .i64 (i : Int) ∧ Hid (Blk wr b 52 #[.int .i64 (nD n (sm i C.c)), .int .i64 (dD n (sm i C.c))]) ∧ Hid (Blk wr w.heap.size 52 #[.int .i64 0, .int .i64 0]) ∧ Hid (Below w.heap.size w wr)
set_option maxHeartbeats 4000000 in
set_option maxRecDepth 100000 in
theorem fSum_d {A : Option Addr} {c B n N : Nat} {C : Cnt} (hC : C.ok n) (hN : N = C.many) (hn : n ≤ 50) (w : World) (hx : RdF w B A N (outF (fD C n) N)) (hB : B ≤ w.heap.size) :
  Calls Tryz.prog 80 #[.slice A N c] w fun e w' => e = .returned (.tuple #[.agg #[.int .i64 1, .int .i64 1], .bool true]) ∧ Below w.heap.size w w' := by
 have HX := Lib.hid hx
 have HV : Hid (∀ j, j < N → ∀ W, Calls Tryz.prog 111 #[.agg #[.int .i64 (nD n (sm j C.c)), .int .i64 (dD n (sm j C.c))], .agg #[.int .i64 (nD n (C.c j)), .int .i64 (dD n (C.c j))]] W fun e w' => e = .returned (.tuple #[.agg #[.int .i64 (nD n (sm (j + 1) C.c)), .int .i64 (dD n (sm (j + 1) C.c))], .bool true]) ∧ Below W.heap.size W w') := Lib.hid fun j hj W =>
  fAdd_d hn (Cnt.sum_le hC (k := j + 1) (by omega)) W
 have HOne : Hid (nD n (sm N C.c) = 1 ∧ dD n (sm N C.c) = 1) := Lib.hid (by
  rw [hN, hC.2.2.2]
  unfold nD dD
  rw [dy_one]
  exact ⟨by decide +kernel, by decide +kernel⟩)
 have hN60 : N ≤ 60 := by have := hC.2.1; omega
 have H0 : Hid (FsRel C n (w.heap.size + 1) N w (.int .i64 0) ((w.alloc (.cells #[.int .i64 0, .int .i64 0] 52)).alloc (.cells #[.int .i64 0, .int .i64 1] 52))) := Lib.hid (by
  refine ⟨0, Nat.zero_le _, rfl, Lib.hid ?_, Lib.hid ((Blk.new w _ _).alloc _), Lib.hid (((Below.refl _ _).alloc (Nat.le_refl _) _).alloc (by simp) _)⟩
  rw [show sm 0 C.c = 0 from rfl, (nD_zero n).1, (nD_zero n).2]
  exact Blk.newAt _ _ (by simp))
 clear hx hC hN
 go_enter Tryz.func80, Tryz.ntmps80
 go_wp2
 go_loopw [5] (fun iv wr => FsRel C n (w.heap.size + 1) N w iv wr) (fun iv _ => N - (intOf iv).toNat)
 case atStart => exact H0.out
 case round =>
  obtain ⟨i, hi, rfl, KB, KR, HB⟩ := hrel
  obtain ⟨wp, rfl⟩ : ∃ x, x = wr := ⟨_, rfl⟩
  clear H0
  by_cases hlt : i < N
  ·obtain ⟨b, off, rfl, hb, g1, g2⟩ := rdD (HX.out.below HB.out hB) hlt
   have HVi := Lib.hid (HV.out i hlt)
   have HN : Hid (∀ w5, Blk w5 (w.heap.size + 1) 52 #[.int .i64 (nD n (sm (i + 1) C.c)), .int .i64 (dD n (sm (i + 1) C.c))] → Blk w5 w.heap.size 52 #[.int .i64 0, .int .i64 0] → Below w.heap.size w w5 → FsRel C n (w.heap.size + 1) N w (.int .i64 ((i : Int) + 1)) w5) := Lib.hid fun w5 h1 h2 h3 => ⟨i + 1, hlt, by simp, Lib.hid h1, Lib.hid h2, Lib.hid h3⟩
   generalize nD n (sm (i + 1) C.c) = P at *
   generalize dD n (sm (i + 1) C.c) = Q at *
   generalize nD n (sm i C.c) = p at *
   generalize dD n (sm i C.c) = q at *
   generalize nD n (C.c i) = p' at *
   generalize dD n (C.c i) = q' at *
   have s0 := KB.out.at 0 (v := .int .i64 p) rfl
   have s1 := KB.out.at 1 (v := .int .i64 q) rfl
   have hb1 := KB.out.lt
   have hbs : w.heap.size + 1 < wp.heap.size := hb1
   have hb2 : b < wp.heap.size := Nat.lt_of_lt_of_le hb (Nat.le_trans hB HB.out.size)
   go_wp2_with fail
   go_region_law (first
    | (go_simp; go_at_call 111; refine (HVi.out _).mono ?_; rintro e w4 ⟨rfl, hb4⟩; have hb5 : Below wp.heap.size wp w4 := (by first | exact hb4 | exact Base.Below.nextA ((Below.refl wp.heap.size wp).drew) hb4 | exact Base.Below.nextA (((Below.refl wp.heap.size wp).alloc (Nat.le_refl _) _).drew) hb4); have KB4 := Lib.hid (KB.out.belowS hb5); have KR4 := Lib.hid (KR.out.belowS hb5); have HB4 := Lib.hid (Base.Below.nextA HB.out hb5); have t0 := KB4.out.at 0 (v := .int .i64 p) rfl; have t1 := KB4.out.at 1 (v := .int .i64 q) rfl; have t2 := KB4.out.frz 0; have t3 := KB4.out.frz 1; have hb6 := KB4.out.lt; have hb7 := hb5.size; (try have KN := (show Blk (wp.alloc (.cells #[.int .i64 0, .int .i64 0] 52)).drew wp.heap.size 52 #[.int .i64 0, .int .i64 0] from (Blk.new wp _ _).drew).belowS hb4); (try have n0 := KN.at 0 (v := .int .i64 0) rfl); (try have n1 := KN.at 1 (v := .int .i64 0) rfl); (try have n2 := KN.frz 0); (try have n3 := KN.frz 1); (try clear KN); clear hb4 hb5 s0 s1))
   all_goals
    clear hb1 hb2 g1 g2
    have HBx := (HB4.out.setCell (p := ⟨w.heap.size + 1, 0, none⟩) (Nat.le_succ _) (.int .i64 P)).setCell (p := ⟨w.heap.size + 1, 1, none⟩) (Nat.le_succ _) (.int .i64 Q)
    have HNb := Lib.hid (HN.out (((w4.setCell ⟨w.heap.size + 1, 0, none⟩ (.int .i64 P)).setCell ⟨w.heap.size + 1, 1, none⟩ (.int .i64 Q)).alloc (.cells #[.int .i64 P, .int .i64 Q] 52)) (((KB4.out.setTo 0 _ rfl).setTo 1 _ rfl).alloc _) (((KR4.out.other _ (by simp)).other _ (by simp)).alloc _) (HBx.alloc HBx.size _))
    clear HBx
    have HNa := Lib.hid (HN.out ((((w4.setCell ⟨wp.heap.size, 0, none⟩ (.int .i64 P)).setCell ⟨wp.heap.size, 1, none⟩ (.int .i64 Q)).setCell ⟨w.heap.size + 1, 0, none⟩ (.int .i64 P)).setCell ⟨w.heap.size + 1, 1, none⟩ (.int .i64 Q)) (((KB4.out.other _ (by simp; omega)).other _ (by simp; omega)).setTo 0 _ rfl |>.setTo 1 _ rfl) ((((KR4.out.other _ (by simp; omega)).other _ (by simp; omega)).other _ (by simp)).other _ (by simp)) ((((HB4.out.setCell (p := ⟨wp.heap.size, 0, none⟩) (by show w.heap.size ≤ wp.heap.size; omega) _).setCell (p := ⟨wp.heap.size, 1, none⟩) (by show w.heap.size ≤ wp.heap.size; omega) _).setCell (p := ⟨w.heap.size + 1, 0, none⟩) (Nat.le_succ _) _).setCell (p := ⟨w.heap.size + 1, 1, none⟩) (Nat.le_succ _) _))
    go_wp2
    go_roundw
    case rel => first | with_reducible exact HNa.out | with_reducible exact HNb.out
    case measure => simp [intOf]; omega
  ·obtain rfl : i = N := by omega
   rw [HOne.out.1, HOne.out.2] at KB
   have s0 := KB.out.at 0 (v := .int .i64 1) rfl
   have s1 := KB.out.at 1 (v := .int .i64 1) rfl
   have r0 := KR.out.at 0 (v := .int .i64 0) rfl
   have r1 := KR.out.at 1 (v := .int .i64 0) rfl
   have f0 := KR.out.frz 0
   have f1 := KR.out.frz 1
   have SS := (KR.out.setTo 0 (.int .i64 1) rfl).setTo 1 (.int .i64 1) rfl
   have k0 := SS.at 0 (v := .int .i64 1) rfl
   have k1 := SS.at 1 (v := .int .i64 1) rfl
   have HBF := Lib.hid ((HB.out.setCell (p := ⟨w.heap.size, 0, none⟩) (Nat.le_refl _) (.int .i64 1)).setCell (p := ⟨w.heap.size, 1, none⟩) (Nat.le_refl _) (.int .i64 1))
   clear SS KB KR HB HX HV
   go_wp2
   refine bodyPost_ret (v := .tuple #[.agg #[.int .i64 1, .int .i64 1], .bool true]) (by simp [results, Tryz.results80, go_sem, k0, k1]) rfl ⟨rfl, HBF.out⟩
end Go.Proofs.YtcimmgpmkfbpdaaGreatDoor.LvF
namespace Go.Proofs.YtcimmgpmkfbpdaaGreatDoor.LvG
open Go.RowKit Go.Proofs.YtcimmgpmkfbpdaaGreatDoor Go.Proofs.YtcimmgpmkfbpdaaGreatDoor.Base Go.Proofs.YtcimmgpmkfbpdaaGreatDoor.Mem Go.Proofs.YtcimmgpmkfbpdaaGreatDoor.MemF Go.Proofs.YtcimmgpmkfbpdaaGreatDoor.GiveM Go.Proofs.YtcimmgpmkfbpdaaGreatDoor.RatM Go.Proofs.YtcimmgpmkfbpdaaGreatDoor.Blk Go.Proofs.YtcimmgpmkfbpdaaGreatDoor.LvM Go.Proofs.YtcimmgpmkfbpdaaGreatDoor.LvQ Go.Proofs.YtcimmgpmkfbpdaaGreatDoor.LvO Go.Proofs.YtcimmgpmkfbpdaaGreatDoor.LvT Go.Proofs.YtcimmgpmkfbpdaaGreatDoor.LvW Go.Proofs.YtcimmgpmkfbpdaaGreatDoor.LvF
set_option linter.unusedVariables false
theorem nD_pos {n x : Nat} (hx : 0 < x) (hx2 : x ≤ 2 ^ n) (hn : n ≤ 50) : 0 < nD n x := by
 obtain ⟨h1, _⟩ := dy_numQ hx2 hn
 obtain ⟨h2, _⟩ := dy_parts n x
 unfold nD
 rw [h1, h2]
 have h3 : 0 < x / Nat.gcd x (2 ^ n) := Nat.div_pos (Nat.gcd_le_left _ hx) (Nat.gcd_pos_of_pos_left _ hx)
 omega
theorem rdV {w : World} {B N : Nat} {A : Option Addr} {C : Cnt} (h : RdI w B A (fl N (vD C))) {j : Nat} (hj : j < N) : ∃ b off, A = some ⟨b, off, none⟩ ∧ b < B ∧ ∀ i, i < N → w.cell? ⟨b, off + i, none⟩ = some (.int .i64 ((C.first + i : Nat) : Int)) := by
 obtain ⟨b, off, e, hb, hc⟩ := h (by rw [fl_len]; omega)
 refine ⟨b, off, e, hb, fun i hi => ?_⟩
 have := hc i (by rw [fl_len]; exact hi)
 rw [fl_at _ hi] at this
 exact this
set_option maxHeartbeats 4000000 in
set_option maxRecDepth 100000 in
theorem is_d {b n : Nat} {A A' : Option Addr} {c c' : Nat} {C : Cnt} (hC : C.ok n) (hn : n ≤ 50) (w : World) (K : Blk w b 65 #[.slice A C.many c, .slice A' C.many c']) (hx : RdI w w.heap.size A (fl C.many (vD C))) (hy : RdF w w.heap.size A' C.many (outF (fD C n) C.many)) :
  Calls Tryz.prog 52 #[.pointer (some ⟨b, 0, none⟩)] w fun e w' => e = .returned (.bool true) ∧ Below w.heap.size w w' := by
 have hN60 : C.many ≤ 51 := by have := hC.2.1; omega
 have hN1 : 1 ≤ C.many := by
  rcases Nat.eq_zero_or_pos C.many with h | h
  ·have h1 := hC.2.2.2
   rw [h] at h1
   have := Nat.two_pow_pos n
   have h2 : sm 0 C.c = 0 := rfl
   omega
  ·exact h
 have HAll := Lib.hid (fun W (hW : Below w.heap.size w W) => fAll_d (c := c') hC rfl hn W ((hy.below hW (Nat.le_refl _)).more hW.size) (Nat.le_refl _))
 have HSum := Lib.hid (fun W (hW : Below w.heap.size w W) => fSum_d (c := c') hC rfl hn W ((hy.below hW (Nat.le_refl _)).more hW.size) (Nat.le_refl _))
 have HP : Hid (∀ i, i < C.many → 0 < nD n (C.c i)) := Lib.hid fun i hi => nD_pos (hC.2.2.1 i hi) (Cnt.one_le hC hi) hn
 have hf1 := hC.1
 obtain ⟨N, hN⟩ : ∃ N, N = C.many := ⟨_, rfl⟩
 rw [← hN] at K hx hy hN60 hN1 HAll HSum HP
 have KB := Lib.hid K
 have HX := Lib.hid hx
 have HY := Lib.hid hy
 have d0 := K.at 0 (v := .slice A N c) rfl
 have d1 := K.at 1 (v := .slice A' N c') rfl
 have n1 : ¬ ((N : Int) < 1) := by omega
 have n2 : ¬ ((64 : Int) < (N : Int)) := by omega
 have n3 : ((N : Int) != (N : Int)) = false := by simp
 clear hC hN K hx hy
 go_enter Tryz.func52, Tryz.ntmps52
 go_wp2_with fail
 refine (HAll.out w (Below.refl _ _)).mono ?_
 rintro e w1 ⟨rfl, hb1⟩
 have HB1 := Lib.hid hb1
 clear hb1 HAll d0 d1 n1 n2
 go_wp2
 go_loopw [4] (fun iv wr => ∃ i : Nat, i ≤ N ∧ iv = .int .i64 (i : Int) ∧ Hid (Below w.heap.size w wr)) (fun iv _ => N - (intOf iv).toNat)
 case atStart => exact ⟨0, Nat.zero_le _, rfl, HB1⟩
 case round =>
  obtain ⟨i, hi, rfl, HB⟩ := hrel
  obtain ⟨wp, rfl⟩ : ∃ x, x = wr := ⟨_, rfl⟩
  clear HB1
  by_cases hlt : i < N
  ·obtain ⟨vb, vo, rfl, hvb, hv⟩ := rdV HX.out hlt
   obtain ⟨fb, fo, rfl, hfb, g1, _⟩ := rdD HY.out hlt
   have hp := HP.out i hlt
   have e1 := hv i hlt
   have KBp := Lib.hid (KB.out.belowS HB.out)
   have hr : inR ((C.first + i : Nat) : Int) (-1000000000000000) 1000000000000000 = true := by simp [inR]; omega
   have HIn := Lib.hid (fun W => l00In_qb hr W)
   have HBp := Lib.hid (fun W (h : Below wp.heap.size wp W) => Base.Below.nextA HB.out h)
   generalize nD n (C.c i) = p at *
   have hp2 : ¬ (p ≤ 0) := by omega
   rcases Nat.eq_zero_or_pos i with h0 | h0
   ·subst h0
    rw [Nat.add_zero] at e1
    rw [Nat.zero_mul, Nat.add_zero] at g1
    clear hv hr hp
    generalize ((C.first + 0 : Nat) : Int) = v at *
    go_wp2
    (refine wp_region_below (by kernel_rfl) (by kernel_rfl) ?_; (repeat (with_reducible refine wpQuiet_step (fun K hK => ?_); go_simp; first | (with_reducible refine hK _ ?_; clear hK K) | (apply Exists.intro; refine ⟨fun wq hq => ?_, hK _ ?_⟩; (first | rfl | (have d0 := (KBp.out.belowS hq).at 0 (v := .slice (some ⟨vb, vo, none⟩) N c) rfl; have d1 := (KBp.out.belowS hq).at 1 (v := .slice (some ⟨fb, fo, none⟩) N c') rfl; have x0 := ((HBp.out _ hq).cell (p := ⟨vb, vo, none⟩) hvb).trans e1; have x1 := ((HBp.out _ hq).cell (p := ⟨fb, fo, none⟩) hfb).trans g1; first | (go_simp; done) | (go_simp; rfl) | (go_at_call 23; refine (HIn.out _).mono ?_; rintro e w7 ⟨rfl, rfl⟩; exact ⟨rfl, hq⟩))); clear hK K))); with_reducible refine wpQuiet_nil ?_; intro wq hq)
    have HBq := Lib.hid (HBp.out _ hq)
    clear hq
    go_wp2
    go_roundw
    case rel => exact ⟨1, by omega, by simp, HBq⟩
    case measure => simp [intOf]; omega
   ·obtain ⟨k, rfl⟩ : ∃ k, i = k + 1 := ⟨i - 1, by omega⟩
    have e0 := hv k (by omega)
    have hlt2 : (k : Int) + 1 < (N : Int) := by omega
    have hk0 : (0 : Int) ≤ (k : Int) + 1 := by omega
    have hkN : (k : Int) < (N : Int) := by omega
    have hwk : IntKind.i64.wrap (k : Int) = (k : Int) := by rw [IntKind.wrap_i64]; omega
    have hvv : ¬ (((C.first + (k + 1) : Nat) : Int) ≤ ((C.first + k : Nat) : Int)) := by omega
    clear hv hr hp
    generalize ((C.first + (k + 1) : Nat) : Int) = v at *
    generalize ((C.first + k : Nat) : Int) = v0 at *
    go_wp2
    (refine wp_region_below (by kernel_rfl) (by kernel_rfl) ?_; (repeat (with_reducible refine wpQuiet_step (fun K hK => ?_); go_simp; first | (with_reducible refine hK _ ?_; clear hK K) | (apply Exists.intro; refine ⟨fun wq hq => ?_, hK _ ?_⟩; (first | rfl | (have d0 := (KBp.out.belowS hq).at 0 (v := .slice (some ⟨vb, vo, none⟩) N c) rfl; have d1 := (KBp.out.belowS hq).at 1 (v := .slice (some ⟨fb, fo, none⟩) N c') rfl; have x0 := ((HBp.out _ hq).cell (p := ⟨vb, vo + (k + 1), none⟩) hvb).trans e1; have x2 := ((HBp.out _ hq).cell (p := ⟨vb, vo + k, none⟩) hvb).trans e0; have x1 := ((HBp.out _ hq).cell (p := ⟨fb, fo + (k + 1) * 2, none⟩) hfb).trans g1; first | (go_simp; done) | (go_simp; rfl) | (go_at_call 23; refine (HIn.out _).mono ?_; rintro e w7 ⟨rfl, rfl⟩; exact ⟨rfl, hq⟩))); clear hK K))); with_reducible refine wpQuiet_nil ?_; intro wq hq)
    have HBq := Lib.hid (HBp.out _ hq)
    clear hq
    go_wp2
    go_roundw
    case rel => exact ⟨k + 1 + 1, by omega, by simp, HBq⟩
    case measure => simp [intOf]; omega
  ·obtain rfl : i = N := by omega
   have d1 := (KB.out.belowS HB.out).at 1 (v := .slice A' i c') rfl
   have HS := Lib.hid (HSum.out _ HB.out)
   clear HX HY HP HSum
   go_wp2_with fail
   refine HS.out.mono ?_
   rintro e w3 ⟨rfl, hb3⟩
   have HB3 := Lib.hid (Base.Below.nextA HB.out hb3)
   clear hb3 d1
   go_wp2
   go_ret
   exact ⟨rfl, HB3.out.alloc HB3.out.size _⟩
end Go.Proofs.YtcimmgpmkfbpdaaGreatDoor.LvG
namespace Go.Proofs.YtcimmgpmkfbpdaaGreatDoor.LpS
open Go.RowKit Go.Proofs.YtcimmgpmkfbpdaaGreatDoor Go.Proofs.YtcimmgpmkfbpdaaGreatDoor.Base Go.Proofs.YtcimmgpmkfbpdaaGreatDoor.Mem Go.Proofs.YtcimmgpmkfbpdaaGreatDoor.LvQ Go.Proofs.YtcimmgpmkfbpdaaGreatDoor.LvO Go.Proofs.YtcimmgpmkfbpdaaGreatDoor.LvT Go.Proofs.YtcimmgpmkfbpdaaGreatDoor.LvG
set_option linter.unusedVariables false
theorem nan_c (x : Int) (w : World) : Calls Tryz.prog 149 #[.int .i64 x] w fun e w' => e = .returned (.bool false) ∧ w = w' := by
 have h : (x != x) = false := by simp
 go_enter Tryz.func149, Tryz.ntmps149
 go_wp2
 go_ret
 exact ⟨ret_bool (by simp), rfl⟩
theorem less_c (x y : Int) (w : World) : Calls Tryz.prog 128 #[.int .i64 x, .int .i64 y] w fun e w' => e = .returned (.bool (decide (x < y))) ∧ w = w' := by
 go_enter Tryz.func128, Tryz.ntmps128
 go_wp2_with fail
 refine (nan_c x _).mono ?_
 rintro e w' ⟨rfl, rfl⟩
 go_wp2
 go_ret
 exact ⟨ret_bool (by simp), rfl⟩
set_option maxHeartbeats 2000000 in
theorem search_d {A : Option Addr} {B c N p : Nat} {C : Cnt} (hf : C.first ≤ 1) (hp : p < N) (hN : N ≤ 60) (w : World) (hx : RdI w B A (fl N (vD C))) :
  Calls Tryz.prog 104 #[.slice A N c, .int .i64 ((C.first + p : Nat) : Int)] w fun e w' => e = .returned (.tuple #[.int .i64 (p : Int), .bool true]) ∧ w = w' := by
 obtain ⟨b, off, rfl, _, hc⟩ := rdV hx hp
 have HC := Lib.hid hc
 rw [show ((C.first + p : Nat) : Int) = (C.first : Int) + (p : Int) by simp]
 clear hx hc
 go_enter Tryz.func104, Tryz.ntmps104
 go_wp2
 go_loop [7, 8] (fun iv jv => ∃ i j : Nat, i ≤ p ∧ p ≤ j ∧ j ≤ N ∧ iv = .int .i64 (i : Int) ∧ jv = .int .i64 (j : Int)) (fun iv jv => (intOf jv).toNat - (intOf iv).toNat)
 case atStart => exact ⟨0, N, Nat.zero_le _, by omega, Nat.le_refl _, rfl, rfl⟩
 case round =>
  obtain ⟨i, j, hi, hj, hjN, rfl, rfl⟩ := hrel
  by_cases hij : i < j
  ·obtain ⟨h, hh⟩ : ∃ h, h = (i + j) / 2 := ⟨_, rfl⟩
   have hhN : h < N := by omega
   have g1 := HC.out h hhN
   have hl := fun W => less_c ((C.first : Int) + (h : Int)) ((C.first : Int) + (p : Int)) W
   have hdiv : ((i : Int) + (j : Int)) / 2 = (h : Int) := by omega
   have hih : i ≤ h := by omega
   have hhj : h < j := by omega
   clear hh
   by_cases hhp : h < p
   ·rw [decide_eq_true (show (C.first : Int) + (h : Int) < (C.first : Int) + (p : Int) by omega)] at hl
    have HL := Lib.hid hl
    clear hl
    go_wp2_with fail
    refine (HL.out _).mono ?_
    rintro e w' ⟨rfl, rfl⟩
    go_wp2
    go_round
    case rel => exact ⟨h + 1, j, by omega, hj, hjN, by simp, rfl⟩
    case measure => simp [intOf]; omega
   ·rw [decide_eq_false (show ¬ (C.first : Int) + (h : Int) < (C.first : Int) + (p : Int) by omega)] at hl
    have HL := Lib.hid hl
    clear hl
    go_wp2_with fail
    refine (HL.out _).mono ?_
    rintro e w' ⟨rfl, rfl⟩
    go_wp2
    go_round
    case rel => exact ⟨i, h, hi, by omega, by omega, rfl, rfl⟩
    case measure => simp [intOf]; omega
  ·obtain rfl : i = j := by omega
   obtain rfl : i = p := by omega
   have g1 := HC.out i hp
   have hiN : (i : Int) < (N : Int) := by omega
   have heq : (((C.first : Int) + (i : Int)) == ((C.first : Int) + (i : Int))) = true := by simp
   go_wp2
   refine bodyPost_ret (v := .tuple #[.int .i64 (i : Int), .bool true]) (by simp [results, Tryz.results104, go_sem]) rfl ⟨rfl, rfl⟩
end Go.Proofs.YtcimmgpmkfbpdaaGreatDoor.LpS
