/- The reference's fractions of any size: a small one made wide. -/
import Derived.Test.YthagenodiofgnaaGreatMgMix14
import Derived.Deep.Cut
import Derived.Test.YthagenodiofgnaaGreatMgMix06
import Derived.Test.YthagenodiofgnaaGreatMgMix12
import Derived.Test.YthagenodiofgnaaGreatMgMix08
namespace Go.Proofs.YthagenodiofgnaaGreat.Wide
open Go.RowKit Go.Proofs.YthagenodiofgnaaGreat Go.Proofs.YthagenodiofgnaaGreat.Base Go.Proofs.YthagenodiofgnaaGreat.Mem Go.Proofs.YthagenodiofgnaaGreat.RatM Go.Proofs.YthagenodiofgnaaGreat.BigM Go.Proofs.YthagenodiofgnaaGreat.Big Go.Proofs.YthagenodiofgnaaGreat.Fine Go.Proofs.YthagenodiofgnaaGreat.Blk
set_option linter.unusedVariables false
set_option maxHeartbeats 4000000 in
set_option maxRecDepth 100000 in
theorem wideOf_any {n d : Int} (h : VF n d) (w : World) : Calls Tryz.prog 64 #[.agg #[.int .i64 n, .int .i64 d]] w (WRet (qf n d) 2 w) := by
 have HX := Lib.hid (fun W => maxG n h.2.2.1 h.2.2.2.1 W)
 have HBn := Lib.hid (fun W => bigOf_any n.natAbs (by have := h.2.2.1; have := h.2.2.2.1; omega) W)
 have HBd := Lib.hid (fun W => bigOf_any d.toNat (by have := h.2.1; omega) W)
 rw [show ((d.toNat : Nat) : Int) = d by have := h.1; omega] at HBd
 have HP : Hid (∀ W A1 A2 k1 k2 c1 c2, IsB W n.natAbs (.slice A1 k1 c1) → IsB W d.toNat (.slice A2 k2 c2) → IsW W (qf n d) 2 (.agg #[.bool (decide (n < 0)), .slice A1 k1 c1, .slice A2 k2 c2, .bool true, .int .i64 n, .int .i64 d])) := Lib.hid fun W A1 A2 k1 k2 c1 c2 g1 g2 =>
  ⟨_, _, _, _, _, _, _, _, _, _, _, _, rfl, ⟨g1, g2, by have := h.1; omega, rfl, small_len (by have := h.2.2.1; have := h.2.2.2.1; omega), small_len (by have := h.2.1; omega), fun _ => ⟨h, rfl, rfl, rfl⟩⟩⟩
 have r1 := h.2.2.1
 have r2 := h.2.2.2.1
 have hwn : IntKind.i64.wrap (-n) = -n := by rw [IntKind.wrap_i64]; omega
 clear h
 obtain ⟨W2, hW2⟩ : ∃ W2, W2 = (w.alloc (.cells #[.int .i64 n, .int .i64 d] 34)).alloc (.cells #[.bool false, .slice none 0 0, .slice none 0 0, .bool false, .int .i64 0, .int .i64 0] 107) := ⟨_, rfl⟩
 have K0 : Hid (Blk W2 w.heap.size 34 #[.int .i64 n, .int .i64 d]) := Lib.hid (by rw [hW2]; exact (Blk.new w _ _).alloc _)
 have KR : Hid (Blk W2 (w.heap.size + 1) 107 #[.bool false, .slice none 0 0, .slice none 0 0, .bool false, .int .i64 0, .int .i64 0]) := Lib.hid (by rw [hW2]; exact Blk.newAt _ _ (by simp))
 have HB : Hid (Below w.heap.size w W2) := Lib.hid (by rw [hW2]; exact ((Below.refl _ _).alloc (Nat.le_refl _) _).alloc (by simp) _)
 have HW := Lib.hid hW2
 clear hW2
 go_enter Tryz.func64, Tryz.ntmps64
 go_wp2_with fail
 rw [← HW.out]
 refine Rel.wp_region_rel 15 (by kernel_rfl) (by kernel_rfl) (fun F hF => ?_)
 simp only [List.take_succ_cons, List.take_zero, List.drop_succ_cons, List.drop_zero, Rel.putL] at hF ⊢
 have HF := Lib.hid hF
 clear hF
 have uv := @Rel.upon_value Tryz.prog
 have ue := @Rel.upon_enter Tryz.prog
 apply Rel.rel_pure
 apply Exists.intro
 refine ⟨fun vs wq hq hdp R hR => ?_, ?_⟩
 ·(rw [HF.out, Rel.stepAt_eq]; clear hdp; skip; go_simp; exact hR)
 apply Rel.rel_pure
 apply Exists.intro
 refine ⟨fun vs wq hq hdp R hR => ?_, ?_⟩
 ·(rw [HF.out, Rel.stepAt_eq]; have qd0 : vs 0 = _ := Rel.dep hdp 0 (by kernel_rfl); clear hdp; have x0 := (K0.out.belowS hq).at 0 (v := .int .i64 n) rfl; have x1 := (K0.out.belowS hq).at 1 (v := .int .i64 d) rfl; go_simp; exact hR)
 apply Rel.rel_pure
 apply Exists.intro
 refine ⟨fun vs wq hq hdp R hR => ?_, ?_⟩
 ·(rw [HF.out, Rel.stepAt_eq]; have qd1 : vs 1 = _ := Rel.dep hdp 1 (by kernel_rfl); clear hdp; skip; go_simp; exact hR)
 apply Rel.rel_pure
 apply Exists.intro
 refine ⟨fun vs wq hq hdp R hR => ?_, ?_⟩
 ·(rw [HF.out, Rel.stepAt_eq]; clear hdp; skip; go_simp; exact hR)
 apply Rel.rel_pure
 apply Exists.intro
 refine ⟨fun vs wq hq hdp R hR => ?_, ?_⟩
 ·(rw [HF.out, Rel.stepAt_eq]; have qd3 : vs 3 = _ := Rel.dep hdp 3 (by kernel_rfl); clear hdp; have x0 := (K0.out.belowS hq).at 0 (v := .int .i64 n) rfl; have x1 := (K0.out.belowS hq).at 1 (v := .int .i64 d) rfl; go_simp; exact hR)
 apply Rel.rel_pure
 apply Exists.intro
 refine ⟨fun vs wq hq hdp R hR => ?_, ?_⟩
 ·(rw [HF.out, Rel.stepAt_eq]; clear hdp; skip; go_simp; exact hR)
 apply Rel.rel_pure
 apply Exists.intro
 refine ⟨fun vs wq hq hdp R hR => ?_, ?_⟩
 ·(rw [HF.out, Rel.stepAt_eq]; have qd5 : vs 5 = _ := Rel.dep hdp 5 (by kernel_rfl); clear hdp; have x0 := (K0.out.belowS hq).at 0 (v := .int .i64 n) rfl; have x1 := (K0.out.belowS hq).at 1 (v := .int .i64 d) rfl; go_simp; exact hR)
 apply Rel.rel_pure
 apply Exists.intro
 refine ⟨fun vs wq hq hdp R hR => ?_, ?_⟩
 ·(rw [HF.out, Rel.stepAt_eq]; have qd6 : vs 6 = _ := Rel.dep hdp 6 (by kernel_rfl); clear hdp; skip; go_simp; exact hR)
 apply Rel.rel_same
 apply Exists.intro
 refine ⟨fun vs wq hq hdp => ?_, ?_⟩
 ·(rw [HF.out, Rel.stepAt_eq]; have qd4 : vs 4 = _ := Rel.dep hdp 4 (by kernel_rfl); have qd7 : vs 7 = _ := Rel.dep hdp 7 (by kernel_rfl); clear hdp; skip; go_simp; refine (HX.out _).mono ?_; rintro e w7 ⟨rfl, rfl⟩; exact ⟨_, rfl, rfl, Below.refl _ _⟩)
 refine Rel.rel_law (S := fun v w' => IsB w' n.natAbs v) (isB_mono _) (fun vs wq hq hdp => ?_) ?_
 ·(rw [HF.out, Rel.stepAt_eq]; have qd8 : vs 8 = _ := Rel.dep hdp 8 (by kernel_rfl); clear hdp; skip; go_simp; refine (HBn.out _).mono ?_; rintro e w7 ⟨v, rfl, hv, hb⟩; exact ⟨_, rfl, hv, hb⟩)
 apply Rel.rel_pure
 apply Exists.intro
 refine ⟨fun vs wq hq hdp R hR => ?_, ?_⟩
 ·(rw [HF.out, Rel.stepAt_eq]; clear hdp; skip; go_simp; exact hR)
 apply Rel.rel_pure
 apply Exists.intro
 refine ⟨fun vs wq hq hdp R hR => ?_, ?_⟩
 ·(rw [HF.out, Rel.stepAt_eq]; have qd10 : vs 10 = _ := Rel.dep hdp 10 (by kernel_rfl); clear hdp; have x0 := (K0.out.belowS hq).at 0 (v := .int .i64 n) rfl; have x1 := (K0.out.belowS hq).at 1 (v := .int .i64 d) rfl; go_simp; exact hR)
 refine Rel.rel_law (S := fun v w' => IsB w' d.toNat v) (isB_mono _) (fun vs wq hq hdp => ?_) ?_
 ·(rw [HF.out, Rel.stepAt_eq]; have qd11 : vs 11 = _ := Rel.dep hdp 11 (by kernel_rfl); clear hdp; skip; go_simp; refine (HBd.out _).mono ?_; rintro e w7 ⟨v, rfl, hv, hb⟩; exact ⟨_, rfl, hv, hb⟩)
 apply Rel.rel_pure
 apply Exists.intro
 refine ⟨fun vs wq hq hdp R hR => ?_, ?_⟩
 ·(rw [HF.out, Rel.stepAt_eq]; clear hdp; have x0 := (K0.out.belowS hq).at 0 (v := .int .i64 n) rfl; have x1 := (K0.out.belowS hq).at 1 (v := .int .i64 d) rfl; go_simp; exact hR)
 refine Rel.rel_law (S := fun v w' => IsW w' (qf n d) 2 v) (isW_mono _ _) (fun vs wq hq hdp => ?_) ?_
 ·(rw [HF.out, Rel.stepAt_eq]; have qd2 : vs 2 = _ := Rel.dep hdp 2 (by kernel_rfl); have qd9 : IsB wq _ (vs 9) := Rel.dep hdp 9 (by kernel_rfl); have qd12 : IsB wq _ (vs 12) := Rel.dep hdp 12 (by kernel_rfl); have qd13 : vs 13 = _ := Rel.dep hdp 13 (by kernel_rfl); clear hdp; obtain ⟨A1, c1, ev1, _⟩ := Dig.form qd9; obtain ⟨A2, c2, ev2, _⟩ := Dig.form qd12; have HPP := Lib.hid (And.intro (HP.out wq A1 A2 _ _ c1 c2 (by rw [← ev1]; exact qd9) (by rw [← ev2]; exact qd12)) (Below.refl wq.heap.size wq)); go_simp; exact HPP.out)
 refine Rel.rel_end (fun vs wq hq hall => ?_)
 rw [HF.out]
 have qe0 : vs 0 = _ := Rel.fin hall 0 (by decide)
 have qe1 : vs 1 = _ := Rel.fin hall 1 (by decide)
 have qe2 : vs 2 = _ := Rel.fin hall 2 (by decide)
 have qe3 : vs 3 = _ := Rel.fin hall 3 (by decide)
 have qe4 : vs 4 = _ := Rel.fin hall 4 (by decide)
 have qe5 : vs 5 = _ := Rel.fin hall 5 (by decide)
 have qe6 : vs 6 = _ := Rel.fin hall 6 (by decide)
 have qe7 : vs 7 = _ := Rel.fin hall 7 (by decide)
 have qe8 : vs 8 = _ := Rel.fin hall 8 (by decide)
 have qe9 : IsB wq _ (vs 9) := Rel.fin hall 9 (by decide)
 have qe10 : vs 10 = _ := Rel.fin hall 10 (by decide)
 have qe11 : vs 11 = _ := Rel.fin hall 11 (by decide)
 have qe12 : IsB wq _ (vs 12) := Rel.fin hall 12 (by decide)
 have qe13 : vs 13 = _ := Rel.fin hall 13 (by decide)
 have qe14 : IsW wq _ _ (vs 14) := Rel.fin hall 14 (by decide)
 clear hall HF uv ue
 obtain ⟨s, A1, k1, c1', A2, k2, c2', fine, fn, fd, nn, dd, ev, hp⟩ := qe14
 have KRq := KR.out.belowS hq
 have HBq := Base.Below.nextA HB.out hq
 have HP2 := Lib.hid hp
 clear hq hp
 have z0 := (KRq).frz 0
 have z1 := (KRq).frz 1
 have z2 := (KRq).frz 2
 have z3 := (KRq).frz 3
 have z4 := (KRq).frz 4
 have z5 := (KRq).frz 5
 have c0 := (KRq).at 0 (v := .bool false) rfl
 have c1 := (KRq).at 1 (v := .slice none 0 0) rfl
 have c2 := (KRq).at 2 (v := .slice none 0 0) rfl
 have c3 := (KRq).at 3 (v := .bool false) rfl
 have c4 := (KRq).at 4 (v := .int .i64 0) rfl
 have c5 := (KRq).at 5 (v := .int .i64 0) rfl
 have SS := put6_blk (KRq) (.bool s) (.slice A1 k1 c1') (.slice A2 k2 c2') (.bool fine) (.int .i64 fn) (.int .i64 fd)
 unfold put6 at SS
 have s0 := SS.at 0 rfl
 have s1 := SS.at 1 rfl
 have s2 := SS.at 2 rfl
 have s3 := SS.at 3 rfl
 have s4 := SS.at 4 rfl
 have s5 := SS.at 5 rfl
 have HFIN := Lib.hid (WRet.put (HP2.out) (KRq) (HBq) (by simp))
 clear SS
 go_wp2
 refine bodyPost_ret (v := .agg #[.bool s, .slice A1 k1 c1', .slice A2 k2 c2', .bool fine, .int .i64 fn, .int .i64 fd]) (by simp [results, Tryz.results64, go_sem, s0, s1, s2, s3, s4, s5]) rfl ?_
 exact HFIN.out
end Go.Proofs.YthagenodiofgnaaGreat.Wide
namespace Go.Proofs.YthagenodiofgnaaGreat.Wide
open Go.RowKit Go.Proofs.YthagenodiofgnaaGreat Go.Proofs.YthagenodiofgnaaGreat.Base Go.Proofs.YthagenodiofgnaaGreat.Mem Go.Proofs.YthagenodiofgnaaGreat.RatM Go.Proofs.YthagenodiofgnaaGreat.BigM Go.Proofs.YthagenodiofgnaaGreat.Big Go.Proofs.YthagenodiofgnaaGreat.Fine Go.Proofs.YthagenodiofgnaaGreat.Blk
set_option linter.unusedVariables false
def bigOfV (w : World) : Value → Nat
 | .slice (some a) n _ => val ((List.range n).map fun i => match w.cell? ⟨a.block, a.off + i, none⟩ with
  | some (.int _ x) => x.toNat
  | _ => 0)
 | _ => 0
theorem bigOfV_eq {w : World} {x : Nat} {v : Value} (h : IsB w x v) : bigOfV w v = x := by
 obtain ⟨A, c, rfl, _⟩ := Dig.form h
 rcases Nat.eq_zero_or_pos (bigL x).length with h0 | h0
 ·have e := List.length_eq_zero_iff.1 h0
  have hx : x = 0 := by have := bigL_val x; rw [e, val] at this; exact this.symm
  subst hx
  rw [h0]
  cases A <;> simp [bigOfV, val]
 ·obtain ⟨b, rfl, _⟩ := IsB.cell h h0
  show val _ = x
  rw [← bigL_val x]
  congr 1
  refine List.ext_getElem (by simp [bigL_val]) fun i h1 h2 => ?_
  rw [bigL_val] at h1
  simp only [List.getElem_map, List.getElem_range]
  obtain ⟨b', e, hc⟩ := IsB.cell h h2
  injection e with e
  injection e with e1 _ _
  subst e1
  rw [Nat.zero_add, hc]
  simp [List.getD, h2]
attribute [irreducible] bigOfV
def IsL (w : World) (q : Rat) (m : Nat) (v : Value) : Prop :=
 ∃ s A1 k1 c1 A2 k2 c2 fine fn fd n d, v = .agg #[.bool s, .slice A1 k1 c1, .slice A2 k2 c2, .bool fine, .int .i64 fn, .int .i64 fd] ∧ Parts w q m s (.slice A1 k1 c1) (.slice A2 k2 c2) fine fn fd n d ∧ n = q.num.natAbs ∧ d = q.den
theorem IsL.wide {w : World} {q : Rat} {m : Nat} {v : Value} (h : IsL w q m v) : IsW w q m v := by
 obtain ⟨s, A1, k1, c1, A2, k2, c2, fine, fn, fd, n, d, e, hp, _⟩ := h
 exact ⟨s, A1, k1, c1, A2, k2, c2, fine, fn, fd, n, d, e, hp⟩
theorem IsL.below {w w' : World} {q : Rat} {m : Nat} {v : Value} (h : IsL w q m v) (hb : Below w.heap.size w w') : IsL w' q m v := by
 obtain ⟨s, A1, k1, c1, A2, k2, c2, fine, fn, fd, n, d, e, hp, hl⟩ := h
 exact ⟨s, A1, k1, c1, A2, k2, c2, fine, fn, fd, n, d, e, hp.below hb, hl⟩
def LRet (q : Rat) (m : Nat) (w : World) (e : Ending) (w' : World) : Prop := ∃ v, e = .returned v ∧ IsL w' q m v ∧ Below w.heap.size w w'
theorem LRet.put {w wq : World} {q : Rat} {m b : Nat} {s : Bool} {A1 A2 : Option Addr} {k1 k2 c1 c2 : Nat} {fine : Bool} {fn fd : Int} {n d : Nat} {u0 u1 u2 u3 u4 u5 : Value} (h : Parts wq q m s (.slice A1 k1 c1) (.slice A2 k2 c2) fine fn fd n d) (hl : n = q.num.natAbs ∧ d = q.den) (K : Blk wq b 107 #[u0, u1, u2, u3, u4, u5]) (hb : Below w.heap.size w wq) (hB : w.heap.size ≤ b) :
  LRet q m w (.returned (.agg #[.bool s, .slice A1 k1 c1, .slice A2 k2 c2, .bool fine, .int .i64 fn, .int .i64 fd])) (put6 wq b (.bool s) (.slice A1 k1 c1) (.slice A2 k2 c2) (.bool fine) (.int .i64 fn) (.int .i64 fd)) :=
 ⟨_, rfl, ⟨s, A1, k1, c1, A2, k2, c2, fine, fn, fd, n, d, rfl, h.put6 K (by decide) _ _ _ _ _ _, hl⟩, put6_below hb hB _ _ _ _ _ _⟩
def GcdRel (n d : Nat) (w : World) (xv yv : Value) (wr : World) : Prop :=
 ∃ p q : Nat, (bigL p).length ≤ 400000 ∧ (bigL q).length ≤ 400000 ∧ Hid (Nat.gcd p q = Nat.gcd n d) ∧ Hid (IsB wr p xv) ∧ Hid (IsB wr q yv) ∧ Hid (Below w.heap.size w wr)
set_option maxHeartbeats 4000000 in
set_option maxRecDepth 100000 in
theorem lowest_any {q : Rat} {m : Nat} {v : Value} (w : World) (hv : IsW w q m v) (hm : m ≤ 400000) : Calls Tryz.prog 112 #[v] w (LRet q m w) := by
 obtain ⟨s, A1, k1, c1, A2, k2, c2, fine, fn, fd, n, d, rfl, hp⟩ := hv
 have HP := Lib.hid hp
 obtain ⟨W2, hW2⟩ : ∃ W2, W2 = (w.alloc (.cells #[.bool s, .slice A1 k1 c1, .slice A2 k2 c2, .bool fine, .int .i64 fn, .int .i64 fd] 107)).alloc (.cells #[.bool false, .slice none 0 0, .slice none 0 0, .bool false, .int .i64 0, .int .i64 0] 107) := ⟨_, rfl⟩
 have K0 : Hid (Blk W2 w.heap.size 107 #[.bool s, .slice A1 k1 c1, .slice A2 k2 c2, .bool fine, .int .i64 fn, .int .i64 fd]) := Lib.hid (by rw [hW2]; exact (Blk.new w _ _).alloc _)
 have KR : Hid (Blk W2 (w.heap.size + 1) 107 #[.bool false, .slice none 0 0, .slice none 0 0, .bool false, .int .i64 0, .int .i64 0]) := Lib.hid (by rw [hW2]; exact Blk.newAt _ _ (by simp))
 have HB : Hid (Below w.heap.size w W2) := Lib.hid (by rw [hW2]; exact ((Below.refl _ _).alloc (Nat.le_refl _) _).alloc (by simp) _)
 have HW := Lib.hid hW2
 clear hW2 hp
 have x0 := K0.out.at 0 (v := .bool s) rfl
 have x1 := K0.out.at 1 (v := .slice A1 k1 c1) rfl
 have x2 := K0.out.at 2 (v := .slice A2 k2 c2) rfl
 have x3 := K0.out.at 3 (v := .bool fine) rfl
 have x4 := K0.out.at 4 (v := .int .i64 fn) rfl
 have x5 := K0.out.at 5 (v := .int .i64 fd) rfl
 go_enter Tryz.func112, Tryz.ntmps112
 go_upto_region 1 with (fail)
 rw [← HW.out]
 clear HW
 cases fine with
 | true =>
  obtain ⟨B1, hB1⟩ : ∃ B1, B1 = A1 := ⟨_, rfl⟩
  obtain ⟨B2, hB2⟩ : ∃ B2, B2 = A2 := ⟨_, rfl⟩
  subst hB1 hB2
  obtain ⟨j1, h1⟩ : ∃ j1, j1 = k1 := ⟨_, rfl⟩
  obtain ⟨j2, h2⟩ : ∃ j2, j2 = k2 := ⟨_, rfl⟩
  obtain ⟨e1, h3⟩ : ∃ e1, e1 = c1 := ⟨_, rfl⟩
  obtain ⟨e2, h4⟩ : ∃ e2, e2 = c2 := ⟨_, rfl⟩
  subst h1 h2 h3 h4
  have HPP := Lib.hid (HP.out.below HB.out)
  have HPL : Hid (n = q.num.natAbs ∧ d = q.den) := Lib.hid (by
   obtain ⟨h1, h2, h3, h4⟩ := HP.out.small rfl
   obtain ⟨g1, g2, _⟩ := h1.num
   rw [h2] at g1 g2
   rw [h3, h4, g1]
   exact ⟨rfl, by omega⟩)
  have z0 := KR.out.frz 0
  have z1 := KR.out.frz 1
  have z2 := KR.out.frz 2
  have z3 := KR.out.frz 3
  have z4 := KR.out.frz 4
  have z5 := KR.out.frz 5
  have y0 := KR.out.at 0 (v := .bool false) rfl
  have y1 := KR.out.at 1 (v := .slice none 0 0) rfl
  have y2 := KR.out.at 2 (v := .slice none 0 0) rfl
  have y3 := KR.out.at 3 (v := .bool false) rfl
  have y4 := KR.out.at 4 (v := .int .i64 0) rfl
  have y5 := KR.out.at 5 (v := .int .i64 0) rfl
  have SS := put6_blk KR.out (.bool s) (.slice B1 j1 e1) (.slice B2 j2 e2) (.bool true) (.int .i64 fn) (.int .i64 fd)
  unfold put6 at SS
  have s0 := SS.at 0 rfl
  have s1 := SS.at 1 rfl
  have s2 := SS.at 2 rfl
  have s3 := SS.at 3 rfl
  have s4 := SS.at 4 rfl
  have s5 := SS.at 5 rfl
  have HFIN := Lib.hid (LRet.put HPP.out HPL.out KR.out HB.out (by omega))
  clear SS
  go_wp2
  refine bodyPost_ret (v := .agg #[.bool s, .slice B1 j1 e1, .slice B2 j2 e2, .bool true, .int .i64 fn, .int .i64 fd]) (by simp [results, Tryz.results112, go_sem, s0, s1, s2, s3, s4, s5]) rfl ?_
  exact HFIN.out
 | false =>
  have HD := Lib.hid HP.out.pos
  have H0 : Hid (GcdRel n d W2 (.slice A1 k1 c1) (.slice A2 k2 c2) W2) := Lib.hid ⟨n, d, Nat.le_trans HP.out.ln hm, Nat.le_trans HP.out.ld hm, Lib.hid rfl, Lib.hid (HP.out.num.below HB.out), Lib.hid (HP.out.den.below HB.out), Lib.hid (Below.refl _ _)⟩
  go_wp2
  go_loopw [3, 4] (fun xv yv wr => GcdRel n d W2 xv yv wr) (fun _ yv wr => bigOfV wr yv)
  case atStart => exact H0.out
  case round =>
   obtain ⟨p, r, hp1, hr1, hg, hx, hy, hb⟩ := hrel
   clear H0 x0 x1 x2 x3 x4 x5
   obtain ⟨Ay, cy, e, _⟩ := Dig.form hy.out
   subst e
   by_cases hpos : 0 < r
   ·have hlp := len_pos hpos
    go_wp2_with fail
    refine (bigSplit_any wr hx.out hy.out (by omega) hpos).mono ?_
    rintro e w1 ⟨vq, vr, rfl, hq, hr, hb1⟩
    have HN : Hid (GcdRel n d W2 (.slice Ay (bigL r).length cy) vr w1) := Lib.hid ⟨r, p % r, hr1, Nat.le_trans (len_mono (Nat.le_of_lt (Nat.mod_lt _ hpos))) hr1, Lib.hid (by rw [← hg.out, Nat.gcd_comm r, ← Nat.gcd_rec, Nat.gcd_comm]), Lib.hid (hy.out.below hb1), Lib.hid hr, Lib.hid (Base.Below.nextA hb.out hb1)⟩
    have HM : Hid (bigOfV w1 vr < bigOfV wr (.slice Ay (bigL r).length cy)) := Lib.hid (by rw [bigOfV_eq hr, bigOfV_eq hy.out]; exact Nat.mod_lt _ hpos)
    clear hq hr hb1 hx hy hb hg
    go_wp2
    go_roundw
    case rel => exact HN.out
    case measure => exact HM.out
   ·obtain rfl : r = 0 := by omega
    have hgc := hg.out
    rw [Nat.gcd_zero_right] at hgc
    have HG : Hid (0 < p) := Lib.hid (by rw [hgc]; exact Nat.gcd_pos_of_pos_right _ HD.out)
    have HGC := Lib.hid hgc
    have hl0 : ¬ 0 < (bigL 0).length := by rw [bigL_zero]; simp
    replace K0 := Lib.hid (K0.out.belowS hb.out)
    replace KR := Lib.hid (KR.out.belowS hb.out)
    replace HB := Lib.hid (Base.Below.nextA HB.out hb.out)
    have HX := Lib.hid hx.out
    have x1 := K0.out.at 1 (v := .slice A1 k1 c1) rfl
    clear hg hx hy hb hgc
    go_wp2_with fail
    refine (bigSplit_any _ (HP.out.num.below HB.out) HX.out (Nat.le_trans HP.out.ln (by omega)) HG.out).mono ?_
    rintro e wa ⟨vn, vx, rfl, hvn, _, hba⟩
    replace K0 := Lib.hid (K0.out.belowS hba)
    replace KR := Lib.hid (KR.out.belowS hba)
    replace HB := Lib.hid (Base.Below.nextA HB.out hba)
    replace HX := Lib.hid (HX.out.below hba)
    have HN := Lib.hid hvn
    clear hvn hba x1
    have x2 := K0.out.at 2 (v := .slice A2 k2 c2) rfl
    go_wp2_with fail
    refine (bigSplit_any _ (HP.out.den.below HB.out) HX.out (Nat.le_trans HP.out.ld (by omega)) HG.out).mono ?_
    rintro e wb ⟨vd, vy, rfl, hvd, _, hbb⟩
    replace K0 := Lib.hid (K0.out.belowS hbb)
    replace KR := Lib.hid (KR.out.belowS hbb)
    replace HB := Lib.hid (Base.Below.nextA HB.out hbb)
    have HN2 := Lib.hid (HN.out.below hbb)
    have HD2 := Lib.hid hvd
    clear hvd hbb x2 HX HN
    obtain ⟨B1, e1, rfl, _⟩ := Dig.form HN2.out
    obtain ⟨B2, e2, rfl, _⟩ := Dig.form HD2.out
    have hqn := qv_num s (n := n) (d := d) (Nat.ne_of_gt HD.out)
    rw [HP.out.val, ← HGC.out] at hqn
    have hdp : 0 < d / p := by
     rw [HGC.out]
     exact Nat.div_pos (Nat.gcd_le_right _ HD.out) (by rw [← HGC.out]; exact HG.out)
    have HPP : Hid (Parts wb q m s (.slice B1 (bigL (n / p)).length e1) (.slice B2 (bigL (d / p)).length e2) false 0 0 (n / p) (d / p)) := Lib.hid ⟨HN2.out, HD2.out, hdp, by
      have h1 : p ∣ n := by rw [HGC.out]; exact Nat.gcd_dvd_left _ _
      have h2 : p ∣ d := by rw [HGC.out]; exact Nat.gcd_dvd_right _ _
      have := qv_scale s (n := n / p) (d := d / p) (k := p) (Nat.ne_of_gt hdp) (Nat.ne_of_gt HG.out)
      rw [Nat.div_mul_cancel h1, Nat.div_mul_cancel h2] at this
      rw [← this]; exact HP.out.val, Nat.le_trans (len_mono (Nat.div_le_self _ _)) HP.out.ln, Nat.le_trans (len_mono (Nat.div_le_self _ _)) HP.out.ld, fun h => by cases h⟩
    have HPL : Hid (n / p = q.num.natAbs ∧ d / p = q.den) := Lib.hid ⟨hqn.1.symm, hqn.2.symm⟩
    have x0 := K0.out.at 0 (v := .bool s) rfl
    clear hqn hdp
    generalize (bigL (n / p)).length = j1 at *
    generalize (bigL (d / p)).length = j2 at *
    have z0 := KR.out.frz 0
    have z1 := KR.out.frz 1
    have z2 := KR.out.frz 2
    have z3 := KR.out.frz 3
    have z4 := KR.out.frz 4
    have z5 := KR.out.frz 5
    have y0 := KR.out.at 0 (v := .bool false) rfl
    have y1 := KR.out.at 1 (v := .slice none 0 0) rfl
    have y2 := KR.out.at 2 (v := .slice none 0 0) rfl
    have y3 := KR.out.at 3 (v := .bool false) rfl
    have y4 := KR.out.at 4 (v := .int .i64 0) rfl
    have y5 := KR.out.at 5 (v := .int .i64 0) rfl
    have SS := put6_blk KR.out (.bool s) (.slice B1 j1 e1) (.slice B2 j2 e2) (.bool false) (.int .i64 0) (.int .i64 0)
    unfold put6 at SS
    have s0 := SS.at 0 rfl
    have s1 := SS.at 1 rfl
    have s2 := SS.at 2 rfl
    have s3 := SS.at 3 rfl
    have s4 := SS.at 4 rfl
    have s5 := SS.at 5 rfl
    have HFIN := Lib.hid (LRet.put HPP.out HPL.out KR.out HB.out (by omega))
    clear SS
    go_wp2
    refine bodyPost_ret (v := .agg #[.bool s, .slice B1 j1 e1, .slice B2 j2 e2, .bool false, .int .i64 0, .int .i64 0]) (by simp [results, Tryz.results112, go_sem, s0, s1, s2, s3, s4, s5]) rfl ?_
    exact HFIN.out
end Go.Proofs.YthagenodiofgnaaGreat.Wide
namespace Go.Proofs.YthagenodiofgnaaGreat.Wide
open Go.RowKit Go.Proofs.YthagenodiofgnaaGreat Go.Proofs.YthagenodiofgnaaGreat.Base Go.Proofs.YthagenodiofgnaaGreat.Mem Go.Proofs.YthagenodiofgnaaGreat.RatM Go.Proofs.YthagenodiofgnaaGreat.BigM Go.Proofs.YthagenodiofgnaaGreat.Big Go.Proofs.YthagenodiofgnaaGreat.Fine Go.Proofs.YthagenodiofgnaaGreat.Blk
set_option linter.unusedVariables false
theorem bigSmall_no {x : Nat} {v : Value} (w : World) (hv : IsB w x v) (hl : (bigL x).length ≤ 900000) (h : 1000000000000000000 < x) : Calls Tryz.prog 118 #[v] w fun e w' => e = .returned (.tuple #[.int .i64 0, .bool false]) ∧ Below w.heap.size w w' := by
 obtain ⟨A, c, rfl, _⟩ := Dig.form hv
 by_cases h2 : 2 < (bigL x).length
 ·clear hv
  generalize (bigL x).length = k at *
  go_enter Tryz.func118, Tryz.ntmps118
  go_wp2
  go_ret2
  exact ⟨rfl, Below.refl _ _⟩
 ·have HV := Lib.hid hv
  have HL := Lib.hid hl
  have hcm : cmpN x 1000000000000000000 = 1 := cmpN_gt h
  have hlc : (bigL 1000000000000000000).length ≤ 4000000 := Nat.le_trans (small_len (Nat.le_refl _)) (by decide)
  have HLC := Lib.hid hlc
  clear hv hl h hlc
  go_enter Tryz.func118, Tryz.ntmps118
  go_wp2_with fail
  refine (bigOf_any 1000000000000000000 (by decide) w).mono ?_
  rintro e w1 ⟨v1, rfl, h1, hb1⟩
  have H1 := Lib.hid h1
  have HB1 := Lib.hid hb1
  clear h1 hb1
  go_wp2_with fail
  refine (bigCmp_any w1 (HV.out.below HB1.out) H1.out (Nat.le_trans HL.out (by decide)) HLC.out).mono ?_
  rintro e w2 ⟨rfl, hD⟩
  have HB2 := Lib.hid (Base.Below.nextA HB1.out hD.below)
  clear hD
  rw [hcm]
  clear hcm
  go_wp2
  go_ret2
  exact ⟨rfl, HB2.out⟩
def SmRel (x : Nat) (nv iv : Value) : Prop := ∃ i : Nat, i ≤ (bigL x).length ∧ iv = .int .i64 ((i : Int) - 1) ∧ nv = .int .i64 ((x / D30 ^ i : Nat) : Int)
set_option maxHeartbeats 2000000 in
set_option maxRecDepth 100000 in
theorem bigSmall_yes {x : Nat} {v : Value} (w : World) (hv : IsB w x v) (h : x ≤ 1000000000000000000) : Calls Tryz.prog 118 #[v] w fun e w' => e = .returned (.tuple #[.int .i64 (x : Int), .bool true]) ∧ Below w.heap.size w w' := by
 obtain ⟨A, c, rfl, _⟩ := Dig.form hv
 have hl2 := small_len h
 have HV := Lib.hid hv
 have hcm : ¬ 0 < cmpN x 1000000000000000000 := by
  unfold cmpN
  split
  ·decide
  ·rw [if_neg (by omega)]; decide
 have hlc : (bigL 1000000000000000000).length ≤ 4000000 := Nat.le_trans (small_len (Nat.le_refl _)) (by decide)
 have HLC := Lib.hid hlc
 have HX := Lib.hid h
 have hd0 : x / D30 ^ (bigL x).length = 0 := Nat.div_eq_of_lt (big_lt_pow x)
 have HD0 := Lib.hid hd0
 have hn2 : ¬ 2 < (bigL x).length := by omega
 clear hv hlc h hd0
 generalize hcme : cmpN x 1000000000000000000 = cm at *
 have HCM := Lib.hid hcme
 clear hcme
 go_enter Tryz.func118, Tryz.ntmps118
 go_wp2_with fail
 refine (bigOf_any 1000000000000000000 (by decide) w).mono ?_
 rintro e w1 ⟨v1, rfl, h1, hb1⟩
 have H1 := Lib.hid h1
 have HB1 := Lib.hid hb1
 clear h1 hb1
 go_wp2_with fail
 refine (bigCmp_any w1 (HV.out.below HB1.out) H1.out (by omega) HLC.out).mono ?_
 rintro e w2 ⟨rfl, hD⟩
 have HB2 := Lib.hid (Base.Below.nextA HB1.out hD.below)
 have HV2 := Lib.hid (HV.out.below HB2.out)
 clear hD
 rw [HCM.out]
 go_wp2
 go_loop [4, 5] (fun nv iv => SmRel x nv iv) (fun _ iv => (intOf iv + 1).toNat)
 case atStart => exact ⟨(bigL x).length, Nat.le_refl _, rfl, by rw [HD0.out]; rfl⟩
 case round =>
  obtain ⟨i, hi, rfl, rfl⟩ := hrel
  by_cases hpos : 0 < i
  ·obtain ⟨m, rfl⟩ : ∃ m, i = m + 1 := ⟨i - 1, by omega⟩
   have e1 : (((m + 1 : Nat) : Int) - 1) = (m : Int) := by omega
   rw [e1]
   clear e1
   obtain ⟨g, rfl, hc⟩ := IsB.cell HV2.out (show m < (bigL x).length by omega)
   have hdg := dig_at x m
   have hps := pow_succ_div x m
   have hxl := HX.out
   have hle : x / D30 ^ m ≤ x := Nat.div_le_self _ _
   obtain ⟨N, hN⟩ : ∃ N, N = x / D30 ^ m := ⟨_, rfl⟩
   rw [← hN] at hdg hps hle
   rw [hps]
   rw [hdg] at hc
   have hn1 : N / D30 ≤ 1000000000 := by unfold D30; omega
   have hn2' : N % D30 < 1073741824 := Nat.mod_lt _ (by decide)
   have hor : bits .or .i64 (((N / D30 : Nat) : Int) * 1073741824) ((N % D30 : Nat) : Int) = (N : Int) := by
    have hh := Bits.i64_or_nat (N / D30 * 2 ^ 30) (N % D30) (by omega) (by omega)
    have e := Nat.shiftLeft_add_eq_or_of_lt (show N % D30 < 2 ^ 30 by omega) (N / D30)
    rw [Nat.shiftLeft_eq] at e
    rw [← e] at hh
    have e2 : N / D30 * 2 ^ 30 + N % D30 = N := by have := Nat.div_add_mod N D30; unfold D30 at *; omega
    rw [e2] at hh
    rw [← hh]
    congr 1
   have HN := Lib.hid (show SmRel x (.int .i64 (N : Int)) (.int .i64 ((m : Int) - 1)) from ⟨m, by omega, rfl, by rw [hN]⟩)
   clear hdg hps hN hle
   generalize N / D30 = qd at *
   generalize N % D30 = rd at *
   go_wp2
   go_round
   case rel => exact HN.out
   case measure => simp [intOf]
  ·obtain rfl : i = 0 := by omega
   rw [Nat.pow_zero, Nat.div_one]
   go_wp2
   go_ret2
   exact ⟨rfl, HB2.out⟩
theorem bigSmall_any {x : Nat} {v : Value} (w : World) (hv : IsB w x v) (hl : (bigL x).length ≤ 900000) : Calls Tryz.prog 118 #[v] w fun e w' => (∃ i : Int, e = .returned (.tuple #[.int .i64 i, .bool (decide (x ≤ 1000000000000000000))]) ∧ (x ≤ 1000000000000000000 → i = x)) ∧ Below w.heap.size w w' := by
 rcases Nat.lt_or_ge 1000000000000000000 x with h | h
 ·rw [decide_eq_false (by omega)]
  exact (bigSmall_no w hv hl h).mono fun e w' ⟨h1, h2⟩ => ⟨⟨0, h1, fun h' => absurd h' (by omega)⟩, h2⟩
 ·rw [decide_eq_true h]
  exact (bigSmall_yes w hv h).mono fun e w' ⟨h1, h2⟩ => ⟨⟨x, h1, fun _ => rfl⟩, h2⟩
end Go.Proofs.YthagenodiofgnaaGreat.Wide
namespace Go.Proofs.YthagenodiofgnaaGreat.Wide
open Go.RowKit Go.Proofs.YthagenodiofgnaaGreat Go.Proofs.YthagenodiofgnaaGreat.Base Go.Proofs.YthagenodiofgnaaGreat.Mem Go.Proofs.YthagenodiofgnaaGreat.RatM Go.Proofs.YthagenodiofgnaaGreat.BigM Go.Proofs.YthagenodiofgnaaGreat.Big Go.Proofs.YthagenodiofgnaaGreat.Fine Go.Proofs.YthagenodiofgnaaGreat.Blk
set_option linter.unusedVariables false
theorem zero_any (w : World) : Calls Tryz.prog 65 #[] w fun e w' => e = .returned (.agg #[.int .i64 0, .int .i64 1]) ∧ Below w.heap.size w w' := by
 go_enter Tryz.func65, Tryz.ntmps65
 go_wp2
 exact bodyPost_ret (v := .agg #[.int .i64 0, .int .i64 1]) (by simp [results, Tryz.results65, go_sem]) rfl ⟨rfl, (Below.refl _ _).alloc (Nat.le_refl _) _⟩
set_option maxHeartbeats 4000000 in
set_option maxRecDepth 100000 in
theorem give_any {q : Rat} {m : Nat} {v : Value} (w : World) (hv : IsW w q m v) (hm : m ≤ 400000) : Calls Tryz.prog 74 #[v] w (FRet q w) := by
 have HV := Lib.hid hv
 obtain ⟨s, A1, k1, c1, A2, k2, c2, fine, fn, fd, n, d, rfl, hp⟩ := hv
 have HP := Lib.hid hp
 obtain ⟨W2, hW2⟩ : ∃ W2, W2 = (w.alloc (.cells #[.bool s, .slice A1 k1 c1, .slice A2 k2 c2, .bool fine, .int .i64 fn, .int .i64 fd] 107)).alloc (.cells #[.int .i64 0, .int .i64 0] 34) := ⟨_, rfl⟩
 have K0 : Hid (Blk W2 w.heap.size 107 #[.bool s, .slice A1 k1 c1, .slice A2 k2 c2, .bool fine, .int .i64 fn, .int .i64 fd]) := Lib.hid (by rw [hW2]; exact (Blk.new w _ _).alloc _)
 have KR : Hid (Blk W2 (w.heap.size + 1) 34 #[.int .i64 0, .int .i64 0]) := Lib.hid (by rw [hW2]; exact Blk.newAt _ _ (by simp))
 have HB : Hid (Below w.heap.size w W2) := Lib.hid (by rw [hW2]; exact ((Below.refl _ _).alloc (Nat.le_refl _) _).alloc (by simp) _)
 have HW := Lib.hid hW2
 clear hW2 hp
 have x0 := K0.out.at 0 (v := .bool s) rfl
 have x1 := K0.out.at 1 (v := .slice A1 k1 c1) rfl
 have x2 := K0.out.at 2 (v := .slice A2 k2 c2) rfl
 have x3 := K0.out.at 3 (v := .bool fine) rfl
 have x4 := K0.out.at 4 (v := .int .i64 fn) rfl
 have x5 := K0.out.at 5 (v := .int .i64 fd) rfl
 go_enter Tryz.func74, Tryz.ntmps74
 go_upto_region 1 with (fail)
 rw [← HW.out]
 clear HW
 cases fine with
 | true =>
  have HE : Hid (numQ q = fn ∧ denQ q = fd ∧ smallQ q = true) := Lib.hid (by
   obtain ⟨h1, h2, _, _⟩ := HP.out.small rfl
   obtain ⟨g1, g2, _⟩ := h1.num
   have h3 := h1.small
   rw [h2] at g1 g2 h3
   obtain ⟨t1, t2⟩ := small_true h3
   obtain ⟨_, e1, e2⟩ := RatM.small_yes t1 t2
   exact ⟨by rw [e1, g1], by rw [e2, g2], h3⟩)
  clear HV
  have z0 := KR.out.frz 0
  have z1 := KR.out.frz 1
  have c0 := KR.out.at 0 (v := .int .i64 0) rfl
  have c1 := KR.out.at 1 (v := .int .i64 0) rfl
  have SS := (KR.out.setTo 0 (.int .i64 fn) rfl).setTo 1 (.int .i64 fd) rfl
  have s0 := SS.at 0 rfl
  have s1 := SS.at 1 rfl
  clear SS
  go_wp2
  refine bodyPost_ret (v := .tuple #[.agg #[.int .i64 fn, .int .i64 fd], .bool true]) (by simp [results, Tryz.results74, go_sem, s0, s1]) rfl ⟨by rw [HE.out.1, HE.out.2.1, HE.out.2.2], (HB.out.setCell (by simp) _).setCell (by simp) _⟩
 | false =>
  have hl := lowest_any W2 (HV.out.below HB.out) hm
  have HL := Lib.hid hl
  clear hl
  go_wp2_with fail
  refine HL.out.mono ?_
  rintro e w3 ⟨v, rfl, hv, hb3⟩
  obtain ⟨s', B1, j1, e1, B2, j2, e2, fi, gn, gd, n', d', rfl, hp', hn', hd'⟩ := hv
  clear HL HV HP x0 x1 x2 x3 x4 x5 K0
  replace KR := Lib.hid (KR.out.belowS hb3)
  replace HB := Lib.hid (Base.Below.nextA HB.out hb3)
  have HP := Lib.hid hp'
  have HND := Lib.hid (And.intro hn' hd')
  clear hp' hb3 hn' hd'
  go_upto_region 4 with (fail)
  obtain ⟨W4, hW4⟩ : ∃ W4, W4 = w3.alloc (.cells #[.bool s', .slice B1 j1 e1, .slice B2 j2 e2, .bool fi, .int .i64 gn, .int .i64 gd] 107) := ⟨_, rfl⟩
  rw [← hW4]
  have K4 : Hid (Blk W4 w3.heap.size 107 #[.bool s', .slice B1 j1 e1, .slice B2 j2 e2, .bool fi, .int .i64 gn, .int .i64 gd]) := Lib.hid (by rw [hW4]; exact Blk.new w3 _ _)
  replace KR : Hid (Blk W4 (w.heap.size + 1) 34 #[.int .i64 0, .int .i64 0]) := Lib.hid (by rw [hW4]; exact KR.out.alloc _)
  have hb4 : Below w3.heap.size w3 W4 := by rw [hW4]; exact (Below.refl _ _).alloc (Nat.le_refl _) _
  replace HB := Lib.hid (Base.Below.nextA HB.out hb4)
  replace HP := Lib.hid (HP.out.below hb4)
  clear hW4 hb4
  have y1 := K4.out.at 1 (v := .slice B1 j1 e1) rfl
  go_wp2_with fail
  refine (bigSmall_any W4 HP.out.num (Nat.le_trans HP.out.ln (by omega))).mono ?_
  rintro e w5 ⟨⟨i1, rfl, hi1⟩, hb5⟩
  replace K4 := Lib.hid (K4.out.belowS hb5)
  replace KR := Lib.hid (KR.out.belowS hb5)
  replace HB := Lib.hid (Base.Below.nextA HB.out hb5)
  replace HP := Lib.hid (HP.out.below hb5)
  have HI1 := Lib.hid hi1
  clear y1 hb5 hi1
  have y2 := K4.out.at 2 (v := .slice B2 j2 e2) rfl
  generalize ho1 : decide (n' ≤ 1000000000000000000) = o1 at *
  have HO1 := Lib.hid ho1
  clear ho1
  go_wp2_with fail
  refine (bigSmall_any w5 HP.out.den (Nat.le_trans HP.out.ld (by omega))).mono ?_
  rintro e w6 ⟨⟨i2, rfl, hi2⟩, hb6⟩
  replace K4 := Lib.hid (K4.out.belowS hb6)
  replace KR := Lib.hid (KR.out.belowS hb6)
  replace HB := Lib.hid (Base.Below.nextA HB.out hb6)
  replace HP := Lib.hid (HP.out.below hb6)
  have HI2 := Lib.hid hi2
  clear y2 hb6 hi2
  have y0 := K4.out.at 0 (v := .bool s') rfl
  generalize ho2 : decide (d' ≤ 1000000000000000000) = o2 at *
  have HO2 := Lib.hid ho2
  clear ho2
  cases o1 with
  | false =>
   have HE : Hid (numQ q = 0 ∧ denQ q = 0 ∧ smallQ q = false) := Lib.hid (by
    obtain ⟨g1, g2, g3⟩ := RatM.small_no (q := q) (.inl (by rw [← HND.out.1]; exact of_decide_eq_false HO1.out))
    exact ⟨g2, g3, g1⟩)
   cases o2 with
   | false =>
    have z0 := KR.out.frz 0
    have z1 := KR.out.frz 1
    have c0 := KR.out.at 0 (v := .int .i64 0) rfl
    have c1 := KR.out.at 1 (v := .int .i64 0) rfl
    have SS := (KR.out.setTo 0 (.int .i64 0) rfl).setTo 1 (.int .i64 0) rfl
    have s0 := SS.at 0 rfl
    have s1 := SS.at 1 rfl
    clear SS
    go_wp2
    refine bodyPost_ret (v := .tuple #[.agg #[.int .i64 0, .int .i64 0], .bool false]) (by simp [results, Tryz.results74, go_sem, s0, s1]) rfl ⟨by rw [HE.out.1, HE.out.2.1, HE.out.2.2], (HB.out.setCell (by simp) _).setCell (by simp) _⟩
   | true =>
    have z0 := KR.out.frz 0
    have z1 := KR.out.frz 1
    have c0 := KR.out.at 0 (v := .int .i64 0) rfl
    have c1 := KR.out.at 1 (v := .int .i64 0) rfl
    have SS := (KR.out.setTo 0 (.int .i64 0) rfl).setTo 1 (.int .i64 0) rfl
    have s0 := SS.at 0 rfl
    have s1 := SS.at 1 rfl
    clear SS
    go_wp2
    refine bodyPost_ret (v := .tuple #[.agg #[.int .i64 0, .int .i64 0], .bool false]) (by simp [results, Tryz.results74, go_sem, s0, s1]) rfl ⟨by rw [HE.out.1, HE.out.2.1, HE.out.2.2], (HB.out.setCell (by simp) _).setCell (by simp) _⟩
  | true =>
   cases o2 with
   | false =>
    have HE : Hid (numQ q = 0 ∧ denQ q = 0 ∧ smallQ q = false) := Lib.hid (by
     obtain ⟨g1, g2, g3⟩ := RatM.small_no (q := q) (.inr (by rw [← HND.out.2]; exact of_decide_eq_false HO2.out))
     exact ⟨g2, g3, g1⟩)
    have z0 := KR.out.frz 0
    have z1 := KR.out.frz 1
    have c0 := KR.out.at 0 (v := .int .i64 0) rfl
    have c1 := KR.out.at 1 (v := .int .i64 0) rfl
    have SS := (KR.out.setTo 0 (.int .i64 0) rfl).setTo 1 (.int .i64 0) rfl
    have s0 := SS.at 0 rfl
    have s1 := SS.at 1 rfl
    clear SS
    go_wp2
    refine bodyPost_ret (v := .tuple #[.agg #[.int .i64 0, .int .i64 0], .bool false]) (by simp [results, Tryz.results74, go_sem, s0, s1]) rfl ⟨by rw [HE.out.1, HE.out.2.1, HE.out.2.2], (HB.out.setCell (by simp) _).setCell (by simp) _⟩
   | true =>
    have t1 := of_decide_eq_true HO1.out
    have t2 := of_decide_eq_true HO2.out
    have k1 := HI1.out t1
    have k2 := HI2.out t2
    have hl0 : 0 ≤ i1 := by omega
    have hl1 : i1 ≤ 1000000000000000000 := by omega
    have hval := HP.out.val
    have HEE : Hid (numQ q = (if s' then -i1 else i1) ∧ denQ q = i2 ∧ smallQ q = true) := Lib.hid (by
     obtain ⟨g1, g2, g3⟩ := RatM.small_yes (q := q) (by rw [← HND.out.1]; exact t1) (by rw [← HND.out.2]; exact t2)
     have hg : Nat.gcd n' d' = 1 := by rw [HND.out.1, HND.out.2]; exact q.reduced
     obtain ⟨l1, l2⟩ := low_of (s := s') (n := n') (d := d') (Nat.ne_of_gt HP.out.pos) hg
     rw [hval] at l1 l2
     exact ⟨by rw [g2, l1, k1], by rw [g3, l2, k2], g1⟩)
    clear t1 t2 k1 k2 hval
    cases s' with
    | true =>
     have HE : Hid (numQ q = -i1 ∧ denQ q = i2 ∧ smallQ q = true) := HEE
     clear HEE
     have z0 := KR.out.frz 0
     have z1 := KR.out.frz 1
     have c0 := KR.out.at 0 (v := .int .i64 0) rfl
     have c1 := KR.out.at 1 (v := .int .i64 0) rfl
     have SS := (KR.out.setTo 0 (.int .i64 (-i1)) rfl).setTo 1 (.int .i64 i2) rfl
     have s0 := SS.at 0 rfl
     have s1 := SS.at 1 rfl
     clear SS
     go_wp2
     refine bodyPost_ret (v := .tuple #[.agg #[.int .i64 (-i1), .int .i64 i2], .bool true]) (by simp [results, Tryz.results74, go_sem, s0, s1]) rfl ⟨by rw [HE.out.1, HE.out.2.1, HE.out.2.2], (HB.out.setCell (by simp) _).setCell (by simp) _⟩
    | false =>
     have HE : Hid (numQ q = i1 ∧ denQ q = i2 ∧ smallQ q = true) := HEE
     clear HEE
     have z0 := KR.out.frz 0
     have z1 := KR.out.frz 1
     have c0 := KR.out.at 0 (v := .int .i64 0) rfl
     have c1 := KR.out.at 1 (v := .int .i64 0) rfl
     have SS := (KR.out.setTo 0 (.int .i64 i1) rfl).setTo 1 (.int .i64 i2) rfl
     have s0 := SS.at 0 rfl
     have s1 := SS.at 1 rfl
     clear SS
     go_wp2
     refine bodyPost_ret (v := .tuple #[.agg #[.int .i64 i1, .int .i64 i2], .bool true]) (by simp [results, Tryz.results74, go_sem, s0, s1]) rfl ⟨by rw [HE.out.1, HE.out.2.1, HE.out.2.2], (HB.out.setCell (by simp) _).setCell (by simp) _⟩
end Go.Proofs.YthagenodiofgnaaGreat.Wide
namespace Go.Proofs.YthagenodiofgnaaGreat.Wide
open Go.RowKit Go.Proofs.YthagenodiofgnaaGreat Go.Proofs.YthagenodiofgnaaGreat.Base Go.Proofs.YthagenodiofgnaaGreat.Mem Go.Proofs.YthagenodiofgnaaGreat.RatM Go.Proofs.YthagenodiofgnaaGreat.BigM Go.Proofs.YthagenodiofgnaaGreat.Big Go.Proofs.YthagenodiofgnaaGreat.Fine Go.Proofs.YthagenodiofgnaaGreat.Blk Go.Proofs.YthagenodiofgnaaGreat.GaussM
set_option linter.unusedVariables false
def six (s : Bool) (vn vd : Value) (fine : Bool) (fn fd : Int) : List Value := [.bool s, vn, vd, .bool fine, .int .i64 fn, .int .i64 fd]
def ElW (w : World) (cs : List Value) (i : Nat) (q : Rat) (m : Nat) : Prop :=
 ∃ s A1 k1 c1 A2 k2 c2 fine fn fd n d, (cs.drop (i * 6)).take 6 = six s (.slice A1 k1 c1) (.slice A2 k2 c2) fine fn fd ∧ Parts w q m s (.slice A1 k1 c1) (.slice A2 k2 c2) fine fn fd n d
structure OwnW (w : World) (B : Nat) (v : Value) (n : Nat) (f : Nat → Rat) (m : Nat) (cs : List Value) : Prop where
 row : w.ownsRow B 107 6 v n cs
 els : ∀ i, i < n → ElW w cs i (f i) m
theorem ElW.below {w w' : World} {cs : List Value} {i m : Nat} {q : Rat} (h : ElW w cs i q m) (hb : Below w.heap.size w w') : ElW w' cs i q m := by
 obtain ⟨s, A1, k1, c1, A2, k2, c2, fine, fn, fd, n, d, e, hp⟩ := h
 exact ⟨s, A1, k1, c1, A2, k2, c2, fine, fn, fd, n, d, e, hp.below hb⟩
theorem OwnW.below {w w' : World} {B n m : Nat} {v : Value} {f : Nat → Rat} {cs : List Value} (h : OwnW w B v n f m cs) (hb : Below w.heap.size w w') : OwnW w' B v n f m cs :=
 ⟨ownsRow_below h.row hb, fun i hi => (h.els i hi).below hb⟩
theorem OwnW.form {w : World} {B n m : Nat} {v : Value} {f : Nat → Rat} {cs : List Value} (h : OwnW w B v n f m cs) : ∃ A c, v = .slice A n c ∧ (0 < n → ∃ g, A = some ⟨g, 0, none⟩ ∧ B ≤ g ∧ g < w.heap.size) := ownsRow_form h.row
theorem OwnW.more {w : World} {B n m m' : Nat} {v : Value} {f : Nat → Rat} {cs : List Value} (h : OwnW w B v n f m cs) (hm : m ≤ m') : OwnW w B v n f m' cs :=
 ⟨h.row, fun i hi => by
  obtain ⟨s, A1, k1, c1, A2, k2, c2, fine, fn, fd, n, d, e, hp⟩ := h.els i hi
  exact ⟨s, A1, k1, c1, A2, k2, c2, fine, fn, fd, n, d, e, hp.more hm⟩⟩
theorem OwnW.base {w : World} {B B' n m : Nat} {v : Value} {f : Nat → Rat} {cs : List Value} (h : OwnW w B v n f m cs) (hB : B' ≤ B) : OwnW w B' v n f m cs := ⟨ownsRow_base h.row hB, h.els⟩
theorem OwnW.congr {w : World} {B n m : Nat} {v : Value} {f f' : Nat → Rat} {cs : List Value} (h : OwnW w B v n f m cs) (hf : ∀ i, i < n → f i = f' i) : OwnW w B v n f' m cs :=
 ⟨h.row, fun i hi => by rw [← hf i hi]; exact h.els i hi⟩
theorem OwnW.at {w : World} {B n m c : Nat} {A : Option Addr} {f : Nat → Rat} {cs : List Value} (h : OwnW w B (.slice A n c) n f m cs) {i : Nat} (hi : i < n) :
  ∃ g s A1 k1 c1 A2 k2 c2 fine fn fd nn dd, A = some ⟨g, 0, none⟩ ∧ g < w.heap.size ∧ w.cell? ⟨g, i * 6, none⟩ = some (.bool s) ∧ w.cell? ⟨g, i * 6 + 1, none⟩ = some (.slice A1 k1 c1) ∧ w.cell? ⟨g, i * 6 + 2, none⟩ = some (.slice A2 k2 c2) ∧
   w.cell? ⟨g, i * 6 + 3, none⟩ = some (.bool fine) ∧ w.cell? ⟨g, i * 6 + 4, none⟩ = some (.int .i64 fn) ∧ w.cell? ⟨g, i * 6 + 5, none⟩ = some (.int .i64 fd) ∧ Parts w (f i) m s (.slice A1 k1 c1) (.slice A2 k2 c2) fine fn fd nn dd := by
 obtain ⟨A', c', e, hf⟩ := h.form
 injection e with e1 e2 e3
 subst e1 e3
 obtain ⟨g, rfl, _, hlt⟩ := hf (by omega)
 obtain ⟨s, A1, k1, c1, A2, k2, c2, fine, fn, fd, nn, dd, e, hp⟩ := h.els i hi
 have key : ∀ k, k < 6 → w.cell? ⟨g, i * 6 + k, none⟩ = (six s (.slice A1 k1 c1) (.slice A2 k2 c2) fine fn fd)[k]? := fun k hk => by
  rw [World.ownsRow.cellAt h.row (i * 6 + k) (by omega), ← e, List.getElem?_take, if_pos hk, List.getElem?_drop]
 exact ⟨g, s, A1, k1, c1, A2, k2, c2, fine, fn, fd, nn, dd, rfl, hlt, key 0 (by decide), key 1 (by decide), key 2 (by decide), key 3 (by decide), key 4 (by decide), key 5 (by decide), hp⟩
theorem infoW : (Tryz.prog.info? 107).map (fun i => (i.zero, i.size, i.bytes)) = some (some (.agg #[.bool false, .slice none 0 0, .slice none 0 0, .bool false, .int .i64 0, .int .i64 0]), 6, 80) := by kernel_rfl
theorem ones_six {s fine : Bool} {A1 A2 : Option Addr} {k1 c1 k2 c2 : Nat} {fn fd : Int} : ∀ u ∈ six s (.slice A1 k1 c1) (.slice A2 k2 c2) fine fn fd, u.oneCell' = true := by
 intro u hu
 simp only [six, List.mem_cons, List.not_mem_nil, or_false] at hu
 rcases hu with rfl | rfl | rfl | rfl | rfl | rfl <;> rfl
theorem news_six (w : World) (t : TypeId) {u0 u1 u2 u3 u4 u5 : Value} {g : Nat} (hg : g = w.heap.size) : ∀ (j : Nat) (x : Value), [u0, u1, u2, u3, u4, u5][j]? = some x → (w.alloc (.cells #[u0, u1, u2, u3, u4, u5] t)).cell? ((⟨g, 0, none⟩ : Addr).add j) = some x := by
 subst hg
 intro j x hx
 have e : (#[u0, u1, u2, u3, u4, u5] : Array Value)[j]? = some x := by rw [← Array.getElem?_toList]; exact hx
 rw [Addr.add_lit]
 exact (World.cell?_alloc_new w #[u0, u1, u2, u3, u4, u5] t (0 + j)).trans (by rw [Nat.zero_add]; exact e)
theorem IsB.kept {w w' : World} {B size n x : Nat} {t : TypeId} {u v : Value} {xs : List Value} (h : IsB w x u) (hr : w.ownsRow B t size v n xs) (ht : t ≠ 2) (hg : w.grownBy w' v.ownBlock) : IsB w' x u :=
 World.ownsRow.kept h hg (own_ne h hr (fun e => ht e.symm))
theorem Parts.kept {w w' : World} {q : Rat} {m : Nat} {s : Bool} {vn vd : Value} {fine : Bool} {fn fd : Int} {nn dd : Nat} {B size n : Nat} {t : TypeId} {v : Value} {xs : List Value} (h : Parts w q m s vn vd fine fn fd nn dd) (hr : w.ownsRow B t size v n xs) (ht : t ≠ 2) (hg : w.grownBy w' v.ownBlock) : Parts w' q m s vn vd fine fn fd nn dd :=
 ⟨IsB.kept h.num hr ht hg, IsB.kept h.den hr ht hg, h.pos, h.val, h.ln, h.ld, h.small⟩
theorem OwnW.push {wr w1 w2 : World} {B n m : Nat} {v v' : Value} {f : Nat → Rat} {cs : List Value} {s fine : Bool} {A1 A2 : Option Addr} {k1 c1 k2 c2 nn dd : Nat} {fn fd : Int} {ca : Array Value} {t : TypeId} (h : OwnW wr B v n f m cs) (h1 : Below wr.heap.size wr w1)
  (hp : Parts w1 (f n) m s (.slice A1 k1 c1) (.slice A2 k2 c2) fine fn fd nn dd) (hown : w2.ownsRow B 107 6 v' (n + 1) (cs ++ six s (.slice A1 k1 c1) (.slice A2 k2 c2) fine fn fd)) (hg : (w1.alloc (.cells ca t)).grownBy w2 v.ownBlock) :
  OwnW w2 B v' (n + 1) f m (cs ++ six s (.slice A1 k1 c1) (.slice A2 k2 c2) fine fn fd) := by
 have hb2 : Below w1.heap.size w1 (w1.alloc (.cells ca t)) := (Below.refl _ _).alloc (Nat.le_refl _) _
 have hA := (h.below h1).below hb2
 have hlen : cs.length = n * 6 := h.row.1
 refine ⟨hown, fun i hi => ?_⟩
 rcases Nat.lt_or_ge i n with hlt | hge
 ·obtain ⟨s', B1, j1, e1, B2, j2, e2, fi, gn, gd, n', d', e, hp'⟩ := hA.els i hlt
  refine ⟨s', B1, j1, e1, B2, j2, e2, fi, gn, gd, n', d', ?_, hp'.kept hA.row (by decide) hg⟩
  rw [List.drop_append_of_le_length (by omega), List.take_append_of_le_length (by rw [List.length_drop]; omega)]
  exact e
 ·obtain rfl : i = n := by omega
  refine ⟨s, A1, k1, c1, A2, k2, c2, fine, fn, fd, nn, dd, ?_, (hp.below hb2).kept hA.row (by decide) hg⟩
  rw [List.drop_append, List.drop_of_length_le (by omega), hlen, Nat.sub_self]
  rfl
theorem OwnW.nil (w : World) (B : Nat) (f : Nat → Rat) (m : Nat) : OwnW w B (.slice none 0 0) 0 f m [] := ⟨World.ownsRow_nil w B _ 6, fun i hi => absurd hi (Nat.not_lt_zero i)⟩
theorem OwnW.lit0 (w : World) (f : Nat → Rat) (m : Nat) : OwnW (w.alloc (.cells #[] 107)) w.heap.size (.slice (some ⟨w.heap.size, 0, none⟩) 0 0) 0 f m [] :=
 ⟨World.ownsRow_made w #[] 0 (Nat.le_refl _) (Nat.zero_le _) (by simp), fun i hi => absurd hi (Nat.not_lt_zero i)⟩
def WsRet (n : Nat) (f : Nat → Rat) (m : Nat) (w : World) (e : Ending) (w' : World) : Prop := ∃ v cs, e = .returned v ∧ OwnW w' w.heap.size v n f m cs ∧ Below w.heap.size w w'
end Go.Proofs.YthagenodiofgnaaGreat.Wide
namespace Go.Proofs.YthagenodiofgnaaGreat.Big
open Go.RowKit Go.Proofs.YthagenodiofgnaaGreat Go.Proofs.YthagenodiofgnaaGreat.Base Go.Proofs.YthagenodiofgnaaGreat.Mem Go.Proofs.YthagenodiofgnaaGreat.BigM Go.Proofs.YthagenodiofgnaaGreat.Blk
set_option linter.unusedVariables false
structure OwnB (w : World) (B : Nat) (v : Value) (n : Nat) (f : Nat → Nat) (us : List Value) : Prop where
 row : w.ownsRow B 64 1 v n us
 els : ∀ i, i < n → ∃ u, us[i]? = some u ∧ IsB w (f i) u
theorem OwnB.below {w w' : World} {B n : Nat} {v : Value} {f : Nat → Nat} {us : List Value} (h : OwnB w B v n f us) (hb : Below w.heap.size w w') : OwnB w' B v n f us :=
 ⟨ownsRow_below h.row hb, fun i hi => by
  obtain ⟨u, e, h1⟩ := h.els i hi
  exact ⟨u, e, h1.below hb⟩⟩
theorem OwnB.form {w : World} {B n : Nat} {v : Value} {f : Nat → Nat} {us : List Value} (h : OwnB w B v n f us) : ∃ A c, v = .slice A n c ∧ (0 < n → ∃ g, A = some ⟨g, 0, none⟩ ∧ B ≤ g ∧ g < w.heap.size) := ownsRow_form h.row
theorem OwnB.base {w : World} {B B' n : Nat} {v : Value} {f : Nat → Nat} {us : List Value} (h : OwnB w B v n f us) (hB : B' ≤ B) : OwnB w B' v n f us := ⟨ownsRow_base h.row hB, h.els⟩
theorem OwnB.congr {w : World} {B n : Nat} {v : Value} {f f' : Nat → Nat} {us : List Value} (h : OwnB w B v n f us) (hf : ∀ i, i < n → f i = f' i) : OwnB w B v n f' us :=
 ⟨h.row, fun i hi => by rw [← hf i hi]; exact h.els i hi⟩
theorem OwnB.at {w : World} {B n c : Nat} {A : Option Addr} {f : Nat → Nat} {us : List Value} (h : OwnB w B (.slice A n c) n f us) {i : Nat} (hi : i < n) : ∃ g A1 c1, A = some ⟨g, 0, none⟩ ∧ g < w.heap.size ∧ w.cell? ⟨g, i, none⟩ = some (.slice A1 (bigL (f i)).length c1) ∧ IsB w (f i) (.slice A1 (bigL (f i)).length c1) := by
 obtain ⟨A', c', e, hf⟩ := h.form
 injection e with e1 e2 e3
 subst e1 e3
 obtain ⟨g, rfl, _, hlt⟩ := hf (by omega)
 obtain ⟨u, e, h1⟩ := h.els i hi
 obtain ⟨A1, c1, rfl, _⟩ := Dig.form h1
 have hlen : us.length = n := by have := h.row.1; omega
 exact ⟨g, A1, c1, rfl, hlt, by rw [World.ownsRow.cellAt h.row i (by omega)]; exact e, h1⟩
theorem OwnB.push {wr w1 w2 : World} {B n : Nat} {v v' u : Value} {f : Nat → Nat} {us : List Value} {ca : Array Value} {t : TypeId} (h : OwnB wr B v n f us) (h1 : Below wr.heap.size wr w1) (hu : IsB w1 (f n) u)
  (hown : w2.ownsRow B 64 1 v' (n + 1) (us ++ [u])) (hg : (w1.alloc (.cells ca t)).grownBy w2 v.ownBlock) : OwnB w2 B v' (n + 1) f (us ++ [u]) := by
 have hb2 : Below w1.heap.size w1 (w1.alloc (.cells ca t)) := (Below.refl _ _).alloc (Nat.le_refl _) _
 have hA := (h.below h1).below hb2
 have hlen : us.length = n := by have := h.row.1; omega
 refine ⟨hown, fun i hi => ?_⟩
 rcases Nat.lt_or_ge i n with hlt | hge
 ·obtain ⟨u', e, hx⟩ := hA.els i hlt
  exact ⟨u', by rw [List.getElem?_append_left (by omega)]; exact e, Wide.IsB.kept hx hA.row (by decide) hg⟩
 ·obtain rfl : i = n := by omega
  exact ⟨u, by rw [List.getElem?_append_right (by omega), hlen, Nat.sub_self]; rfl, Wide.IsB.kept (hu.below hb2) hA.row (by decide) hg⟩
theorem OwnB.lit0 (w : World) (f : Nat → Nat) : OwnB (w.alloc (.cells #[] 64)) w.heap.size (.slice (some ⟨w.heap.size, 0, none⟩) 0 0) 0 f [] :=
 ⟨World.ownsRow_made w #[] 0 (Nat.le_refl _) (Nat.zero_le _) (by simp), fun i hi => absurd hi (Nat.not_lt_zero i)⟩
theorem infoBg : (Tryz.prog.info? 64).map (fun i => (i.zero, i.size, i.bytes)) = some (some (.slice none 0 0), 1, 24) := by kernel_rfl
def GrB (N : Nat) (f : Nat → Nat) (w : World) (ov jv : Value) (wr : World) : Prop :=
 ∃ (j : Nat) (us : List Value), jv = .int .i64 (j : Int) ∧ j ≤ N ∧ Hid (OwnB wr w.heap.size ov j f us) ∧ Hid (Below w.heap.size w wr)
theorem GrB.start (N : Nat) (f : Nat → Nat) (w : World) : GrB N f w (.slice (some ⟨w.heap.size, 0, none⟩) 0 0) (.int .i64 0) (w.alloc (.cells #[] 64)) :=
 ⟨0, [], rfl, Nat.zero_le _, Lib.hid (OwnB.lit0 w f), Lib.hid ((Below.refl _ _).alloc (Nat.le_refl _) _)⟩
theorem GrB.next {N j : Nat} {f : Nat → Nat} {w wr w1 w2 : World} {v v' u : Value} {us : List Value} {ca : Array Value} {t : TypeId} (hj : j < N) (h : OwnB wr w.heap.size v j f us) (hb : Below w.heap.size w wr) (h1 : Below wr.heap.size wr w1) (hu : IsB w1 (f j) u)
  (hown : w2.ownsRow w.heap.size 64 1 v' (j + 1) (us ++ [u])) (hg : (w1.alloc (.cells ca t)).grownBy w2 v.ownBlock) : GrB N f w v' (.int .i64 ((j : Int) + 1)) w2 := by
 have hb1 : Below wr.heap.size wr (w1.alloc (.cells ca t)) := h1.alloc h1.size _
 refine ⟨j + 1, _, by simp, hj, Lib.hid (h.push h1 hu hown hg), Lib.hid ?_⟩
 exact (hb.trans (hb1.mono hb.size)).trans (grown_below hg (fun g e => (ownsRow_block h.row e).choose_spec.2.1) (Nat.le_trans hb.size hb1.size))
def numB (w : World) : Value → Nat
 | .slice (some a) n _ => val ((List.range n).map fun i => match w.cell? ⟨a.block, i, none⟩ with
  | some (.int _ x) => x.toNat
  | _ => 0)
 | _ => 0
theorem numB_eq {w : World} {x c : Nat} {A : Option Addr} (h : IsB w x (.slice A (bigL x).length c)) : numB w (.slice A (bigL x).length c) = x := by
 rcases Nat.eq_zero_or_pos (bigL x).length with h0 | h0
 ·have e := List.length_eq_zero_iff.1 h0
  have hx := bigL_val x
  rw [e] at hx ⊢
  have hx0 : x = 0 := hx.symm
  cases A <;> simp [numB, val, hx0]
 ·obtain ⟨g, rfl, _, _, _⟩ := Dig.cell h h0
  show val _ = x
  have key : (List.range (bigL x).length).map (fun i => match w.cell? ⟨g, i, none⟩ with
   | some (.int _ x) => x.toNat
   | _ => 0) = bigL x := by
   refine List.ext_getElem (by simp) fun i h1 h2 => ?_
   simp only [List.getElem_map, List.getElem_range]
   obtain ⟨g', e, _, _, hc⟩ := Dig.cell h h2
   injection e with e
   injection e with e _ _
   subst e
   rw [hc]
   simp [List.getD, h2]
  rw [key, bigL_val]
attribute [irreducible] numB
end Go.Proofs.YthagenodiofgnaaGreat.Big
namespace Go.Proofs.YthagenodiofgnaaGreat.ComM
open Go.RowKit Go.Proofs.YthagenodiofgnaaGreat Go.Proofs.YthagenodiofgnaaGreat.Base Go.Proofs.YthagenodiofgnaaGreat.RatM Go.Proofs.YthagenodiofgnaaGreat.GaussM Go.Proofs.YthagenodiofgnaaGreat.ChM Go.Proofs.YthagenodiofgnaaGreat.BigM Go.Proofs.YthagenodiofgnaaGreat.Ratio
set_option linter.unusedVariables false
def sumN : Nat → (Nat → Nat) → Nat
 | 0, _ => 0
 | n + 1, f => sumN n f + f n
def stepN (n : Nat) (R v : Nat → Nat) (k : Nat) : Nat := sumN n (fun i => v i * R (i * n + k))
def runN (n : Nat) (R v : Nat → Nat) : Nat → Nat → Nat
 | 0 => v
 | t + 1 => stepN n R (runN n R v t)
theorem sumN_le {n b : Nat} {f : Nat → Nat} (h : ∀ i, i < n → f i ≤ b) : sumN n f ≤ n * b := by
 induction n with
 | zero => simp [sumN]
 | succ n ih =>
  have h1 := ih fun i hi => h i (by omega)
  have h2 := h n (by omega)
  rw [sumN, Nat.add_mul]
  omega
theorem D30_pos : 0 < D30 := by decide
theorem part_lt {n a b i k : Nat} {R v : Nat → Nat} (hn : n ≤ 1000) (hi : i ≤ n) (hv : ∀ i, i < n → v i < D30 ^ a) (hR : ∀ j, j < n * n → R j < D30 ^ b) (hk : k < n) : sumN i (fun i => v i * R (i * n + k)) < D30 ^ (a + b + 1) := by
 have h1 : sumN i (fun i => v i * R (i * n + k)) ≤ i * (D30 ^ a * D30 ^ b) := sumN_le fun j hj => by
  have hjn : j * n + k < n * n := by
   have := Nat.mul_le_mul_right n (show j + 1 ≤ n by omega)
   rw [Nat.add_mul] at this
   omega
  exact Nat.mul_le_mul (Nat.le_of_lt (hv j (by omega))) (Nat.le_of_lt (hR _ hjn))
 refine Nat.lt_of_le_of_lt h1 ?_
 rw [Nat.pow_succ, Nat.pow_add, Nat.mul_comm]
 exact Nat.mul_lt_mul_of_pos_left (by unfold D30; omega) (Nat.mul_pos (Nat.pow_pos D30_pos) (Nat.pow_pos D30_pos))
theorem mul_lt {a b x y : Nat} (hx : x < D30 ^ a) (hy : y < D30 ^ b) : x * y < D30 ^ (a + b) := by
 rw [Nat.pow_add]
 rcases Nat.eq_zero_or_pos y with rfl | h
 ·rw [Nat.mul_zero]; exact Nat.mul_pos (Nat.pow_pos D30_pos) (Nat.pow_pos D30_pos)
 ·exact Nat.lt_of_lt_of_le ((Nat.mul_lt_mul_right h).2 hx) (Nat.mul_le_mul_left _ (Nat.le_of_lt hy))
theorem part_lt' {n a b i k : Nat} {R v : Nat → Nat} (hn : n ≤ 100) (hi : i ≤ n) (hv : ∀ i, i < n → v i < D30 ^ a) (hR : ∀ i k, i < n → k < n → R (i * n + k) < D30 ^ b) (hk : k < n) : sumN i (fun i => v i * R (i * n + k)) < D30 ^ (a + b + 1) := by
 have h1 : sumN i (fun i => v i * R (i * n + k)) ≤ i * (D30 ^ a * D30 ^ b) := sumN_le fun j hj => Nat.mul_le_mul (Nat.le_of_lt (hv j (by omega))) (Nat.le_of_lt (hR j k (by omega) hk))
 refine Nat.lt_of_le_of_lt h1 ?_
 rw [Nat.pow_succ, Nat.pow_add, Nat.mul_comm]
 exact Nat.mul_lt_mul_of_pos_left (by unfold D30; omega) (Nat.mul_pos (Nat.pow_pos D30_pos) (Nat.pow_pos D30_pos))
theorem run_lt {n a b : Nat} {R v : Nat → Nat} (hn : n ≤ 1000) (hv : ∀ i, i < n → v i < D30 ^ a) (hR : ∀ j, j < n * n → R j < D30 ^ b) : ∀ t k, k < n → runN n R v t k < D30 ^ (a + t * (b + 1))
 | 0, k, hk => by
  rw [Nat.zero_mul]
  exact hv k hk
 | t + 1, k, hk => by
  have := part_lt (a := a + t * (b + 1)) hn (Nat.le_refl n) (fun i hi => run_lt hn hv hR t i hi) hR hk
  have e : a + (t + 1) * (b + 1) = a + t * (b + 1) + b + 1 := by rw [Nat.add_mul]; omega
  rw [e]
  exact this
theorem sumN_cast (n : Nat) (f : Nat → Nat) : ((sumN n f : Nat) : Rat) = sumR n (fun i => ((f i : Nat) : Rat)) := by
 induction n with
 | zero => rfl
 | succ n ih => rw [sumN, sumR, Rat.natCast_add, ih]
def over (x d : Nat) : Rat := (x : Rat) / (d : Rat)
theorem qv_over (x d : Nat) : qv false x d = over x d := rfl
theorem over_step {n dv dR : Nat} {R v : Nat → Nat} {p : Nat → Rat} {M : Nat → Nat → Rat} (h1 : 0 < dv) (h2 : 0 < dR) (hv : ∀ i, i < n → over (v i) dv = p i) (hR : ∀ i k, i < n → k < n → over (R (i * n + k)) dR = M i k) {k : Nat} (hk : k < n) : over (stepN n R v k) (dv * dR) = stepR n M p k := by
 have hv0 : ((dv : Nat) : Rat) ≠ 0 := natCast_ne (by omega)
 have hR0 : ((dR : Nat) : Rat) ≠ 0 := natCast_ne (by omega)
 unfold over stepN stepR
 rw [sumN_cast, Rat.natCast_mul]
 have e : ∀ i, i < n → p i * M i k = ((dv : Rat) * (dR : Rat))⁻¹ * (((v i * R (i * n + k) : Nat) : Nat) : Rat) := fun i hi => by
  rw [← hv i hi, ← hR i k hi hk, Rat.natCast_mul]
  unfold over
  grind
 rw [sumR_congr e, sumR_mul]
 grind
theorem over_run {n dv dR : Nat} {R v : Nat → Nat} {p : Nat → Rat} {M : Nat → Nat → Rat} (h1 : 0 < dv) (h2 : 0 < dR) (hv : ∀ i, i < n → over (v i) dv = p i) (hR : ∀ i k, i < n → k < n → over (R (i * n + k)) dR = M i k) : ∀ t k, k < n → over (runN n R v t k) (dv * dR ^ t) = runR n M p t k
 | 0, k, hk => by rw [Nat.pow_zero, Nat.mul_one]; exact hv k hk
 | t + 1, k, hk => by
  have := over_step (dv := dv * dR ^ t) (Nat.mul_pos h1 (Nat.pow_pos h2)) h2 (fun i hi => over_run h1 h2 hv hR t i hi) hR hk
  rw [Nat.pow_succ, ← Nat.mul_assoc]
  exact this
def catF (fs : Nat → List Int) : Nat → List Int
 | 0 => []
 | m + 1 => catF fs m ++ fs m
theorem catF_len {fs : Nat → List Int} {n : Nat} : ∀ {m : Nat}, (∀ i, i < m → (fs i).length = 2 * n) → (catF fs m).length = 2 * (m * n)
 | 0, _ => by simp [catF]
 | m + 1, h => by
  rw [catF, List.length_append, catF_len fun i hi => h i (by omega), h m (by omega), Nat.add_mul]
  omega
theorem catF_get {fs : Nat → List Int} {n : Nat} : ∀ {m i j : Nat}, (∀ i, i < m → (fs i).length = 2 * n) → i < m → j < 2 * n → (catF fs m).getD (2 * (i * n) + j) 0 = (fs i).getD j 0
 | 0, _, _, _, h, _ => absurd h (Nat.not_lt_zero _)
 | m + 1, i, j, h, hi, hj => by
  have hl := catF_len (m := m) fun i hi => h i (by omega)
  rw [catF]
  rcases Nat.lt_or_ge i m with h1 | h1
  ·have hlt : 2 * (i * n) + j < (catF fs m).length := by
    rw [hl]
    have := Nat.mul_le_mul_right n (show i + 1 ≤ m by omega)
    rw [Nat.add_mul] at this
    omega
   rw [← catF_get (m := m) (fun i hi => h i (by omega)) h1 hj]
   simp only [List.getD_eq_getElem?_getD, List.getElem?_append_left hlt]
  ·obtain rfl : i = m := by omega
   simp only [List.getD_eq_getElem?_getD]
   rw [List.getElem?_append_right (by omega), hl, Nat.add_sub_cancel_left]
theorem catF_fq {fs : Nat → List Int} {n m i k : Nat} (h : ∀ i, i < m → (fs i).length = 2 * n) (hi : i < m) (hk : k < n) : fq (catF fs m) (i * n + k) = fq (fs i) k := by
 unfold fq
 have e1 := catF_get (j := 2 * k) h hi (by omega)
 have e2 := catF_get (j := 2 * k + 1) h hi (by omega)
 rw [show 2 * (i * n + k) = 2 * (i * n) + 2 * k by omega, e1]
 rw [show 2 * (i * n) + 2 * k + 1 = 2 * (i * n) + (2 * k + 1) by omega, e2]
theorem split_lt {m n j : Nat} (h : j < m * n) : j / n < m ∧ j % n < n ∧ j = j / n * n + j % n := by
 have hn : 0 < n := Nat.pos_of_ne_zero fun e => by rw [e, Nat.mul_zero] at h; omega
 refine ⟨?_, Nat.mod_lt _ hn, ?_⟩
 ·rw [Nat.div_lt_iff_lt_mul hn]; exact h
 ·rw [Nat.mul_comm]; exact (Nat.div_add_mod j n).symm
theorem catF_vf {fs : Nat → List Int} {n m : Nat} (h : ∀ i, i < m → (fs i).length = 2 * n) (hv : ∀ i, i < m → AllVF (fs i) n) : AllVF (catF fs m) (m * n) := fun j hj => by
 obtain ⟨h1, h2, h3⟩ := split_lt hj
 have e1 := catF_get (j := 2 * (j % n)) h h1 (by omega)
 have e2 := catF_get (j := 2 * (j % n) + 1) h h1 (by omega)
 have k1 : 2 * j = 2 * (j / n * n) + 2 * (j % n) := by omega
 rw [show 2 * j + 1 = 2 * (j / n * n) + (2 * (j % n) + 1) by omega, k1, e1, e2]
 exact hv _ h1 _ h2
theorem catF_pos {fs : Nat → List Int} {n m : Nat} (h : ∀ i, i < m → (fs i).length = 2 * n) (hv : ∀ i k, i < m → k < n → 0 ≤ (fs i).getD (2 * k) 0) (j : Nat) (hj : j < m * n) : 0 ≤ (catF fs m).getD (2 * j) 0 := by
 obtain ⟨h1, h2, h3⟩ := split_lt hj
 have e1 := catF_get (j := 2 * (j % n)) h h1 (by omega)
 rw [show 2 * j = 2 * (j / n * n) + 2 * (j % n) by omega, e1]
 exact hv _ _ h1 h2
end Go.Proofs.YthagenodiofgnaaGreat.ComM
