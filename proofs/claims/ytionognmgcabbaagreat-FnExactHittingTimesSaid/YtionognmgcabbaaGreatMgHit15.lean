/- The reference's fractions of any size: a small one made wide. -/
import Derived.Test.YtionognmgcabbaaGreatMgHit14
import Derived.Deep.Cut
import Derived.Test.YtionognmgcabbaaGreatMgHit07
namespace Go.Proofs.YtionognmgcabbaaGreat.Wide
open Go.RowKit Go.Proofs.YtionognmgcabbaaGreat Go.Proofs.YtionognmgcabbaaGreat.Base Go.Proofs.YtionognmgcabbaaGreat.Mem Go.Proofs.YtionognmgcabbaaGreat.RatM Go.Proofs.YtionognmgcabbaaGreat.BigM Go.Proofs.YtionognmgcabbaaGreat.Big Go.Proofs.YtionognmgcabbaaGreat.Fine Go.Proofs.YtionognmgcabbaaGreat.Blk
set_option linter.unusedVariables false
set_option maxHeartbeats 4000000 in
set_option maxRecDepth 100000 in
theorem wideOf_any {n d : Int} (h : VF n d) (w : World) : Calls Tryz.prog 67 #[.agg #[.int .i64 n, .int .i64 d]] w (WRet (qf n d) 2 w) := by
  have HX := Lib.hid (fun W => maxG n h.2.2.1 h.2.2.2.1 W)
  have HBn := Lib.hid (fun W => bigOf_any n.natAbs (by have := h.2.2.1; have := h.2.2.2.1; omega) W)
  have HBd := Lib.hid (fun W => bigOf_any d.toNat (by have := h.2.1; omega) W)
  rw [show ((d.toNat : Nat) : Int) = d by have := h.1; omega] at HBd
  have HP : Hid (∀ W A1 A2 k1 k2 c1 c2, IsB W n.natAbs (.slice A1 k1 c1) → IsB W d.toNat (.slice A2 k2 c2) → IsW W (qf n d) 2 (.agg #[.bool (decide (n < 0)), .slice A1 k1 c1, .slice A2 k2 c2, .bool true, .int .i64 n, .int .i64 d])) := Lib.hid fun W A1 A2 k1 k2 c1 c2 g1 g2 =>
    ⟨_, _, _, _, _, _, _, _, _, _, _, _, rfl, ⟨g1, g2, by have := h.1; omega, rfl, small_len (by have := h.2.2.1; have := h.2.2.2.1; omega), small_len (by have := h.2.1; omega), fun _ => ⟨h, rfl, rfl, rfl⟩⟩⟩
  have r1 := h.2.2.1
  have r2 := h.2.2.2.1
  have hwn : IntKind.i64.wrap (-n) = -n := by rw [IntKind.wrap_i64]; omega
  clear h
  obtain ⟨W2, hW2⟩ : ∃ W2, W2 = (w.alloc (.cells #[.int .i64 n, .int .i64 d] 43)).alloc (.cells #[.bool false, .slice none 0 0, .slice none 0 0, .bool false, .int .i64 0, .int .i64 0] 81) := ⟨_, rfl⟩
  have K0 : Hid (Blk W2 w.heap.size 43 #[.int .i64 n, .int .i64 d]) := Lib.hid (by rw [hW2]; exact (Blk.new w _ _).alloc _)
  have KR : Hid (Blk W2 (w.heap.size + 1) 81 #[.bool false, .slice none 0 0, .slice none 0 0, .bool false, .int .i64 0, .int .i64 0]) := Lib.hid (by rw [hW2]; exact Blk.newAt _ _ (by simp))
  have HB : Hid (Below w.heap.size w W2) := Lib.hid (by rw [hW2]; exact ((Below.refl _ _).alloc (Nat.le_refl _) _).alloc (by simp) _)
  have HW := Lib.hid hW2
  clear hW2
  go_enter Tryz.func67, Tryz.ntmps67
  go_wp2_with fail
  rw [← HW.out]
  refine Rel.wp_region_rel 15 (by kernel_rfl) (by kernel_rfl) (fun F hF => ?_)
  simp only [List.take_succ_cons, List.take_zero, List.drop_succ_cons, List.drop_zero, Rel.putL] at hF ⊢
  have HF := Lib.hid hF
  clear hF
  have uv := @Rel.upon_value Tryz.prog
  have ue := @Rel.upon_enter Tryz.prog
  apply Rel.rel_pure
  apply Exists.intro
  refine ⟨fun vs wq hq hdp R hR => ?_, ?_⟩
  · (rw [HF.out, Rel.stepAt_eq]; clear hdp; skip; go_simp; exact hR)
  apply Rel.rel_pure
  apply Exists.intro
  refine ⟨fun vs wq hq hdp R hR => ?_, ?_⟩
  · (rw [HF.out, Rel.stepAt_eq]; have qd0 : vs 0 = _ := Rel.dep hdp 0 (by kernel_rfl); clear hdp; have x0 := (K0.out.belowS hq).at 0 (v := .int .i64 n) rfl; have x1 := (K0.out.belowS hq).at 1 (v := .int .i64 d) rfl; go_simp; exact hR)
  apply Rel.rel_pure
  apply Exists.intro
  refine ⟨fun vs wq hq hdp R hR => ?_, ?_⟩
  · (rw [HF.out, Rel.stepAt_eq]; have qd1 : vs 1 = _ := Rel.dep hdp 1 (by kernel_rfl); clear hdp; skip; go_simp; exact hR)
  apply Rel.rel_pure
  apply Exists.intro
  refine ⟨fun vs wq hq hdp R hR => ?_, ?_⟩
  · (rw [HF.out, Rel.stepAt_eq]; clear hdp; skip; go_simp; exact hR)
  apply Rel.rel_pure
  apply Exists.intro
  refine ⟨fun vs wq hq hdp R hR => ?_, ?_⟩
  · (rw [HF.out, Rel.stepAt_eq]; have qd3 : vs 3 = _ := Rel.dep hdp 3 (by kernel_rfl); clear hdp; have x0 := (K0.out.belowS hq).at 0 (v := .int .i64 n) rfl; have x1 := (K0.out.belowS hq).at 1 (v := .int .i64 d) rfl; go_simp; exact hR)
  apply Rel.rel_pure
  apply Exists.intro
  refine ⟨fun vs wq hq hdp R hR => ?_, ?_⟩
  · (rw [HF.out, Rel.stepAt_eq]; clear hdp; skip; go_simp; exact hR)
  apply Rel.rel_pure
  apply Exists.intro
  refine ⟨fun vs wq hq hdp R hR => ?_, ?_⟩
  · (rw [HF.out, Rel.stepAt_eq]; have qd5 : vs 5 = _ := Rel.dep hdp 5 (by kernel_rfl); clear hdp; have x0 := (K0.out.belowS hq).at 0 (v := .int .i64 n) rfl; have x1 := (K0.out.belowS hq).at 1 (v := .int .i64 d) rfl; go_simp; exact hR)
  apply Rel.rel_pure
  apply Exists.intro
  refine ⟨fun vs wq hq hdp R hR => ?_, ?_⟩
  · (rw [HF.out, Rel.stepAt_eq]; have qd6 : vs 6 = _ := Rel.dep hdp 6 (by kernel_rfl); clear hdp; skip; go_simp; exact hR)
  apply Rel.rel_same
  apply Exists.intro
  refine ⟨fun vs wq hq hdp => ?_, ?_⟩
  · (rw [HF.out, Rel.stepAt_eq]; have qd4 : vs 4 = _ := Rel.dep hdp 4 (by kernel_rfl); have qd7 : vs 7 = _ := Rel.dep hdp 7 (by kernel_rfl); clear hdp; skip; go_simp; refine (HX.out _).mono ?_; rintro e w7 ⟨rfl, rfl⟩; exact ⟨_, rfl, rfl, Below.refl _ _⟩)
  refine Rel.rel_law (S := fun v w' => IsB w' n.natAbs v) (isB_mono _) (fun vs wq hq hdp => ?_) ?_
  · (rw [HF.out, Rel.stepAt_eq]; have qd8 : vs 8 = _ := Rel.dep hdp 8 (by kernel_rfl); clear hdp; skip; go_simp; refine (HBn.out _).mono ?_; rintro e w7 ⟨v, rfl, hv, hb⟩; exact ⟨_, rfl, hv, hb⟩)
  apply Rel.rel_pure
  apply Exists.intro
  refine ⟨fun vs wq hq hdp R hR => ?_, ?_⟩
  · (rw [HF.out, Rel.stepAt_eq]; clear hdp; skip; go_simp; exact hR)
  apply Rel.rel_pure
  apply Exists.intro
  refine ⟨fun vs wq hq hdp R hR => ?_, ?_⟩
  · (rw [HF.out, Rel.stepAt_eq]; have qd10 : vs 10 = _ := Rel.dep hdp 10 (by kernel_rfl); clear hdp; have x0 := (K0.out.belowS hq).at 0 (v := .int .i64 n) rfl; have x1 := (K0.out.belowS hq).at 1 (v := .int .i64 d) rfl; go_simp; exact hR)
  refine Rel.rel_law (S := fun v w' => IsB w' d.toNat v) (isB_mono _) (fun vs wq hq hdp => ?_) ?_
  · (rw [HF.out, Rel.stepAt_eq]; have qd11 : vs 11 = _ := Rel.dep hdp 11 (by kernel_rfl); clear hdp; skip; go_simp; refine (HBd.out _).mono ?_; rintro e w7 ⟨v, rfl, hv, hb⟩; exact ⟨_, rfl, hv, hb⟩)
  apply Rel.rel_pure
  apply Exists.intro
  refine ⟨fun vs wq hq hdp R hR => ?_, ?_⟩
  · (rw [HF.out, Rel.stepAt_eq]; clear hdp; have x0 := (K0.out.belowS hq).at 0 (v := .int .i64 n) rfl; have x1 := (K0.out.belowS hq).at 1 (v := .int .i64 d) rfl; go_simp; exact hR)
  refine Rel.rel_law (S := fun v w' => IsW w' (qf n d) 2 v) (isW_mono _ _) (fun vs wq hq hdp => ?_) ?_
  · (rw [HF.out, Rel.stepAt_eq]; have qd2 : vs 2 = _ := Rel.dep hdp 2 (by kernel_rfl); have qd9 : IsB wq _ (vs 9) := Rel.dep hdp 9 (by kernel_rfl); have qd12 : IsB wq _ (vs 12) := Rel.dep hdp 12 (by kernel_rfl); have qd13 : vs 13 = _ := Rel.dep hdp 13 (by kernel_rfl); clear hdp; obtain ⟨A1, c1, ev1, _⟩ := Dig.form qd9; obtain ⟨A2, c2, ev2, _⟩ := Dig.form qd12; have HPP := Lib.hid (And.intro (HP.out wq A1 A2 _ _ c1 c2 (by rw [← ev1]; exact qd9) (by rw [← ev2]; exact qd12)) (Below.refl wq.heap.size wq)); go_simp; exact HPP.out)
  refine Rel.rel_end (fun vs wq hq hall => ?_)
  rw [HF.out]
  have qe0 : vs 0 = _ := Rel.fin hall 0 (by decide)
  have qe1 : vs 1 = _ := Rel.fin hall 1 (by decide)
  have qe2 : vs 2 = _ := Rel.fin hall 2 (by decide)
  have qe3 : vs 3 = _ := Rel.fin hall 3 (by decide)
  have qe4 : vs 4 = _ := Rel.fin hall 4 (by decide)
  have qe5 : vs 5 = _ := Rel.fin hall 5 (by decide)
  have qe6 : vs 6 = _ := Rel.fin hall 6 (by decide)
  have qe7 : vs 7 = _ := Rel.fin hall 7 (by decide)
  have qe8 : vs 8 = _ := Rel.fin hall 8 (by decide)
  have qe9 : IsB wq _ (vs 9) := Rel.fin hall 9 (by decide)
  have qe10 : vs 10 = _ := Rel.fin hall 10 (by decide)
  have qe11 : vs 11 = _ := Rel.fin hall 11 (by decide)
  have qe12 : IsB wq _ (vs 12) := Rel.fin hall 12 (by decide)
  have qe13 : vs 13 = _ := Rel.fin hall 13 (by decide)
  have qe14 : IsW wq _ _ (vs 14) := Rel.fin hall 14 (by decide)
  clear hall HF uv ue
  obtain ⟨s, A1, k1, c1', A2, k2, c2', fine, fn, fd, nn, dd, ev, hp⟩ := qe14
  have KRq := KR.out.belowS hq
  have HBq := Base.Below.nextA HB.out hq
  have HP2 := Lib.hid hp
  clear hq hp
  have z0 := (KRq).frz 0
  have z1 := (KRq).frz 1
  have z2 := (KRq).frz 2
  have z3 := (KRq).frz 3
  have z4 := (KRq).frz 4
  have z5 := (KRq).frz 5
  have c0 := (KRq).at 0 (v := .bool false) rfl
  have c1 := (KRq).at 1 (v := .slice none 0 0) rfl
  have c2 := (KRq).at 2 (v := .slice none 0 0) rfl
  have c3 := (KRq).at 3 (v := .bool false) rfl
  have c4 := (KRq).at 4 (v := .int .i64 0) rfl
  have c5 := (KRq).at 5 (v := .int .i64 0) rfl
  have SS := put6_blk (KRq) (.bool s) (.slice A1 k1 c1') (.slice A2 k2 c2') (.bool fine) (.int .i64 fn) (.int .i64 fd)
  unfold put6 at SS
  have s0 := SS.at 0 rfl
  have s1 := SS.at 1 rfl
  have s2 := SS.at 2 rfl
  have s3 := SS.at 3 rfl
  have s4 := SS.at 4 rfl
  have s5 := SS.at 5 rfl
  have HFIN := Lib.hid (WRet.put (HP2.out) (KRq) (HBq) (by simp))
  clear SS
  go_wp2
  refine bodyPost_ret (v := .agg #[.bool s, .slice A1 k1 c1', .slice A2 k2 c2', .bool fine, .int .i64 fn, .int .i64 fd]) (by simp [results, Tryz.results67, go_sem, s0, s1, s2, s3, s4, s5]) rfl ?_
  exact HFIN.out
end Go.Proofs.YtionognmgcabbaaGreat.Wide
/- The reference's fractions of any size: lowest terms. -/
namespace Go.Proofs.YtionognmgcabbaaGreat.Wide
open Go.RowKit Go.Proofs.YtionognmgcabbaaGreat Go.Proofs.YtionognmgcabbaaGreat.Base Go.Proofs.YtionognmgcabbaaGreat.Mem Go.Proofs.YtionognmgcabbaaGreat.RatM Go.Proofs.YtionognmgcabbaaGreat.BigM Go.Proofs.YtionognmgcabbaaGreat.Big Go.Proofs.YtionognmgcabbaaGreat.Fine Go.Proofs.YtionognmgcabbaaGreat.Blk
set_option linter.unusedVariables false
/-- the number that digits in memory say -/
def bigOfV (w : World) : Value → Nat
  | .slice (some a) n _ => val ((List.range n).map fun i => match w.cell? ⟨a.block, a.off + i, none⟩ with
    | some (.int _ x) => x.toNat
    | _ => 0)
  | _ => 0
theorem bigOfV_eq {w : World} {x : Nat} {v : Value} (h : IsB w x v) : bigOfV w v = x := by
  obtain ⟨A, c, rfl, _⟩ := Dig.form h
  rcases Nat.eq_zero_or_pos (bigL x).length with h0 | h0
  · have e := List.length_eq_zero_iff.1 h0
    have hx : x = 0 := by have := bigL_val x; rw [e, val] at this; exact this.symm
    subst hx
    rw [h0]
    cases A <;> simp [bigOfV, val]
  · obtain ⟨b, rfl, _⟩ := IsB.cell h h0
    show val _ = x
    rw [← bigL_val x]
    congr 1
    refine List.ext_getElem (by simp [bigL_val]) fun i h1 h2 => ?_
    rw [bigL_val] at h1
    simp only [List.getElem_map, List.getElem_range]
    obtain ⟨b', e, hc⟩ := IsB.cell h h2
    injection e with e
    injection e with e1 _ _
    subst e1
    rw [Nat.zero_add, hc]
    simp [List.getD, h2]
attribute [irreducible] bigOfV
/-- lowest terms, or small -/
def IsL (w : World) (q : Rat) (m : Nat) (v : Value) : Prop :=
  ∃ s A1 k1 c1 A2 k2 c2 fine fn fd n d, v = .agg #[.bool s, .slice A1 k1 c1, .slice A2 k2 c2, .bool fine, .int .i64 fn, .int .i64 fd] ∧ Parts w q m s (.slice A1 k1 c1) (.slice A2 k2 c2) fine fn fd n d ∧ n = q.num.natAbs ∧ d = q.den
theorem IsL.wide {w : World} {q : Rat} {m : Nat} {v : Value} (h : IsL w q m v) : IsW w q m v := by
  obtain ⟨s, A1, k1, c1, A2, k2, c2, fine, fn, fd, n, d, e, hp, _⟩ := h
  exact ⟨s, A1, k1, c1, A2, k2, c2, fine, fn, fd, n, d, e, hp⟩
theorem IsL.below {w w' : World} {q : Rat} {m : Nat} {v : Value} (h : IsL w q m v) (hb : Below w.heap.size w w') : IsL w' q m v := by
  obtain ⟨s, A1, k1, c1, A2, k2, c2, fine, fn, fd, n, d, e, hp, hl⟩ := h
  exact ⟨s, A1, k1, c1, A2, k2, c2, fine, fn, fd, n, d, e, hp.below hb, hl⟩
def LRet (q : Rat) (m : Nat) (w : World) (e : Ending) (w' : World) : Prop := ∃ v, e = .returned v ∧ IsL w' q m v ∧ Below w.heap.size w w'
theorem LRet.put {w wq : World} {q : Rat} {m b : Nat} {s : Bool} {A1 A2 : Option Addr} {k1 k2 c1 c2 : Nat} {fine : Bool} {fn fd : Int} {n d : Nat} {u0 u1 u2 u3 u4 u5 : Value} (h : Parts wq q m s (.slice A1 k1 c1) (.slice A2 k2 c2) fine fn fd n d) (hl : n = q.num.natAbs ∧ d = q.den) (K : Blk wq b 81 #[u0, u1, u2, u3, u4, u5]) (hb : Below w.heap.size w wq) (hB : w.heap.size ≤ b) :
    LRet q m w (.returned (.agg #[.bool s, .slice A1 k1 c1, .slice A2 k2 c2, .bool fine, .int .i64 fn, .int .i64 fd])) (put6 wq b (.bool s) (.slice A1 k1 c1) (.slice A2 k2 c2) (.bool fine) (.int .i64 fn) (.int .i64 fd)) :=
  ⟨_, rfl, ⟨s, A1, k1, c1, A2, k2, c2, fine, fn, fd, n, d, rfl, h.put6 K (by decide) _ _ _ _ _ _, hl⟩, put6_below hb hB _ _ _ _ _ _⟩
def GcdRel (n d : Nat) (w : World) (xv yv : Value) (wr : World) : Prop :=
  ∃ p q : Nat, (bigL p).length ≤ 400000 ∧ (bigL q).length ≤ 400000 ∧ Hid (Nat.gcd p q = Nat.gcd n d) ∧ Hid (IsB wr p xv) ∧ Hid (IsB wr q yv) ∧ Hid (Below w.heap.size w wr)
set_option maxHeartbeats 4000000 in
set_option maxRecDepth 100000 in
theorem lowest_any {q : Rat} {m : Nat} {v : Value} (w : World) (hv : IsW w q m v) (hm : m ≤ 400000) : Calls Tryz.prog 120 #[v] w (LRet q m w) := by
  obtain ⟨s, A1, k1, c1, A2, k2, c2, fine, fn, fd, n, d, rfl, hp⟩ := hv
  have HP := Lib.hid hp
  obtain ⟨W2, hW2⟩ : ∃ W2, W2 = (w.alloc (.cells #[.bool s, .slice A1 k1 c1, .slice A2 k2 c2, .bool fine, .int .i64 fn, .int .i64 fd] 81)).alloc (.cells #[.bool false, .slice none 0 0, .slice none 0 0, .bool false, .int .i64 0, .int .i64 0] 81) := ⟨_, rfl⟩
  have K0 : Hid (Blk W2 w.heap.size 81 #[.bool s, .slice A1 k1 c1, .slice A2 k2 c2, .bool fine, .int .i64 fn, .int .i64 fd]) := Lib.hid (by rw [hW2]; exact (Blk.new w _ _).alloc _)
  have KR : Hid (Blk W2 (w.heap.size + 1) 81 #[.bool false, .slice none 0 0, .slice none 0 0, .bool false, .int .i64 0, .int .i64 0]) := Lib.hid (by rw [hW2]; exact Blk.newAt _ _ (by simp))
  have HB : Hid (Below w.heap.size w W2) := Lib.hid (by rw [hW2]; exact ((Below.refl _ _).alloc (Nat.le_refl _) _).alloc (by simp) _)
  have HW := Lib.hid hW2
  clear hW2 hp
  have x0 := K0.out.at 0 (v := .bool s) rfl
  have x1 := K0.out.at 1 (v := .slice A1 k1 c1) rfl
  have x2 := K0.out.at 2 (v := .slice A2 k2 c2) rfl
  have x3 := K0.out.at 3 (v := .bool fine) rfl
  have x4 := K0.out.at 4 (v := .int .i64 fn) rfl
  have x5 := K0.out.at 5 (v := .int .i64 fd) rfl
  go_enter Tryz.func120, Tryz.ntmps120
  go_upto_region 1 with (fail)
  rw [← HW.out]
  clear HW
  cases fine with
  | true =>
    obtain ⟨B1, hB1⟩ : ∃ B1, B1 = A1 := ⟨_, rfl⟩
    obtain ⟨B2, hB2⟩ : ∃ B2, B2 = A2 := ⟨_, rfl⟩
    subst hB1 hB2
    obtain ⟨j1, h1⟩ : ∃ j1, j1 = k1 := ⟨_, rfl⟩
    obtain ⟨j2, h2⟩ : ∃ j2, j2 = k2 := ⟨_, rfl⟩
    obtain ⟨e1, h3⟩ : ∃ e1, e1 = c1 := ⟨_, rfl⟩
    obtain ⟨e2, h4⟩ : ∃ e2, e2 = c2 := ⟨_, rfl⟩
    subst h1 h2 h3 h4
    have HPP := Lib.hid (HP.out.below HB.out)
    have HPL : Hid (n = q.num.natAbs ∧ d = q.den) := Lib.hid (by
      obtain ⟨h1, h2, h3, h4⟩ := HP.out.small rfl
      obtain ⟨g1, g2, _⟩ := h1.num
      rw [h2] at g1 g2
      rw [h3, h4, g1]
      exact ⟨rfl, by omega⟩)
    have z0 := KR.out.frz 0
    have z1 := KR.out.frz 1
    have z2 := KR.out.frz 2
    have z3 := KR.out.frz 3
    have z4 := KR.out.frz 4
    have z5 := KR.out.frz 5
    have y0 := KR.out.at 0 (v := .bool false) rfl
    have y1 := KR.out.at 1 (v := .slice none 0 0) rfl
    have y2 := KR.out.at 2 (v := .slice none 0 0) rfl
    have y3 := KR.out.at 3 (v := .bool false) rfl
    have y4 := KR.out.at 4 (v := .int .i64 0) rfl
    have y5 := KR.out.at 5 (v := .int .i64 0) rfl
    have SS := put6_blk KR.out (.bool s) (.slice B1 j1 e1) (.slice B2 j2 e2) (.bool true) (.int .i64 fn) (.int .i64 fd)
    unfold put6 at SS
    have s0 := SS.at 0 rfl
    have s1 := SS.at 1 rfl
    have s2 := SS.at 2 rfl
    have s3 := SS.at 3 rfl
    have s4 := SS.at 4 rfl
    have s5 := SS.at 5 rfl
    have HFIN := Lib.hid (LRet.put HPP.out HPL.out KR.out HB.out (by omega))
    clear SS
    go_wp2
    refine bodyPost_ret (v := .agg #[.bool s, .slice B1 j1 e1, .slice B2 j2 e2, .bool true, .int .i64 fn, .int .i64 fd]) (by simp [results, Tryz.results120, go_sem, s0, s1, s2, s3, s4, s5]) rfl ?_
    exact HFIN.out
  | false =>
    have HD := Lib.hid HP.out.pos
    have H0 : Hid (GcdRel n d W2 (.slice A1 k1 c1) (.slice A2 k2 c2) W2) := Lib.hid ⟨n, d, Nat.le_trans HP.out.ln hm, Nat.le_trans HP.out.ld hm, Lib.hid rfl, Lib.hid (HP.out.num.below HB.out), Lib.hid (HP.out.den.below HB.out), Lib.hid (Below.refl _ _)⟩
    go_wp2
    go_loopw [3, 4] (fun xv yv wr => GcdRel n d W2 xv yv wr) (fun _ yv wr => bigOfV wr yv)
    case atStart => exact H0.out
    case round =>
      obtain ⟨p, r, hp1, hr1, hg, hx, hy, hb⟩ := hrel
      clear H0 x0 x1 x2 x3 x4 x5
      obtain ⟨Ay, cy, e, _⟩ := Dig.form hy.out
      subst e
      by_cases hpos : 0 < r
      · have hlp := len_pos hpos
        go_wp2_with fail
        refine (bigSplit_any wr hx.out hy.out (by omega) hpos).mono ?_
        rintro e w1 ⟨vq, vr, rfl, hq, hr, hb1⟩
        have HN : Hid (GcdRel n d W2 (.slice Ay (bigL r).length cy) vr w1) := Lib.hid ⟨r, p % r, hr1, Nat.le_trans (len_mono (Nat.le_of_lt (Nat.mod_lt _ hpos))) hr1, Lib.hid (by rw [← hg.out, Nat.gcd_comm r, ← Nat.gcd_rec, Nat.gcd_comm]), Lib.hid (hy.out.below hb1), Lib.hid hr, Lib.hid (Base.Below.nextA hb.out hb1)⟩
        have HM : Hid (bigOfV w1 vr < bigOfV wr (.slice Ay (bigL r).length cy)) := Lib.hid (by rw [bigOfV_eq hr, bigOfV_eq hy.out]; exact Nat.mod_lt _ hpos)
        clear hq hr hb1 hx hy hb hg
        go_wp2
        go_roundw
        case rel => exact HN.out
        case measure => exact HM.out
      · obtain rfl : r = 0 := by omega
        have hgc := hg.out
        rw [Nat.gcd_zero_right] at hgc
        have HG : Hid (0 < p) := Lib.hid (by rw [hgc]; exact Nat.gcd_pos_of_pos_right _ HD.out)
        have HGC := Lib.hid hgc
        have hl0 : ¬ 0 < (bigL 0).length := by rw [bigL_zero]; simp
        replace K0 := Lib.hid (K0.out.belowS hb.out)
        replace KR := Lib.hid (KR.out.belowS hb.out)
        replace HB := Lib.hid (Base.Below.nextA HB.out hb.out)
        have HX := Lib.hid hx.out
        have x1 := K0.out.at 1 (v := .slice A1 k1 c1) rfl
        clear hg hx hy hb hgc
        go_wp2_with fail
        refine (bigSplit_any _ (HP.out.num.below HB.out) HX.out (Nat.le_trans HP.out.ln (by omega)) HG.out).mono ?_
        rintro e wa ⟨vn, vx, rfl, hvn, _, hba⟩
        replace K0 := Lib.hid (K0.out.belowS hba)
        replace KR := Lib.hid (KR.out.belowS hba)
        replace HB := Lib.hid (Base.Below.nextA HB.out hba)
        replace HX := Lib.hid (HX.out.below hba)
        have HN := Lib.hid hvn
        clear hvn hba x1
        have x2 := K0.out.at 2 (v := .slice A2 k2 c2) rfl
        go_wp2_with fail
        refine (bigSplit_any _ (HP.out.den.below HB.out) HX.out (Nat.le_trans HP.out.ld (by omega)) HG.out).mono ?_
        rintro e wb ⟨vd, vy, rfl, hvd, _, hbb⟩
        replace K0 := Lib.hid (K0.out.belowS hbb)
        replace KR := Lib.hid (KR.out.belowS hbb)
        replace HB := Lib.hid (Base.Below.nextA HB.out hbb)
        have HN2 := Lib.hid (HN.out.below hbb)
        have HD2 := Lib.hid hvd
        clear hvd hbb x2 HX HN
        obtain ⟨B1, e1, rfl, _⟩ := Dig.form HN2.out
        obtain ⟨B2, e2, rfl, _⟩ := Dig.form HD2.out
        have hqn := qv_num s (n := n) (d := d) (Nat.ne_of_gt HD.out)
        rw [HP.out.val, ← HGC.out] at hqn
        have hdp : 0 < d / p := by
          rw [HGC.out]
          exact Nat.div_pos (Nat.gcd_le_right _ HD.out) (by rw [← HGC.out]; exact HG.out)
        have HPP : Hid (Parts wb q m s (.slice B1 (bigL (n / p)).length e1) (.slice B2 (bigL (d / p)).length e2) false 0 0 (n / p) (d / p)) := Lib.hid ⟨HN2.out, HD2.out, hdp, by
            have h1 : p ∣ n := by rw [HGC.out]; exact Nat.gcd_dvd_left _ _
            have h2 : p ∣ d := by rw [HGC.out]; exact Nat.gcd_dvd_right _ _
            have := qv_scale s (n := n / p) (d := d / p) (k := p) (Nat.ne_of_gt hdp) (Nat.ne_of_gt HG.out)
            rw [Nat.div_mul_cancel h1, Nat.div_mul_cancel h2] at this
            rw [← this]; exact HP.out.val, Nat.le_trans (len_mono (Nat.div_le_self _ _)) HP.out.ln, Nat.le_trans (len_mono (Nat.div_le_self _ _)) HP.out.ld, fun h => by cases h⟩
        have HPL : Hid (n / p = q.num.natAbs ∧ d / p = q.den) := Lib.hid ⟨hqn.1.symm, hqn.2.symm⟩
        have x0 := K0.out.at 0 (v := .bool s) rfl
        clear hqn hdp
        generalize (bigL (n / p)).length = j1 at *
        generalize (bigL (d / p)).length = j2 at *
        have z0 := KR.out.frz 0
        have z1 := KR.out.frz 1
        have z2 := KR.out.frz 2
        have z3 := KR.out.frz 3
        have z4 := KR.out.frz 4
        have z5 := KR.out.frz 5
        have y0 := KR.out.at 0 (v := .bool false) rfl
        have y1 := KR.out.at 1 (v := .slice none 0 0) rfl
        have y2 := KR.out.at 2 (v := .slice none 0 0) rfl
        have y3 := KR.out.at 3 (v := .bool false) rfl
        have y4 := KR.out.at 4 (v := .int .i64 0) rfl
        have y5 := KR.out.at 5 (v := .int .i64 0) rfl
        have SS := put6_blk KR.out (.bool s) (.slice B1 j1 e1) (.slice B2 j2 e2) (.bool false) (.int .i64 0) (.int .i64 0)
        unfold put6 at SS
        have s0 := SS.at 0 rfl
        have s1 := SS.at 1 rfl
        have s2 := SS.at 2 rfl
        have s3 := SS.at 3 rfl
        have s4 := SS.at 4 rfl
        have s5 := SS.at 5 rfl
        have HFIN := Lib.hid (LRet.put HPP.out HPL.out KR.out HB.out (by omega))
        clear SS
        go_wp2
        refine bodyPost_ret (v := .agg #[.bool s, .slice B1 j1 e1, .slice B2 j2 e2, .bool false, .int .i64 0, .int .i64 0]) (by simp [results, Tryz.results120, go_sem, s0, s1, s2, s3, s4, s5]) rfl ?_
        exact HFIN.out
end Go.Proofs.YtionognmgcabbaaGreat.Wide
/- The reference's fractions of any size: what is small, what is given. -/
namespace Go.Proofs.YtionognmgcabbaaGreat.Wide
open Go.RowKit Go.Proofs.YtionognmgcabbaaGreat Go.Proofs.YtionognmgcabbaaGreat.Base Go.Proofs.YtionognmgcabbaaGreat.Mem Go.Proofs.YtionognmgcabbaaGreat.RatM Go.Proofs.YtionognmgcabbaaGreat.BigM Go.Proofs.YtionognmgcabbaaGreat.Big Go.Proofs.YtionognmgcabbaaGreat.Fine Go.Proofs.YtionognmgcabbaaGreat.Blk
set_option linter.unusedVariables false
theorem bigSmall_no {x : Nat} {v : Value} (w : World) (hv : IsB w x v) (hl : (bigL x).length ≤ 900000) (h : 1000000000000000000 < x) : Calls Tryz.prog 121 #[v] w fun e w' => e = .returned (.tuple #[.int .i64 0, .bool false]) ∧ Below w.heap.size w w' := by
  obtain ⟨A, c, rfl, _⟩ := Dig.form hv
  by_cases h2 : 2 < (bigL x).length
  · clear hv
    generalize (bigL x).length = k at *
    go_enter Tryz.func121, Tryz.ntmps121
    go_wp2
    go_ret2
    exact ⟨rfl, Below.refl _ _⟩
  · have HV := Lib.hid hv
    have HL := Lib.hid hl
    have hcm : cmpN x 1000000000000000000 = 1 := cmpN_gt h
    have hlc : (bigL 1000000000000000000).length ≤ 4000000 := Nat.le_trans (small_len (Nat.le_refl _)) (by decide)
    have HLC := Lib.hid hlc
    clear hv hl h hlc
    go_enter Tryz.func121, Tryz.ntmps121
    go_wp2_with fail
    refine (bigOf_any 1000000000000000000 (by decide) w).mono ?_
    rintro e w1 ⟨v1, rfl, h1, hb1⟩
    have H1 := Lib.hid h1
    have HB1 := Lib.hid hb1
    clear h1 hb1
    go_wp2_with fail
    refine (bigCmp_any w1 (HV.out.below HB1.out) H1.out (Nat.le_trans HL.out (by decide)) HLC.out).mono ?_
    rintro e w2 ⟨rfl, hD⟩
    have HB2 := Lib.hid (Base.Below.nextA HB1.out hD.below)
    clear hD
    rw [hcm]
    clear hcm
    go_wp2
    go_ret2
    exact ⟨rfl, HB2.out⟩
/-- the number so far -/
def SmRel (x : Nat) (nv iv : Value) : Prop := ∃ i : Nat, i ≤ (bigL x).length ∧ iv = .int .i64 ((i : Int) - 1) ∧ nv = .int .i64 ((x / D30 ^ i : Nat) : Int)
set_option maxHeartbeats 2000000 in
set_option maxRecDepth 100000 in
theorem bigSmall_yes {x : Nat} {v : Value} (w : World) (hv : IsB w x v) (h : x ≤ 1000000000000000000) : Calls Tryz.prog 121 #[v] w fun e w' => e = .returned (.tuple #[.int .i64 (x : Int), .bool true]) ∧ Below w.heap.size w w' := by
  obtain ⟨A, c, rfl, _⟩ := Dig.form hv
  have hl2 := small_len h
  have HV := Lib.hid hv
  have hcm : ¬ 0 < cmpN x 1000000000000000000 := by
    unfold cmpN
    split
    · decide
    · rw [if_neg (by omega)]; decide
  have hlc : (bigL 1000000000000000000).length ≤ 4000000 := Nat.le_trans (small_len (Nat.le_refl _)) (by decide)
  have HLC := Lib.hid hlc
  have HX := Lib.hid h
  have hd0 : x / D30 ^ (bigL x).length = 0 := Nat.div_eq_of_lt (big_lt_pow x)
  have HD0 := Lib.hid hd0
  have hn2 : ¬ 2 < (bigL x).length := by omega
  clear hv hlc h hd0
  generalize hcme : cmpN x 1000000000000000000 = cm at *
  have HCM := Lib.hid hcme
  clear hcme
  go_enter Tryz.func121, Tryz.ntmps121
  go_wp2_with fail
  refine (bigOf_any 1000000000000000000 (by decide) w).mono ?_
  rintro e w1 ⟨v1, rfl, h1, hb1⟩
  have H1 := Lib.hid h1
  have HB1 := Lib.hid hb1
  clear h1 hb1
  go_wp2_with fail
  refine (bigCmp_any w1 (HV.out.below HB1.out) H1.out (by omega) HLC.out).mono ?_
  rintro e w2 ⟨rfl, hD⟩
  have HB2 := Lib.hid (Base.Below.nextA HB1.out hD.below)
  have HV2 := Lib.hid (HV.out.below HB2.out)
  clear hD
  rw [HCM.out]
  go_wp2
  go_loop [4, 5] (fun nv iv => SmRel x nv iv) (fun _ iv => (intOf iv + 1).toNat)
  case atStart => exact ⟨(bigL x).length, Nat.le_refl _, rfl, by rw [HD0.out]; rfl⟩
  case round =>
    obtain ⟨i, hi, rfl, rfl⟩ := hrel
    by_cases hpos : 0 < i
    · obtain ⟨m, rfl⟩ : ∃ m, i = m + 1 := ⟨i - 1, by omega⟩
      have e1 : (((m + 1 : Nat) : Int) - 1) = (m : Int) := by omega
      rw [e1]
      clear e1
      obtain ⟨g, rfl, hc⟩ := IsB.cell HV2.out (show m < (bigL x).length by omega)
      have hdg := dig_at x m
      have hps := pow_succ_div x m
      have hxl := HX.out
      have hle : x / D30 ^ m ≤ x := Nat.div_le_self _ _
      obtain ⟨N, hN⟩ : ∃ N, N = x / D30 ^ m := ⟨_, rfl⟩
      rw [← hN] at hdg hps hle
      rw [hps]
      rw [hdg] at hc
      have hn1 : N / D30 ≤ 1000000000 := by unfold D30; omega
      have hn2' : N % D30 < 1073741824 := Nat.mod_lt _ (by decide)
      have hor : bits .or .i64 (((N / D30 : Nat) : Int) * 1073741824) ((N % D30 : Nat) : Int) = (N : Int) := by
        have hh := Bits.i64_or_nat (N / D30 * 2 ^ 30) (N % D30) (by omega) (by omega)
        have e := Nat.shiftLeft_add_eq_or_of_lt (show N % D30 < 2 ^ 30 by omega) (N / D30)
        rw [Nat.shiftLeft_eq] at e
        rw [← e] at hh
        have e2 : N / D30 * 2 ^ 30 + N % D30 = N := by have := Nat.div_add_mod N D30; unfold D30 at *; omega
        rw [e2] at hh
        rw [← hh]
        congr 1
      have HN := Lib.hid (show SmRel x (.int .i64 (N : Int)) (.int .i64 ((m : Int) - 1)) from ⟨m, by omega, rfl, by rw [hN]⟩)
      clear hdg hps hN hle
      generalize N / D30 = qd at *
      generalize N % D30 = rd at *
      go_wp2
      go_round
      case rel => exact HN.out
      case measure => simp [intOf]
    · obtain rfl : i = 0 := by omega
      rw [Nat.pow_zero, Nat.div_one]
      go_wp2
      go_ret2
      exact ⟨rfl, HB2.out⟩
theorem bigSmall_any {x : Nat} {v : Value} (w : World) (hv : IsB w x v) (hl : (bigL x).length ≤ 900000) : Calls Tryz.prog 121 #[v] w fun e w' => (∃ i : Int, e = .returned (.tuple #[.int .i64 i, .bool (decide (x ≤ 1000000000000000000))]) ∧ (x ≤ 1000000000000000000 → i = x)) ∧ Below w.heap.size w w' := by
  rcases Nat.lt_or_ge 1000000000000000000 x with h | h
  · rw [decide_eq_false (by omega)]
    exact (bigSmall_no w hv hl h).mono fun e w' ⟨h1, h2⟩ => ⟨⟨0, h1, fun h' => absurd h' (by omega)⟩, h2⟩
  · rw [decide_eq_true h]
    exact (bigSmall_yes w hv h).mono fun e w' ⟨h1, h2⟩ => ⟨⟨x, h1, fun _ => rfl⟩, h2⟩
end Go.Proofs.YtionognmgcabbaaGreat.Wide
/- The reference's fractions of any size: what is given, the zero. -/
namespace Go.Proofs.YtionognmgcabbaaGreat.Wide
open Go.RowKit Go.Proofs.YtionognmgcabbaaGreat Go.Proofs.YtionognmgcabbaaGreat.Base Go.Proofs.YtionognmgcabbaaGreat.Mem Go.Proofs.YtionognmgcabbaaGreat.RatM Go.Proofs.YtionognmgcabbaaGreat.BigM Go.Proofs.YtionognmgcabbaaGreat.Big Go.Proofs.YtionognmgcabbaaGreat.Fine Go.Proofs.YtionognmgcabbaaGreat.Blk
set_option linter.unusedVariables false
theorem zero_any (w : World) : Calls Tryz.prog 86 #[] w fun e w' => e = .returned (.agg #[.int .i64 0, .int .i64 1]) ∧ Below w.heap.size w w' := by
  go_enter Tryz.func86, Tryz.ntmps86
  go_wp2
  exact bodyPost_ret (v := .agg #[.int .i64 0, .int .i64 1]) (by simp [results, Tryz.results86, go_sem]) rfl ⟨rfl, (Below.refl _ _).alloc (Nat.le_refl _) _⟩
set_option maxHeartbeats 4000000 in
set_option maxRecDepth 100000 in
theorem give_any {q : Rat} {m : Nat} {v : Value} (w : World) (hv : IsW w q m v) (hm : m ≤ 400000) : Calls Tryz.prog 57 #[v] w (FRet q w) := by
  have HV := Lib.hid hv
  obtain ⟨s, A1, k1, c1, A2, k2, c2, fine, fn, fd, n, d, rfl, hp⟩ := hv
  have HP := Lib.hid hp
  obtain ⟨W2, hW2⟩ : ∃ W2, W2 = (w.alloc (.cells #[.bool s, .slice A1 k1 c1, .slice A2 k2 c2, .bool fine, .int .i64 fn, .int .i64 fd] 81)).alloc (.cells #[.int .i64 0, .int .i64 0] 43) := ⟨_, rfl⟩
  have K0 : Hid (Blk W2 w.heap.size 81 #[.bool s, .slice A1 k1 c1, .slice A2 k2 c2, .bool fine, .int .i64 fn, .int .i64 fd]) := Lib.hid (by rw [hW2]; exact (Blk.new w _ _).alloc _)
  have KR : Hid (Blk W2 (w.heap.size + 1) 43 #[.int .i64 0, .int .i64 0]) := Lib.hid (by rw [hW2]; exact Blk.newAt _ _ (by simp))
  have HB : Hid (Below w.heap.size w W2) := Lib.hid (by rw [hW2]; exact ((Below.refl _ _).alloc (Nat.le_refl _) _).alloc (by simp) _)
  have HW := Lib.hid hW2
  clear hW2 hp
  have x0 := K0.out.at 0 (v := .bool s) rfl
  have x1 := K0.out.at 1 (v := .slice A1 k1 c1) rfl
  have x2 := K0.out.at 2 (v := .slice A2 k2 c2) rfl
  have x3 := K0.out.at 3 (v := .bool fine) rfl
  have x4 := K0.out.at 4 (v := .int .i64 fn) rfl
  have x5 := K0.out.at 5 (v := .int .i64 fd) rfl
  go_enter Tryz.func57, Tryz.ntmps57
  go_upto_region 1 with (fail)
  rw [← HW.out]
  clear HW
  cases fine with
  | true =>
    have HE : Hid (numQ q = fn ∧ denQ q = fd ∧ smallQ q = true) := Lib.hid (by
      obtain ⟨h1, h2, _, _⟩ := HP.out.small rfl
      obtain ⟨g1, g2, _⟩ := h1.num
      have h3 := h1.small
      rw [h2] at g1 g2 h3
      obtain ⟨t1, t2⟩ := small_true h3
      obtain ⟨_, e1, e2⟩ := RatM.small_yes t1 t2
      exact ⟨by rw [e1, g1], by rw [e2, g2], h3⟩)
    clear HV
    have z0 := KR.out.frz 0
    have z1 := KR.out.frz 1
    have c0 := KR.out.at 0 (v := .int .i64 0) rfl
    have c1 := KR.out.at 1 (v := .int .i64 0) rfl
    have SS := (KR.out.setTo 0 (.int .i64 fn) rfl).setTo 1 (.int .i64 fd) rfl
    have s0 := SS.at 0 rfl
    have s1 := SS.at 1 rfl
    clear SS
    go_wp2
    refine bodyPost_ret (v := .tuple #[.agg #[.int .i64 fn, .int .i64 fd], .bool true]) (by simp [results, Tryz.results57, go_sem, s0, s1]) rfl ⟨by rw [HE.out.1, HE.out.2.1, HE.out.2.2], (HB.out.setCell (by simp) _).setCell (by simp) _⟩
  | false =>
    have hl := lowest_any W2 (HV.out.below HB.out) hm
    have HL := Lib.hid hl
    clear hl
    go_wp2_with fail
    refine HL.out.mono ?_
    rintro e w3 ⟨v, rfl, hv, hb3⟩
    obtain ⟨s', B1, j1, e1, B2, j2, e2, fi, gn, gd, n', d', rfl, hp', hn', hd'⟩ := hv
    clear HL HV HP x0 x1 x2 x3 x4 x5 K0
    replace KR := Lib.hid (KR.out.belowS hb3)
    replace HB := Lib.hid (Base.Below.nextA HB.out hb3)
    have HP := Lib.hid hp'
    have HND := Lib.hid (And.intro hn' hd')
    clear hp' hb3 hn' hd'
    go_upto_region 4 with (fail)
    obtain ⟨W4, hW4⟩ : ∃ W4, W4 = w3.alloc (.cells #[.bool s', .slice B1 j1 e1, .slice B2 j2 e2, .bool fi, .int .i64 gn, .int .i64 gd] 81) := ⟨_, rfl⟩
    rw [← hW4]
    have K4 : Hid (Blk W4 w3.heap.size 81 #[.bool s', .slice B1 j1 e1, .slice B2 j2 e2, .bool fi, .int .i64 gn, .int .i64 gd]) := Lib.hid (by rw [hW4]; exact Blk.new w3 _ _)
    replace KR : Hid (Blk W4 (w.heap.size + 1) 43 #[.int .i64 0, .int .i64 0]) := Lib.hid (by rw [hW4]; exact KR.out.alloc _)
    have hb4 : Below w3.heap.size w3 W4 := by rw [hW4]; exact (Below.refl _ _).alloc (Nat.le_refl _) _
    replace HB := Lib.hid (Base.Below.nextA HB.out hb4)
    replace HP := Lib.hid (HP.out.below hb4)
    clear hW4 hb4
    have y1 := K4.out.at 1 (v := .slice B1 j1 e1) rfl
    go_wp2_with fail
    refine (bigSmall_any W4 HP.out.num (Nat.le_trans HP.out.ln (by omega))).mono ?_
    rintro e w5 ⟨⟨i1, rfl, hi1⟩, hb5⟩
    replace K4 := Lib.hid (K4.out.belowS hb5)
    replace KR := Lib.hid (KR.out.belowS hb5)
    replace HB := Lib.hid (Base.Below.nextA HB.out hb5)
    replace HP := Lib.hid (HP.out.below hb5)
    have HI1 := Lib.hid hi1
    clear y1 hb5 hi1
    have y2 := K4.out.at 2 (v := .slice B2 j2 e2) rfl
    generalize ho1 : decide (n' ≤ 1000000000000000000) = o1 at *
    have HO1 := Lib.hid ho1
    clear ho1
    go_wp2_with fail
    refine (bigSmall_any w5 HP.out.den (Nat.le_trans HP.out.ld (by omega))).mono ?_
    rintro e w6 ⟨⟨i2, rfl, hi2⟩, hb6⟩
    replace K4 := Lib.hid (K4.out.belowS hb6)
    replace KR := Lib.hid (KR.out.belowS hb6)
    replace HB := Lib.hid (Base.Below.nextA HB.out hb6)
    replace HP := Lib.hid (HP.out.below hb6)
    have HI2 := Lib.hid hi2
    clear y2 hb6 hi2
    have y0 := K4.out.at 0 (v := .bool s') rfl
    generalize ho2 : decide (d' ≤ 1000000000000000000) = o2 at *
    have HO2 := Lib.hid ho2
    clear ho2
    cases o1 with
    | false =>
      have HE : Hid (numQ q = 0 ∧ denQ q = 0 ∧ smallQ q = false) := Lib.hid (by
        obtain ⟨g1, g2, g3⟩ := RatM.small_no (q := q) (.inl (by rw [← HND.out.1]; exact of_decide_eq_false HO1.out))
        exact ⟨g2, g3, g1⟩)
      cases o2 with
      | false =>
        have z0 := KR.out.frz 0
        have z1 := KR.out.frz 1
        have c0 := KR.out.at 0 (v := .int .i64 0) rfl
        have c1 := KR.out.at 1 (v := .int .i64 0) rfl
        have SS := (KR.out.setTo 0 (.int .i64 0) rfl).setTo 1 (.int .i64 0) rfl
        have s0 := SS.at 0 rfl
        have s1 := SS.at 1 rfl
        clear SS
        go_wp2
        refine bodyPost_ret (v := .tuple #[.agg #[.int .i64 0, .int .i64 0], .bool false]) (by simp [results, Tryz.results57, go_sem, s0, s1]) rfl ⟨by rw [HE.out.1, HE.out.2.1, HE.out.2.2], (HB.out.setCell (by simp) _).setCell (by simp) _⟩
      | true =>
        have z0 := KR.out.frz 0
        have z1 := KR.out.frz 1
        have c0 := KR.out.at 0 (v := .int .i64 0) rfl
        have c1 := KR.out.at 1 (v := .int .i64 0) rfl
        have SS := (KR.out.setTo 0 (.int .i64 0) rfl).setTo 1 (.int .i64 0) rfl
        have s0 := SS.at 0 rfl
        have s1 := SS.at 1 rfl
        clear SS
        go_wp2
        refine bodyPost_ret (v := .tuple #[.agg #[.int .i64 0, .int .i64 0], .bool false]) (by simp [results, Tryz.results57, go_sem, s0, s1]) rfl ⟨by rw [HE.out.1, HE.out.2.1, HE.out.2.2], (HB.out.setCell (by simp) _).setCell (by simp) _⟩
    | true =>
      cases o2 with
      | false =>
        have HE : Hid (numQ q = 0 ∧ denQ q = 0 ∧ smallQ q = false) := Lib.hid (by
          obtain ⟨g1, g2, g3⟩ := RatM.small_no (q := q) (.inr (by rw [← HND.out.2]; exact of_decide_eq_false HO2.out))
          exact ⟨g2, g3, g1⟩)
        have z0 := KR.out.frz 0
        have z1 := KR.out.frz 1
        have c0 := KR.out.at 0 (v := .int .i64 0) rfl
        have c1 := KR.out.at 1 (v := .int .i64 0) rfl
        have SS := (KR.out.setTo 0 (.int .i64 0) rfl).setTo 1 (.int .i64 0) rfl
        have s0 := SS.at 0 rfl
        have s1 := SS.at 1 rfl
        clear SS
        go_wp2
        refine bodyPost_ret (v := .tuple #[.agg #[.int .i64 0, .int .i64 0], .bool false]) (by simp [results, Tryz.results57, go_sem, s0, s1]) rfl ⟨by rw [HE.out.1, HE.out.2.1, HE.out.2.2], (HB.out.setCell (by simp) _).setCell (by simp) _⟩
      | true =>
        have t1 := of_decide_eq_true HO1.out
        have t2 := of_decide_eq_true HO2.out
        have k1 := HI1.out t1
        have k2 := HI2.out t2
        have hl0 : 0 ≤ i1 := by omega
        have hl1 : i1 ≤ 1000000000000000000 := by omega
        have hval := HP.out.val
        have HEE : Hid (numQ q = (if s' then -i1 else i1) ∧ denQ q = i2 ∧ smallQ q = true) := Lib.hid (by
          obtain ⟨g1, g2, g3⟩ := RatM.small_yes (q := q) (by rw [← HND.out.1]; exact t1) (by rw [← HND.out.2]; exact t2)
          have hg : Nat.gcd n' d' = 1 := by rw [HND.out.1, HND.out.2]; exact q.reduced
          obtain ⟨l1, l2⟩ := low_of (s := s') (n := n') (d := d') (Nat.ne_of_gt HP.out.pos) hg
          rw [hval] at l1 l2
          exact ⟨by rw [g2, l1, k1], by rw [g3, l2, k2], g1⟩)
        clear t1 t2 k1 k2 hval
        cases s' with
        | true =>
          have HE : Hid (numQ q = -i1 ∧ denQ q = i2 ∧ smallQ q = true) := HEE
          clear HEE
          have z0 := KR.out.frz 0
          have z1 := KR.out.frz 1
          have c0 := KR.out.at 0 (v := .int .i64 0) rfl
          have c1 := KR.out.at 1 (v := .int .i64 0) rfl
          have SS := (KR.out.setTo 0 (.int .i64 (-i1)) rfl).setTo 1 (.int .i64 i2) rfl
          have s0 := SS.at 0 rfl
          have s1 := SS.at 1 rfl
          clear SS
          go_wp2
          refine bodyPost_ret (v := .tuple #[.agg #[.int .i64 (-i1), .int .i64 i2], .bool true]) (by simp [results, Tryz.results57, go_sem, s0, s1]) rfl ⟨by rw [HE.out.1, HE.out.2.1, HE.out.2.2], (HB.out.setCell (by simp) _).setCell (by simp) _⟩
        | false =>
          have HE : Hid (numQ q = i1 ∧ denQ q = i2 ∧ smallQ q = true) := HEE
          clear HEE
          have z0 := KR.out.frz 0
          have z1 := KR.out.frz 1
          have c0 := KR.out.at 0 (v := .int .i64 0) rfl
          have c1 := KR.out.at 1 (v := .int .i64 0) rfl
          have SS := (KR.out.setTo 0 (.int .i64 i1) rfl).setTo 1 (.int .i64 i2) rfl
          have s0 := SS.at 0 rfl
          have s1 := SS.at 1 rfl
          clear SS
          go_wp2
          refine bodyPost_ret (v := .tuple #[.agg #[.int .i64 i1, .int .i64 i2], .bool true]) (by simp [results, Tryz.results57, go_sem, s0, s1]) rfl ⟨by rw [HE.out.1, HE.out.2.1, HE.out.2.2], (HB.out.setCell (by simp) _).setCell (by simp) _⟩
end Go.Proofs.YtionognmgcabbaaGreat.Wide
/- Lists of wide fractions in memory: six cells an element; pushing, reading. -/
namespace Go.Proofs.YtionognmgcabbaaGreat.Wide
open Go.RowKit Go.Proofs.YtionognmgcabbaaGreat Go.Proofs.YtionognmgcabbaaGreat.Base Go.Proofs.YtionognmgcabbaaGreat.Mem Go.Proofs.YtionognmgcabbaaGreat.RatM Go.Proofs.YtionognmgcabbaaGreat.BigM Go.Proofs.YtionognmgcabbaaGreat.Big Go.Proofs.YtionognmgcabbaaGreat.Fine Go.Proofs.YtionognmgcabbaaGreat.Blk Go.Proofs.YtionognmgcabbaaGreat.GaussM
set_option linter.unusedVariables false
def six (s : Bool) (vn vd : Value) (fine : Bool) (fn fd : Int) : List Value := [.bool s, vn, vd, .bool fine, .int .i64 fn, .int .i64 fd]
/-- an element of the cells cs -/
def ElW (w : World) (cs : List Value) (i : Nat) (q : Rat) (m : Nat) : Prop :=
  ∃ s A1 k1 c1 A2 k2 c2 fine fn fd n d, (cs.drop (i * 6)).take 6 = six s (.slice A1 k1 c1) (.slice A2 k2 c2) fine fn fd ∧ Parts w q m s (.slice A1 k1 c1) (.slice A2 k2 c2) fine fn fd n d
/-- the n elements of a row of the call's own are the rationals f -/
structure OwnW (w : World) (B : Nat) (v : Value) (n : Nat) (f : Nat → Rat) (m : Nat) (cs : List Value) : Prop where
  row : w.ownsRow B 81 6 v n cs
  els : ∀ i, i < n → ElW w cs i (f i) m
theorem ElW.below {w w' : World} {cs : List Value} {i m : Nat} {q : Rat} (h : ElW w cs i q m) (hb : Below w.heap.size w w') : ElW w' cs i q m := by
  obtain ⟨s, A1, k1, c1, A2, k2, c2, fine, fn, fd, n, d, e, hp⟩ := h
  exact ⟨s, A1, k1, c1, A2, k2, c2, fine, fn, fd, n, d, e, hp.below hb⟩
theorem OwnW.below {w w' : World} {B n m : Nat} {v : Value} {f : Nat → Rat} {cs : List Value} (h : OwnW w B v n f m cs) (hb : Below w.heap.size w w') : OwnW w' B v n f m cs :=
  ⟨ownsRow_below h.row hb, fun i hi => (h.els i hi).below hb⟩
theorem OwnW.form {w : World} {B n m : Nat} {v : Value} {f : Nat → Rat} {cs : List Value} (h : OwnW w B v n f m cs) : ∃ A c, v = .slice A n c ∧ (0 < n → ∃ g, A = some ⟨g, 0, none⟩ ∧ B ≤ g ∧ g < w.heap.size) := ownsRow_form h.row
theorem OwnW.more {w : World} {B n m m' : Nat} {v : Value} {f : Nat → Rat} {cs : List Value} (h : OwnW w B v n f m cs) (hm : m ≤ m') : OwnW w B v n f m' cs :=
  ⟨h.row, fun i hi => by
    obtain ⟨s, A1, k1, c1, A2, k2, c2, fine, fn, fd, n, d, e, hp⟩ := h.els i hi
    exact ⟨s, A1, k1, c1, A2, k2, c2, fine, fn, fd, n, d, e, hp.more hm⟩⟩
theorem OwnW.base {w : World} {B B' n m : Nat} {v : Value} {f : Nat → Rat} {cs : List Value} (h : OwnW w B v n f m cs) (hB : B' ≤ B) : OwnW w B' v n f m cs := ⟨ownsRow_base h.row hB, h.els⟩
theorem OwnW.congr {w : World} {B n m : Nat} {v : Value} {f f' : Nat → Rat} {cs : List Value} (h : OwnW w B v n f m cs) (hf : ∀ i, i < n → f i = f' i) : OwnW w B v n f' m cs :=
  ⟨h.row, fun i hi => by rw [← hf i hi]; exact h.els i hi⟩
/-- an element is read -/
theorem OwnW.at {w : World} {B n m c : Nat} {A : Option Addr} {f : Nat → Rat} {cs : List Value} (h : OwnW w B (.slice A n c) n f m cs) {i : Nat} (hi : i < n) :
    ∃ g s A1 k1 c1 A2 k2 c2 fine fn fd nn dd, A = some ⟨g, 0, none⟩ ∧ g < w.heap.size ∧ w.cell? ⟨g, i * 6, none⟩ = some (.bool s) ∧ w.cell? ⟨g, i * 6 + 1, none⟩ = some (.slice A1 k1 c1) ∧ w.cell? ⟨g, i * 6 + 2, none⟩ = some (.slice A2 k2 c2) ∧
      w.cell? ⟨g, i * 6 + 3, none⟩ = some (.bool fine) ∧ w.cell? ⟨g, i * 6 + 4, none⟩ = some (.int .i64 fn) ∧ w.cell? ⟨g, i * 6 + 5, none⟩ = some (.int .i64 fd) ∧ Parts w (f i) m s (.slice A1 k1 c1) (.slice A2 k2 c2) fine fn fd nn dd := by
  obtain ⟨A', c', e, hf⟩ := h.form
  injection e with e1 e2 e3
  subst e1 e3
  obtain ⟨g, rfl, _, hlt⟩ := hf (by omega)
  obtain ⟨s, A1, k1, c1, A2, k2, c2, fine, fn, fd, nn, dd, e, hp⟩ := h.els i hi
  have key : ∀ k, k < 6 → w.cell? ⟨g, i * 6 + k, none⟩ = (six s (.slice A1 k1 c1) (.slice A2 k2 c2) fine fn fd)[k]? := fun k hk => by
    rw [World.ownsRow.cellAt h.row (i * 6 + k) (by omega), ← e, List.getElem?_take, if_pos hk, List.getElem?_drop]
  exact ⟨g, s, A1, k1, c1, A2, k2, c2, fine, fn, fd, nn, dd, rfl, hlt, key 0 (by decide), key 1 (by decide), key 2 (by decide), key 3 (by decide), key 4 (by decide), key 5 (by decide), hp⟩
theorem infoW : (Tryz.prog.info? 81).map (fun i => (i.zero, i.size, i.bytes)) = some (some (.agg #[.bool false, .slice none 0 0, .slice none 0 0, .bool false, .int .i64 0, .int .i64 0]), 6, 80) := by kernel_rfl
theorem ones_six {s fine : Bool} {A1 A2 : Option Addr} {k1 c1 k2 c2 : Nat} {fn fd : Int} : ∀ u ∈ six s (.slice A1 k1 c1) (.slice A2 k2 c2) fine fn fd, u.oneCell' = true := by
  intro u hu
  simp only [six, List.mem_cons, List.not_mem_nil, or_false] at hu
  rcases hu with rfl | rfl | rfl | rfl | rfl | rfl <;> rfl
theorem news_six (w : World) (t : TypeId) {u0 u1 u2 u3 u4 u5 : Value} {g : Nat} (hg : g = w.heap.size) : ∀ (j : Nat) (x : Value), [u0, u1, u2, u3, u4, u5][j]? = some x → (w.alloc (.cells #[u0, u1, u2, u3, u4, u5] t)).cell? ((⟨g, 0, none⟩ : Addr).add j) = some x := by
  subst hg
  intro j x hx
  have e : (#[u0, u1, u2, u3, u4, u5] : Array Value)[j]? = some x := by rw [← Array.getElem?_toList]; exact hx
  rw [Addr.add_lit]
  exact (World.cell?_alloc_new w #[u0, u1, u2, u3, u4, u5] t (0 + j)).trans (by rw [Nat.zero_add]; exact e)
/-- digits stay as they are while a row of another type grows -/
theorem IsB.kept {w w' : World} {B size n x : Nat} {t : TypeId} {u v : Value} {xs : List Value} (h : IsB w x u) (hr : w.ownsRow B t size v n xs) (ht : t ≠ 2) (hg : w.grownBy w' v.ownBlock) : IsB w' x u :=
  World.ownsRow.kept h hg (own_ne h hr (fun e => ht e.symm))
theorem Parts.kept {w w' : World} {q : Rat} {m : Nat} {s : Bool} {vn vd : Value} {fine : Bool} {fn fd : Int} {nn dd : Nat} {B size n : Nat} {t : TypeId} {v : Value} {xs : List Value} (h : Parts w q m s vn vd fine fn fd nn dd) (hr : w.ownsRow B t size v n xs) (ht : t ≠ 2) (hg : w.grownBy w' v.ownBlock) : Parts w' q m s vn vd fine fn fd nn dd :=
  ⟨IsB.kept h.num hr ht hg, IsB.kept h.den hr ht hg, h.pos, h.val, h.ln, h.ld, h.small⟩
/-- an element is pushed -/
theorem OwnW.push {wr w1 w2 : World} {B n m : Nat} {v v' : Value} {f : Nat → Rat} {cs : List Value} {s fine : Bool} {A1 A2 : Option Addr} {k1 c1 k2 c2 nn dd : Nat} {fn fd : Int} {ca : Array Value} {t : TypeId} (h : OwnW wr B v n f m cs) (h1 : Below wr.heap.size wr w1)
    (hp : Parts w1 (f n) m s (.slice A1 k1 c1) (.slice A2 k2 c2) fine fn fd nn dd) (hown : w2.ownsRow B 81 6 v' (n + 1) (cs ++ six s (.slice A1 k1 c1) (.slice A2 k2 c2) fine fn fd)) (hg : (w1.alloc (.cells ca t)).grownBy w2 v.ownBlock) :
    OwnW w2 B v' (n + 1) f m (cs ++ six s (.slice A1 k1 c1) (.slice A2 k2 c2) fine fn fd) := by
  have hb2 : Below w1.heap.size w1 (w1.alloc (.cells ca t)) := (Below.refl _ _).alloc (Nat.le_refl _) _
  have hA := (h.below h1).below hb2
  have hlen : cs.length = n * 6 := h.row.1
  refine ⟨hown, fun i hi => ?_⟩
  rcases Nat.lt_or_ge i n with hlt | hge
  · obtain ⟨s', B1, j1, e1, B2, j2, e2, fi, gn, gd, n', d', e, hp'⟩ := hA.els i hlt
    refine ⟨s', B1, j1, e1, B2, j2, e2, fi, gn, gd, n', d', ?_, hp'.kept hA.row (by decide) hg⟩
    rw [List.drop_append_of_le_length (by omega), List.take_append_of_le_length (by rw [List.length_drop]; omega)]
    exact e
  · obtain rfl : i = n := by omega
    refine ⟨s, A1, k1, c1, A2, k2, c2, fine, fn, fd, nn, dd, ?_, (hp.below hb2).kept hA.row (by decide) hg⟩
    rw [List.drop_append, List.drop_of_length_le (by omega), hlen, Nat.sub_self]
    rfl
theorem OwnW.nil (w : World) (B : Nat) (f : Nat → Rat) (m : Nat) : OwnW w B (.slice none 0 0) 0 f m [] := ⟨World.ownsRow_nil w B _ 6, fun i hi => absurd hi (Nat.not_lt_zero i)⟩
theorem OwnW.lit0 (w : World) (f : Nat → Rat) (m : Nat) : OwnW (w.alloc (.cells #[] 81)) w.heap.size (.slice (some ⟨w.heap.size, 0, none⟩) 0 0) 0 f m [] :=
  ⟨World.ownsRow_made w #[] 0 (Nat.le_refl _) (Nat.zero_le _) (by simp), fun i hi => absurd hi (Nat.not_lt_zero i)⟩
/-- a list that is returned -/
def WsRet (n : Nat) (f : Nat → Rat) (m : Nat) (w : World) (e : Ending) (w' : World) : Prop := ∃ v cs, e = .returned v ∧ OwnW w' w.heap.size v n f m cs ∧ Below w.heap.size w w'
end Go.Proofs.YtionognmgcabbaaGreat.Wide
