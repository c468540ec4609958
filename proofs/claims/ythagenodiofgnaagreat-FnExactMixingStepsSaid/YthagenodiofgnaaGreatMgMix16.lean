/- The reference: a step of a walk. -/
import Derived.Test.YthagenodiofgnaaGreatMgMix15
import Derived.Deep.Cut
import Derived.Test.YthagenodiofgnaaGreatMgMix12
import Derived.Test.YthagenodiofgnaaGreatMgMix13
import Derived.Test.YthagenodiofgnaaGreatMgMix14
import Derived.Test.YthagenodiofgnaaGreatMgMix07
import Derived.Test.YthagenodiofgnaaGreatMgMix05
import Derived.Test.YthagenodiofgnaaGreatMgMix06
namespace Go.Proofs.YthagenodiofgnaaGreat.ComS
open Go.RowKit Go.Proofs.YthagenodiofgnaaGreat Go.Proofs.YthagenodiofgnaaGreat.Base Go.Proofs.YthagenodiofgnaaGreat.Mem Go.Proofs.YthagenodiofgnaaGreat.BigM Go.Proofs.YthagenodiofgnaaGreat.Big Go.Proofs.YthagenodiofgnaaGreat.Blk Go.Proofs.YthagenodiofgnaaGreat.MemF Go.Proofs.YthagenodiofgnaaGreat.ChM Go.Proofs.YthagenodiofgnaaGreat.ComM Go.Proofs.YthagenodiofgnaaGreat.RatM Go.Proofs.YthagenodiofgnaaGreat.Wide
set_option linter.unusedVariables false
def BsRet (n : Nat) (f : Nat → Nat) (w : World) (e : Ending) (w' : World) : Prop := ∃ A c us, e = .returned (.slice A n c) ∧ OwnB w' w.heap.size (.slice A n c) n f us ∧ Below w.heap.size w w'
def partN (n : Nat) (R v : Nat → Nat) (i k : Nat) : Nat := sumN i (fun i => v i * R (i * n + k))
def SmB (n : Nat) (R v : Nat → Nat) (k : Nat) (w : World) (sv iv : Value) (wr : World) : Prop :=
 ∃ (i : Nat) (A : Option Addr) (c : Nat), iv = .int .i64 (i : Int) ∧ i ≤ n ∧ sv = .slice A (bigL (partN n R v i k)).length c ∧ Hid (IsB wr (partN n R v i k) (.slice A (bigL (partN n R v i k)).length c)) ∧ Hid (Below w.heap.size w wr)
theorem SmB.start (n : Nat) (R v : Nat → Nat) (k : Nat) (w : World) : SmB n R v k w (.slice (some ⟨w.heap.size, 0, none⟩) 0 0) (.int .i64 0) (w.alloc (.cells #[] 2)) := by
 have h0 : partN n R v 0 k = 0 := rfl
 refine ⟨0, some ⟨w.heap.size, 0, none⟩, 0, rfl, Nat.zero_le _, ?_, Lib.hid ?_, Lib.hid ((Below.refl _ _).alloc (Nat.le_refl _) _)⟩
 ·rw [h0, bigL_zero]; rfl
 ·rw [h0, bigL_zero]
  exact (Dig.lit0 w).isB bigL_zero.symm
set_option maxHeartbeats 2000000 in
set_option maxRecDepth 100000 in
theorem stepS_any {A A' : Option Addr} {c c' n a b B B' : Nat} {R v : Nat → Nat} {us us' : List Value} (w : World) (hx : OwnB w B (.slice A (n * n) c) (n * n) R us) (hy : OwnB w B' (.slice A' n c') n v us') (hn : n ≤ 100) (hv : ∀ i, i < n → v i < D30 ^ a) (hR : ∀ j, j < n * n → R j < D30 ^ b) (hab : a + b + 1 ≤ 900000) :
  Calls Tryz.prog 35 #[.slice A (n * n) c, .slice A' n c'] w (BsRet n (stepN n R v) w) := by
 have HX := Lib.hid hx
 have HY := Lib.hid hy
 have HV := Lib.hid hv
 have HR := Lib.hid hR
 obtain ⟨ig, gi, gz0, gz1, gz2⟩ := info_parts infoBg
 have H0 := Lib.hid (GrB.start n (stepN n R v) w)
 clear hx hy hv hR
 have HNN : Hid (∀ i, i < n → i * n + n ≤ n * n) := Lib.hid fun i hi => by
  have := Nat.mul_le_mul_right n (show i + 1 ≤ n by omega)
  rw [Nat.add_mul] at this
  omega
 have hnn : n * n ≤ 10000 := Nat.mul_le_mul hn hn
 obtain ⟨N2, hN2⟩ : ∃ N2, N2 = n * n := ⟨_, rfl⟩
 rw [← hN2] at HX HR HNN hnn ⊢
 clear hN2
 go_enter Tryz.func35, Tryz.ntmps35
 go_wp2
 go_loopw [6, 7] (fun ov kv wr => GrB n (stepN n R v) w ov kv wr) (fun _ kv _ => n - (intOf kv).toNat)
 case atStart => exact H0.out
 case round =>
  obtain ⟨k, us, rfl, hk, HO, HB⟩ := hrel
  clear H0
  by_cases hkn : k < n
  ·obtain ⟨w1, rfl⟩ : ∃ x, x = wr := ⟨_, rfl⟩
   have H1 := Lib.hid (SmB.start n R v k w1)
   go_wp2
   go_loopw [8, 9] (fun sv iv w2 => SmB n R v k w1 sv iv w2) (fun _ iv _ => n - (intOf iv).toNat)
   case atStart => exact H1.out
   case round =>
    obtain ⟨i, A2, c2, rfl, hi, rfl, HS, HB2⟩ := hrel
    clear H1
    by_cases hlt : i < n
    ·have hin := HNN.out i hlt
     obtain ⟨gv, A3, c3, ev3, hgv, hvc, hvb⟩ := (HY.out.below (Base.Below.nextA HB.out HB2.out)).at hlt
     obtain ⟨gr, A4, c4, er4, hgr, hrc, hrb⟩ := (HX.out.below (Base.Below.nextA HB.out HB2.out)).at (show i * n + k < N2 by omega)
     subst ev3 er4
     have hlx : (bigL (v i)).length ≤ 1000000 := Nat.le_trans (bigL_len_le (HV.out i hlt)) (by omega)
     have hly : (bigL (R (i * n + k))).length ≤ 1000000 := Nat.le_trans (bigL_len_le (HR.out _ (by omega))) (by omega)
     have hls : (bigL (partN n R v i k)).length ≤ 1000000 := Nat.le_trans (bigL_len_le (part_lt' hn (Nat.le_of_lt hlt) HV.out (fun i k h1 h2 => HR.out _ (by have := HNN.out i h1; omega)) hkn)) (by omega)
     have hlp : (bigL (v i * R (i * n + k))).length ≤ 1000000 := Nat.le_trans (bigL_len_le (mul_lt (HV.out i hlt) (HR.out _ (by omega)))) (by omega)
     have HNX : Hid (partN n R v (i + 1) k = partN n R v i k + v i * R (i * n + k)) := Lib.hid rfl
     have HVx := Lib.hid hvb
     have HRy := Lib.hid hrb
     have hmul : (i : Int) * (n : Int) = ((i * n : Nat) : Int) := by simp
     have hi1 : i * n ≤ 10000 := by omega
     have hJ0 : i * n + k < N2 := by omega
     clear hvb hrb hin
     generalize hxe : v i = x at *
     generalize hye : R (i * n + k) = y at *
     have HXE := Lib.hid (And.intro hxe hye)
     clear hxe hye
     generalize hse : partN n R v i k = s at *
     have HSE := Lib.hid hse
     clear hse
     obtain ⟨j, hj⟩ : ∃ j, j = i * n := ⟨_, rfl⟩
     rw [← hj] at hmul hi1 hrc
     obtain ⟨J, hJ⟩ : ∃ J, J = j + k := ⟨_, rfl⟩
     have hJN : J < N2 := by rw [hJ, hj]; exact hJ0
     have hJI : (J : Int) < (N2 : Int) := by omega
     have hw1 : IntKind.i64.wrap (j : Int) = (j : Int) := by rw [IntKind.wrap_i64]; omega
     have hw2 : IntKind.i64.wrap ((j : Int) + (k : Int)) = (J : Int) := by rw [IntKind.wrap_i64, hJ]; omega
     rw [← hJ] at hrc
     clear hj hJ hJ0
     go_upto_region 10 with (fail)
     refine Rel.wp_region_rel 15 (by kernel_rfl) (by kernel_rfl) (fun F hF => ?_)
     simp only [List.take_succ_cons, List.take_zero, List.drop_succ_cons, List.drop_zero, Rel.putL] at hF ⊢
     have HF := Lib.hid hF
     clear hF
     have uv := @Rel.upon_value Tryz.prog
     have ue := @Rel.upon_enter Tryz.prog
     apply Rel.rel_pure
     apply Exists.intro
     refine ⟨fun vs wq hq hdp R hR => ?_, ?_⟩
     ·(rw [HF.out, Rel.stepAt_eq]; clear hdp; skip; go_simp; exact hR)
     apply Rel.rel_pure
     apply Exists.intro
     refine ⟨fun vs wq hq hdp R hR => ?_, ?_⟩
     ·(rw [HF.out, Rel.stepAt_eq]; clear hdp; skip; go_simp; exact hR)
     apply Rel.rel_pure
     apply Exists.intro
     refine ⟨fun vs wq hq hdp R hR => ?_, ?_⟩
     ·(rw [HF.out, Rel.stepAt_eq]; clear hdp; skip; go_simp; exact hR)
     apply Rel.rel_pure
     apply Exists.intro
     refine ⟨fun vs wq hq hdp R hR => ?_, ?_⟩
     ·(rw [HF.out, Rel.stepAt_eq]; have qd1 : vs 1 = _ := Rel.dep hdp 1 (by kernel_rfl); have qd2 : vs 2 = _ := Rel.dep hdp 2 (by kernel_rfl); clear hdp; skip; go_simp; exact hR)
     apply Rel.rel_pure
     apply Exists.intro
     refine ⟨fun vs wq hq hdp R hR => ?_, ?_⟩
     ·(rw [HF.out, Rel.stepAt_eq]; have qd3 : vs 3 = _ := Rel.dep hdp 3 (by kernel_rfl); clear hdp; have y0 := (hq.cell (p := ⟨gv, i, none⟩) hgv).trans hvc; go_simp; exact hR)
     apply Rel.rel_pure
     apply Exists.intro
     refine ⟨fun vs wq hq hdp R hR => ?_, ?_⟩
     ·(rw [HF.out, Rel.stepAt_eq]; clear hdp; skip; go_simp; exact hR)
     apply Rel.rel_pure
     apply Exists.intro
     refine ⟨fun vs wq hq hdp R hR => ?_, ?_⟩
     ·(rw [HF.out, Rel.stepAt_eq]; clear hdp; skip; go_simp; exact hR)
     apply Rel.rel_pure
     apply Exists.intro
     refine ⟨fun vs wq hq hdp R hR => ?_, ?_⟩
     ·(rw [HF.out, Rel.stepAt_eq]; clear hdp; skip; go_simp; exact hR)
     apply Rel.rel_pure
     apply Exists.intro
     refine ⟨fun vs wq hq hdp R hR => ?_, ?_⟩
     ·(rw [HF.out, Rel.stepAt_eq]; have qd6 : vs 6 = _ := Rel.dep hdp 6 (by kernel_rfl); have qd7 : vs 7 = _ := Rel.dep hdp 7 (by kernel_rfl); clear hdp; skip; go_simp; exact hR)
     apply Rel.rel_pure
     apply Exists.intro
     refine ⟨fun vs wq hq hdp R hR => ?_, ?_⟩
     ·(rw [HF.out, Rel.stepAt_eq]; clear hdp; skip; go_simp; exact hR)
     apply Rel.rel_pure
     apply Exists.intro
     refine ⟨fun vs wq hq hdp R hR => ?_, ?_⟩
     ·(rw [HF.out, Rel.stepAt_eq]; have qd8 : vs 8 = _ := Rel.dep hdp 8 (by kernel_rfl); have qd9 : vs 9 = _ := Rel.dep hdp 9 (by kernel_rfl); clear hdp; skip; go_simp; exact hR)
     apply Rel.rel_pure
     apply Exists.intro
     refine ⟨fun vs wq hq hdp R hR => ?_, ?_⟩
     ·(rw [HF.out, Rel.stepAt_eq]; have qd5 : vs 5 = _ := Rel.dep hdp 5 (by kernel_rfl); have qd10 : vs 10 = _ := Rel.dep hdp 10 (by kernel_rfl); clear hdp; skip; go_simp; exact hR)
     apply Rel.rel_pure
     apply Exists.intro
     refine ⟨fun vs wq hq hdp R hR => ?_, ?_⟩
     ·(rw [HF.out, Rel.stepAt_eq]; have qd11 : vs 11 = _ := Rel.dep hdp 11 (by kernel_rfl); clear hdp; have u0 := (hq.cell (p := ⟨gr, J, none⟩) hgr).trans hrc; go_simp; exact hR)
     refine Rel.rel_law (S := fun v w' => IsB w' (x * y) v) (isB_mono _) (fun vs wq hq hdp => ?_) ?_
     ·(rw [HF.out, Rel.stepAt_eq]; have qd4 : vs 4 = _ := Rel.dep hdp 4 (by kernel_rfl); have qd12 : vs 12 = _ := Rel.dep hdp 12 (by kernel_rfl); clear hdp; skip; go_simp; refine (bigTimes_any wq (HVx.out.below hq) (HRy.out.below hq) hlx hly).mono ?_; rintro e w7 ⟨v, rfl, hv, hb⟩; exact ⟨_, rfl, hv, hb⟩)
     refine Rel.rel_law (S := fun v w' => IsB w' (s + x * y) v) (isB_mono _) (fun vs wq hq hdp => ?_) ?_
     ·(rw [HF.out, Rel.stepAt_eq]; have qd0 : vs 0 = _ := Rel.dep hdp 0 (by kernel_rfl); have qd13 : IsB wq _ (vs 13) := Rel.dep hdp 13 (by kernel_rfl); clear hdp; skip; go_simp; refine (bigPlus_any wq (HS.out.below hq) qd13 hls hlp).mono ?_; rintro e w7 ⟨v, rfl, hv, hb⟩; exact ⟨_, rfl, hv, hb⟩)
     refine Rel.rel_end (fun vs wq hq hall => ?_)
     rw [HF.out]
     have qe0 : vs 0 = _ := Rel.fin hall 0 (by decide)
     have qe1 : vs 1 = _ := Rel.fin hall 1 (by decide)
     have qe2 : vs 2 = _ := Rel.fin hall 2 (by decide)
     have qe3 : vs 3 = _ := Rel.fin hall 3 (by decide)
     have qe4 : vs 4 = _ := Rel.fin hall 4 (by decide)
     have qe5 : vs 5 = _ := Rel.fin hall 5 (by decide)
     have qe6 : vs 6 = _ := Rel.fin hall 6 (by decide)
     have qe7 : vs 7 = _ := Rel.fin hall 7 (by decide)
     have qe8 : vs 8 = _ := Rel.fin hall 8 (by decide)
     have qe9 : vs 9 = _ := Rel.fin hall 9 (by decide)
     have qe10 : vs 10 = _ := Rel.fin hall 10 (by decide)
     have qe11 : vs 11 = _ := Rel.fin hall 11 (by decide)
     have qe12 : vs 12 = _ := Rel.fin hall 12 (by decide)
     have qe13 : IsB wq _ (vs 13) := Rel.fin hall 13 (by decide)
     have qe14 : IsB wq _ (vs 14) := Rel.fin hall 14 (by decide)
     clear hall HF uv ue
     obtain ⟨A5, c5, ev5, _⟩ := Dig.form qe14
     rw [ev5] at qe14
     have HN : Hid (SmB n R v k w1 (.slice A5 (bigL (s + x * y)).length c5) (.int .i64 ((i : Int) + 1)) wq) := Lib.hid ⟨i + 1, A5, c5, by simp, hlt, by rw [HNX.out], Lib.hid (by rw [HNX.out]; exact qe14), Lib.hid (Base.Below.nextA HB2.out hq)⟩
     clear qe14 hq HS HB2 HNX HVx HRy hw1 hw2 qe0 qe1 qe2 qe3 qe4 qe5 qe6 qe7 qe8 qe9 qe10 qe11 qe12 qe13 hvc hrc
     go_wp2
     go_roundw
     case rel => exact HN.out
     case measure => simp [intOf]; omega
    ·obtain rfl : i = n := by omega
     have HSS : Hid (IsB wr (stepN i R v k) (.slice A2 (bigL (partN i R v i k)).length c2)) := Lib.hid HS.out
     have HN := Lib.hid (fun w3 v' ca t hown hg => GrB.next (w2 := w3) (v' := v') (ca := ca) (t := t) hkn HO.out HB.out HB2.out HSS.out hown hg)
     have HOA := Lib.hid (World.ownsRow.alloc (ownsRow_below HO.out.row HB2.out) (.cells #[.slice A2 (bigL (partN i R v i k)).length c2] 64))
     have hs1 := HB.out.size
     have hs2 := HB2.out.size
     clear HS HSS HO HB HB2
     generalize (bigL (partN i R v i k)).length = l at *
     go_wp2_with (at_builtin; refine wpList_append_own_at _ rfl (.tmp 39) (.tmp 41) 62 rfl w.heap.size 64 ig (.slice none 0 0) 1 24 Tryz.underlying62 gi gz0 gz1 gz2 rfl (by decide) _ _ _ rfl HOA.out ⟨wr.heap.size, 0, none⟩ 1 1 [.slice A2 l c2] rfl rfl ?p1b ?p2b ?p3b ?p4b ?p5b ?_)
     try case p1b => exact news_one _ _ _ (by simp)
     try case p2b => (intro u hu; simp only [List.mem_cons, List.not_mem_nil, or_false] at hu; subst hu; rfl)
     try case p3b => first | (simp only [maxLen]; omega) | omega
     try case p4b => omega
     try case p5b => first | (simp only [World.size_alloc]; omega) | omega
     intro v' w8 hown' hg' _ he
     have HN3 := Lib.hid (HN.out w8 v' _ _ hown' hg')
     clear hown' hg' he HN HOA
     go_wp2
     go_roundw
     case rel => exact HN3.out
     case measure => simp [intOf]; omega
  ·obtain rfl : k = n := by omega
   obtain ⟨A9, c9, rfl, _⟩ := HO.out.form
   have HF : Hid (BsRet k (stepN k R v) w (.returned (.slice A9 k c9)) wr) := Lib.hid ⟨A9, c9, us, rfl, HO.out, HB.out⟩
   clear HO HB
   go_wp2
   go_ret
   exact HF.out
end Go.Proofs.YthagenodiofgnaaGreat.ComS
namespace Go.Proofs.YthagenodiofgnaaGreat.ComS
open Go.RowKit Go.Proofs.YthagenodiofgnaaGreat Go.Proofs.YthagenodiofgnaaGreat.Base Go.Proofs.YthagenodiofgnaaGreat.Mem Go.Proofs.YthagenodiofgnaaGreat.BigM Go.Proofs.YthagenodiofgnaaGreat.Big Go.Proofs.YthagenodiofgnaaGreat.Blk Go.Proofs.YthagenodiofgnaaGreat.MemF Go.Proofs.YthagenodiofgnaaGreat.ChM Go.Proofs.YthagenodiofgnaaGreat.ComM Go.Proofs.YthagenodiofgnaaGreat.RatM Go.Proofs.YthagenodiofgnaaGreat.Wide
set_option linter.unusedVariables false
theorem ownB_kept {w w' : World} {B B' n m size : Nat} {t : TypeId} {u v : Value} {f : Nat → Nat} {us xs : List Value} (h : OwnB w B u n f us) (hr : w.ownsRow B' t size v m xs) (h1 : t ≠ 64) (h2 : t ≠ 2) (hg : w.grownBy w' v.ownBlock) : OwnB w' B u n f us :=
 ⟨World.ownsRow.kept h.row hg (own_ne h.row hr (fun e => h1 e.symm)), fun i hi => by
  obtain ⟨x, e, hx⟩ := h.els i hi
  exact ⟨x, e, IsB.kept hx hr h2 hg⟩⟩
theorem blk_own {w : World} {g B n : Nat} {e : TypeId} {cs : Array Value} (K : Blk w g e cs) (hB : B ≤ g) (hn : cs.size = n) (hm : n ≤ maxLen) : w.ownsRow B e 1 (.slice (some ⟨g, 0, none⟩) n n) n cs.toList :=
 ⟨by simp [hn], .inr ⟨g, n, cs, rfl, hB, K, Nat.le_refl _, hm, by omega, by rw [List.take_of_length_le (by simp [hn])]⟩⟩
theorem own_set {w : World} {g B n c i : Nat} {e : TypeId} {us : List Value} (h : w.ownsRow B e 1 (.slice (some ⟨g, 0, none⟩) n c) n us) (x : Value) : (w.setCell ⟨g, i, none⟩ x).ownsRow B e 1 (.slice (some ⟨g, 0, none⟩) n c) n (us.set i x) := by
 refine ⟨by rw [List.length_set]; exact h.1, ?_⟩
 rcases h.2 with ⟨e1, _⟩ | ⟨g', cap, cur, e1, h2, h3, h4, h5, h6, h7⟩
 ·cases e1
 ·injection e1 with e1 e2 e3
  injection e1 with e1
  injection e1 with e1
  subst e1 e3
  have K : Blk w g e cur := h3
  have K' := K.setTo i x rfl
  refine .inr ⟨g, c, cur.setIfInBounds i x, rfl, h2, K', h4, h5, by simpa using h6, ?_⟩
  rw [Array.toList_setIfInBounds, List.take_set, h7]
structure OwnBB (w : World) (B : Nat) (v : Value) (k n : Nat) (M : Nat → Nat → Nat) (us : List Value) : Prop where
 row : w.ownsRow B 62 1 v k us
 els : ∀ i, i < k → ∃ A c us', us[i]? = some (.slice A n c) ∧ OwnB w B (.slice A n c) n (M i) us'
theorem OwnBB.below {w w' : World} {B k n : Nat} {v : Value} {M : Nat → Nat → Nat} {us : List Value} (h : OwnBB w B v k n M us) (hb : Below w.heap.size w w') : OwnBB w' B v k n M us :=
 ⟨ownsRow_below h.row hb, fun i hi => by
  obtain ⟨A, c, us', e, h1⟩ := h.els i hi
  exact ⟨A, c, us', e, h1.below hb⟩⟩
theorem OwnBB.congr {w : World} {B k n : Nat} {v : Value} {M M' : Nat → Nat → Nat} {us : List Value} (h : OwnBB w B v k n M us) (hM : ∀ i j, i < k → j < n → M i j = M' i j) : OwnBB w B v k n M' us :=
 ⟨h.row, fun i hi => by
  obtain ⟨A, c, us', e, h1⟩ := h.els i hi
  exact ⟨A, c, us', e, h1.congr (fun j hj => hM i j hi hj)⟩⟩
theorem OwnBB.form {w : World} {B k n : Nat} {v : Value} {M : Nat → Nat → Nat} {us : List Value} (h : OwnBB w B v k n M us) : ∃ A c, v = .slice A k c ∧ (0 < k → ∃ g, A = some ⟨g, 0, none⟩ ∧ B ≤ g ∧ g < w.heap.size) := ownsRow_form h.row
theorem OwnBB.lit0 (w : World) (n : Nat) (M : Nat → Nat → Nat) : OwnBB (w.alloc (.cells #[] 62)) w.heap.size (.slice (some ⟨w.heap.size, 0, none⟩) 0 0) 0 n M [] :=
 ⟨World.ownsRow_made w #[] 0 (Nat.le_refl _) (Nat.zero_le _) (by simp), fun i hi => absurd hi (Nat.not_lt_zero i)⟩
theorem OwnBB.push {wr w1 w2 : World} {B k n c : Nat} {A : Option Addr} {v v' : Value} {M : Nat → Nat → Nat} {us us' : List Value} {ca : Array Value} {t : TypeId} (h : OwnBB wr B v k n M us) (h1 : Below wr.heap.size wr w1) (hr : OwnB w1 B (.slice A n c) n (M k) us')
  (hown : w2.ownsRow B 62 1 v' (k + 1) (us ++ [.slice A n c])) (hg : (w1.alloc (.cells ca t)).grownBy w2 v.ownBlock) : OwnBB w2 B v' (k + 1) n M (us ++ [.slice A n c]) := by
 have hb2 : Below w1.heap.size w1 (w1.alloc (.cells ca t)) := (Below.refl _ _).alloc (Nat.le_refl _) _
 have hA := (h.below h1).below hb2
 have hlen : us.length = k := by have := h.row.1; omega
 refine ⟨hown, fun i hi => ?_⟩
 rcases Nat.lt_or_ge i k with hlt | hge
 ·obtain ⟨A', c', us', e, hr'⟩ := hA.els i hlt
  exact ⟨A', c', us', by rw [List.getElem?_append_left (by omega)]; exact e, ownB_kept hr' hA.row (by decide) (by decide) hg⟩
 ·obtain rfl : i = k := by omega
  exact ⟨A, c, us', by rw [List.getElem?_append_right (by omega), hlen, Nat.sub_self]; rfl, ownB_kept (hr.below hb2) hA.row (by decide) (by decide) hg⟩
theorem OwnBB.at {w : World} {B k n c i : Nat} {A : Option Addr} {M : Nat → Nat → Nat} {us : List Value} (h : OwnBB w B (.slice A k c) k n M us) (hi : i < k) : ∃ g A1 c1 us', A = some ⟨g, 0, none⟩ ∧ g < w.heap.size ∧ w.cell? ⟨g, i, none⟩ = some (.slice A1 n c1) ∧ OwnB w B (.slice A1 n c1) n (M i) us' := by
 obtain ⟨A', c', e, hf⟩ := h.form
 injection e with e1 e2 e3
 subst e1 e3
 obtain ⟨g, rfl, _, hlt⟩ := hf (by omega)
 obtain ⟨A1, c1, us', e, h1⟩ := h.els i hi
 have hlen : us.length = k := by have := h.row.1; omega
 exact ⟨g, A1, c1, us', rfl, hlt, by rw [World.ownsRow.cellAt h.row i (by omega)]; exact e, h1⟩
theorem OwnBB.blk {w : World} {B k n c g : Nat} {M : Nat → Nat → Nat} {us : List Value} (h : OwnBB w B (.slice (some ⟨g, 0, none⟩) k c) k n M us) : B ≤ g ∧ ∃ cs, Blk w g 62 cs := by
 obtain ⟨cur, h1, h2, _⟩ := ownsRow_block h.row (g := g) rfl
 exact ⟨h2, cur, h1⟩
theorem OwnBB.setRow {w : World} {B k n c g i c' : Nat} {A' : Option Addr} {M : Nat → Nat → Nat} {f' : Nat → Nat} {us us' : List Value} (h : OwnBB w B (.slice (some ⟨g, 0, none⟩) k c) k n M us) (hi : i < k) (hr : OwnB w B (.slice A' n c') n f' us') :
  OwnBB (w.setCell ⟨g, i, none⟩ (.slice A' n c')) B (.slice (some ⟨g, 0, none⟩) k c) k n (fun j => if j = i then f' else M j) (us.set i (.slice A' n c')) := by
 have hlen : us.length = k := by have := h.row.1; omega
 have hgr : w.grownBy (w.setCell ⟨g, i, none⟩ (.slice A' n c')) (Value.slice (some ⟨g, 0, none⟩) k c).ownBlock := Src.grown_setCell w ⟨g, i, none⟩ _
 refine ⟨own_set h.row _, fun j hj => ?_⟩
 by_cases e : j = i
 ·subst e
  simp only [if_true]
  exact ⟨A', c', us', by rw [List.getElem?_set_self (by omega)], ownB_kept hr h.row (by decide) (by decide) hgr⟩
 ·simp only [e, if_false]
  obtain ⟨A1, c1, us1, e1, h1⟩ := h.els j hj
  exact ⟨A1, c1, us1, by rw [List.getElem?_set_ne (fun e2 => e e2.symm)]; exact e1, ownB_kept h1 h.row (by decide) (by decide) hgr⟩
theorem unit_row {w : World} {B g n k : Nat} {u : Value} (K : Blk w g 64 (madeCells #[.slice none 0 0] n)) (hB : B ≤ g) (hn : n ≤ 1000) (hk : k < n) (hu : IsB w 1 u) : ∃ us, OwnB (w.setCell ⟨g, k, none⟩ u) B (.slice (some ⟨g, 0, none⟩) n n) n (fun i => if i = k then 1 else 0) us := by
 have h0 := blk_own K hB (size_madeCells _ _) (show n ≤ maxLen by simp [maxLen]; omega)
 have hgr : w.grownBy (w.setCell ⟨g, k, none⟩ u) (Value.slice (some ⟨g, 0, none⟩) n n).ownBlock := Src.grown_setCell w ⟨g, k, none⟩ _
 refine ⟨_, own_set (i := k) h0 u, fun i hi => ?_⟩
 by_cases e : i = k
 ·subst e
  rw [if_pos rfl]
  exact ⟨u, by rw [List.getElem?_set_self (by simp [size_madeCells]; omega)], IsB.kept hu h0 (by decide) hgr⟩
 ·rw [if_neg e]
  refine ⟨.slice none 0 0, by rw [List.getElem?_set_ne (fun e2 => e e2.symm), toList_madeCells_one]; simp [hi], ?_⟩
  show World.ownsRow _ _ _ _ _ _ _
  rw [bigL_zero]
  exact World.ownsRow_nil _ _ _ _
end Go.Proofs.YthagenodiofgnaaGreat.ComS
namespace Go.Proofs.YthagenodiofgnaaGreat.ComS
open Go.RowKit Go.Proofs.YthagenodiofgnaaGreat Go.Proofs.YthagenodiofgnaaGreat.Base Go.Proofs.YthagenodiofgnaaGreat.Mem Go.Proofs.YthagenodiofgnaaGreat.BigM Go.Proofs.YthagenodiofgnaaGreat.Big Go.Proofs.YthagenodiofgnaaGreat.Blk Go.Proofs.YthagenodiofgnaaGreat.MemF Go.Proofs.YthagenodiofgnaaGreat.ChM Go.Proofs.YthagenodiofgnaaGreat.ComM Go.Proofs.YthagenodiofgnaaGreat.RatM Go.Proofs.YthagenodiofgnaaGreat.Wide
set_option linter.unusedVariables false
def adN (a b : Nat) : Nat := if a < b then b - a else a - b
theorem adN_lt {a b P : Nat} (ha : a < P) (hb : b < P) : adN a b < P := by
 unfold adN
 split <;> omega
theorem sumN_lt {n P : Nat} {f : Nat → Nat} (hP : 0 < P) (h : ∀ i, i < n → f i < P) : ∀ i, i ≤ n → sumN i f ≤ i * P
 | 0, _ => Nat.zero_le _
 | i + 1, hi => by
  have := sumN_lt hP h i (by omega)
  have := h i (by omega)
  rw [sumN, Nat.add_mul]
  omega
theorem sum_dg {n k : Nat} {f : Nat → Nat} (hn : n ≤ 100) (h : ∀ i, i < n → f i < D30 ^ k) (i : Nat) (hi : i ≤ n) : sumN i f < D30 ^ (k + 1) := by
 have hP : 0 < D30 ^ k := Nat.pow_pos D30_pos
 have h1 := sumN_lt hP h i hi
 rw [Nat.pow_succ, Nat.mul_comm]
 refine Nat.lt_of_le_of_lt h1 (Nat.mul_lt_mul_of_pos_right ?_ hP)
 have : 100 < D30 := by decide
 omega
def clN (E D : Nat) (v T : Nat → Nat) (i : Nat) : Nat := sumN i fun i => adN (v i * E) (T i * D)
def ClRel (n E D : Nat) (v T : Nat → Nat) (w : World) (iv ov : Value) (wr : World) : Prop :=
 ∃ (i : Nat) (A : Option Addr) (c : Nat), iv = .int .i64 (i : Int) ∧ i ≤ n ∧ ov = .slice A (bigL (clN E D v T i)).length c ∧ Hid (IsB wr (clN E D v T i) (.slice A (bigL (clN E D v T i)).length c)) ∧ Hid (Below w.heap.size w wr)
theorem cmpN_le (a b : Nat) : decide (cmpN a b ≤ 0) = decide (a ≤ b) := by
 unfold cmpN
 by_cases h1 : a < b
 ·rw [if_pos h1, decide_eq_true (show a ≤ b by omega)]; decide
 ·rw [if_neg h1]
  by_cases h2 : b < a
  ·rw [if_pos h2, decide_eq_false (show ¬ a ≤ b by omega)]; decide
  ·rw [if_neg h2, decide_eq_true (show a ≤ b by omega)]; decide
set_option maxHeartbeats 2000000 in
set_option maxRecDepth 100000 in
theorem closeS_any {A A' A1 A2 : Option Addr} {c c' c1 c2 n a B B' D E x y : Nat} {v T : Nat → Nat} {us us' : List Value} (w : World) (hx : OwnB w B (.slice A n c) n v us) (hd : IsB w D (.slice A1 (bigL D).length c1)) (hy : OwnB w B' (.slice A' n c') n T us') (he : IsB w E (.slice A2 (bigL E).length c2)) (hn : n ≤ 100) (hx0 : x ≤ 1000000000000000000) (hy0 : y ≤ 1000000000000000000)
  (hv : ∀ i, i < n → v i < D30 ^ a) (hT : ∀ i, i < n → T i < D30 ^ a) (hD : D < D30 ^ a) (hE : E < D30 ^ a) (ha : a ≤ 100000) :
  Calls Tryz.prog 34 #[.slice A n c, .slice A1 (bigL D).length c1, .slice A' n c', .slice A2 (bigL E).length c2, .agg #[.int .i64 (x : Int), .int .i64 (y : Int)]] w fun e w' => e = .returned (.bool (decide (clN E D v T n * y ≤ 2 * D * E * x))) ∧ Below w.heap.size w w' := by
 obtain ⟨W0, hW0⟩ : ∃ W0, W0 = w.alloc (.cells #[.int .i64 (x : Int), .int .i64 (y : Int)] 34) := ⟨_, rfl⟩
 have hb0 : Below w.heap.size w W0 := by rw [hW0]; exact (Below.refl _ _).alloc (Nat.le_refl _) _
 have K9 : Hid (Blk W0 w.heap.size 34 #[.int .i64 (x : Int), .int .i64 (y : Int)]) := Lib.hid (by rw [hW0]; exact Blk.new w _ _)
 have HX := Lib.hid (hx.below hb0)
 have HY := Lib.hid (hy.below hb0)
 have HD := Lib.hid (hd.below hb0)
 have HE := Lib.hid (he.below hb0)
 have HB0 := Lib.hid hb0
 have HW0 := Lib.hid hW0
 have hlen : ∀ z k, z < D30 ^ k → (bigL z).length ≤ k := fun z k h => bigL_len_le h
 have hm1 : ∀ i, i < n → v i * E < D30 ^ (a + a) := fun i hi => mul_lt (hv i hi) hE
 have hm2 : ∀ i, i < n → T i * D < D30 ^ (a + a) := fun i hi => mul_lt (hT i hi) hD
 have hsm : ∀ i, i ≤ n → clN E D v T i < D30 ^ (a + a + 1) := fun i hi => sum_dg hn (fun j hj => adN_lt (hm1 j hj) (hm2 j hj)) i hi
 have ht : (1000000000000000000 : Nat) < D30 ^ 3 := by decide
 have h2 : (2 : Nat) < D30 ^ 1 := by decide
 have HSZ : Hid ((bigL 2).length ≤ 1000000 ∧ (bigL D).length ≤ 1000000 ∧ (bigL (2 * D)).length ≤ 1000000 ∧ (bigL E).length ≤ 1000000 ∧ (bigL (2 * D * E)).length ≤ 1000000 ∧ (bigL x).length ≤ 1000000) := Lib.hid (by
  have d1 := hlen _ _ (mul_lt h2 hD)
  have d2 := hlen _ _ (mul_lt (mul_lt h2 hD) hE)
  have d3 := hlen _ _ hD
  have d4 := hlen _ _ hE
  have d5 := hlen _ _ h2
  have d6 := hlen x 3 (by omega)
  exact ⟨by omega, by omega, by omega, by omega, by omega, by omega⟩)
 have HL1 : Hid (∀ i, i < n → (bigL (v i)).length ≤ 1000000 ∧ (bigL (T i)).length ≤ 1000000 ∧ (bigL (v i * E)).length ≤ 1000000 ∧ (bigL (T i * D)).length ≤ 1000000) := Lib.hid (fun i hi => by
  have d1 := hlen _ _ (hv i hi)
  have d2 := hlen _ _ (hT i hi)
  have d3 := hlen _ _ (hm1 i hi)
  have d4 := hlen _ _ (hm2 i hi)
  exact ⟨by omega, by omega, by omega, by omega⟩)
 have HL2 : Hid (∀ i, i ≤ n → (bigL (clN E D v T i)).length ≤ 1000000) := Lib.hid (fun i hi => by have := hlen _ _ (hsm i hi); omega)
 have HL3 : Hid (∀ i, i < n → (bigL (adN (v i * E) (T i * D))).length ≤ 1000000) := Lib.hid (fun i hi => by have := hlen _ _ (adN_lt (hm1 i hi) (hm2 i hi)); omega)
 have HL4 : Hid ((bigL y).length ≤ 1000000 ∧ (bigL (clN E D v T n * y)).length ≤ 4000000 ∧ (bigL (2 * D * E * x)).length ≤ 4000000) := Lib.hid (by
  have d1 := hlen y 3 (by omega)
  have d2 := hlen _ _ (mul_lt (hsm n (Nat.le_refl _)) (show y < D30 ^ 3 by omega))
  have d3 := hlen _ _ (mul_lt (mul_lt (mul_lt h2 hD) hE) (show x < D30 ^ 3 by omega))
  exact ⟨by omega, by omega, by omega⟩)
 have H0 : Hid (ClRel n E D v T W0 (.int .i64 0) (.slice (some ⟨W0.heap.size, 0, none⟩) 0 0) (W0.alloc (.cells #[] 2))) := Lib.hid (by
  have h0 : clN E D v T 0 = 0 := rfl
  refine ⟨0, some ⟨W0.heap.size, 0, none⟩, 0, rfl, Nat.zero_le _, ?_, Lib.hid ?_, Lib.hid ((Below.refl _ _).alloc (Nat.le_refl _) _)⟩
  ·rw [h0, bigL_zero]; rfl
  ·rw [h0, bigL_zero]
   exact (Dig.lit0 W0).isB bigL_zero.symm)
 clear hx hy hd he hv hT hD hE hlen hm1 hm2 hsm ht h2 hW0 hb0
 go_enter Tryz.func34, Tryz.ntmps34
 go_wp2_with fail
 rw [← HW0.out]
 go_loopw [12, 11] (fun iv ov wr => ClRel n E D v T W0 iv ov wr) (fun iv _ _ => n - (intOf iv).toNat)
 case atStart => exact (by rw [show w.heap.size + 1 = W0.heap.size by rw [HW0.out]; simp]; exact H0.out)
 case round =>
  obtain ⟨i, Ao, co, rfl, hi, rfl, HO, HB⟩ := hrel
  clear H0
  by_cases hin : i < n
  ·have hin2 : (i : Int) < (n : Int) := by omega
   obtain ⟨gv, Av, cv, rfl, hgv, y0, hbv⟩ := (HX.out.below HB.out).at hin
   have HT1 := Lib.hid (bigTimes_any wr hbv (HE.out.below HB.out) (HL1.out i hin).1 HSZ.out.2.2.2.1)
   clear hbv
   go_wp2_with fail
   refine HT1.out.mono ?_
   rintro e w5 ⟨va, rfl, hva, hb5⟩
   obtain ⟨Aa, ca, rfl, _⟩ := Dig.form hva
   have HB5 := Lib.hid (Base.Below.nextA HB.out hb5)
   have HO5 := Lib.hid (HO.out.below hb5)
   have HA5 := Lib.hid hva
   obtain ⟨gt, At, ct, rfl, hgt, y1, hbt⟩ := (HY.out.below HB5.out).at hin
   have HT2 := Lib.hid (bigTimes_any w5 hbt (HD.out.below HB5.out) (HL1.out i hin).2.1 HSZ.out.2.1)
   clear hbt hva hb5 y0 HT1 HB HO
   go_wp2_with fail
   refine HT2.out.mono ?_
   rintro e w6 ⟨vb, rfl, hvb, hb6⟩
   obtain ⟨Ab, cb, rfl, _⟩ := Dig.form hvb
   have HB6 := Lib.hid (Base.Below.nextA HB5.out hb6)
   have HO6 := Lib.hid (HO5.out.below hb6)
   have HA6 := Lib.hid (HA5.out.below hb6)
   have HV6 := Lib.hid hvb
   have HCM := Lib.hid (bigCmp_any w6 HA6.out hvb (by have := (HL1.out i hin).2.2.1; omega) (by have := (HL1.out i hin).2.2.2; omega))
   clear hvb hb6 y1 HT2 HB5 HO5 HA5
   have hadL := HL3.out i hin
   have hclL := HL2.out i hi
   have hcN : clN E D v T (i + 1) = clN E D v T i + adN (v i * E) (T i * D) := rfl
   have hL1 := (HL1.out i hin).2.2.1
   have hL2 := (HL1.out i hin).2.2.2
   by_cases hab : v i * E < T i * D
   case' pos =>
    have had : adN (v i * E) (T i * D) = T i * D - v i * E := by unfold adN; rw [if_pos hab]
    rw [cmpN_lt hab] at HCM
    rw [had] at hcN hadL
    have HCN := Lib.hid hcN
    clear hcN had
    go_wp2_with fail
    refine HCM.out.mono ?_
    rintro e w7 ⟨rfl, hw7⟩
    have hb7 : Below w6.heap.size w6 w7 := Drawn.below hw7
    have HMI := Lib.hid (fun (h : Below w6.heap.size w6 w7) => bigMinus_any w7 (HV6.out.below h) (HA6.out.below h) (by omega) (Nat.le_of_lt hab))
    have HMI2 := Lib.hid (HMI.out hb7)
    have HO7 := Lib.hid (HO6.out.below hb7)
    have HB7 := Lib.hid (Base.Below.nextA HB6.out hb7)
    clear HMI hb7 hw7 HO6 HB6 HA6 HV6
    clear HCM hab
    go_wp2_with fail
    refine HMI2.out.mono ?_
    rintro e w8 ⟨vd, rfl, hvd, hb8⟩
   case' neg =>
    have had : adN (v i * E) (T i * D) = v i * E - T i * D := by unfold adN; rw [if_neg hab]
    have hz : ¬ cmpN (v i * E) (T i * D) < 0 := by
     unfold cmpN
     rw [if_neg hab]
     split <;> decide
    rw [had] at hcN hadL
    have HCN := Lib.hid hcN
    clear hcN had
    have HAB := Lib.hid hab
    clear hab
    generalize cmpN (v i * E) (T i * D) = z at *
    go_wp2_with fail
    refine HCM.out.mono ?_
    rintro e w7 ⟨rfl, hw7⟩
    have hb7 : Below w6.heap.size w6 w7 := Drawn.below hw7
    have HMI := Lib.hid (fun (h : Below w6.heap.size w6 w7) => bigMinus_any w7 (HA6.out.below h) (HV6.out.below h) (by omega) (Nat.le_of_not_lt HAB.out))
    have HMI2 := Lib.hid (HMI.out hb7)
    have HO7 := Lib.hid (HO6.out.below hb7)
    have HB7 := Lib.hid (Base.Below.nextA HB6.out hb7)
    clear HMI hb7 hw7 HO6 HB6 HA6 HV6
    clear HCM HAB
    go_wp2_with fail
    refine HMI2.out.mono ?_
    rintro e w8 ⟨vd, rfl, hvd, hb8⟩
   all_goals
    obtain ⟨Ad, cd, rfl, _⟩ := Dig.form hvd
    have HPL := Lib.hid (bigPlus_any w8 (HO7.out.below hb8) hvd hclL hadL)
    have HB8 := Lib.hid (Base.Below.nextA HB7.out hb8)
    clear hvd hb8 HMI2 HO7 HB7
    go_wp2_with fail
    refine HPL.out.mono ?_
    rintro e w9 ⟨vs2, rfl, hvs, hb9⟩
    rw [← HCN.out] at hvs
    obtain ⟨As, cs, rfl, _⟩ := Dig.form hvs
    have HN : Hid (ClRel n E D v T W0 (.int .i64 ((i : Int) + 1)) (.slice As (bigL (clN E D v T (i + 1))).length cs) w9) := Lib.hid ⟨i + 1, As, cs, by simp, hin, rfl, Lib.hid hvs, Lib.hid (Base.Below.nextA HB8.out hb9)⟩
    clear hvs hb9 HPL HB8 HCN
    go_wp2
    go_roundw
    case rel => exact HN.out
    case measure => simp [intOf]; omega
  ·obtain rfl : n = i := by omega
   have y1 := (K9.out.belowS HB.out).at 1 (v := .int .i64 (y : Int)) rfl
   go_wp2_with fail
   refine (bigOf_any y (by omega) _).mono ?_
   rintro e w5 ⟨vy, rfl, hvy, hb5⟩
   obtain ⟨Ay, cy, rfl, _⟩ := Dig.form hvy
   have HT1 := Lib.hid (bigTimes_any w5 (HO.out.below hb5) hvy (HL2.out n (Nat.le_refl _)) HL4.out.1)
   have HB5 := Lib.hid (Base.Below.nextA HB.out hb5)
   clear hvy hb5 y1 HO HB
   go_wp2_with fail
   refine HT1.out.mono ?_
   rintro e w6 ⟨vl, rfl, hvl, hb6⟩
   obtain ⟨Al, cl, rfl, _⟩ := Dig.form hvl
   have HB := Lib.hid (Base.Below.nextA HB5.out hb6)
   have HVL := Lib.hid hvl
   clear hvl hb6 HT1 HB5
   go_upto_region 11 with (fail)
   refine Rel.wp_region_rel 9 (by kernel_rfl) (by kernel_rfl) (fun F hF => ?_)
   simp only [List.take_succ_cons, List.take_zero, List.drop_succ_cons, List.drop_zero, Rel.putL] at hF ⊢
   have HF := Lib.hid hF
   clear hF
   have uv := @Rel.upon_value Tryz.prog
   have ue := @Rel.upon_enter Tryz.prog
   refine Rel.rel_law (S := fun v w' => IsB w' 2 v) (isB_mono _) (fun vs wq hq hdp => ?_) ?_
   ·(rw [HF.out, Rel.stepAt_eq]; clear hdp; skip; go_simp; refine (bigOf_any 2 (by decide) wq).mono ?_; rintro e w7 ⟨v, rfl, hv, hb⟩; exact ⟨_, rfl, hv, hb⟩)
   apply Rel.rel_pure
   apply Exists.intro
   refine ⟨fun vs wq hq hdp R hR => ?_, ?_⟩
   ·(rw [HF.out, Rel.stepAt_eq]; clear hdp; skip; go_simp; exact hR)
   refine Rel.rel_law (S := fun v w' => IsB w' (2 * D) v) (isB_mono _) (fun vs wq hq hdp => ?_) ?_
   ·(rw [HF.out, Rel.stepAt_eq]; have qd0 : IsB wq _ (vs 0) := Rel.dep hdp 0 (by kernel_rfl); have qd1 : vs 1 = _ := Rel.dep hdp 1 (by kernel_rfl); clear hdp; skip; go_simp; refine (bigTimes_any wq qd0 (HD.out.below (Base.Below.nextA HB.out hq)) HSZ.out.1 HSZ.out.2.1).mono ?_; rintro e w7 ⟨v, rfl, hv, hb⟩; exact ⟨_, rfl, hv, hb⟩)
   apply Rel.rel_pure
   apply Exists.intro
   refine ⟨fun vs wq hq hdp R hR => ?_, ?_⟩
   ·(rw [HF.out, Rel.stepAt_eq]; clear hdp; skip; go_simp; exact hR)
   refine Rel.rel_law (S := fun v w' => IsB w' (2 * D * E) v) (isB_mono _) (fun vs wq hq hdp => ?_) ?_
   ·(rw [HF.out, Rel.stepAt_eq]; have qd2 : IsB wq _ (vs 2) := Rel.dep hdp 2 (by kernel_rfl); have qd3 : vs 3 = _ := Rel.dep hdp 3 (by kernel_rfl); clear hdp; skip; go_simp; refine (bigTimes_any wq qd2 (HE.out.below (Base.Below.nextA HB.out hq)) HSZ.out.2.2.1 HSZ.out.2.2.2.1).mono ?_; rintro e w7 ⟨v, rfl, hv, hb⟩; exact ⟨_, rfl, hv, hb⟩)
   apply Rel.rel_pure
   apply Exists.intro
   refine ⟨fun vs wq hq hdp R hR => ?_, ?_⟩
   ·(rw [HF.out, Rel.stepAt_eq]; clear hdp; skip; go_simp; exact hR)
   apply Rel.rel_pure
   apply Exists.intro
   refine ⟨fun vs wq hq hdp R hR => ?_, ?_⟩
   ·(rw [HF.out, Rel.stepAt_eq]; have qd5 : vs 5 = _ := Rel.dep hdp 5 (by kernel_rfl); clear hdp; have y0 := (K9.out.belowS (Base.Below.nextA HB.out hq)).at 0 (v := .int .i64 (x : Int)) rfl; go_simp; exact hR)
   refine Rel.rel_law (S := fun v w' => IsB w' x v) (isB_mono _) (fun vs wq hq hdp => ?_) ?_
   ·(rw [HF.out, Rel.stepAt_eq]; have qd6 : vs 6 = _ := Rel.dep hdp 6 (by kernel_rfl); clear hdp; skip; go_simp; refine (bigOf_any x (by omega) wq).mono ?_; rintro e w7 ⟨v, rfl, hv, hb⟩; exact ⟨_, rfl, hv, hb⟩)
   refine Rel.rel_law (S := fun v w' => IsB w' (2 * D * E * x) v) (isB_mono _) (fun vs wq hq hdp => ?_) ?_
   ·(rw [HF.out, Rel.stepAt_eq]; have qd4 : IsB wq _ (vs 4) := Rel.dep hdp 4 (by kernel_rfl); have qd7 : IsB wq _ (vs 7) := Rel.dep hdp 7 (by kernel_rfl); clear hdp; skip; go_simp; refine (bigTimes_any wq qd4 qd7 HSZ.out.2.2.2.2.1 HSZ.out.2.2.2.2.2).mono ?_; rintro e w7 ⟨v, rfl, hv, hb⟩; exact ⟨_, rfl, hv, hb⟩)
   refine Rel.rel_end (fun vs wq hq hall => ?_)
   rw [HF.out]
   have qe0 : IsB wq _ (vs 0) := Rel.fin hall 0 (by decide)
   have qe1 : vs 1 = _ := Rel.fin hall 1 (by decide)
   have qe2 : IsB wq _ (vs 2) := Rel.fin hall 2 (by decide)
   have qe3 : vs 3 = _ := Rel.fin hall 3 (by decide)
   have qe4 : IsB wq _ (vs 4) := Rel.fin hall 4 (by decide)
   have qe5 : vs 5 = _ := Rel.fin hall 5 (by decide)
   have qe6 : vs 6 = _ := Rel.fin hall 6 (by decide)
   have qe7 : IsB wq _ (vs 7) := Rel.fin hall 7 (by decide)
   have qe8 : IsB wq _ (vs 8) := Rel.fin hall 8 (by decide)
   clear hall HF uv ue
   obtain ⟨Ar, cr, evr, _⟩ := Dig.form qe8
   have hqe := evr
   have HCM := Lib.hid (bigCmp_any wq (v := .slice Ar (bigL (2 * D * E * x)).length cr) (HVL.out.below hq) (by rw [← evr]; exact qe8) HL4.out.2.1 HL4.out.2.2)
   have HBQ := Lib.hid (Base.Below.nextA HB.out hq)
   have HR := Lib.hid (cmpN_le (clN E D v T n * y) (2 * D * E * x))
   clear qe0 qe2 qe4 qe6 qe7 qe8 hq evr HVL HB
   generalize cmpN (clN E D v T n * y) (2 * D * E * x) = z at *
   go_wp2_with fail
   refine HCM.out.mono ?_
   rintro e w9 ⟨rfl, hw9⟩
   have hb9 : Below wq.heap.size wq w9 := Drawn.below hw9
   have HB9 := Lib.hid (Base.Below.nextA HB0.out (Base.Below.nextA HBQ.out hb9))
   clear hb9 hw9 HCM
   go_wp2
   go_ret
   exact ⟨by rw [← HR.out]; rfl, HB9.out⟩
end Go.Proofs.YthagenodiofgnaaGreat.ComS
namespace Go.Proofs.YthagenodiofgnaaGreat.Ratio
open Go.RowKit Go.Proofs.YthagenodiofgnaaGreat Go.Proofs.YthagenodiofgnaaGreat.Base Go.Proofs.YthagenodiofgnaaGreat.Mem Go.Proofs.YthagenodiofgnaaGreat.NatM Go.Proofs.YthagenodiofgnaaGreat.Nat32 Go.Proofs.YthagenodiofgnaaGreat.RatM Go.Proofs.YthagenodiofgnaaGreat.GaussM Go.Proofs.YthagenodiofgnaaGreat.ChM Go.Proofs.YthagenodiofgnaaGreat.WalkM Go.Proofs.YthagenodiofgnaaGreat.GiveM
open Go.Proofs.YthagenodiofgnaaGreat.ComM (over qv_over sumN sumN_cast)
open Go.Proofs.YthagenodiofgnaaGreat.ComS (adN clN)
set_option linter.unusedVariables false
theorem cast_lt' {a b : Nat} (h : a < b) : (a : Rat) < (b : Rat) := by
 have h1 := cast_le (show a + 1 ≤ b from h)
 rw [Rat.natCast_add] at h1
 have : ((1 : Nat) : Rat) = 1 := rfl
 rw [this] at h1
 grind
theorem cast_pos' {a : Nat} (h : 0 < a) : (0 : Rat) < (a : Rat) := cast_lt' h
theorem over_mul {a P : Nat} (hP : 0 < P) : over a P * (P : Rat) = (a : Rat) := by
 unfold over
 exact Rat.div_mul_cancel (natCast_ne (by omega))
theorem eq_over {q : Rat} {k P : Nat} (hP : 0 < P) (h : q * (P : Rat) = (k : Rat)) : q = over k P := by
 have hn := natCast_ne (show P ≠ 0 by omega)
 unfold over
 rw [← h, Rat.mul_div_cancel hn]
theorem over_nonneg {k P : Nat} (hP : 0 < P) : 0 ≤ over k P := by
 have h := over_mul (a := k) hP
 have hp := cast_pos' hP
 have hk := cast_le (Nat.zero_le k)
 have h0 : ((0 : Nat) : Rat) = 0 := rfl
 rw [h0] at hk
 by_cases hz : 0 ≤ over k P
 ·exact hz
 ·have := Rat.mul_pos (show 0 < -over k P by grind) hp
  grind
theorem ab_diff {a b D E : Nat} (hD : 0 < D) (hE : 0 < E) : absR (over a D - over b E) = over (adN (a * E) (b * D)) (D * E) := by
 have h1 := over_mul (a := a) hD
 have h2 := over_mul (a := b) hE
 have hDE : 0 < D * E := Nat.mul_pos hD hE
 have hc : ((D * E : Nat) : Rat) = (D : Rat) * (E : Rat) := Rat.natCast_mul _ _
 unfold adN
 by_cases h : a * E < b * D
 ·rw [if_pos h]
  obtain ⟨k, hk⟩ := Nat.le.dest (Nat.le_of_lt h)
  have e : b * D - a * E = k := by omega
  rw [e]
  have hk' : ((a : Rat) * (E : Rat)) + (k : Rat) = (b : Rat) * (D : Rat) := by
   rw [← Rat.natCast_mul, ← Rat.natCast_mul, ← Rat.natCast_add, hk]
  have e2 : over b E - over a D = over k (D * E) := eq_over hDE (by rw [hc]; grind)
  have hpos := over_nonneg (k := k) hDE
  have hne : over b E - over a D ≠ 0 := fun e0 => by
   rw [e2] at e0
   have h5 := over_mul (a := k) hDE
   rw [e0, Rat.zero_mul] at h5
   have : (0 : Rat) < (k : Rat) := cast_pos' (by omega)
   grind
  unfold absR
  rw [if_pos (by grind), ← e2]
  grind
 ·rw [if_neg h]
  obtain ⟨k, hk⟩ := Nat.le.dest (Nat.le_of_not_lt h)
  have e : a * E - b * D = k := by omega
  rw [e]
  have hk' : ((b : Rat) * (D : Rat)) + (k : Rat) = (a : Rat) * (E : Rat) := by
   rw [← Rat.natCast_mul, ← Rat.natCast_mul, ← Rat.natCast_add, hk]
  have e2 : over a D - over b E = over k (D * E) := eq_over hDE (by rw [hc]; grind)
  have hpos := over_nonneg (k := k) hDE
  unfold absR
  rw [if_neg (by grind), e2]
theorem over_sum {n P : Nat} (hP : 0 < P) (a : Nat → Nat) : sumR n (fun i => over (a i) P) = over (sumN n a) P := by
 refine eq_over hP ?_
 rw [sumN_cast, Rat.mul_comm, ← sumR_mul]
 exact sumR_congr fun i _ => by rw [Rat.mul_comm]; exact over_mul hP
theorem close_iff {n D E x y : Nat} {v T : Nat → Nat} {f g : Nat → Rat} (hD : 0 < D) (hE : 0 < E) (hy : 0 < y) (hf : ∀ i, i < n → over (v i) D = f i) (hg : ∀ i, i < n → over (T i) E = g i) :
  decide (clN E D v T n * y ≤ 2 * D * E * x) = decide (disR n f g ≤ over x y) := by
 have hDE : 0 < D * E := Nat.mul_pos hD hE
 have e1 : sumR n (fun i => absR (f i - g i)) = over (clN E D v T n) (D * E) := by
  unfold clN
  rw [← over_sum hDE]
  exact sumR_congr fun i hi => by rw [← hf i hi, ← hg i hi]; exact ab_diff hD hE
 unfold disR
 rw [e1]
 have hs := over_mul (a := clN E D v T n) hDE
 have hr := over_mul (a := x) hy
 have hP := cast_pos' hDE
 have hY := cast_pos' hy
 generalize clN E D v T n = S at *
 generalize over S (D * E) = s at *
 generalize over x y = r at *
 have hc : ((2 * D * E * x : Nat) : Rat) = 2 * ((D * E : Nat) : Rat) * (x : Rat) := by
  rw [show 2 * D * E * x = 2 * (D * E) * x by rw [Nat.mul_assoc 2 D E], Rat.natCast_mul, Rat.natCast_mul]; rfl
 have hc2 : ((S * y : Nat) : Rat) = (S : Rat) * (y : Rat) := Rat.natCast_mul _ _
 have h22 : (2 : Rat) * (2 : Rat)⁻¹ = 1 := by decide +kernel
 generalize ((D * E : Nat) : Rat) = P at *
 generalize (2 : Rat)⁻¹ = hf2 at *
 have key : ((2 * D * E * x : Nat) : Rat) - ((S * y : Nat) : Rat) = (r - s * hf2) * (2 * P * (y : Rat)) := by
  rw [hc, hc2, ← hr, ← hs]
  grind
 have hcp : 0 < 2 * P * (y : Rat) := Rat.mul_pos (Rat.mul_pos (by decide) hP) hY
 by_cases h : S * y ≤ 2 * D * E * x
 ·rw [decide_eq_true h, decide_eq_true]
  have hle := cast_le h
  by_cases hz : s * hf2 ≤ r
  ·exact hz
  ·have := Rat.mul_pos (show 0 < -(r - s * hf2) by grind) hcp
   grind
 ·rw [decide_eq_false h, decide_eq_false]
  intro hz
  have hlt := cast_lt' (Nat.lt_of_not_le h)
  have := Rat.mul_nonneg (show 0 ≤ r - s * hf2 by grind) (Rat.le_of_lt hcp)
  grind
end Go.Proofs.YthagenodiofgnaaGreat.Ratio
namespace Go.Proofs.YthagenodiofgnaaGreat.ComS
open Go.RowKit Go.Proofs.YthagenodiofgnaaGreat Go.Proofs.YthagenodiofgnaaGreat.Base Go.Proofs.YthagenodiofgnaaGreat.Mem Go.Proofs.YthagenodiofgnaaGreat.BigM Go.Proofs.YthagenodiofgnaaGreat.Big Go.Proofs.YthagenodiofgnaaGreat.Blk Go.Proofs.YthagenodiofgnaaGreat.MemF Go.Proofs.YthagenodiofgnaaGreat.ChM Go.Proofs.YthagenodiofgnaaGreat.ComM Go.Proofs.YthagenodiofgnaaGreat.RatM
set_option linter.unusedVariables false
def ComRet (n : Nat) (f : Nat → Nat) (D : Nat) (w : World) (e : Ending) (w' : World) : Prop := ∃ A c us u, e = .returned (.tuple #[.slice A n c, u]) ∧ OwnB w' w.heap.size (.slice A n c) n f us ∧ IsB w' D u ∧ Below w.heap.size w w'
theorem bigL_len_mono {x y : Nat} (h : x ≤ y) : (bigL x).length ≤ (bigL y).length := by
 rcases Nat.lt_or_ge (bigL y).length (bigL x).length with h1 | h1
 ·have := bigL_len_lt h1; omega
 ·exact h1
def DnRel (fs : List Int) (n : Nat) (w : World) (dv iv : Value) (wr : World) : Prop :=
 ∃ (i : Nat), iv = .int .i64 (i : Int) ∧ i ≤ n ∧ ∃ A c, dv = .slice A (bigL (comD fs i)).length c ∧ Hid (IsB wr (comD fs i) (.slice A (bigL (comD fs i)).length c)) ∧ Hid (Below w.heap.size w wr)
def EuRel (a d : Nat) (w : World) (xv yv : Value) (wr : World) : Prop :=
 ∃ x y A c A' c', xv = .slice A (bigL x).length c ∧ yv = .slice A' (bigL y).length c' ∧ Hid (IsB wr x (.slice A (bigL x).length c)) ∧ Hid (IsB wr y (.slice A' (bigL y).length c')) ∧ Hid (Nat.gcd x y = Nat.gcd a d) ∧ Hid (x ≤ a ∨ x ≤ d) ∧ Hid (y ≤ d) ∧ Hid (Below w.heap.size w wr)
set_option maxHeartbeats 2000000 in
set_option maxRecDepth 100000 in
theorem comS_any {A : Option Addr} {c B n : Nat} {fs : List Int} (w : World) (hx : RdF w B A n fs) (hB : B ≤ w.heap.size) (hv : AllVF fs n) (hp : ∀ i, i < n → 0 ≤ fs.getD (2 * i) 0) (hn : n ≤ 1000) : Calls Tryz.prog 32 #[.slice A n c] w (ComRet n (comN fs n) (comD fs n) w) := by
 have HX := Lib.hid (hx.more hB)
 have HV := Lib.hid hv
 have HP := Lib.hid hp
 obtain ⟨ig, gi, gz0, gz1, gz2⟩ := info_parts infoBg
 clear hx hv hp
 go_enter Tryz.func32, Tryz.ntmps32
 go_wp2_with fail
 refine (bigOf_any 1 (by decide) _).mono ?_
 rintro e w1 ⟨v, rfl, hv, hb1⟩
 obtain ⟨A1, c1, rfl, _⟩ := Dig.form hv
 have H0 : Hid (DnRel fs n w (.slice A1 (bigL 1).length c1) (.int .i64 0) w1) := Lib.hid ⟨0, rfl, Nat.zero_le _, A1, c1, rfl, Lib.hid hv, Lib.hid hb1⟩
 clear hv hb1
 generalize (bigL 1).length = l1 at *
 go_wp2
 go_loopw [4, 5] (fun dv iv wr => DnRel fs n w dv iv wr) (fun _ iv _ => n - (intOf iv).toNat)
 case atStart => exact H0.out
 case round =>
  obtain ⟨i, rfl, hi, A2, c2, rfl, HD, HB⟩ := hrel
  clear H0
  by_cases hlt : i < n
  ·obtain ⟨b, off, rfl, hbl, g1, g2⟩ := (HX.out.below HB.out (Nat.le_refl _)).at hlt
   obtain ⟨d, hd⟩ : ∃ d, d = dn fs i := ⟨_, rfl⟩
   have hdc : fs.getD (2 * i + 1) 0 = (d : Int) := by rw [hd]; unfold dn; have := (HV.out i hlt).1; omega
   obtain ⟨hd0, hd1⟩ := dn_pos HV.out hlt
   rw [← hd] at hd0 hd1
   rw [hdc] at g2
   have HND : Hid (comD fs (i + 1) = comD fs i * (d / Nat.gcd (comD fs i) d)) := Lib.hid (by rw [hd]; rfl)
   have hDl := comD_len (fs := fs) (n := i) (fun j hj => HV.out j (by omega))
   have hDp := comD_pos (fs := fs) (n := i) (fun j hj => HV.out j (by omega))
   have HBO := Lib.hid (fun W => bigOf_any d (by omega) W)
   have hdl : (bigL d).length ≤ 3 := len_ten (k := 1) (by rw [Nat.pow_one]; exact hd1)
   have hbw : b < wr.heap.size := Nat.lt_of_lt_of_le hbl HB.out.size
   clear hdc hd g1
   generalize comD fs i = D at *
   go_wp2_with fail
   refine (HBO.out _).mono ?_
   rintro e w2 ⟨v, rfl, hv, hb2⟩
   obtain ⟨A3, c3, rfl, _⟩ := Dig.form hv
   obtain ⟨w0, rfl⟩ : ∃ x, x = wr := ⟨_, rfl⟩
   have H1 : Hid (EuRel D d w0 (.slice A2 (bigL D).length c2) (.slice A3 (bigL d).length c3) w2) := Lib.hid ⟨D, d, A2, c2, A3, c3, rfl, rfl, Lib.hid (HD.out.below hb2), Lib.hid hv, Lib.hid rfl, Lib.hid (.inl (Nat.le_refl _)), Lib.hid (Nat.le_refl _), Lib.hid hb2⟩
   clear hv hb2
   go_wp2
   go_loopw [6, 7] (fun xv yv w3 => EuRel D d w0 xv yv w3) (fun _ yv w3 => numB w3 yv)
   case atStart => exact H1.out
   case round =>
    obtain ⟨x, y, A4, c4, A5, c5, rfl, rfl, hX, hY, hG, hxl, hyl, hB3⟩ := hrel
    clear H1
    have hx61 : (bigL x).length ≤ 2 * i + 4 := by
     rcases hxl.out with h | h
     ·exact Nat.le_trans (bigL_len_mono h) (by omega)
     ·exact Nat.le_trans (bigL_len_mono h) (by omega)
    by_cases hpos : 0 < y
    ·have hly := len_pos hpos
     have hSP := Lib.hid (bigSplit_any wr hX.out hY.out (by omega) hpos)
     go_wp2_with fail
     refine hSP.out.mono ?_
     rintro e w4 ⟨v, u, rfl, hv, hu, hb4⟩
     obtain ⟨A6, c6, rfl, _⟩ := Dig.form hv
     obtain ⟨A7, c7, rfl, _⟩ := Dig.form hu
     have hlt := Nat.mod_lt x hpos
     have HN : Hid (EuRel D d w0 (.slice A5 (bigL y).length c5) (.slice A7 (bigL (x % y)).length c7) w4) := Lib.hid ⟨y, x % y, A5, c5, A7, c7, rfl, rfl, Lib.hid (hY.out.below hb4), Lib.hid hu, Lib.hid (gcd_step hpos hG.out), Lib.hid (.inr hyl.out), Lib.hid (Nat.le_trans (Nat.le_of_lt hlt) hyl.out), Lib.hid (Base.Below.nextA hB3.out hb4)⟩
     have HM : Hid (numB w4 (.slice A7 (bigL (x % y)).length c7) < numB wr (.slice A5 (bigL y).length c5)) := Lib.hid (by rw [numB_eq hu, numB_eq hY.out]; exact hlt)
     clear hv hu hb4 hSP hX hY hG hxl hyl hB3
     go_wp2
     go_roundw
     case rel => exact HN.out
     case measure => exact HM.out
    ·obtain rfl : y = 0 := by omega
     have hl0 : (bigL 0).length = 0 := by rw [bigL_zero]; rfl
     have hxg : Nat.gcd D d = x := by have := hG.out; rw [Nat.gcd_zero_right] at this; exact this.symm
     have hx0 : 0 < x := by rw [← hxg]; exact Nat.gcd_pos_of_pos_right _ hd0
     have g2' := (hB3.out.cell (p := ⟨b, off + i * 2 + 1, none⟩) hbw).trans g2
     have HXG := Lib.hid hxg
     have hb3s := hB3.out.size
     have HDD := Lib.hid (HD.out.below hB3.out)
     clear hxg hY hG hxl hyl g2
     rw [hl0]
     go_wp2_with fail
     refine (HBO.out _).mono ?_
     rintro e w4 ⟨v, rfl, hv, hb4⟩
     obtain ⟨A6, c6, rfl, _⟩ := Dig.form hv
     have hSP := Lib.hid (bigSplit_any w4 hv (hX.out.below hb4) (by omega) hx0)
     have HB4 := Lib.hid (Base.Below.nextA hB3.out hb4)
     have HD4 := Lib.hid (HDD.out.below hb4)
     clear hv hb4 hX HDD
     go_wp2_with fail
     refine hSP.out.mono ?_
     rintro e w5 ⟨v, u, rfl, hv, hu, hb5⟩
     obtain ⟨A7, c7, rfl, _⟩ := Dig.form hv
     obtain ⟨A8, c8, rfl, _⟩ := Dig.form hu
     have hq3 : (bigL (d / x)).length ≤ 3 := Nat.le_trans (bigL_len_mono (Nat.div_le_self _ _)) hdl
     have hTI := Lib.hid (bigTimes_any w5 (HD4.out.below hb5) hv (by omega) (by omega))
     have HB5 := Lib.hid (Base.Below.nextA HB4.out hb5)
     clear hv hu hb5 hSP HD4 HB4
     go_wp2_with fail
     refine hTI.out.mono ?_
     rintro e w6 ⟨v, rfl, hv, hb6⟩
     obtain ⟨A9, c9, rfl, _⟩ := Dig.form hv
     have HN : Hid (DnRel fs n w (.slice A9 (bigL (D * (d / x))).length c9) (.int .i64 ((i : Int) + 1)) w6) := Lib.hid (by
      have e : comD fs (i + 1) = D * (d / x) := by rw [HND.out, HXG.out]
      refine ⟨i + 1, by simp, hlt, A9, c9, by rw [e], Lib.hid (by rw [e]; exact hv), Lib.hid (Base.Below.nextA HB.out (Base.Below.nextA HB5.out hb6))⟩)
     clear hv hb6 hTI HB5 HB HND HXG HD
     go_wp2
     go_roundw
     case rel => exact HN.out
     case measure => simp [intOf]; omega
  ·obtain rfl : i = n := by omega
   have hDl := comD_len HV.out
   obtain ⟨D, hDe⟩ : ∃ D, D = comD fs i := ⟨_, rfl⟩
   rw [← hDe] at hDl HD ⊢
   have HDE := Lib.hid hDe
   clear hDe
   obtain ⟨w1', rfl⟩ : ∃ x, x = wr := ⟨_, rfl⟩
   have H1 := Lib.hid (GrB.start i (comN fs i) w1')
   go_wp2
   go_loopw [12, 13] (fun ov jv w2 => GrB i (comN fs i) w1' ov jv w2) (fun _ jv _ => i - (intOf jv).toNat)
   case atStart => exact H1.out
   case round =>
    obtain ⟨j, us, rfl, hj, HO, HB2⟩ := hrel
    clear H1
    by_cases hlt2 : j < i
    ·obtain ⟨b, off, rfl, hbl, g1, g2⟩ := (HX.out.below (Base.Below.nextA HB.out HB2.out) (Nat.le_refl _)).at hlt2
     obtain ⟨d, hd⟩ : ∃ d, d = dn fs j := ⟨_, rfl⟩
     obtain ⟨m, hm⟩ : ∃ m, m = nm fs j := ⟨_, rfl⟩
     have hdc : fs.getD (2 * j + 1) 0 = (d : Int) := by rw [hd]; unfold dn; have := (HV.out j hlt2).1; omega
     have hmc : fs.getD (2 * j) 0 = (m : Int) := by rw [hm]; unfold nm; have := HP.out j hlt2; omega
     obtain ⟨hd0, hd1⟩ := dn_pos HV.out hlt2
     have hm1 := nm_le HV.out hlt2
     have hNl := comN_len HV.out hlt2
     have HNE : Hid (comN fs i j = m * (D / d)) := Lib.hid (by rw [hm, hd, HDE.out]; rfl)
     rw [← hd] at hd0 hd1
     rw [← hm] at hm1
     rw [hdc] at g2
     rw [hmc] at g1
     have hml : (bigL m).length ≤ 3 := len_ten (k := 1) (by rw [Nat.pow_one]; exact hm1)
     have HBd := Lib.hid (fun W => bigOf_any d (by omega) W)
     have HBm := Lib.hid (fun W => bigOf_any m (by omega) W)
     have hbw : b < wr.heap.size := Nat.lt_of_lt_of_le hbl (Nat.le_trans HB.out.size HB2.out.size)
     have HDD := Lib.hid (HD.out.below HB2.out)
     have hsz := HB2.out.size
     clear hdc hmc hd hm
     go_wp2_with fail
     refine (HBd.out _).mono ?_
     rintro e w4 ⟨v, rfl, hv, hb4⟩
     obtain ⟨A6, c6, rfl, _⟩ := Dig.form hv
     have hSP := Lib.hid (bigSplit_any w4 (HDD.out.below hb4) hv (by omega) hd0)
     have HB4 := Lib.hid hb4
     clear hv hb4
     go_wp2_with fail
     refine hSP.out.mono ?_
     rintro e w5 ⟨v, u, rfl, hv, hu, hb5⟩
     obtain ⟨A7, c7, rfl, _⟩ := Dig.form hv
     obtain ⟨A8, c8, rfl, _⟩ := Dig.form hu
     have HB5 := Lib.hid (Base.Below.nextA HB4.out hb5)
     have HQ := Lib.hid hv
     have g1' := (HB5.out.cell (p := ⟨b, off + j * 2, none⟩) hbw).trans g1
     clear hv hu hb5 hSP HB4 g1
     go_wp2_with fail
     refine (HBm.out _).mono ?_
     rintro e w6 ⟨v, rfl, hv, hb6⟩
     obtain ⟨A9, c9, rfl, _⟩ := Dig.form hv
     have hq3 : (bigL (D / d)).length ≤ 2 * i + 1 := Nat.le_trans (bigL_len_mono (Nat.div_le_self _ _)) hDl
     have hTI := Lib.hid (bigTimes_any w6 hv (HQ.out.below hb6) (by omega) (by omega))
     have HB6 := Lib.hid (Base.Below.nextA HB5.out hb6)
     clear hv hb6 HQ HB5
     go_wp2_with fail
     refine hTI.out.mono ?_
     rintro e w7 ⟨v, rfl, hv, hb7⟩
     have hb8 := Base.Below.nextA HB6.out hb7
     have hs7 := hb8.size
     have HN := Lib.hid (fun w3 v' ca t hown hg => GrB.next (w2 := w3) (v' := v') (ca := ca) (t := t) hlt2 HO.out HB2.out hb8 (by rw [HNE.out]; exact hv) hown hg)
     obtain ⟨A10, c10, rfl, _⟩ := Dig.form hv
     have HOA := Lib.hid (World.ownsRow.alloc (ownsRow_below HO.out.row hb8) (.cells #[.slice A10 (bigL (m * (D / d))).length c10] 64))
     clear hv hb7 hb8 HO HB2 HB6 hTI HDD HNE
     go_wp2_with (at_builtin; refine wpList_append_own_at _ rfl (.tmp 73) (.tmp 82) 62 rfl w1'.heap.size 64 ig (.slice none 0 0) 1 24 Tryz.underlying62 gi gz0 gz1 gz2 rfl (by decide) _ _ _ rfl HOA.out ⟨w7.heap.size, 0, none⟩ 1 1 [.slice A10 (bigL (m * (D / d))).length c10] rfl rfl ?p1b ?p2b ?p3b ?p4b ?p5b ?_)
     try case p1b => exact news_one _ _ _ (by simp)
     try case p2b => (intro u hu; simp only [List.mem_cons, List.not_mem_nil, or_false] at hu; subst hu; rfl)
     try case p3b => first | (simp only [maxLen]; omega) | omega
     try case p4b => omega
     try case p5b => first | (simp only [World.size_alloc]; omega) | omega
     intro v' w8 hown' hg' _ he
     have HN3 := Lib.hid (HN.out w8 v' _ _ hown' hg')
     clear hown' hg' he HN HOA
     go_wp2
     go_roundw
     case rel => exact HN3.out
     case measure => simp [intOf]; omega
    ·obtain rfl : j = i := by omega
     obtain ⟨A9, c9, rfl, _⟩ := HO.out.form
     have HF : Hid (ComRet j (comN fs j) (comD fs j) w (.returned (.tuple #[.slice A9 j c9, .slice A2 (bigL D).length c2])) wr) := Lib.hid ⟨A9, c9, us, _, rfl, HO.out.base HB.out.size, by rw [← HDE.out]; exact HD.out.below HB2.out, HB.out.trans (HB2.out.mono HB.out.size)⟩
     clear HO HB2 HD HB
     go_wp2
     go_ret2
     exact HF.out
end Go.Proofs.YthagenodiofgnaaGreat.ComS
namespace Go.Proofs.YthagenodiofgnaaGreat.ComS
open Go.RowKit Go.Proofs.YthagenodiofgnaaGreat Go.Proofs.YthagenodiofgnaaGreat.Base Go.Proofs.YthagenodiofgnaaGreat.Mem Go.Proofs.YthagenodiofgnaaGreat.BigM Go.Proofs.YthagenodiofgnaaGreat.Big Go.Proofs.YthagenodiofgnaaGreat.Blk Go.Proofs.YthagenodiofgnaaGreat.MemF Go.Proofs.YthagenodiofgnaaGreat.ChM Go.Proofs.YthagenodiofgnaaGreat.ComM Go.Proofs.YthagenodiofgnaaGreat.RatM Go.Proofs.YthagenodiofgnaaGreat.WalkM
set_option linter.unusedVariables false
def CatRel (n : Nat) (fs : Nat → List Int) (w : World) (ov iv : Value) (wr : World) : Prop :=
 ∃ i : Nat, iv = .int .i64 (i : Int) ∧ i ≤ n ∧ Hid (OwnF wr w.heap.size ov (i * n) (catF fs i)) ∧ Hid (Below w.heap.size w wr)
theorem CatRel.next {n i : Nat} {fs : Nat → List Int} {w wr w1 : World} {v v' : Value} (hi : i < n) (h : OwnF wr w.heap.size v (i * n) (catF fs i)) (hb : Below w.heap.size w wr) (hown : w1.ownsRow w.heap.size 34 2 v' (i * n + n) (ints (catF fs i) ++ ints (fs i))) (hg : wr.grownBy w1 v.ownBlock) : CatRel n fs w v' (.int .i64 ((i : Int) + 1)) w1 := by
 refine ⟨i + 1, by simp, hi, Lib.hid ?_, Lib.hid (hb.trans (grown_below hg (fun g e => (ownsRow_block h e).choose_spec.2.1) hb.size))⟩
 show w1.ownsRow w.heap.size 34 2 v' ((i + 1) * n) (ints (catF fs (i + 1)))
 rw [Nat.add_mul, Nat.one_mul, catF, show ints (catF fs i ++ fs i) = ints (catF fs i) ++ ints (fs i) by simp [ints]]
 exact hown
theorem news_rd {w : World} {B n b off : Nat} {fs : List Int} (h : RdF w B (some ⟨b, off, none⟩) n fs) (hl : fs.length = 2 * n) : ∀ j u, (ints fs)[j]? = some u → w.cell? ((⟨b, off, none⟩ : Addr).add j) = some u := fun j u hj => by
 have hlt : j < fs.length := by
  have := (List.getElem?_eq_some_iff.1 hj).1
  rwa [ints_len] at this
 obtain ⟨b', off', e, _, hc⟩ := h (by omega)
 injection e with e
 injection e with e1 e2
 subst e1 e2
 have : (⟨b, off, none⟩ : Addr).add j = ⟨b, off + j, none⟩ := by unfold Addr.add; split <;> simp_all
 rw [this, hc j (by omega)]
 have : (ints fs)[j]? = some (.int .i64 (fs.getD j 0)) := by simp [ints, List.getD, hlt]
 rw [this] at hj
 exact hj
theorem ones_ints (fs : List Int) : ∀ u ∈ ints fs, u.oneCell' = true := by
 intro u hu
 obtain ⟨x, _, rfl⟩ := List.mem_map.1 hu
 rfl
set_option maxHeartbeats 2000000 in
set_option maxRecDepth 100000 in
theorem allS_any {A : Option Addr} {c B n b0 : Nat} {L : Nat → Nat} {fs : Nat → List Int} (w : World) (h0 : w.cell? ⟨b0, 0, none⟩ = some (.slice A n c)) (hb0 : b0 < w.heap.size) (hx : RdFF w B A n L fs) (hB : B ≤ w.heap.size) (hL : ∀ i, i < n → L i = n) (hl : ∀ i, i < n → (fs i).length = 2 * L i) (hn : n ≤ 20) (hv : ∀ i, i < n → AllVF (fs i) n) (hp : ∀ i k, i < n → k < n → 0 ≤ (fs i).getD (2 * k) 0) :
  Calls Tryz.prog 31 #[.pointer (some ⟨b0, 0, none⟩)] w (ComRet (n * n) (comN (catF fs n) (n * n)) (comD (catF fs n) (n * n)) w) := by
 have hl' : ∀ i, i < n → (fs i).length = 2 * n := fun i hi => by rw [hl i hi, hL i hi]
 have HX := Lib.hid (hx.more hB)
 have HL := Lib.hid (And.intro hL hl')
 have HV := Lib.hid (catF_vf hl' hv)
 have HP := Lib.hid (catF_pos hl' hp)
 obtain ⟨i2, ki, kz0, kz1, kz2⟩ := info_parts infoFr
 have H0 : Hid (CatRel n fs w (.slice (some ⟨w.heap.size, 0, none⟩) 0 0) (.int .i64 0) (w.alloc (.cells #[] 34))) := Lib.hid ⟨0, rfl, Nat.zero_le _, Lib.hid (by
  rw [Nat.zero_mul]
  exact World.ownsRow_made w #[] 0 (Nat.le_refl _) (Nat.zero_le _) (by simp)), Lib.hid ((Below.refl _ _).alloc (Nat.le_refl _) _)⟩
 clear hx hL hl hl' hv hp
 go_enter Tryz.func31, Tryz.ntmps31
 go_wp2
 go_loopw [4, 5] (fun ov iv wr => CatRel n fs w ov iv wr) (fun _ iv _ => n - (intOf iv).toNat)
 case atStart => exact H0.out
 case round =>
  obtain ⟨i, rfl, hi, HO, HB⟩ := hrel
  clear H0
  have d0 := (HB.out.cell (p := ⟨b0, 0, none⟩) hb0).trans h0
  by_cases hlt : i < n
  ·obtain ⟨b, off, A', c', rfl, hbl, g1, hr⟩ := (HX.out.below HB.out (Nat.le_refl _)).at hlt
   have hLi := HL.out.1 i hlt
   rw [hLi] at g1 hr
   obtain ⟨b', off', rfl, _⟩ := hr (by omega)
   have hfl := HL.out.2 i hlt
   have HNW := Lib.hid (And.intro (news_rd hr hfl) hfl)
   have HN := Lib.hid (fun w1 v' hown hg => CatRel.next (w1 := w1) (v' := v') hlt HO.out HB.out hown hg)
   have hii : i * n ≤ 20 * 20 := Nat.mul_le_mul (by omega) hn
   have hs := HB.out.size
   have HOO : Hid (wr.ownsRow w.heap.size 34 2 _ (i * n) (ints (catF fs i))) := HO
   clear hr hfl HB HO hLi
   go_wp2_with (at_builtin; refine wpList_append_own_at _ rfl (.tmp 16) (.tmp 23) 41 rfl w.heap.size 34 i2 (.agg #[.int .i64 0, .int .i64 0]) 2 16 Tryz.underlying41 ki kz0 kz1 kz2 rfl (by decide) _ _ _ rfl HOO.out ⟨b', off', none⟩ n c' (ints (fs i)) rfl (by rw [ints_len, HNW.out.2, Nat.mul_comm]) HNW.out.1 (ones_ints _) ?p3 ?p4 ?p5 ?_)
   try case p3 => first | (simp only [maxLen]; omega) | omega
   try case p4 => omega
   try case p5 => omega
   intro v' w1 hown' hg' _ he
   have HN3 := Lib.hid (HN.out w1 v' hown' hg')
   clear hown' hg' he HN HOO HNW
   go_wp2
   go_roundw
   case rel => exact HN3.out
   case measure => simp [intOf]; omega
  ·obtain rfl : i = n := by omega
   obtain ⟨A9, c9, rfl, _⟩ := HO.out.form
   have hii : i * i ≤ 20 * 20 := Nat.mul_le_mul hn hn
   have HC := Lib.hid (comS_any (c := c9) wr HO.out.rd (Nat.le_refl _) HV.out HP.out (by omega))
   have HB2 := HB
   clear HO HB HX
   go_wp2_with fail
   refine HC.out.mono ?_
   rintro e w2 ⟨A3, c3, us, u, rfl, ho, hu, hb2⟩
   obtain ⟨A4, c4, rfl, _⟩ := Dig.form hu
   have HF : Hid (ComRet (i * i) (comN (catF fs i) (i * i)) (comD (catF fs i) (i * i)) w (.returned (.tuple #[.slice A3 (i * i) c3, .slice A4 (bigL (comD (catF fs i) (i * i))).length c4])) w2) := Lib.hid ⟨A3, c3, us, _, rfl, ho.base HB2.out.size, hu, Base.Below.nextA HB2.out hb2⟩
   clear ho hu hb2 HC HB2
   go_wp2
   go_ret2
   exact HF.out
end Go.Proofs.YthagenodiofgnaaGreat.ComS
