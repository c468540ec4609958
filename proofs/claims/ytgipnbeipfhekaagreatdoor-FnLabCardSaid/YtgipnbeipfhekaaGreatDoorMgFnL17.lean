/- The program: the sum of the chances that are at most another one. -/
import Derived.Test.YtgipnbeipfhekaaGreatDoorMgFnL16
import Derived.Test.YtgipnbeipfhekaaGreatDoorMgFnL10
import Derived.Test.YtgipnbeipfhekaaGreatDoorMgFnL14
import Derived.Shelf.Lay
import Derived.Shelf.Strings.Count
import Derived.Test.YtgipnbeipfhekaaGreatDoorMgFnL02
import Derived.Test.YtgipnbeipfhekaaGreatDoorMgFnL08
import Derived.Test.YtgipnbeipfhekaaGreatDoorMgFnL09
import Derived.Shelf.Strings.OnBuilder
import Derived.Shelf.Strings.Prefix
import Derived.Test.YtgipnbeipfhekaaGreatDoorMgFnL00
set_option linter.unusedVariables false
set_option linter.unusedSimpArgs false
set_option maxRecDepth 100000
set_option maxHeartbeats 4000000
namespace Go.Proofs.YtgipnbeipfhekaaGreatDoor
namespace LpO
open Go.RowKit Base Mem MemF GiveM NatM Nat32 RatM Ratio LvQ LvO LvT LvW LvF LvG LpK
open Blk (Blk)
open YtgipnbeipfhekaaGreatDoor.Inv (not_slice not_bool)
def p3 (w : World) (b : Nat) (v0 v1 v2 : Value) : World := ((w.setCell ⟨b, 0, none⟩ v0).setCell ⟨b, 1, none⟩ v1).setCell ⟨b, 2, none⟩ v2
theorem p3_blk {w : World} {b : Nat} {t : TypeId} {u0 u1 u2 : Value} (K : Blk w b t #[u0, u1, u2]) (v0 v1 v2 : Value) : Blk (p3 w b v0 v1 v2) b t #[v0, v1, v2] := ((K.setTo 0 v0 rfl).setTo 1 v1 rfl).setTo 2 v2 rfl
theorem p3_other {w : World} {b b' : Nat} {t : TypeId} {cs : Array Value} (K : Blk w b' t cs) (hne : b ≠ b') (v0 v1 v2 : Value) : Blk (p3 w b v0 v1 v2) b' t cs := ((K.other v0 hne).other v1 hne).other v2 hne
theorem p3_below {w0 w : World} {b B : Nat} (h : Below B w0 w) (hb : B ≤ b) (v0 v1 v2 : Value) : Below B w0 (p3 w b v0 v1 v2) := ((h.setCell (p := ⟨b, 0, none⟩) hb v0).setCell (p := ⟨b, 1, none⟩) hb v1).setCell (p := ⟨b, 2, none⟩) hb v2
theorem rdUp3 {w : World} {A : Option Addr} {xs : List Nat} {b : Nat} {t : TypeId} {s : Bool} {A1 A2 : Option Addr} {k1 c1 k2 c2 : Nat} (h : RdU w w.heap.size A xs) (K : Blk w b t #[.bool s, .slice A1 k1 c1, .slice A2 k2 c2]) (v0 v1 v2 : Value) : RdU (p3 w b v0 v1 v2) (p3 w b v0 v1 v2).heap.size A xs := by
 have e : (p3 w b v0 v1 v2).heap.size = w.heap.size := by simp [p3]
 rw [e]
 have K0 := K.setTo 0 v0 rfl
 have K1 := K0.setTo 1 v1 rfl
 exact ((h.non (K.at 0 (v := .bool s) rfl) (not_bool _) _).non (K0.at 1 (v := .slice A1 k1 c1) rfl) (not_slice _ _ _) _).non (K1.at 2 (v := .slice A2 k2 c2) rfl) (not_slice _ _ _) _
theorem isRtp3 {w : World} {q : Rat} {v : Value} {b : Nat} {t : TypeId} {s : Bool} {A1 A2 : Option Addr} {k1 c1 k2 c2 : Nat} (h : IsRt w q v) (K : Blk w b t #[.bool s, .slice A1 k1 c1, .slice A2 k2 c2]) (v0 v1 v2 : Value) : IsRt (p3 w b v0 v1 v2) q v := by
 obtain ⟨A, c, A', c', e, h1, h2⟩ := h
 exact ⟨A, c, A', c', e, rdUp3 h1 K _ _ _, rdUp3 h2 K _ _ _⟩
theorem isRt_open {w : World} {q : Rat} {v : Value} (h : IsRt w q v) : ∃ s A1 k1 c1 A2 k2 c2, v = .agg #[.bool s, .slice A1 k1 c1, .slice A2 k2 c2] ∧ IsRt w q (.agg #[.bool s, .slice A1 k1 c1, .slice A2 k2 c2]) := by
 have h' := h
 obtain ⟨A, c, A', c', e, _, _⟩ := h
 rw [e] at h'
 exact ⟨_, A, _, c, A', _, c', e, h'⟩
def SoRel (C : Cnt) (n y b6 : Nat) (vl1 vl2 : Value) (w : World) (iv : Value) (wr : World) : Prop :=
 ∃ (i : Nat) (s : Bool) (A1 : Option Addr) (k1 c1 : Nat) (A2 : Option Addr) (k2 c2 : Nat), i ≤ C.many ∧ iv = .int .i64 (i : Int) ∧ Hid (Blk wr b6 147 #[.bool s, .slice A1 k1 c1, .slice A2 k2 c2]) ∧ Hid (IsRt wr (dy n (upS C y i)) (.agg #[.bool s, .slice A1 k1 c1, .slice A2 k2 c2])) ∧ Hid (Blk wr (w.heap.size + 1) 49 #[.int .i64 0, .int .i64 0]) ∧ Hid (Below w.heap.size w wr)
theorem sumOver_d {n y lb mb : Nat} {A A' B1 B1' : Option Addr} {c c' e1 e1' : Nat} {C : Cnt} {s0 : Bool} {M1 M2 : Option Addr} {m1 l1 m2 l2 : Nat} (hC : C.ok n) (hn : n ≤ 50) (hy : y ≤ 2 ^ n) (w : World) (hyy : RdF w w.heap.size A' C.many (outF (fD C n) C.many))
  (KL0 : Blk w lb 60 #[.slice B1 C.many e1, .slice B1' C.many e1']) (hf : RdF w w.heap.size B1' C.many (outF (fD C n) C.many)) (KM0 : Blk w mb 147 #[.bool s0, .slice M1 m1 l1, .slice M2 m2 l2]) (hm : IsRt w (dy n y) (.agg #[.bool s0, .slice M1 m1 l1, .slice M2 m2 l2])) :
  Calls Tryz.prog 98 #[.agg #[.slice A C.many c, .slice A' C.many c'], .func (Fn.func 99) #[] #[.pointer (some ⟨lb, 0, none⟩), .pointer (some ⟨mb, 0, none⟩)]] w fun e w' => e = .returned (.tuple #[.agg #[.int .i64 (nD n (upS C y C.many)), .int .i64 (dD n (upS C y C.many))], .bool true]) ∧ Below w.heap.size w w' := by
 have hN60 : C.many ≤ 51 := by have := hC.2.1; omega
 have HCl := J (fun i (hi : i < C.many) W (hW : Below w.heap.size w W) => close_d (c := e1) hC hi hn hy W (KL0.belowS hW) ((hf.below hW (Nat.le_refl _)).more hW.size) (KM0.belowS hW) (hm.below hW))
 have HWh := J (fun W => whole_any 0 (by decide) W)
 obtain ⟨W2, hW2⟩ : ∃ W2, W2 = (w.alloc (.cells #[.slice A C.many c, .slice A' C.many c'] 60)).alloc (.cells #[.int .i64 0, .int .i64 0] 49) := ⟨_, rfl⟩
 have b2 : Below w.heap.size w W2 := by rw [hW2]; exact ((Below.refl _ _).alloc (Nat.le_refl _) _).alloc (by simp) _
 have KL : Hid (Blk W2 w.heap.size 60 #[.slice A C.many c, .slice A' C.many c']) := J (by rw [hW2]; exact (Blk.new w _ _).alloc _)
 have KR : Hid (Blk W2 (w.heap.size + 1) 49 #[.int .i64 0, .int .i64 0]) := J (by rw [hW2]; exact Blk.newAt _ _ (by simp))
 have HB := J b2
 have HW := J hW2
 have HY := J hyy
 have HC := J hC
 clear KL0 hf KM0 hm b2 hW2 hyy hC
 go_enter Tryz.func98, Tryz.ntmps98
 go_wp2_with fail
 rw [← HW.out]
 refine (HWh.out _).mono ?_
 rintro e w3 h
 obtain ⟨v, rfl, hv3, hb3⟩ := (RV.of_zero h).is
 obtain ⟨s, A1, k1, c1, A2, k2, c2, rfl, hI⟩ := isRt_open hv3
 have hlo : Hid (w.heap.size + 1 < w3.heap.size) := J (by have := KR.out.lt; have := hb3.size; omega)
 have B3 := Base.Below.nextA HB.out hb3
 have H0 : Hid (SoRel C n y w3.heap.size (.slice A C.many c) (.slice A' C.many c') w (.int .i64 0) (w3.alloc (.cells #[.bool s, .slice A1 k1 c1, .slice A2 k2 c2] 147))) := J (by
  refine ⟨0, s, A1, k1, c1, A2, k2, c2, Nat.zero_le _, rfl, J (Blk.new w3 _ _), J ?_, J ((KR.out.belowS hb3).alloc _), J (B3.alloc B3.size _)⟩
  rw [upS_zero, dy_zero]
  exact hI.below ((Below.refl _ _).alloc (Nat.le_refl _) _))
 have KL3 := (KL.out.belowS hb3).alloc (.cells #[.bool s, .slice A1 k1 c1, .slice A2 k2 c2] 147)
 have d1 := KL3.at 1 (v := .slice A' C.many c') rfl
 have d1' := (KL.out.belowS hb3).at 1 (v := .slice A' C.many c') rfl
 have hl3 := (KL.out.belowS hb3).lt
 clear hv3 hI h hb3 B3 KL3 HWh HW KR
 go_wp2
 go_loopw [13] (fun iv wr => SoRel C n y w3.heap.size (.slice A C.many c) (.slice A' C.many c') w iv wr) (fun iv _ => C.many - (intOf iv).toNat)
 case atStart => exact H0.out
 case round =>
  obtain ⟨i, s, A1, k1, c1, A2, k2, c2, hi, rfl, KS, HS, KR, HBr⟩ := hrel
  obtain ⟨wp, rfl⟩ : ∃ x, x = wr := ⟨_, rfl⟩
  clear H0 d1 d1' hl3
  by_cases hlt : i < C.many
  ·obtain ⟨fb, fo, eA, hfb, g1, g2⟩ := rdD (HY.out.below HBr.out (Nat.le_refl _)) hlt
   subst eA
   have hx := Cnt.one_le HC.out hlt
   have hu := upS_le HC.out y (k := i) (by omega)
   have HRO := J (fun W => rof_d hx hn W)
   have hfw : Below wp.heap.size wp (wp.alloc (.cells #[.int .i64 (nD n (C.c i)), .int .i64 (dD n (C.c i))] 49)) := (Below.refl _ _).alloc (Nat.le_refl _) _
   have HCi := J (HCl.out i hlt _ (Base.Below.nextA HBr.out hfw))
   have KF0 := J (Blk.new wp 49 #[.int .i64 (nD n (C.c i)), .int .i64 (dD n (C.c i))])
   have HF1 := J hfw
   have HSz := J (And.intro (dy_sz hu hn) (dy_sz hx hn))
   have HPl0 : Hid (∀ W u v, IsRt W (dy n (upS C y i)) u → IsRt W (dy n (C.c i)) v → Calls Tryz.prog 160 #[u, v] W (RV (dy n (upS C y i + C.c i)) W)) := J fun W u v h1 h2 => by
    have := ratPlus W h1 h2 HSz.out.1 HSz.out.2
    rwa [dy_add] at this
   clear hfw hx hu
   by_cases hle : C.c i ≤ y
   ·rw [decide_eq_true hle] at HCi
    rw [← upS_yes hle] at HPl0
    have HN : Hid (∀ s A1 k1 c1 A2 k2 c2 w5, Blk w5 w3.heap.size 147 #[.bool s, .slice A1 k1 c1, .slice A2 k2 c2] → IsRt w5 (dy n (upS C y (i + 1))) (.agg #[.bool s, .slice A1 k1 c1, .slice A2 k2 c2]) → Blk w5 (w.heap.size + 1) 49 #[.int .i64 0, .int .i64 0] → Below w.heap.size w w5 → SoRel C n y w3.heap.size (.slice A C.many c) (.slice (some ⟨fb, fo, none⟩) C.many c') w (.int .i64 ((i : Int) + 1)) w5) := J fun s A1 k1 c1 A2 k2 c2 w5 h1 h2 h3 h4 => ⟨i + 1, s, A1, k1, c1, A2, k2, c2, hlt, by simp, J h1, J h2, J h3, J h4⟩
    have HPl := HPl0
    clear HPl0 hle
    generalize dy n (upS C y (i + 1)) = qn at *
    generalize dy n (upS C y i) = qc at *
    generalize dy n (C.c i) = q at *
    generalize nD n (C.c i) = x1 at *
    generalize dD n (C.c i) = x2 at *
    go_wp2_with fail
    refine HCi.out.mono ?_
    rintro e w4 ⟨rfl, hb4⟩
    have hb5 := Base.Below.nextA HF1.out hb4
    have KF := J (KF0.out.belowS hb4)
    replace KS := J (KS.out.belowS hb5)
    replace HS := J (HS.out.below hb5)
    replace KR := J (KR.out.belowS hb5)
    replace HBr := J (Base.Below.nextA HBr.out hb5)
    clear hb4 hb5 KF0 HF1 HCi g1 g2
    go_wp2_with fail
    refine Rel.wp_region_rel 4 (by kernel_rfl) (by kernel_rfl) (fun F hF => ?_)
    simp only [List.take_succ_cons, List.take_zero, List.drop_succ_cons, List.drop_zero, Rel.putL] at hF ⊢
    have HF := J hF
    clear hF
    have uv := @Rel.upon_value Tryz.prog
    have ue := @Rel.upon_enter Tryz.prog
    apply Rel.rel_pure
    apply Exists.intro
    refine ⟨fun vs wq hq hdp R hR => ?_, ?_⟩
    ·(rw [HF.out, Rel.stepAt_eq]; clear hdp; have x0 := (KS.out.belowS hq).at 0 (v := .bool s) rfl; have x1 := (KS.out.belowS hq).at 1 (v := .slice A1 k1 c1) rfl; have x2 := (KS.out.belowS hq).at 2 (v := .slice A2 k2 c2) rfl; go_simp; exact hR)
    apply Rel.rel_pure
    apply Exists.intro
    refine ⟨fun vs wq hq hdp R hR => ?_, ?_⟩
    ·(rw [HF.out, Rel.stepAt_eq]; clear hdp; have y0 := (KF.out.belowS hq).at 0 (v := .int .i64 x1) rfl; have y1 := (KF.out.belowS hq).at 1 (v := .int .i64 x2) rfl; go_simp; exact hR)
    refine Rel.rel_law (S := fun v w' => IsRt w' q v) (isRtM q) (fun vs wq hq hdp => ?_) ?_
    ·(rw [HF.out, Rel.stepAt_eq]; have qd1 : vs 1 = _ := Rel.dep hdp 1 (by kernel_rfl); clear hdp; skip; go_simp; refine (HRO.out _).mono ?_; rintro e w7 h; obtain ⟨v, rfl, hv, hb⟩ := h.is; exact ⟨_, rfl, hv, hb⟩)
    refine Rel.rel_law (S := fun v w' => IsRt w' qn v) (isRtM qn) (fun vs wq hq hdp => ?_) ?_
    ·(rw [HF.out, Rel.stepAt_eq]; have qd0 : vs 0 = _ := Rel.dep hdp 0 (by kernel_rfl); have qd2 : IsRt wq q (vs 2) := Rel.dep hdp 2 (by kernel_rfl); clear hdp; skip; go_simp; refine (HPl.out wq _ _ (HS.out.below hq) qd2).mono ?_; rintro e w7 h; obtain ⟨v, rfl, hv, hb⟩ := h.is; exact ⟨_, rfl, hv, hb⟩)
    refine Rel.rel_end (fun vs wq hq hall => ?_)
    rw [HF.out]
    have qe0 : vs 0 = _ := Rel.fin hall 0 (by decide)
    have qe1 : vs 1 = _ := Rel.fin hall 1 (by decide)
    have qe2 : IsRt wq q (vs 2) := Rel.fin hall 2 (by decide)
    have qe3 : IsRt wq qn (vs 3) := Rel.fin hall 3 (by decide)
    clear hall HF uv ue
    obtain ⟨s', B1', j1', e1', B2', j2', e2', ev, hI⟩ := isRt_open qe3
    have KSq := KS.out.belowS hq
    have HN2 := J (HN.out s' B1' j1' e1' B2' j2' e2' _ (p3_blk KSq _ _ _) (isRtp3 hI KSq _ _ _) (p3_other (KR.out.belowS hq) (Nat.ne_of_gt hlo.out) _ _ _) (p3_below (Base.Below.nextA HBr.out hq) (by have := hlo.out; omega) _ _ _))
    unfold p3 at HN2
    have z0 := KSq.frz 0
    have z1 := KSq.frz 1
    have z2 := KSq.frz 2
    have c0 := KSq.at 0 (v := .bool s) rfl
    have c1 := KSq.at 1 (v := .slice A1 k1 c1) rfl
    have c2 := KSq.at 2 (v := .slice A2 k2 c2) rfl
    clear hq hI KSq KS HS KR HBr KF HN HPl HRO qe3
    go_wp2
    go_roundw
    case rel => exact HN2.out
    case measure => simp [intOf]; omega
   ·rw [decide_eq_false hle] at HCi
    have hb0 := upS_no hle
    generalize nD n (C.c i) = x1 at *
    generalize dD n (C.c i) = x2 at *
    go_wp2_with fail
    refine HCi.out.mono ?_
    rintro e w4 ⟨rfl, hb4⟩
    have hb5 := Base.Below.nextA HF1.out hb4
    have HN : Hid (SoRel C n y w3.heap.size (.slice A C.many c) (.slice (some ⟨fb, fo, none⟩) C.many c') w (.int .i64 ((i : Int) + 1)) w4) := J ⟨i + 1, s, A1, k1, c1, A2, k2, c2, hlt, by simp, J (KS.out.belowS hb5), J (by rw [hb0]; exact HS.out.below hb5), J (KR.out.belowS hb5), J (Base.Below.nextA HBr.out hb5)⟩
    clear hb4 hb5 KF0 HF1 HCi g1 g2 hb0 HPl0 HRO
    go_wp2
    go_roundw
    case rel => exact HN.out
    case measure => simp [intOf]; omega
  ·obtain rfl : i = C.many := by omega
   have HFr := J (ratFraction wp HS.out)
   rw [(dy_numQ (upS_le HC.out y (Nat.le_refl _)) hn).1, (dy_numQ (upS_le HC.out y (Nat.le_refl _)) hn).2, ← (dy_numQ (upS_le HC.out y (Nat.le_refl _)) hn).1, ← (dy_numQ (upS_le HC.out y (Nat.le_refl _)) hn).2, dy_small (upS_le HC.out y (Nat.le_refl _)) hn] at HFr
   obtain ⟨P, hP⟩ : ∃ P, P = nD n (upS C y C.many) := ⟨_, rfl⟩
   obtain ⟨Q, hQ⟩ : ∃ Q, Q = dD n (upS C y C.many) := ⟨_, rfl⟩
   unfold nD at hP
   unfold dD at hQ
   rw [← hP, ← hQ] at HFr
   have HPQ := J (And.intro hP hQ)
   have x0 := KS.out.at 0 (v := .bool s) rfl
   have x1 := KS.out.at 1 (v := .slice A1 k1 c1) rfl
   have x2 := KS.out.at 2 (v := .slice A2 k2 c2) rfl
   clear hP hQ
   go_wp2_with fail
   refine HFr.out.mono ?_
   rintro e w8 ⟨rfl, hb8⟩
   have KR8 := KR.out.belowS hb8
   have HB8 := J (Base.Below.nextA HBr.out hb8)
   have r0 := KR8.at 0 (v := .int .i64 0) rfl
   have r1 := KR8.at 1 (v := .int .i64 0) rfl
   have f0 := KR8.frz 0
   have f1 := KR8.frz 1
   have SS := (KR8.setTo 0 (.int .i64 P) rfl).setTo 1 (.int .i64 Q) rfl
   have k0 := SS.at 0 (v := .int .i64 P) rfl
   have k1 := SS.at 1 (v := .int .i64 Q) rfl
   clear SS KR8 hb8 KS KR HS HFr x0 x1 x2
   go_wp2
   refine bodyPost_ret (v := .tuple #[.agg #[.int .i64 P, .int .i64 Q], .bool true]) (by simp [results, Tryz.results98, go_sem, k0, k1]) rfl ⟨by rw [HPQ.out.1, HPQ.out.2]; rfl, (HB8.out.setCell (p := ⟨w.heap.size + 1, 0, none⟩) (Nat.le_succ _) _).setCell (p := ⟨w.heap.size + 1, 1, none⟩) (Nat.le_succ _) _⟩
end LpO
namespace LpL
open Go.RowKit Base Mem MemF GiveM RatM Ratio LvQ LvO LvT LvW LvF LvG LpK LpO
open Blk (Blk)
theorem levelI_d {n p : Nat} {C : Cnt} {v : Value} (hC : C.ok n) (hp : p < C.many) (hn : n ≤ 50) (w : World) (hv : LawIs C n w v) :
  Calls Tryz.prog 51 #[v, .int .i64 ((C.first + p : Nat) : Int)] w fun e w' => e = .returned (.tuple #[.agg #[.int .i64 (nD n (upS C (C.c p) C.many)), .int .i64 (dD n (upS C (C.c p) C.many))], .bool true]) ∧ Below w.heap.size w w' := by
 have hv0 := hv
 obtain ⟨A, c, A', c', rfl, hx, hy⟩ := hv
 obtain ⟨W2, hW2⟩ : ∃ W2, W2 = (w.alloc (.cells #[.slice A C.many c, .slice A' C.many c'] 60)).alloc (.cells #[.int .i64 0, .int .i64 0] 49) := ⟨_, rfl⟩
 have b2 : Below w.heap.size w W2 := by rw [hW2]; exact ((Below.refl _ _).alloc (Nat.le_refl _) _).alloc (by simp) _
 have KL : Hid (Blk W2 w.heap.size 60 #[.slice A C.many c, .slice A' C.many c']) := J (by rw [hW2]; exact (Blk.Blk.new w _ _).alloc _)
 have KR : Hid (Blk W2 (w.heap.size + 1) 49 #[.int .i64 0, .int .i64 0]) := J (by rw [hW2]; exact Blk.Blk.newAt _ _ (by simp))
 have HB := J b2
 have HW := J hW2
 have HCh := J (LpC.chanceI_d hC hp hn W2 (hv0.below b2))
 have HRO := J (fun W => rof_d (Cnt.one_le hC hp) hn W)
 have HF := J (hy.below b2 (Nat.le_refl _) |>.more b2.size)
 have HSO : Hid (∀ (W : World) (lb mb : Nat) (s : Bool) (M1 M2 : Option Addr) (m1 l1 m2 l2 : Nat), RdF W W.heap.size A' C.many (outF (fD C n) C.many) → Blk W lb 60 #[.slice A C.many c, .slice A' C.many c'] → Blk W mb 147 #[.bool s, .slice M1 m1 l1, .slice M2 m2 l2] → IsRt W (dy n (C.c p)) (.agg #[.bool s, .slice M1 m1 l1, .slice M2 m2 l2]) → Calls Tryz.prog 98 #[.agg #[.slice A C.many c, .slice A' C.many c'], .func (Fn.func 99) #[] #[.pointer (some ⟨lb, 0, none⟩), .pointer (some ⟨mb, 0, none⟩)]] W fun e w' => e = .returned (.tuple #[.agg #[.int .i64 (nD n (upS C (C.c p) C.many)), .int .i64 (dD n (upS C (C.c p) C.many))], .bool true]) ∧ Below W.heap.size W w') :=
  J fun W lb mb s M1 M2 m1 l1 m2 l2 h1 h2 h3 h4 => sumOver_d hC hn (Cnt.one_le hC hp) W h1 h2 h1 h3 h4
 have d0 := KL.out.at 0 (v := .slice A C.many c) rfl
 have d1 := KL.out.at 1 (v := .slice A' C.many c') rfl
 rw [show ((C.first + p : Nat) : Int) = (C.first : Int) + (p : Int) by simp] at HCh ⊢
 generalize (C.first : Int) + (p : Int) = vv at *
 generalize dy n (C.c p) = q at *
 generalize nD n (C.c p) = x1 at *
 generalize dD n (C.c p) = x2 at *
 generalize nD n (upS C (C.c p) C.many) = P at *
 generalize dD n (upS C (C.c p) C.many) = Q at *
 clear hC hx hy hv0 b2 hW2
 go_enter Tryz.func51, Tryz.ntmps51
 go_wp2_with fail
 rw [← HW.out]
 refine HCh.out.mono ?_
 rintro e w3 ⟨rfl, hb3⟩
 have KL3 := J (KL.out.belowS hb3)
 have KR3 := J (KR.out.belowS hb3)
 have HB3 := J (Base.Below.nextA HB.out hb3)
 have HF3 := J ((HF.out.below hb3 (Nat.le_refl _)).more hb3.size)
 clear hb3 HCh KL KR HB HF HW d0 d1
 go_wp2_with fail
 refine (HRO.out _).mono ?_
 rintro e w4 h
 obtain ⟨v, rfl, hv4, hb4⟩ := h.is
 obtain ⟨s, A1, k1, c1, A2, k2, c2, rfl, hI⟩ := isRt_open hv4
 obtain ⟨W5, hW5⟩ : ∃ W5, W5 = w4.alloc (.cells #[.bool s, .slice A1 k1 c1, .slice A2 k2 c2] 147) := ⟨_, rfl⟩
 have hb5 : Below w4.heap.size w4 W5 := by rw [hW5]; exact (Below.refl _ _).alloc (Nat.le_refl _) _
 have hb35 := Base.Below.nextA hb4 hb5
 have KL5 := J (KL3.out.belowS hb35)
 have KR5 := J (KR3.out.belowS hb35)
 have HB5 := J (Base.Below.nextA HB3.out hb35)
 have KM : Hid (Blk W5 w4.heap.size 147 #[.bool s, .slice A1 k1 c1, .slice A2 k2 c2]) := J (by rw [hW5]; exact Blk.Blk.new w4 _ _)
 have HS := J (HSO.out W5 w.heap.size w4.heap.size s A1 A2 k1 c1 k2 c2 ((HF3.out.below hb35 (Nat.le_refl _)).more hb35.size) KL5.out KM.out (hI.below hb5))
 have d0 := KL5.out.at 0 (v := .slice A C.many c) rfl
 have d1 := KL5.out.at 1 (v := .slice A' C.many c') rfl
 have HW5 := J hW5
 rw [hW5] at d0 d1
 clear h hv4 hI hb4 hb5 hb35 hW5 KL3 KR3 HB3 HF3 HSO HRO KM
 go_wp2_with fail
 rw [← HW5.out]
 refine HS.out.mono ?_
 rintro e w6 ⟨rfl, hb6⟩
 have KR6 := KR5.out.belowS hb6
 have HB6 := J (Base.Below.nextA HB5.out hb6)
 have r0 := KR6.at 0 (v := .int .i64 0) rfl
 have r1 := KR6.at 1 (v := .int .i64 0) rfl
 have f0 := KR6.frz 0
 have f1 := KR6.frz 1
 have SS := (KR6.setTo 0 (.int .i64 P) rfl).setTo 1 (.int .i64 Q) rfl
 have k0 := SS.at 0 (v := .int .i64 P) rfl
 have k1 := SS.at 1 (v := .int .i64 Q) rfl
 clear SS KR6 hb6 KL5 KR5 HS d0 d1 HW5
 go_wp2
 refine bodyPost_ret (v := .tuple #[.agg #[.int .i64 P, .int .i64 Q], .bool true]) (by simp [results, Tryz.results51, go_sem, k0, k1]) rfl ⟨rfl, (HB6.out.setCell (p := ⟨w.heap.size + 1, 0, none⟩) (Nat.le_succ _) _).setCell (p := ⟨w.heap.size + 1, 1, none⟩) (Nat.le_succ _) _⟩
end LpL
end Go.Proofs.YtgipnbeipfhekaaGreatDoor
namespace Go.Proofs
open Go.Shelf
def YtgipnbeipfhekaaGreatDoor.lays138_ren : Go.Shelf.Ren := ⟨fun | 138 => 52 | 195 => 101 | 218 => 102 | 143 => 103 | 219 => 163 | 217 => 207 | 225 => 208 | 224 => 209 | 267 => 210 | 266 => 234 | 314 => 235 | n => n, fun | 9 => 9 | 3 => 3 | 4 => 4 | 5 => 5 | 0 => 0 | 46 => 118 | 146 => 257 | 51 => 221 | n => n, fun | 1 => 0 | n => n⟩
theorem YtgipnbeipfhekaaGreatDoor.lays138 : Go.Proofs.Lays.n138 Tryz.prog YtgipnbeipfhekaaGreatDoor.lays138_ren := {
 mixed := by kernel_rfl
 f138 := Tryz.func52.trans (congrArg some (by kernel_rfl))
 f143 := Tryz.func103.trans (congrArg some (by kernel_rfl))
 f195 := Tryz.func101.trans (congrArg some (by kernel_rfl))
 f217 := Tryz.func207.trans (congrArg some (by kernel_rfl))
 f218 := Tryz.func102.trans (congrArg some (by kernel_rfl))
 f219 := Tryz.func163.trans (congrArg some (by kernel_rfl))
 f224 := Tryz.func209.trans (congrArg some (by kernel_rfl))
 f225 := Tryz.func208.trans (congrArg some (by kernel_rfl))
 f266 := Tryz.func234.trans (congrArg some (by kernel_rfl))
 f267 := Tryz.func210.trans (congrArg some (by kernel_rfl))
 f314 := Tryz.func235.trans (congrArg some (by kernel_rfl))
 t0 := Tryz.underlying0
 a0 := Tryz.isAgg0
 z0 := Tryz.sizeOf0
 v0 := Tryz.zeroValue0
 t3 := Tryz.underlying3
 a3 := Tryz.isAgg3
 z3 := Tryz.sizeOf3
 v3 := Tryz.zeroValue3
 t4 := Tryz.underlying4
 a4 := Tryz.isAgg4
 z4 := Tryz.sizeOf4
 v4 := Tryz.zeroValue4
 t5 := Tryz.underlying5
 a5 := Tryz.isAgg5
 z5 := Tryz.sizeOf5
 v5 := Tryz.zeroValue5
 t9 := Tryz.underlying9
 a9 := Tryz.isAgg9
 z9 := Tryz.sizeOf9
 v9 := Tryz.zeroValue9
 t46 := Tryz.underlying118
 a46 := Tryz.isAgg118
 z46 := Tryz.sizeOf118
 v46 := Tryz.zeroValue118
 t51 := Tryz.underlying221
 a51 := Tryz.isAgg221
 z51 := Tryz.sizeOf221
 v51 := Tryz.zeroValue221
 t146 := Tryz.underlying257
 a146 := Tryz.isAgg257
 z146 := Tryz.sizeOf257
 v146 := Tryz.zeroValue257
 g1 := by kernel_rfl }
end Go.Proofs
namespace Go.Proofs.YtgipnbeipfhekaaGreatDoor
namespace LpT
open Go.RowKit Base Mem MemF Blk LvM LvQ LvO LvR LvT LvW LvJ LvK LpR Dice
theorem ones_count (s : ByteArray) : ∀ i, i ≤ s.size → onesTo (byt s) i = (s.data.toList.take i).count 49
 | 0, _ => by simp [onesTo]
 | i + 1, h => by
  have h1 : i < s.size := h
  have h2 : i < s.data.toList.length := by rw [Array.length_toList]; exact h1
  rw [onesTo, ones_count s i (by omega), List.take_succ_eq_append_getElem h2, List.count_append, byt_at h1]
  have e : s[i] = s.data.toList[i] := rfl
  rw [e]
  generalize s.data.toList[i] = x
  by_cases hb : x = 49
  ·subst hb; simp
  ·have : x.toNat ≠ 49 := fun h => hb (UInt8.toNat_inj.1 (by simpa using h))
   simp [this, hb]
theorem ones_all (s : ByteArray) : Lib.countByte s.data.toList 49 = onesTo (byt s) s.size := by
 unfold Lib.countByte
 rw [ones_count s s.size (Nat.le_refl _), List.take_of_length_le (by rw [Array.length_toList]; exact Nat.le_refl _)]
theorem count_d (s : ByteArray) (w : World) : Calls Tryz.prog 52 #[.string s, .string ⟨#[49]⟩] w fun e w' => e = .returned (.int .i64 ((onesTo (byt s) s.size : Nat) : Int)) ∧ w = w' := by
 refine (Any.strings_Count_one YtgipnbeipfhekaaGreatDoor.lays138 s 49 w).mono ?_
 rintro e w' ⟨rfl, rfl⟩
 rw [ones_all]
 exact ⟨rfl, rfl⟩
theorem ivA {s : ByteArray} (hs : s.size ≤ 50) {v : Value} (w : World) (hv : LawIs (onesC s.size) s.size w v) : Calls Tryz.prog 51 #[v, .int .i64 ((onesTo (byt s) s.size : Nat) : Int)] w (FrRet (nD s.size (lvA s)) (dD s.size (lvA s)) w) := by
 have h := LpL.levelI_d (p := onesTo (byt s) s.size) (onesC_ok s.size) (by have := ones_le (byt s) s.size; show _ < s.size + 1; omega) hs w hv
 rw [show (onesC s.size).first + onesTo (byt s) s.size = onesTo (byt s) s.size from Nat.zero_add _] at h
 exact h
theorem ivB {s : ByteArray} (h1 : 1 ≤ s.size) (hs : s.size ≤ 50) {v : Value} (w : World) (hv : LawIs (runsC s.size) s.size w v) : Calls Tryz.prog 51 #[v, .int .i64 (((runsTo (byt s) s.size).length : Nat) : Int)] w (FrRet (nD s.size (lvB s)) (dD s.size (lvB s)) w) := by
 obtain ⟨g1, g2, _⟩ := runs_in (byt s) s.size
 have g3 := g2 h1
 have h := LpL.levelI_d (p := (runsTo (byt s) s.size).length - 1) (runsC_ok h1) (by show _ < s.size; omega) hs w hv
 rw [show (runsC s.size).first + ((runsTo (byt s) s.size).length - 1) = (runsTo (byt s) s.size).length by show 1 + _ = _; omega] at h
 exact h
theorem ivC {s : ByteArray} (h1 : 1 ≤ s.size) (hs : s.size ≤ 50) {v : Value} (w : World) (hv : LawIs (lenC s.size) s.size w v) : Calls Tryz.prog 51 #[v, .int .i64 (mostR (byt s) s.size)] w (FrRet (nD s.size (lvC s)) (dD s.size (lvC s)) w) := by
 obtain ⟨g1, g2⟩ := mostR_in (byt s) h1
 have h := LpL.levelI_d (p := (mostR (byt s) s.size).toNat - 1) (lenC_ok h1) (by show _ < s.size; omega) hs w hv
 rw [show (((lenC s.size).first + ((mostR (byt s) s.size).toNat - 1) : Nat) : Int) = mostR (byt s) s.size by show ((1 + _ : Nat) : Int) = _; omega] at h
 exact h
def TlRet (s : ByteArray) (w : World) (e : Ending) (w' : World) : Prop := ∃ A c, e = .returned (.tuple #[.slice A 3 c, .bool true]) ∧ OwnF w' w.heap.size (.slice A 3 c) 3 (lvF s) ∧ Below w.heap.size w w'
theorem levelsI_d (s : ByteArray) (h1 : 1 ≤ s.size) (hs : s.size ≤ 50) (hB : BitsS s) (w : World) : Calls Tryz.prog 18 #[.string s] w (TlRet s w) := by
 have HIB := J (fun W => isBits_yes s (by omega) hB W)
 have HFR := J (fun W => isFair_d (s.size : Int) W)
 rw [inR_yes (show (1 : Int) ≤ s.size ∧ (s.size : Int) ≤ 50 by omega)] at HFR
 have HO := J (fun W => LpX.onesI_d s.size hs W)
 have HR := J (fun W => LpX.runsL_d s.size h1 hs W)
 have HL := J (fun W => LpX.longL_d s.size h1 hs W)
 have HO2 := J (fun W => count_d s W)
 have HR2 := J (fun W => runsI_d s (by omega) W)
 have HL2 := J (fun W => mostI_d s (by omega) W)
 have HLN := J (fun A n c W (h : n ≤ 9223372036854775807) => AllIn.lenI_any A n c W h)
 have HA : Hid (∀ v W, LawIs (onesC s.size) s.size W v → Calls Tryz.prog 51 #[v, .int .i64 ((onesTo (byt s) s.size : Nat) : Int)] W (FrRet (nD s.size (lvA s)) (dD s.size (lvA s)) W)) := J fun v W h => ivA hs W h
 have HBb : Hid (∀ v W, LawIs (runsC s.size) s.size W v → Calls Tryz.prog 51 #[v, .int .i64 (((runsTo (byt s) s.size).length : Nat) : Int)] W (FrRet (nD s.size (lvB s)) (dD s.size (lvB s)) W)) := J fun v W h => ivB h1 hs W h
 have HCc : Hid (∀ v W, LawIs (lenC s.size) s.size W v → Calls Tryz.prog 51 #[v, .int .i64 (mostR (byt s) s.size)] W (FrRet (nD s.size (lvC s)) (dD s.size (lvC s)) W)) := J fun v W h => ivC h1 hs W h
 have HF : Hid (lvF s = [nD s.size (lvA s), dD s.size (lvA s), nD s.size (lvB s), dD s.size (lvB s), nD s.size (lvC s), dD s.size (lvC s)]) := J rfl
 unfold RunRet at HR2
 have hrl := (runs_in (byt s) s.size).1
 generalize nD s.size (lvA s) = a1 at *
 generalize dD s.size (lvA s) = a2 at *
 generalize nD s.size (lvB s) = b1 at *
 generalize dD s.size (lvB s) = b2 at *
 generalize nD s.size (lvC s) = d1 at *
 generalize dD s.size (lvC s) = d2 at *
 generalize onesTo (byt s) s.size = n1 at *
 generalize runsTo (byt s) s.size = rs at *
 generalize mostR (byt s) s.size = mm at *
 clear hB
 go_enter Tryz.func18, Tryz.ntmps18
 go_wp2_with fail
 refine (HIB.out _).mono ?_
 rintro e w0 ⟨rfl, hb0⟩
 have B0 := J hb0
 clear hb0
 go_wp2_with fail
 refine (HFR.out _).mono ?_
 rintro e w' ⟨rfl, rfl⟩
 go_wp2_with fail
 refine (HO.out _).mono ?_
 rintro e w1 ⟨v, rfl, hv, hb1⟩
 have HV := J hv.is
 have B1 := J (Base.Below.nextA B0.out hb1)
 clear hv hb1 B0
 go_wp2_with fail
 refine (HO2.out _).mono ?_
 rintro e w' ⟨rfl, rfl⟩
 go_wp2_with fail
 refine (HA.out _ _ HV.out).mono ?_
 rintro e w2 ⟨rfl, hb2⟩
 have B2 := J (Base.Below.nextA B1.out hb2)
 clear hb2 HV HO HO2 HA B1
 go_wp2_with fail
 obtain ⟨W3, hW3⟩ : ∃ W3, W3 = w2.alloc (.cells #[.int .i64 a1, .int .i64 a2] 49) := ⟨_, rfl⟩
 have K3 : Hid (Blk W3 w2.heap.size 49 #[.int .i64 a1, .int .i64 a2]) := J (by rw [hW3]; exact Blk.new w2 _ _)
 have B3 : Hid (Below w.heap.size w W3) := J (by rw [hW3]; exact B2.out.alloc B2.out.size _)
 rw [← hW3]
 clear hW3 B2
 refine (HR.out _).mono ?_
 rintro e w4 ⟨v, rfl, hv, hb4⟩
 have HV := J hv.is
 have K4 := J (K3.out.belowS hb4)
 have B4 := J (Base.Below.nextA B3.out hb4)
 clear hv hb4 K3 B3
 go_wp2_with fail
 refine (HR2.out _).mono ?_
 rintro e w5 ⟨A5, c5, rfl, _, hb5⟩
 have HV5 := J (HV.out.below hb5)
 have K5 := J (K4.out.belowS hb5)
 have B5 := J (Base.Below.nextA B4.out hb5)
 clear hb5 K4 B4 HV
 go_wp2_with fail
 refine (HLN.out _ _ _ _ (by omega)).mono ?_
 rintro e w' ⟨rfl, rfl⟩
 go_wp2_with fail
 refine (HBb.out _ _ HV5.out).mono ?_
 rintro e w6 ⟨rfl, hb6⟩
 have K6 := J (K5.out.belowS hb6)
 have B6 := J (Base.Below.nextA B5.out hb6)
 clear hb6 K5 B5 HV5 HR HR2 HBb
 go_wp2_with fail
 obtain ⟨W7, hW7⟩ : ∃ W7, W7 = w6.alloc (.cells #[.int .i64 b1, .int .i64 b2] 49) := ⟨_, rfl⟩
 have K7 : Hid (Blk W7 w2.heap.size 49 #[.int .i64 a1, .int .i64 a2] ∧ Blk W7 w6.heap.size 49 #[.int .i64 b1, .int .i64 b2]) := J (by rw [hW7]; exact ⟨K6.out.alloc _, Blk.new w6 _ _⟩)
 have B7 : Hid (Below w.heap.size w W7) := J (by rw [hW7]; exact B6.out.alloc B6.out.size _)
 rw [← hW7]
 clear hW7 B6 K6
 refine (HL.out _).mono ?_
 rintro e w8 ⟨v, rfl, hv, hb8⟩
 have HV := J hv.is
 have K8 := J (And.intro (K7.out.1.belowS hb8) (K7.out.2.belowS hb8))
 have B8 := J (Base.Below.nextA B7.out hb8)
 clear hv hb8 K7 B7
 go_wp2_with fail
 refine (HL2.out _).mono ?_
 rintro e w9 ⟨rfl, hb9⟩
 have HV9 := J (HV.out.below hb9)
 have K9 := J (And.intro (K8.out.1.belowS hb9) (K8.out.2.belowS hb9))
 have B9 := J (Base.Below.nextA B8.out hb9)
 clear hb9 K8 B8 HV
 go_wp2_with fail
 refine (HCc.out _ _ HV9.out).mono ?_
 rintro e wa ⟨rfl, hba⟩
 have Ka := J (And.intro (K9.out.1.belowS hba) (K9.out.2.belowS hba))
 have Ba := J (Base.Below.nextA B9.out hba)
 clear hba K9 B9 HV9 HL HL2 HCc
 have x0 := Ka.out.1.at 0 (v := .int .i64 a1) rfl
 have x1 := Ka.out.1.at 1 (v := .int .i64 a2) rfl
 have y0 := Ka.out.2.at 0 (v := .int .i64 b1) rfl
 have y1 := Ka.out.2.at 1 (v := .int .i64 b2) rfl
 have l0 := Ka.out.1.lt
 have l1 := Ka.out.2.lt
 have HFIN : Hid (TlRet s w (.returned (.tuple #[.slice (some ⟨wa.heap.size + 1, 0, none⟩) 3 3, .bool true])) ((wa.alloc (.cells #[.int .i64 d1, .int .i64 d2] 49)).alloc (.cells #[.int .i64 a1, .int .i64 a2, .int .i64 b1, .int .i64 b2, .int .i64 d1, .int .i64 d2] 49))) := J (by
  refine ⟨_, _, rfl, ?_, (Ba.out.alloc Ba.out.size _).alloc (by have := Ba.out.size; simp; omega) _⟩
  have h := World.ownsRow_lit (e := 49) (size := 2) (base := w.heap.size) (wa.alloc (.cells #[.int .i64 d1, .int .i64 d2] 49)) #[.int .i64 a1, .int .i64 a2, .int .i64 b1, .int .i64 b2, .int .i64 d1, .int .i64 d2] 3 (by have := Ba.out.size; simp; omega) (by simp [maxLen]) rfl
  rw [HF.out]
  simpa [OwnF, ints] using h)
 clear Ka Ba
 go_wp2
 refine bodyPost_ret (v := .tuple #[.slice (some ⟨wa.heap.size + 1, 0, none⟩) 3 3, .bool true]) (by simp [results, Tryz.results18, go_sem]) rfl ?_
 exact HFIN.out
end LpT
namespace LpM
open Go.RowKit Base Mem MemF Blk LvK LvN LpR LpT Str Take
theorem implLv_any (K W T m f a s c : Int) (w : World) : Calls Tryz.prog 11 #[.agg #[.int .i64 K, .int .i64 W, .int .i64 T, .int .i64 m, .int .i64 f, .int .i64 a, .int .i64 s], .int .i64 c] w (LvRet K W T m f a s c w) := by
 obtain ⟨W1, hW1⟩ : ∃ W1, W1 = w.alloc (.cells #[.int .i64 K, .int .i64 W, .int .i64 T, .int .i64 m, .int .i64 f, .int .i64 a, .int .i64 s] 29) := ⟨_, rfl⟩
 have K1 : Hid (Blk W1 w.heap.size 29 #[.int .i64 K, .int .i64 W, .int .i64 T, .int .i64 m, .int .i64 f, .int .i64 a, .int .i64 s]) := J (by rw [hW1]; exact Blk.new w _ _)
 have B1 : Hid (Below w.heap.size w W1) := J (by rw [hW1]; exact (Below.refl _ _).alloc (Nat.le_refl _) _)
 have HW := J hW1
 have HVS := J (fun W' => validStream_any K W T m f a s W')
 clear hW1
 cases hB : streamB K W T m f a s with
 | false =>
  rw [hB] at HVS
  have HN := J (fun w' => LvRet.no (w := w) (w' := w') (show okL K W T m f a s c = false by simp [okL, hB]))
  clear hB
  go_enter Tryz.func11, Tryz.ntmps11
  go_wp2_with fail
  rw [← HW.out]
  refine (HVS.out _).mono ?_
  rintro e w1 ⟨rfl, hb1⟩
  have B2 := J (Base.Below.nextA B1.out hb1)
  clear hb1
  go_wp2
  refine bodyPost_ret (v := .tuple #[.slice none 0 0, .bool false]) (by simp [results, Tryz.results11, go_sem]) rfl ?_
  exact HN.out _ B2.out
 | true =>
  have HFR := J (fun W' => isFair_d c W')
  rw [hB] at HVS
  cases hc : inR c 1 50 with
  | false =>
   rw [hc] at HFR
   have HN := J (fun w' => LvRet.no (w := w) (w' := w') (show okL K W T m f a s c = false by simp [okL, hB, hc]))
   clear hB hc
   go_enter Tryz.func11, Tryz.ntmps11
   go_wp2_with fail
   rw [← HW.out]
   refine (HVS.out _).mono ?_
   rintro e w1 ⟨rfl, hb1⟩
   have B2 := J (Base.Below.nextA B1.out hb1)
   clear hb1
   go_wp2_with fail
   refine (HFR.out _).mono ?_
   rintro e w' ⟨rfl, rfl⟩
   go_wp2
   refine bodyPost_ret (v := .tuple #[.slice none 0 0, .bool false]) (by simp [results, Tryz.results11, go_sem]) rfl ?_
   exact HN.out _ B2.out
  | true =>
   rw [hc] at HFR
   have h7 := inR_true hc
   have hc4 : inR c 0 400 = true := by simp [inR]; omega
   have HT := J (fun w => implTake_yes hB hc4 w)
   have hsz := Face.takeL_size K W T m f a s c
   have hbt := Face.takeL_bits K W T m f a s c
   have HY := J (fun w' A k => LvRet.yes (w := w) (w' := w') (A := A) (k := k) (show okL K W T m f a s c = true by simp [okL, hB, hc]))
   unfold txtL at HY
   unfold TakeR at HT
   generalize takeX K W T m f a s c = x at *
   obtain ⟨t, ht⟩ : ∃ t, (⟨(takeL K W T m f a s c).toArray⟩ : ByteArray) = t := ⟨_, rfl⟩
   rw [ht] at HT HY hsz hbt
   have HL := J (fun W => levelsI_d t (by omega) (by omega) hbt W)
   clear hB hc ht hsz hbt h7 hc4
   go_enter Tryz.func11, Tryz.ntmps11
   go_wp2_with fail
   rw [← HW.out]
   refine (HVS.out _).mono ?_
   rintro e w1 ⟨rfl, hb1⟩
   have B2 := J (Base.Below.nextA B1.out hb1)
   have K2 := J (K1.out.belowS hb1)
   clear hb1
   go_wp2_with fail
   refine (HFR.out _).mono ?_
   rintro e w' ⟨rfl, rfl⟩
   have d0 := K2.out.at 0 (v := .int .i64 K) rfl
   have d1 := K2.out.at 1 (v := .int .i64 W) rfl
   have d2 := K2.out.at 2 (v := .int .i64 T) rfl
   have d3 := K2.out.at 3 (v := .int .i64 m) rfl
   have d4 := K2.out.at 4 (v := .int .i64 f) rfl
   have d5 := K2.out.at 5 (v := .int .i64 a) rfl
   have d6 := K2.out.at 6 (v := .int .i64 s) rfl
   go_wp2_with fail
   clear d0 d1 d2 d3 d4 d5 d6
   refine (HT.out _).mono ?_
   rintro e w2 ⟨rfl, hb2⟩
   have B3 := J (Base.Below.nextA B2.out hb2)
   clear hb2
   go_wp2_with fail
   refine (HL.out _).mono ?_
   rintro e w4 ⟨A, k, rfl, ho, hb4⟩
   have B4 := J (Base.Below.nextA (B3.out.alloc B3.out.size _) hb4)
   have O4 := J (ownsRow_base ho (B3.out.alloc B3.out.size _).size)
   clear ho hb4
   go_wp2
   refine bodyPost_ret (v := .tuple #[.slice A 3 k, .bool true]) (by simp [results, Tryz.results11, go_sem]) rfl ?_
   exact HY.out _ _ _ O4.out B4.out
end LpM
namespace LcG
open Go.RowKit Base Mem MemS LabM LabV StM Str StTx Dec Val Rd CarM LcA LcC Take
end LcG
end Go.Proofs.YtgipnbeipfhekaaGreatDoor
namespace Go.Proofs
open Go.Shelf
def YtgipnbeipfhekaaGreatDoor.lj156_ren : Go.Shelf.Ren := ⟨fun | 156 => 144 | 165 => 192 | 166 => 46 | 169 => 48 | 240 => 90 | 241 => 228 | 276 => 145 | 277 => 246 | n => n, fun | 31 => 50 | 9 => 9 | 3 => 3 | 4 => 4 | 0 => 0 | 20 => 20 | 72 => 93 | 76 => 98 | 70 => 91 | 37 => 22 | 75 => 97 | 127 => 141 | 164 => 190 | 5 => 5 | 80 => 101 | n => n, fun | n => n⟩
theorem YtgipnbeipfhekaaGreatDoor.lj156 : Go.Proofs.Lays.n156 Tryz.prog YtgipnbeipfhekaaGreatDoor.lj156_ren := {
 mixed := by kernel_rfl
 f156 := Tryz.func144.trans (congrArg some (by kernel_rfl))
 f165 := Tryz.func192.trans (congrArg some (by kernel_rfl))
 f166 := Tryz.func46.trans (congrArg some (by kernel_rfl))
 f169 := Tryz.func48.trans (congrArg some (by kernel_rfl))
 f240 := Tryz.func90.trans (congrArg some (by kernel_rfl))
 f241 := Tryz.func228.trans (congrArg some (by kernel_rfl))
 f276 := Tryz.func145.trans (congrArg some (by kernel_rfl))
 f277 := Tryz.func246.trans (congrArg some (by kernel_rfl))
 t0 := Tryz.underlying0
 a0 := Tryz.isAgg0
 z0 := Tryz.sizeOf0
 v0 := Tryz.zeroValue0
 t3 := Tryz.underlying3
 a3 := Tryz.isAgg3
 z3 := Tryz.sizeOf3
 v3 := Tryz.zeroValue3
 t4 := Tryz.underlying4
 a4 := Tryz.isAgg4
 z4 := Tryz.sizeOf4
 v4 := Tryz.zeroValue4
 t9 := Tryz.underlying9
 a9 := Tryz.isAgg9
 z9 := Tryz.sizeOf9
 v9 := Tryz.zeroValue9
 t20 := Tryz.underlying20
 a20 := Tryz.isAgg20
 z20 := Tryz.sizeOf20
 v20 := Tryz.zeroValue20
 t31 := Tryz.underlying50
 a31 := Tryz.isAgg50
 z31 := Tryz.sizeOf50
 v31 := Tryz.zeroValue50
 t37 := Tryz.underlying22
 a37 := Tryz.isAgg22
 z37 := Tryz.sizeOf22
 v37 := Tryz.zeroValue22
 t70 := Tryz.underlying91
 a70 := Tryz.isAgg91
 z70 := Tryz.sizeOf91
 v70 := Tryz.zeroValue91
 t72 := Tryz.underlying93
 a72 := Tryz.isAgg93
 z72 := Tryz.sizeOf93
 v72 := Tryz.zeroValue93
 t75 := Tryz.underlying97
 a75 := Tryz.isAgg97
 z75 := Tryz.sizeOf97
 v75 := Tryz.zeroValue97
 t76 := Tryz.underlying98
 a76 := Tryz.isAgg98
 z76 := Tryz.sizeOf98
 v76 := Tryz.zeroValue98
 t127 := Tryz.underlying141
 a127 := Tryz.isAgg141
 z127 := Tryz.sizeOf141
 v127 := Tryz.zeroValue141
 t164 := Tryz.underlying190
 a164 := Tryz.isAgg190
 z164 := Tryz.sizeOf190
 v164 := Tryz.zeroValue190 }
theorem YtgipnbeipfhekaaGreatDoor.ljx156 : Builder.Extra Tryz.prog YtgipnbeipfhekaaGreatDoor.lj156_ren where
 sizeBuilder := by kernel_rfl
 liesBuilder := by kernel_rfl
 t5 := Tryz.underlying5
 a5 := Tryz.isAgg5
 z5 := Tryz.sizeOf5
 v5 := Tryz.zeroValue5
 infoByte := by kernel_rfl
 cellsByte := by kernel_rfl
 sizeByte := by kernel_rfl
 neB5 := by decide
end Go.Proofs
namespace Go.Proofs.YtgipnbeipfhekaaGreatDoor
namespace LcG
open Go.RowKit Base Mem MemS LabM LabV StM StTx Dec Val Rd CarM
theorem join_own {w : World} {B c : Nat} {A : Option Addr} {ls : List (List UInt8)} (sep : List UInt8) (hO : w.ownsRow B 9 1 (.slice A ls.length c) ls.length (texts (ls.map tx))) (h0 : 0 < ls.length) (hn : ls.length ≤ 1000) (hlen : (Lib.join ls sep).length ≤ 100000) :
  Calls Tryz.prog 144 #[.slice A ls.length c, .string (tx sep)] w fun e w' => e = .returned (.string (tx (Lib.join ls sep))) ∧ Below w.heap.size w w' := by
 have hml : (ls.map tx).length = ls.length := List.length_map _
 obtain ⟨g, hA, hc, hg⟩ : ∃ g, A = some ⟨g, 0, none⟩ ∧ ls.length ≤ c ∧ g < w.heap.size := by
  rcases hO.2 with ⟨hv, h1⟩ | ⟨g, cap, cur, hv, _, h2, h3, _⟩
  ·omega
  ·injection hv with e1 e2 e3
   refine ⟨g, e1, by omega, ?_⟩
   rcases Nat.lt_or_ge g w.heap.size with hlt | hge
   ·exact hlt
   ·rw [Array.getElem?_eq_none hge] at h2; cases h2
 subst hA
 have e1 : (ls.map tx).map (·.data.toList) = ls := by rw [List.map_map]; exact (List.map_congr_left fun x _ => by simp).trans (List.map_id ls)
 have k := Any.strings_Join YtgipnbeipfhekaaGreatDoor.lj156 YtgipnbeipfhekaaGreatDoor.ljx156 g 0 c (ls.map tx) (tx sep) w (fun j x hj => by
  have hjl : j < ls.length := by have := (List.getElem?_eq_some_iff.1 hj).1; omega
  rw [Nat.zero_add, World.ownsRow.cellAt hO j (by omega)]
  simp only [texts, List.getElem?_map, hj, Option.map_some]) hg (by omega) (by omega) (by rw [e1, list_tx]; omega)
 rw [e1, list_tx, hml] at k
 exact k
theorem fracText_any (p q : Nat) (hp : p ≤ 1000000000000000000) (hq : q ≤ 1000000000000000000) (w : World) (ht : Tabs w) :
  Calls Tryz.prog 42 #[.agg #[.int .i64 (p : Int), .int .i64 (q : Int)]] w fun e w' => e = .returned (.string (tx (fracR p q))) ∧ Below w.heap.size w w' := by
 have hd1 := dec_len (u := p) (by omega)
 have hd2 := dec_len (u := q) (by omega)
 obtain ⟨W2, hW2⟩ : ∃ W2, W2 = w.alloc (.cells #[.int .i64 (p : Int), .int .i64 (q : Int)] 49) := ⟨_, rfl⟩
 have b2 : Below w.heap.size w W2 := by rw [hW2]; exact (Below.refl _ _).alloc (Nat.le_refl _) _
 have KF : Hid (Blk.Blk W2 w.heap.size 49 #[.int .i64 (p : Int), .int .i64 (q : Int)]) := J (by rw [hW2]; exact Blk.Blk.new w _ _)
 have HD := J (fun W (hb : Below W2.heap.size W2 W) => And.intro (decimal_any p (by omega) W.heap.size W (ht.on (Base.Below.nextA b2 hb)).1 (Nat.le_refl _)) (decimal_any q (by omega) W.heap.size W (ht.on (Base.Below.nextA b2 hb)).1 (Nat.le_refl _)))
 have HB := J b2
 have HW := J hW2
 by_cases h1 : q = 1
 ·have hf : fracR p q = Lib.decDigits p := by unfold fracR decI; rw [if_pos (by omega), Int.toNat_natCast]
  rw [hf]
  subst h1
  clear hW2 b2 ht hf
  go_enter Tryz.func42, Tryz.ntmps42
  go_wp2_with fail
  rw [show w.alloc (.cells #[.int .i64 (p : Int), .int .i64 1] 49) = W2 from HW.out.symm]
  refine (HD.out W2 (Below.refl _ _)).1.mono ?_
  rintro e w1 ⟨rfl, b1⟩
  have HB1 := J (Base.Below.nextA HB.out b1)
  clear b1
  go_wp2
  go_ret
  exact ⟨rfl, HB1.out⟩
 ·have hf : fracR p q = Lib.decDigits p ++ 47 :: Lib.decDigits q := by unfold fracR decI; rw [if_neg (by omega), Int.toNat_natCast, Int.toNat_natCast]
  rw [hf]
  have HA1 := J (addTx (Lib.decDigits p) [47] (by simp; omega))
  have HA2 := J (addTx (Lib.decDigits p ++ [47]) (Lib.decDigits q) (by simp; omega))
  rw [show Lib.decDigits p ++ [47] ++ Lib.decDigits q = Lib.decDigits p ++ 47 :: Lib.decDigits q by simp] at HA2
  have hq1 : ¬ ((q : Int) = 1) := by omega
  have hq2 : ((q : Int) == 1) = false := by simp only [beq_eq_false_iff_ne]; omega
  clear hW2 b2 ht hf hd1 hd2
  generalize tx (Lib.decDigits p ++ 47 :: Lib.decDigits q) = t3 at *
  generalize tx (Lib.decDigits p ++ [47]) = t2 at *
  generalize tx (Lib.decDigits p) = t1 at *
  generalize tx (Lib.decDigits q) = t0 at *
  go_enter Tryz.func42, Tryz.ntmps42
  go_wp2_with fail
  rw [← HW.out]
  refine Rel.wp_region_rel 8 (by kernel_rfl) (by kernel_rfl) (fun F hF => ?_)
  simp only [List.take_succ_cons, List.take_zero, List.drop_succ_cons, List.drop_zero, Rel.putL] at hF ⊢
  have HF := J hF
  clear hF
  have uv := @Rel.upon_value Tryz.prog
  have ue := @Rel.upon_enter Tryz.prog
  apply Rel.rel_pure
  apply Exists.intro
  refine ⟨fun vs wq hq hdp R hR => ?_, ?_⟩
  ·(rw [HF.out, Rel.stepAt_eq]; clear hdp; skip; go_simp; exact hR)
  apply Rel.rel_pure
  apply Exists.intro
  refine ⟨fun vs wq hq hdp R hR => ?_, ?_⟩
  ·(rw [HF.out, Rel.stepAt_eq]; have qd0 : vs 0 = _ := Rel.dep hdp 0 (by kernel_rfl); clear hdp; have x0 := (KF.out.belowS hq).at 0 (v := .int .i64 (p : Int)) rfl; go_simp; exact hR)
  apply Rel.rel_same
  apply Exists.intro
  refine ⟨fun vs wq hq hdp => ?_, ?_⟩
  ·(rw [HF.out, Rel.stepAt_eq]; have qd1 : vs 1 = _ := Rel.dep hdp 1 (by kernel_rfl); clear hdp; skip; go_simp; refine (HD.out wq hq).1.mono ?_; rintro e w7 ⟨rfl, hb⟩; exact ⟨_, rfl, rfl, hb⟩)
  apply Rel.rel_pure
  apply Exists.intro
  refine ⟨fun vs wq hq hdp R hR => ?_, ?_⟩
  ·(rw [HF.out, Rel.stepAt_eq]; have qd2 : vs 2 = _ := Rel.dep hdp 2 (by kernel_rfl); clear hdp; have ha := HA1.out; go_simp; exact hR)
  apply Rel.rel_pure
  apply Exists.intro
  refine ⟨fun vs wq hq hdp R hR => ?_, ?_⟩
  ·(rw [HF.out, Rel.stepAt_eq]; clear hdp; skip; go_simp; exact hR)
  apply Rel.rel_pure
  apply Exists.intro
  refine ⟨fun vs wq hq hdp R hR => ?_, ?_⟩
  ·(rw [HF.out, Rel.stepAt_eq]; have qd4 : vs 4 = _ := Rel.dep hdp 4 (by kernel_rfl); clear hdp; have x1 := (KF.out.belowS hq).at 1 (v := .int .i64 (q : Int)) rfl; go_simp; exact hR)
  apply Rel.rel_same
  apply Exists.intro
  refine ⟨fun vs wq hq hdp => ?_, ?_⟩
  ·(rw [HF.out, Rel.stepAt_eq]; have qd5 : vs 5 = _ := Rel.dep hdp 5 (by kernel_rfl); clear hdp; skip; go_simp; refine (HD.out wq hq).2.mono ?_; rintro e w7 ⟨rfl, hb⟩; exact ⟨_, rfl, rfl, hb⟩)
  apply Rel.rel_pure
  apply Exists.intro
  refine ⟨fun vs wq hq hdp R hR => ?_, ?_⟩
  ·(rw [HF.out, Rel.stepAt_eq]; have qd3 : vs 3 = _ := Rel.dep hdp 3 (by kernel_rfl); have qd6 : vs 6 = _ := Rel.dep hdp 6 (by kernel_rfl); clear hdp; have ha := HA2.out; go_simp; exact hR)
  refine Rel.rel_end (fun vs wq hq hall => ?_)
  rw [HF.out]
  have qe0 : vs 0 = _ := Rel.fin hall 0 (by decide)
  have qe1 : vs 1 = _ := Rel.fin hall 1 (by decide)
  have qe2 : vs 2 = _ := Rel.fin hall 2 (by decide)
  have qe3 : vs 3 = _ := Rel.fin hall 3 (by decide)
  have qe4 : vs 4 = _ := Rel.fin hall 4 (by decide)
  have qe5 : vs 5 = _ := Rel.fin hall 5 (by decide)
  have qe6 : vs 6 = _ := Rel.fin hall 6 (by decide)
  have qe7 : vs 7 = _ := Rel.fin hall 7 (by decide)
  clear hall HF uv ue
  have HBF := J (Base.Below.nextA HB.out hq)
  clear hq qe0 qe1 qe2 qe3 qe4 qe5 qe6
  go_wp2
  go_ret
  exact ⟨rfl, HBF.out⟩
end LcG
namespace LcG
open Go.RowKit Base Mem MemS LabM LabV StM StTx Dec Val Rd CarM
def PtRel (ls : List (List UInt8)) (w : World) (ov : Value) (i : Nat) (wr : World) : Prop := Hid (wr.ownsRow w.heap.size 9 1 ov i (texts ((ls.take i).map tx))) ∧ Hid (Below w.heap.size w wr)
theorem PtRel.nil (ls : List (List UInt8)) (w : World) : PtRel ls w (.slice (some ⟨w.heap.size, 0, none⟩) 0 0) 0 (w.alloc (.cells #[] 9)) :=
 ⟨J (by have := World.ownsRow_made (base := w.heap.size) (e := 9) (size := 1) w #[] 0 (Nat.le_refl _) (Nat.zero_le _) rfl; simpa [texts] using this), J ((Below.refl _ _).alloc (Nat.le_refl _) _)⟩
theorem PtRel.row {ls : List (List UInt8)} {w wr w2 : World} {ov : Value} {i : Nat} (h : PtRel ls w ov i wr) (hb : Below wr.heap.size wr w2) (t : ByteArray) : (w2.alloc (.cells #[.string t] 9)).ownsRow w.heap.size 9 1 ov i (texts ((ls.take i).map tx)) := World.ownsRow.alloc (ownsRow_below h.1.out hb) _
theorem PtRel.next {ls : List (List UInt8)} {w wr w2 w3 : World} {v v' : Value} {i : Nat} {d : List UInt8} (h : PtRel ls w v i wr) (hi : ls[i]? = some d) (hb : Below wr.heap.size wr w2)
  (hown : w3.ownsRow w.heap.size 9 1 v' (i + 1) (texts ((ls.take i).map tx) ++ [.string (tx d)])) (hg : (w2.alloc (.cells #[.string (tx d)] 9)).grownBy w3 v.ownBlock) : PtRel ls w v' (i + 1) w3 := by
 have e : texts ((ls.take (i + 1)).map tx) = texts ((ls.take i).map tx) ++ [.string (tx d)] := by rw [List.take_add_one, hi]; simp [texts]
 refine ⟨J (by rw [e]; exact hown), J ?_⟩
 have h1 := (h.row hb (tx d))
 have b2 := Base.Below.nextA h.2.out hb
 exact (b2.alloc b2.size _).trans (grown_below hg (fun q hq => (ownsRow_block h1 hq).choose_spec.2.1) (by have := b2.size; simp; omega))
theorem PtRel.form {ls : List (List UInt8)} {w wr : World} {v : Value} {i : Nat} (h : PtRel ls w v i wr) : ∃ A c, v = .slice A i c := by
 obtain ⟨A, c, e, _⟩ := ownsRow_form h.1.out
 exact ⟨A, c, e⟩
theorem listText_any (A : Option Addr) (c B : Nat) (xs : List Int) (w : World) (hx : RdI w B A xs) (hB : B ≤ w.heap.size) (hn : xs.length ≤ 40) (hr : ∀ x ∈ xs, 0 ≤ x ∧ x ≤ 1000000000000000000) (hlen : (Lib.join (xs.map decI) [44]).length ≤ 100000) (ht : Tabs w) :
  Calls Tryz.prog 142 #[.slice A xs.length c] w fun e w' => e = .returned (.string (tx (listR xs))) ∧ Below w.heap.size w w' := by
 obtain ⟨ix, hix, xz0, xz1, xz2⟩ := info_parts infoT
 have H0 := J (PtRel.nil (xs.map decI) w)
 have HX := J hx
 have HT := J ht
 have HR := J hr
 have HLN := J hlen
 clear hx hr ht hlen
 go_enter Tryz.func142, Tryz.ntmps142
 go_wp2
 go_loopw [3, 9] (fun ov iv wr => ∃ i : Nat, i ≤ xs.length ∧ iv = .int .i64 (i : Int) ∧ PtRel (xs.map decI) w ov i wr) (fun _ iv _ => xs.length - (intOf iv).toNat)
 case atStart => exact ⟨0, Nat.zero_le _, rfl, H0.out⟩
 case round =>
  obtain ⟨i, hi, rfl, HP⟩ := hrel
  obtain ⟨wo, rfl⟩ : ∃ x, x = wr := ⟨_, rfl⟩
  by_cases hlt : i < xs.length
  ·obtain ⟨b, off, rfl, hb2, hcc⟩ := (HX.out.below HP.2.out hB) (by omega)
   have g1 := hcc i hlt
   have hxi := HR.out _ (List.getElem_mem hlt)
   have hgd : xs.getD i 0 = xs[i] := by simp [List.getD, hlt]
   rw [hgd] at g1
   have hmi : (xs.map decI)[i]? = some (decI xs[i]) := by simp [hlt]
   obtain ⟨u, hu⟩ := Int.eq_ofNat_of_zero_le hxi.1
   rw [hu] at g1 hmi hxi
   have hde : decI ((u : Nat) : Int) = Lib.decDigits u := by unfold decI; rw [Int.toNat_natCast]
   rw [hde] at hmi
   have HD := J (decimal_any u (by omega) wo.heap.size wo (HT.out.on HP.2.out).1 (Nat.le_refl _))
   have HPP := J HP
   have HMI := J hmi
   obtain ⟨A1, c1, e5⟩ := HP.form
   subst e5
   clear H0 HP hcc hgd hmi hu hde
   go_wp2_with fail
   refine HD.out.mono ?_
   rintro e w2 ⟨rfl, hb⟩
   have HW := J (HPP.out.row hb (tx (Lib.decDigits u)))
   have HB2 := J hb
   have hs2 := hb.size
   have hs3 := HPP.out.2.out.size
   clear hb HD
   obtain ⟨d, hd⟩ : ∃ d, d = tx (Lib.decDigits u) := ⟨_, rfl⟩
   have HDD := J hd
   rw [← hd] at HW ⊢
   clear hd
   obtain ⟨Rw, hRw⟩ : ∃ R, R = texts (((xs.map decI).take i).map tx) := ⟨_, rfl⟩
   have HRW := J hRw
   rw [← hRw] at HW
   clear hRw
   go_wp2_with (at_builtin; refine wpList_append_own_at _ rfl (.tmp 13) (.tmp 16) 50 rfl w.heap.size 9 ix (.string ByteArray.empty) 1 16 Tryz.underlying50 hix xz0 xz1 xz2 rfl (by decide) _ _ _ rfl HW.out ⟨w2.heap.size, 0, none⟩ 1 1 [.string d] rfl rfl ?p1a ?p2a ?p3a ?p4a ?p5a ?_)
   try case p1a => exact news_one _ _ _ (by simp)
   try case p2a => first | rfl | (intro u hu; simp at hu; subst hu; rfl)
   try case p3a => first | (simp only [maxLen]; omega) | omega
   try case p4a => omega
   try case p5a => first | (simp only [World.size_alloc]; omega) | omega
   intro v' w3 hown' hg' _ he
   rw [HRW.out, HDD.out] at hown'
   rw [HDD.out] at hg'
   have HN := J (HPP.out.next HMI.out HB2.out hown' hg')
   clear hown' hg' he
   go_wp2
   go_roundw
   case rel => exact ⟨i + 1, by omega, by simp, HN.out⟩
   case measure => simp [intOf]; omega
  ·obtain rfl : i = xs.length := by omega
   obtain ⟨A1, c1, e5⟩ := HP.form
   subst e5
   by_cases h0 : xs.length = 0
   ·have hz : xs = [] := List.length_eq_zero_iff.1 h0
    have HBF := J HP.2.out
    have hl0 : (xs.length : Int) = 0 := by omega
    have hres : tx (listR xs) = ⟨#[110, 111, 110, 101]⟩ := by rw [hz]; rfl
    have HRS := J hres
    clear H0 HP HX HR HLN hz hlt hres
    go_wp2
    go_ret
    exact ⟨by rw [HRS.out]; rfl, HBF.out⟩
   ·have hrow := HP.1.out
    have hml : (xs.map decI).length = xs.length := List.length_map _
    rw [show (xs.map decI).take xs.length = xs.map decI by rw [← hml, List.take_length]] at hrow
    have HJ := J (join_own (B := w.heap.size) (c := c1) (A := A1) (ls := xs.map decI) [44] (by rw [hml]; exact hrow) (by omega) (by omega) HLN.out)
    rw [hml] at HJ
    have hres : listR xs = Lib.join (xs.map decI) [44] := by unfold listR joinR; rw [if_neg (fun e => h0 (by rw [e]; rfl))]
    have HRS := J hres
    have HBF := J HP.2.out
    have hl0 : ¬ ((xs.length : Int) = 0) := by omega
    have hl1 : ((xs.length : Int) == 0) = false := by simp only [beq_eq_false_iff_ne]; omega
    clear H0 HP HX HR HLN hrow hml hres
    go_wp2_with fail
    refine HJ.out.mono ?_
    rintro e w3 ⟨rfl, hb3⟩
    have HB3 := J (Base.Below.nextA HBF.out hb3)
    clear hb3
    go_wp2
    go_ret
    exact ⟨by rw [HRS.out]; rfl, HB3.out⟩
end LcG
namespace LcG
open Go.RowKit Base Mem MemS LabM LabV StM Str StTx Dec Val Rd CarM LcA LcC Take Face
end LcG
namespace LcG
open Go.RowKit Base Mem MemS LabM LabV StM Str StTx Dec Val Rd CarM LcA LcC Take Face
theorem fracsR_len (R : List Int) : ∀ k, (fracsR R k).length = k
 | 0 => rfl
 | k + 1 => by rw [fracsR, List.length_append, fracsR_len R k]; rfl
theorem fracsR_take (R : List Int) : ∀ (k i : Nat), i ≤ k → (fracsR R k).take i = fracsR R i
 | 0, i, hi => by
  have : i = 0 := by omega
  subst this; rfl
 | k + 1, i, hi => by
  by_cases h : i = k + 1
  ·subst h
   exact List.take_of_length_le (by rw [fracsR_len]; exact Nat.le_refl _)
  ·rw [fracsR, List.take_append_of_le_length (by rw [fracsR_len]; omega), fracsR_take R k i (by omega)]
theorem fracsR_get (R : List Int) {k i : Nat} (h : i < k) : (fracsR R k)[i]? = some (fracR (R.getD (2 * i) 0) (R.getD (2 * i + 1) 0)) := by
 have h1 := fracsR_take R k (i + 1) h
 have h2 : ((fracsR R k).take (i + 1))[i]? = (fracsR R k)[i]? := List.getElem?_take_of_lt (Nat.lt_succ_self i)
 rw [← h2, h1, fracsR, List.getElem?_append_right (by rw [fracsR_len]; exact Nat.le_refl _), fracsR_len, Nat.sub_self]
 rfl
end LcG
namespace LcG
open Go.RowKit Base Mem MemS LabM LabV StM StTx Dec Val Rd CutP RecJ CarM LcA
theorem rdT_put {w : World} {B : Nat} {A : Option Addr} {ss : List ByteArray} (h : RdT w B A ss) {p : Addr} {a : Option Addr} {n c : Nat} (hp : w.cell? p = some (.slice a n c)) (x : Value) : RdT (w.setCell p x) B A ss := fun h0 => by
 obtain ⟨b, off, e, hb, hc⟩ := h h0
 refine ⟨b, off, e, hb, fun i hi => ?_⟩
 rw [World.cell?_setCell_other w p _ x (fun e2 => by have := hc i hi; rw [← e2, hp] at this; cases this)]
 exact hc i hi
theorem rdS_put {w : World} {B n' : Nat} {A : Option Addr} {fs : List Int} (h : RdS w B A n' fs) {p : Addr} {a : Option Addr} {n c : Nat} (hp : w.cell? p = some (.slice a n c)) (x : Value) : RdS (w.setCell p x) B A n' fs := fun h0 => by
 obtain ⟨b, off, e, hb, hc⟩ := h h0
 refine ⟨b, off, e, hb, fun i hi => ?_⟩
 rw [World.cell?_setCell_other w p _ x (fun e2 => by have := hc i hi; rw [← e2, hp] at this; cases this)]
 exact hc i hi
theorem labPut {w : World} {v : Value} {L : Lb} (h : LabAt w v L) {p : Addr} {a : Option Addr} {n c : Nat} (hp : w.cell? p = some (.slice a n c)) (x : Value) : LabAt (w.setCell p x) v L := by
 obtain ⟨A, k, A', k', e, h1, h2, h3, h4⟩ := h
 refine ⟨A, k, A', k', e, ?_, ?_, h3.put p x, h4.put p x⟩
 ·have := rdT_put h1 hp x
  simpa using this
 ·have := rdS_put h2 hp x
  simpa using this
theorem labPut2 {w : World} {v : Value} {L : Lb} {b : Nat} {t : TypeId} {a1 a2 : Option Addr} {n1 n2 c1 c2 : Nat} (h : LabAt w v L) (hK : Blk.Blk w b t #[.slice a1 n1 c1, .slice a2 n2 c2]) (x y : Value) : LabAt ((w.setCell ⟨b, 0, none⟩ x).setCell ⟨b, 1, none⟩ y) v L :=
 labPut (labPut h (hK.at 0 (v := .slice a1 n1 c1) rfl) x) ((hK.setTo 0 x rfl).at 1 (v := .slice a2 n2 c2) rfl) y
end LcG
namespace LcG
open Go.RowKit Base Mem MemS LabM LabV StM StTx Dec Val Rd CutP RecJ CarM LcA
def CarRet (L' : Lb) (t : ByteArray) (w : World) (e : Ending) (w' : World) : Prop := ∃ v', e = .returned (.tuple #[v', .string t]) ∧ LabAt w' v' L' ∧ Below w.heap.size w w'
end LcG
end Go.Proofs.YtgipnbeipfhekaaGreatDoor
namespace Go.Proofs
open Go.Shelf
def YtgipnbeipfhekaaGreatDoor.lv100_ren : Go.Shelf.Ren := ⟨fun | 100 => 43 | 207 => 84 | n => n, fun | 9 => 9 | 4 => 4 | 3 => 3 | n => n, fun | n => n⟩
theorem YtgipnbeipfhekaaGreatDoor.lv100 : Go.Proofs.Lays.n100 Tryz.prog YtgipnbeipfhekaaGreatDoor.lv100_ren := {
 mixed := by kernel_rfl
 f100 := Tryz.func43.trans (congrArg some (by kernel_rfl))
 f207 := Tryz.func84.trans (congrArg some (by kernel_rfl))
 t3 := Tryz.underlying3
 a3 := Tryz.isAgg3
 z3 := Tryz.sizeOf3
 v3 := Tryz.zeroValue3
 t4 := Tryz.underlying4
 a4 := Tryz.isAgg4
 z4 := Tryz.sizeOf4
 v4 := Tryz.zeroValue4
 t9 := Tryz.underlying9
 a9 := Tryz.isAgg9
 z9 := Tryz.sizeOf9
 v9 := Tryz.zeroValue9 }
end Go.Proofs
namespace Go.Proofs.YtgipnbeipfhekaaGreatDoor
namespace LcG
open Go.RowKit Base Mem MemS LabM LabV StM StTx Dec Val Rd CutP RecJ CarM LcA LcC Jour
def CarC (L : Lb) (line : List UInt8) : Prop := ∀ v w, LabAt w v L → Tabs w → Calls Tryz.prog 45 #[v, .string (tx line)] w (CarRet (lineR L line).1 (tx (lineR L line).2) w)
def script (ls : List (List UInt8)) : List UInt8 := ls.flatMap (· ++ [10])
theorem cut_script : ∀ (ls : List (List UInt8)), (∀ x ∈ ls, ∀ c ∈ x, c ≠ 10) → cutR 10 (script ls) = ls ++ [[]]
 | [], _ => StrM.cut_end (fun x hx => by cases hx)
 | x :: r, h => by
  have e : script (x :: r) = x ++ 10 :: script r := by simp [script]
  rw [e, StrM.cut_at (h x List.mem_cons_self), cut_script r fun y hy => h y (List.mem_cons_of_mem _ hy)]
  rfl
theorem lines_snoc (x : List UInt8) : ∀ (ls : List (List UInt8)) (L : Lb), runR L (ls ++ [x]) = ((lineR (runR L ls).1 x).1, (runR L ls).2 ++ ((lineR (runR L ls).1 x).2 ++ [10]))
 | [], L => by simp [runR]
 | y :: r, L => by
  rw [List.cons_append, runR, runR, lines_snoc x r]
  simp
theorem suffix_script {ls : List (List UInt8)} (h : ls ≠ []) : Lib.hasSuffix (script ls) [10] = true := by
 obtain ⟨r, x, rfl⟩ : ∃ r x, ls = r ++ [x] := ⟨ls.dropLast, ls.getLast h, (List.dropLast_concat_getLast h).symm⟩
 unfold Lib.hasSuffix script
 rw [List.flatMap_append]
 exact List.isSuffixOf_iff_suffix.2 ⟨r.flatMap (· ++ [10]) ++ x, by simp⟩
theorem labKeep {w w' : World} {v : Value} {L : Lb} {b : Nat} {t : TypeId} {cs : Array Value} (h : LabAt w v L) (hk : KeepB b w w') (hb : Blk.Blk w b t cs) (h1 : t ≠ 9) (h2 : t ≠ 29) : LabAt w' v L := by
 obtain ⟨A, c, A', c', e, r1, r2, t1, t2⟩ := h
 have key : ∀ (q : Option Addr) (t' : TypeId), t ≠ t' → t' ≠ 5 → TyAt w q t' → ∀ b1 off sub, q = some ⟨b1, off, sub⟩ → w'.heap[b1]? = w.heap[b1]? := fun q t' hne hu ht b1 off sub e1 => by
  obtain ⟨cs1, fr1, k⟩ := ht b1 off sub e1
  rw [k]
  refine hk.2 b1 cs1 t' fr1 (fun e2 => ?_) hu k
  subst e2
  unfold Blk.Blk at hb
  rw [hb] at k
  injection k with k
  injection k with _ k2
  exact hne k2
 refine ⟨A, c, A', c', e, fun h0 => ?_, fun h0 => ?_, fun b1 off sub e1 => ?_, fun b1 off sub e1 => ?_⟩
 ·obtain ⟨b1, off, e1, hlt, hc⟩ := r1 h0
  have k := key A _ h1 (by decide) t1 b1 off none e1
  exact ⟨b1, off, e1, Nat.lt_of_lt_of_le hlt hk.1, fun i hi => (World.cell?_of_block (a := ⟨b1, off + i, none⟩) k).trans (hc i hi)⟩
 ·obtain ⟨b1, off, e1, hlt, hc⟩ := r2 h0
  have k := key A' _ h2 (by decide) t2 b1 off none e1
  exact ⟨b1, off, e1, Nat.lt_of_lt_of_le hlt hk.1, fun i hi => (World.cell?_of_block (a := ⟨b1, off + i, none⟩) k).trans (hc i hi)⟩
 ·obtain ⟨cs1, fr1, k⟩ := t1 b1 off sub e1
  exact ⟨cs1, fr1, (key A _ h1 (by decide) t1 b1 off sub e1).trans k⟩
 ·obtain ⟨cs1, fr1, k⟩ := t2 b1 off sub e1
  exact ⟨cs1, fr1, (key A' _ h2 (by decide) t2 b1 off sub e1).trans k⟩
theorem isJ_blk {B b : Nat} {l : List UInt8} {w : World} (h : IsJ B b l w) : B ≤ b ∧ ∃ cs, Blk.Blk w b 93 cs := by
 rcases h with ⟨h1, v, h2, _⟩ | ⟨h1, v, h2, _⟩
 ·exact ⟨h1, _, h2⟩
 ·exact ⟨h1, _, h2⟩
theorem isJ_put {B b b' : Nat} {l : List UInt8} {w : World} {cs : Array Value} (h : IsJ B b l w) (hK : Blk.Blk w b' 53 cs) (hne : b' ≠ b) (x y : Value) : IsJ B b l ((w.setCell ⟨b', 0, none⟩ x).setCell ⟨b', 1, none⟩ y) := by
 have key : ∀ {p : Value}, Lib.BuilderAt 93 5 B b p (Lib.byteCells l) w → Lib.BuilderAt 93 5 B b p (Lib.byteCells l) ((w.setCell ⟨b', 0, none⟩ x).setCell ⟨b', 1, none⟩ y) := fun {p} ⟨h1, v, h2, h3, h4⟩ => by
  refine ⟨h1, v, ?_, ownsRow_setCell_below' h3 hK 0 x 1 y, h4⟩
  unfold World.setCell
  simp only [Array.getElem?_modify, if_neg hne]
  exact h2
 rcases h with h | h
 ·exact .inl (key h)
 ·exact .inr (key h)
end LcG
end Go.Proofs.YtgipnbeipfhekaaGreatDoor
