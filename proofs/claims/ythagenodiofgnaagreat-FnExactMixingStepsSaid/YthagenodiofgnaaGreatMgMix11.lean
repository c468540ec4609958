/- The program: the equations of the settled chances. -/
import Derived.Test.YthagenodiofgnaaGreatMgMix10
import Derived.Test.YthagenodiofgnaaGreatMgMix08
import Derived.Deep.Cut
import Derived.Test.YthagenodiofgnaaGreatMgMix09
import Derived.Test.YthagenodiofgnaaGreatMgMix05
namespace Go.Proofs.YthagenodiofgnaaGreat.Ratio
open Go.RowKit Go.Proofs.YthagenodiofgnaaGreat Go.Proofs.YthagenodiofgnaaGreat.Base Go.Proofs.YthagenodiofgnaaGreat.Mem Go.Proofs.YthagenodiofgnaaGreat.NatM Go.Proofs.YthagenodiofgnaaGreat.Nat32 Go.Proofs.YthagenodiofgnaaGreat.RatM Go.Proofs.YthagenodiofgnaaGreat.Blk Go.Proofs.YthagenodiofgnaaGreat.MemF Go.Proofs.YthagenodiofgnaaGreat.ChM Go.Proofs.YthagenodiofgnaaGreat.GaussM
open Go.Proofs.YthagenodiofgnaaGreat.Inv (natOf natOf_eq len_pos Rat3 not_slice not_bool frz)
set_option linter.unusedVariables false
def eqI (n : Nat) (W : Nat → Nat → Rat) : Nat → Nat → Rat := fun r c => if r < n then (if c < n then (if c = r then W c r - 1 else W c r) else 0) else 1
theorem dg_one {m : Nat} (h : 1 ≤ m) : Dg (B32 ^ m) 1 := by
 refine dgb_more (m := 1) ⟨by decide +kernel, by decide +kernel⟩ h
theorem eqI_dg {n : Nat} {W : Nat → Nat → Rat} (h : ∀ i k, i < n → k < n → Dg (B32 ^ 2) (W i k)) (r c : Nat) (hr : r < n + 1) (hc : c ≤ n) : Dg (B32 ^ 4) (eqI n W r c) := by
 unfold eqI
 split
 ·split
  ·split
   ·exact dgb_sub (m := 2) (k := 1) (h _ _ ‹_› ‹_›) (dg_one (Nat.le_refl _))
   ·exact dgb_more (h _ _ ‹_› ‹_›) (by decide)
  ·exact dgb_zero (by decide)
 ·exact dg_one (by decide)
theorem rdU_put3o {w : World} {A : Option Addr} {xs : List Nat} {b o : Nat} {s : Bool} {A1 A2 : Option Addr} {k1 c1 k2 c2 : Nat} (hr : RdU w w.heap.size A xs) {t : TypeId} {cs : Array Value} (K : Blk w b t cs) (x0 : cs[o]? = some (.bool s)) (x1 : cs[o + 1]? = some (.slice A1 k1 c1)) (x2 : cs[o + 2]? = some (.slice A2 k2 c2)) (v0 v1 v2 : Value) : RdU (put3o w b o v0 v1 v2) (put3o w b o v0 v1 v2).heap.size A xs := by
 have e0 : (put3o w b o v0 v1 v2).heap.size = w.heap.size := by simp [put3o]
 have K0 := K.setTo o v0 rfl
 have K1 := K0.setTo (o + 1) v1 rfl
 have y1 : (cs.setIfInBounds o v0)[o + 1]? = some (.slice A1 k1 c1) := by rw [Array.getElem?_setIfInBounds_ne (by omega)]; exact x1
 have y2 : ((cs.setIfInBounds o v0).setIfInBounds (o + 1) v1)[o + 2]? = some (.slice A2 k2 c2) := by rw [Array.getElem?_setIfInBounds_ne (by omega), Array.getElem?_setIfInBounds_ne (by omega)]; exact x2
 rw [e0]
 exact ((hr.non (K.at o x0) (not_bool _) _).non (K0.at (o + 1) y1) (not_slice _ _ _) _).non (K1.at (o + 2) y2) (not_slice _ _ _) _
theorem OwnR.put3o {w : World} {B n : Nat} {v : Value} {f : Nat → Rat} {ws : List Value} {b o : Nat} {s : Bool} {A1 A2 : Option Addr} {k1 c1 k2 c2 : Nat} (h : OwnR w B v n f ws) {t : TypeId} {cs : Array Value} (K : Blk w b t cs) (x0 : cs[o]? = some (.bool s)) (x1 : cs[o + 1]? = some (.slice A1 k1 c1)) (x2 : cs[o + 2]? = some (.slice A2 k2 c2)) (hne : ∀ g, v.ownBlock = some g → g ≠ b) (v0 v1 v2 : Value) : OwnR (Ratio.put3o w b o v0 v1 v2) B v n f ws := by
 have hn : v.ownBlock = none ∨ v.ownBlock ≠ some b := by
  cases hv : v.ownBlock with
  | none => exact .inl rfl
  | some g => exact .inr (fun e => hne g hv (Option.some.inj e))
 refine ⟨((h.row.kept (Src.grown_setCell w ⟨b, o, none⟩ v0) hn).kept (Src.grown_setCell _ ⟨b, o + 1, none⟩ v1) hn).kept (Src.grown_setCell _ ⟨b, o + 2, none⟩ v2) hn, fun i hi => ?_⟩
 obtain ⟨D1, d1, D2, d2, e, h1, h2, h3, h4⟩ := h.els i hi
 exact ⟨D1, d1, D2, d2, e, rdU_put3o h1 K x0 x1 x2 _ _ _, rdU_put3o h2 K x0 x1 x2 _ _ _, h3, h4⟩
theorem NoU.put3o {w : World} {v : Value} {b o : Nat} (h : NoU w v) (hne : ∀ g, v.ownBlock = some g → g ≠ b) (v0 v1 v2 : Value) : NoU (Ratio.put3o w b o v0 v1 v2) v := fun g e => by
 obtain ⟨h1, h2⟩ := h g e
 have hg := hne g e
 refine ⟨by simp [Ratio.put3o]; exact h1, fun o' u hu => h2 o' u ?_⟩
 have hx : ∀ (w' : World) (o'' : Nat) (x : Value), (w'.setCell ⟨b, o'', none⟩ x).cell? ⟨g, o', none⟩ = w'.cell? ⟨g, o', none⟩ := fun w' o'' x => World.cell?_setCell_other _ _ _ _ (fun e => hg (by injection e with e; first | exact e | exact e.symm))
 unfold Ratio.put3o at hu
 rw [hx, hx, hx] at hu
 exact hu
def StRel (n : Nat) (W : Nat → Nat → Rat) (w : World) (kv lv : Value) (wr : World) : Prop :=
 ∃ (k : Nat) (us : List Value), kv = .int .i64 (k : Int) ∧ k ≤ n ∧ Hid (OwnRG wr w.heap.size lv k (n + 1) (eqI n W) us) ∧ Hid (Below w.heap.size w wr)
theorem OwnRG.cap {w : World} {B n L gL cL : Nat} {f : Nat → Nat → Rat} {us : List Value} (h : OwnRG w B (.slice (some ⟨gL, 0, none⟩) n cL) n L f us) : n ≤ cL := by
 rcases h.row.2 with ⟨e, _⟩ | ⟨g, cap, cur, e, _, _, h1, _⟩
 ·cases e
 ·injection e with _ _ e
  omega
set_option maxHeartbeats 4000000 in
set_option maxRecDepth 100000 in
theorem settledI_any {A : Option Addr} {c n : Nat} {W : Nat → Nat → Rat} (w : World) (hx : RdRR w A n (fun _ => n) W) (h1 : 1 ≤ n) (h6 : n ≤ 6) (hd : ∀ i k, i < n → k < n → Dg (B32 ^ 2) (W i k)) :
  Calls Tryz.prog 54 #[.slice A n c] w (SvRet w.heap.size (eqI n W) (n + 1) n w) := by
 obtain ⟨iw, wi, wz0, wz1, wz2⟩ := info_parts infoR
 obtain ⟨ir, ri, rz0, rz1, rz2⟩ := info_parts infoRR
 have HX := Lib.hid hx
 have HD := Lib.hid (eqI_dg hd)
 have HSZ := Lib.hid (fun i k (hi : i < n) (hk : k < n) => dgb_sz (hd i k hi hk))
 have H0 : Hid (StRel n W w (.int .i64 0) (.slice (some ⟨w.heap.size, 0, none⟩) 0 0) (w.alloc (.cells #[] 76))) := Lib.hid ⟨0, [], rfl, Nat.zero_le _, Lib.hid (OwnRG.lit0 w _ _), Lib.hid ((Below.refl _ _).alloc (Nat.le_refl _) _)⟩
 clear hx hd
 go_enter Tryz.func54, Tryz.ntmps54
 go_wp2
 go_loopw [14, 5] (fun kv lv wr => StRel n W w kv lv wr) (fun kv _ _ => n - (intOf kv).toNat)
 case atStart => exact H0.out
 case round =>
  obtain ⟨k, us, rfl, hk, HO, HB⟩ := hrel
  clear H0
  obtain ⟨Al, cl, hlv, hAl⟩ := ownsRow_form HO.out.row
  subst hlv
  by_cases hkn : k < n
  ·obtain ⟨wo, rfl⟩ : ∃ wo : World, wo = wr := ⟨_, rfl⟩
   have H1 : Hid (SoRel n (eqI n W k) wo (.int .i64 0) (.slice (some ⟨wo.heap.size, 0, none⟩) 0 0) (wo.alloc (.cells #[] 82))) := Lib.hid ⟨0, [], rfl, Nat.zero_le _, Lib.hid (OwnR.lit0 wo _), Lib.hid (NoU.lit0 wo _), Lib.hid ((Below.refl _ _).alloc (Nat.le_refl _) _)⟩
   have hwo := HB.out.size
   go_wp2
   go_loopw [19, 7] (fun iv ev w2 => SoRel n (eqI n W k) wo iv ev w2) (fun iv _ _ => n - (intOf iv).toNat)
   case atStart => exact H1.out
   case round =>
    obtain ⟨i, cs, rfl, hi, HE, HNU, HBo⟩ := hrel
    clear H1
    have hso := HBo.out.size
    obtain ⟨Ae, ce, rfl, _⟩ := HE.out.form
    by_cases hin : i < n
    ·have HXr := HX.out.below (HB.out.trans (HBo.out.mono HB.out.size))
     obtain ⟨g0, A6, c6, rfl, hg0, y, hrow⟩ := HXr.at hin
     obtain ⟨gm, s, A1, k1, c1, A2, k2, c2, rfl, hgm, x0, x1, x2, hI⟩ := hrow.at hkn
     clear HXr hrow
     go_upto_region 10 with (fail)
     obtain ⟨W5, hW5⟩ : ∃ W5, W5 = wr.alloc (.cells #[.bool s, .slice A1 k1 c1, .slice A2 k2 c2] 82) := ⟨_, rfl⟩
     rw [← hW5]
     obtain ⟨g9, hg9⟩ : ∃ g9, g9 = wr.heap.size := ⟨_, rfl⟩
     rw [← hg9]
     have hb5 : Below wr.heap.size wr W5 := by rw [hW5]; exact (Below.refl _ _).alloc (Nat.le_refl _) _
     have K9 : Hid (Blk W5 g9 82 #[.bool s, .slice A1 k1 c1, .slice A2 k2 c2]) := Lib.hid (by rw [hW5, hg9]; exact Blk.new wr _ _)
     have HE5 := Lib.hid (HE.out.below hb5)
     have HNU5 := Lib.hid (HNU.out.below hb5)
     have HBo5 := Lib.hid (below_next (Nat.le_refl _) HBo.out hb5)
     have HI := Lib.hid (hI.below hb5)
     have hg9o : wo.heap.size ≤ g9 := by omega
     have hne9 : Hid (∀ b, (Value.slice Ae i ce).ownBlock = some b → b ≠ g9) := Lib.hid (fun b e => by obtain ⟨_, _, _, h⟩ := ownsRow_block HE.out.row e; omega)
     clear y x0 x1 x2 hI hW5 hg9 hb5 HE HNU HBo
     obtain ⟨q0, hq0⟩ : ∃ q0, q0 = W i k := ⟨_, rfl⟩
     rw [← hq0] at HI
     have HQ0 := Lib.hid hq0
     have HZ : Hid (szR q0 ≤ 200000 ∧ szR 1 ≤ 200000) := Lib.hid ⟨by rw [hq0]; have := HSZ.out i k hin hkn; omega, by have := dgb_sz (dg_one (m := 1) (Nat.le_refl _)); omega⟩
     clear hq0
     by_cases hik : i = k
     case' pos =>
      have heq : ((i : Int) == (k : Int)) = true := by simp [hik]
      have hfi : Hid (eqI n W k i = q0 - 1) := Lib.hid (by unfold eqI; rw [if_pos hkn, if_pos hin, if_pos hik, HQ0.out])
      clear hik
      go_upto_region 11 with (fail)
      refine Rel.wp_region_rel 3 (by kernel_rfl) (by kernel_rfl) (fun F hF => ?_)
      simp only [List.take_succ_cons, List.take_zero, List.drop_succ_cons, List.drop_zero, Rel.putL] at hF ⊢
      have HF := Lib.hid hF
      clear hF
      have uv := @Rel.upon_value Tryz.prog
      have ue := @Rel.upon_enter Tryz.prog
      apply Rel.rel_pure
      apply Exists.intro
      refine ⟨fun vs wq hq hdp R hR => ?_, ?_⟩
      ·(rw [HF.out, Rel.stepAt_eq]; clear hdp; have y0 := (K9.out.belowS hq).at 0 (v := .bool s) rfl; have y1 := (K9.out.belowS hq).at 1 (v := .slice A1 k1 c1) rfl; have y2 := (K9.out.belowS hq).at 2 (v := .slice A2 k2 c2) rfl; go_simp; exact hR)
      refine Rel.rel_law (S := fun v w' => IsRt w' 1 v) (isRt_mono _) (fun vs wq hq hdp => ?_) ?_
      ·(rw [HF.out, Rel.stepAt_eq]; clear hdp; skip; go_simp; exact whole_rt 1 1 (by decide) ⟨rfl, rfl, by decide +kernel⟩ _)
      refine Rel.rel_law (S := fun v w' => IsRt w' (q0 - 1) v) (isRt_mono _) (fun vs wq hq hdp => ?_) ?_
      ·(rw [HF.out, Rel.stepAt_eq]; have qd0 : vs 0 = _ := Rel.dep hdp 0 (by kernel_rfl); have qd1 : IsRt wq _ (vs 1) := Rel.dep hdp 1 (by kernel_rfl); clear hdp; skip; go_simp; refine (ratMinus wq (HI.out.below hq) qd1 HZ.out.1 HZ.out.2).mono ?_; rintro e w7 h; obtain ⟨v, rfl, hv, hb⟩ := h.is; exact ⟨_, rfl, hv, hb⟩)
      refine Rel.rel_end (fun vs wq hq hall => ?_)
      rw [HF.out]
      have qe0 : vs 0 = _ := Rel.fin hall 0 (by decide)
      have qe1 : IsRt wq _ (vs 1) := Rel.fin hall 1 (by decide)
      have qe2 : IsRt wq _ (vs 2) := Rel.fin hall 2 (by decide)
      clear hall HF uv ue
      obtain ⟨t, C1, m1, l1, C2, m2, l2, ev2, hI2⟩ := qe2.open
      have K9q := K9.out.belowS hq
      obtain ⟨W6, hW6⟩ : ∃ W6, W6 = put3o wq g9 0 (.bool t) (.slice C1 m1 l1) (.slice C2 m2 l2) := ⟨_, rfl⟩
      have hb6 : Below wo.heap.size wo W6 := by rw [hW6]; exact put3o_below (below_next (Nat.le_refl _) HBo5.out hq) hg9o _ _ _
      have HI6 : Hid (IsRt W6 (eqI n W k i) (.agg #[.bool t, .slice C1 m1 l1, .slice C2 m2 l2])) := Lib.hid (by rw [hfi.out, hW6]; exact isRt_put3o hI2 K9q rfl rfl rfl _ _ _)
      have K6 : Hid (Blk W6 g9 82 #[.bool t, .slice C1 m1 l1, .slice C2 m2 l2]) := Lib.hid (by rw [hW6]; exact ((K9q.setTo 0 _ rfl).setTo 1 _ rfl).setTo 2 _ rfl)
      have HE6 : Hid (OwnR W6 wo.heap.size (.slice Ae i ce) i (eqI n W k) cs) := Lib.hid (by rw [hW6]; exact (HE5.out.below hq).put3o K9q rfl rfl rfl hne9.out _ _ _)
      have HNU6 : Hid (NoU W6 (.slice Ae i ce)) := Lib.hid (by rw [hW6]; exact (HNU5.out.below hq).put3o hne9.out _ _ _)
      have HBo6 := Lib.hid hb6
      have d0 := K9q.at 0 (v := .bool s) rfl
      have d1 := K9q.at 1 (v := .slice A1 k1 c1) rfl
      have d2 := K9q.at 2 (v := .slice A2 k2 c2) rfl
      have z0 := K9q.frz 0
      have z1 := K9q.frz 1
      have z2 := K9q.frz 2
      unfold put3o at hW6
      have HW6 := Lib.hid hW6
      clear hW6 hb6 hI2 K9q hq K9 HE5 HNU5 HBo5 HI hfi HZ HQ0 qe0 qe1 qe2
      go_upto_region 12 with (fail)
      rw [← HW6.out]
      clear HW6 d0 d1 d2 z0 z1 z2
     case' neg =>
      have heq := cast_ne hik
      have hfi : Hid (eqI n W k i = q0) := Lib.hid (by unfold eqI; rw [if_pos hkn, if_pos hin, if_neg hik, HQ0.out])
      clear hik
      obtain ⟨W6, hW6⟩ : ∃ W6, W6 = W5 := ⟨_, rfl⟩
      rw [← hW6] at K9 HE5 HNU5 HBo5 HI ⊢
      obtain ⟨t, rfl⟩ : ∃ t, t = s := ⟨_, rfl⟩
      obtain ⟨C1, rfl⟩ : ∃ t, t = A1 := ⟨_, rfl⟩
      obtain ⟨C2, rfl⟩ : ∃ t, t = A2 := ⟨_, rfl⟩
      obtain ⟨m1, rfl⟩ : ∃ t, t = k1 := ⟨_, rfl⟩
      obtain ⟨m2, rfl⟩ : ∃ t, t = k2 := ⟨_, rfl⟩
      obtain ⟨l1, rfl⟩ : ∃ t, t = c1 := ⟨_, rfl⟩
      obtain ⟨l2, rfl⟩ : ∃ t, t = c2 := ⟨_, rfl⟩
      have HI6 : Hid (IsRt W6 (eqI n W k i) (.agg #[.bool t, .slice C1 m1 l1, .slice C2 m2 l2])) := Lib.hid (by rw [hfi.out]; exact HI.out)
      have K6 := K9
      have HE6 := HE5
      have HNU6 := HNU5
      have HBo6 := HBo5
      clear hW6 K9 HE5 HNU5 HBo5 HI hfi HZ HQ0
     all_goals
      have y0 := K6.out.at 0 (v := .bool t) rfl
      have y1 := K6.out.at 1 (v := .slice C1 m1 l1) rfl
      have y2 := K6.out.at 2 (v := .slice C2 m2 l2) rfl
      obtain ⟨D1, j1, D2, j2, evv, d1, d2⟩ := HI6.out
      injection evv with evv
      simp only [Array.mk.injEq, List.cons.injEq, Value.slice.injEq, Value.bool.injEq, and_true] at evv
      obtain ⟨e0, ⟨e1, e2, e3⟩, e4, e5, e6⟩ := evv
      subst e1 e3 e4 e6
      have HNX := Lib.hid (fun (w2 : World) v' ca tt hown hg hnu he => SoRel.next (w2 := w2) (v' := v') (A1 := C1) (A2 := C2) (c1 := l1) (c2 := l2) (ca := ca) (t := tt) hin HE6.out HNU6.out HBo6.out d1 d2 hown hg hnu he)
      unfold rt3 at HNX
      rw [← e0, ← e2, ← e5] at HNX
      have HOA := Lib.hid (World.ownsRow.alloc HE6.out.row (.cells #[.bool t, .slice C1 m1 l1, .slice C2 m2 l2] 82))
      have HNA := Lib.hid (HNU6.out.below ((Below.refl W6.heap.size W6).alloc (Nat.le_refl _) (.cells #[.bool t, .slice C1 m1 l1, .slice C2 m2 l2] 82)))
      have hs6 := HBo6.out.size
      clear e0 e2 e5 d1 d2 HE6 HNU6 HBo6 HI6 K6
      go_wp2_with (at_builtin; refine wpList_append_noU _ rfl (.tmp 35) (.tmp 37) 76 rfl wo.heap.size 82 iw (.agg #[.bool false, .slice none 0 0, .slice none 0 0]) 3 56 Tryz.underlying76 wi wz0 wz1 wz2 rfl (by decide) _ _ _ rfl HOA.out ⟨W6.heap.size, 0, none⟩ 1 1 [.bool t, .slice C1 m1 l1, .slice C2 m2 l2] rfl rfl ?p1a ?p2a ?p3a ?p4a ?p5a HNA.out notU_three notU_zero3 ?_)
      try case p1a => exact news_three _ _ (by simp)
      try case p2a => exact ones_three
      try case p3a => first | (simp only [maxLen]; omega) | omega
      try case p4a => omega
      try case p5a => first | (simp only [World.size_alloc]; omega) | omega
      intro v' w3 hown' hg' hnu' he
      have HN3 := Lib.hid (HNX.out w3 v' _ _ hown' hg' hnu' (by rw [World.size_alloc]; exact he))
      clear hown' hg' hnu' he HNX HOA HNA y0 y1 y2
      go_wp2
      go_roundw
      case rel => exact HN3.out
      case measure => simp [intOf]; omega
    ·obtain rfl : i = n := by omega
     have HPN := Lib.hid (fun (w2 : World) v' A1 A2 c1 c2 (wr' : World) (hb : Below wr.heap.size wr wr') ca tt d1 d2 hown hg hnu he => SoRel.next (n := i + 1) (w2 := w2) (v' := v') (A1 := A1) (A2 := A2) (c1 := c1) (c2 := c2) (ca := ca) (t := tt) (Nat.lt_succ_self i) (HE.out.below hb) (HNU.out.below hb) (below_next (Nat.le_refl _) HBo.out hb) d1 d2 hown hg hnu he)
     have hf0 : eqI i W k i = 0 := by unfold eqI; rw [if_pos hkn, if_neg (Nat.lt_irrefl i)]
     rw [hf0] at HPN
     have HWZ := Lib.hid (fun W' => whole_rt 0 0 (by decide) ⟨rfl, rfl, by decide⟩ W')
     have HOW := Lib.hid (fun W' (hb : Below wr.heap.size wr W') o => World.ownsRow.alloc (ownsRow_below HE.out.row hb) o)
     have HNW := Lib.hid (fun W' (hb : Below wr.heap.size wr W') o => (HNU.out.below hb).below ((Below.refl W'.heap.size W').alloc (Nat.le_refl _) o))
     clear hf0
     go_wp2_with fail
     refine (HWZ.out _).mono ?_
     rintro e w3 ⟨v, rfl, hv, hb3⟩
     obtain ⟨C1, l1, C2, l2, rfl, d1, d2⟩ := hv
     unfold rt3 at HPN
     have HNX := Lib.hid (fun (w2 : World) v' ca tt hown hg hnu he => HPN.out w2 v' C1 C2 l1 l2 w3 hb3 ca tt d1 d2 hown hg hnu he)
     have HOA := Lib.hid (HOW.out w3 hb3 (.cells #[.bool (decide ((0 : Rat) < 0)), .slice C1 (natL (0 : Rat).num.natAbs).length l1, .slice C2 (natL (0 : Rat).den).length l2] 82))
     have HNA := Lib.hid (HNW.out w3 hb3 (.cells #[.bool (decide ((0 : Rat) < 0)), .slice C1 (natL (0 : Rat).num.natAbs).length l1, .slice C2 (natL (0 : Rat).den).length l2] 82))
     have hs3 := (below_next (Nat.le_refl _) HBo.out hb3).size
     clear d1 d2 hb3 HPN HOW HNW HWZ HE HNU HBo
     generalize decide ((0 : Rat) < 0) = t at *
     generalize (natL (0 : Rat).num.natAbs).length = m1 at *
     generalize (natL (0 : Rat).den).length = m2 at *
     go_wp2_with (at_builtin; refine wpList_append_noU _ rfl (.tmp 41) (.tmp 43) 76 rfl wo.heap.size 82 iw (.agg #[.bool false, .slice none 0 0, .slice none 0 0]) 3 56 Tryz.underlying76 wi wz0 wz1 wz2 rfl (by decide) _ _ _ rfl HOA.out ⟨w3.heap.size, 0, none⟩ 1 1 [.bool t, .slice C1 m1 l1, .slice C2 m2 l2] rfl rfl ?p1b ?p2b ?p3b ?p4b ?p5b HNA.out notU_three notU_zero3 ?_)
     try case p1b => exact news_three _ _ (by simp)
     try case p2b => exact ones_three
     try case p3b => first | (simp only [maxLen]; omega) | omega
     try case p4b => omega
     try case p5b => first | (simp only [World.size_alloc]; omega) | omega
     intro v' w4 hown' hg' hnu' he
     obtain ⟨j, cs', ej, hj, HE4, HNU4, HB4⟩ := HNX.out w4 v' _ _ hown' hg' hnu' (by rw [World.size_alloc]; exact he)
     obtain rfl : j = i + 1 := by injection ej with _ ej; omega
     clear hown' hg' hnu' he HNX HOA HNA ej hj
     obtain ⟨Ar, cr, rfl, hAr⟩ := HE4.out.form
     obtain ⟨gr, rfl, hgr, _⟩ := hAr (Nat.succ_pos i)
     obtain ⟨cur, hcur⟩ := HE4.out.toG
     have HP := Lib.hid (fun (w2 : World) v'' ca tt hown hg hnu => OwnRG.push (w2 := w2) (v' := v'') (c := cr) (ca := ca) (t := tt) HO.out HB4.out hcur hgr HB.out.size hown hg hnu)
     have HOB := Lib.hid (World.ownsRow.alloc (ownsRow_below HO.out.row HB4.out) (.cells #[.slice (some ⟨gr, 0, none⟩) (i + 1) cr] 76))
     have HNB := Lib.hid ((HO.out.nou.below HB4.out).below ((Below.refl w4.heap.size w4).alloc (Nat.le_refl _) (.cells #[.slice (some ⟨gr, 0, none⟩) (i + 1) cr] 76)))
     have HBB := Lib.hid (fun (w2 : World) (hg : (w4.alloc (.cells #[.slice (some ⟨gr, 0, none⟩) (i + 1) cr] 76)).grownBy w2 (Value.slice Al k cl).ownBlock) => (below_next (Nat.le_refl _) HB.out (HB4.out.alloc HB4.out.size _)).trans (grown_below hg (fun g e => (ownsRow_block HO.out.row e).choose_spec.2.1) (Nat.le_trans HB.out.size (HB4.out.alloc HB4.out.size _).size)))
     have hs4 := HB4.out.size
     clear hgr hcur HE4 HNU4 HB4 HB HO
     go_wp2_with (at_builtin; refine wpList_append_noU _ rfl (.tmp 40) (.tmp 45) 74 rfl w.heap.size 76 ir (.slice none 0 0) 1 24 Tryz.underlying74 ri rz0 rz1 rz2 rfl (by decide) _ _ _ rfl HOB.out ⟨w4.heap.size, 0, none⟩ 1 1 [.slice (some ⟨gr, 0, none⟩) (i + 1) cr] rfl rfl ?p1c ?p2c ?p3c ?p4c ?p5c HNB.out notU_one notU_zero1 ?_)
     try case p1c => exact news_one _ _ _ (by simp)
     try case p2c => first | exact one_slice | (intro u hu; simp at hu; subst hu; rfl)
     try case p3c => first | (simp only [maxLen]; omega) | omega
     try case p4c => omega
     try case p5c => first | (simp only [World.size_alloc]; omega) | omega
     intro v'' w5 hown' hg' hnu' _
     have HN5 : Hid (StRel i W w (.int .i64 ((k : Int) + 1)) v'' w5) := Lib.hid ⟨k + 1, _, by simp, hkn, Lib.hid (HP.out w5 v'' _ _ hown' hg' hnu'), Lib.hid (HBB.out w5 hg')⟩
     clear hown' hg' hnu' HP HOB HNB HBB
     go_wp2
     go_roundw
     case rel => exact HN5.out
     case measure => simp [intOf]; omega
  ·obtain rfl : k = n := by omega
   have HWZ := Lib.hid (fun W' => whole_rt 1 1 (by decide) ⟨rfl, rfl, by decide +kernel⟩ W')
   go_wp2_with fail
   refine (HWZ.out _).mono ?_
   rintro e w3 ⟨v, rfl, hv, hb3⟩
   obtain ⟨s, A1, k1, c1, A2, k2, c2, rfl, hI⟩ := hv.open
   obtain ⟨W4, hW4⟩ : ∃ W4, W4 = w3.alloc (.cells #[.bool s, .slice A1 k1 c1, .slice A2 k2 c2] 82) := ⟨_, rfl⟩
   have hb4 : Below w3.heap.size w3 W4 := by rw [hW4]; exact (Below.refl _ _).alloc (Nat.le_refl _) _
   have K4 : Blk W4 w3.heap.size 82 #[.bool s, .slice A1 k1 c1, .slice A2 k2 c2] := by rw [hW4]; exact Blk.new w3 _ _
   have hRP := repeat_any (c := 1) (N := k + 1) W4 (K4.at 0 rfl) (K4.at 1 rfl) (K4.at 2 rfl) K4.lt (hI.below hb4) (by omega) (by omega)
   rw [show ((k + 1 : Nat) : Int) = (k : Int) + 1 by omega] at hRP
   have HRP := Lib.hid hRP
   have HB4 := Lib.hid (Base.Below.nextA hb3 hb4)
   have HW4 := Lib.hid hW4
   clear hv hI hb3 hb4 K4 hW4 HWZ hRP
   go_wp2_with fail
   rw [← HW4.out]
   refine HRP.out.mono ?_
   rintro e w5 ⟨cs, rfl, hR, hb5⟩
   obtain ⟨g, hg⟩ : ∃ g, g = W4.heap.size := ⟨_, rfl⟩
   rw [← hg] at hR ⊢
   have hwg : wr.heap.size ≤ g := by rw [hg]; exact HB4.out.size
   have HB5 := Lib.hid (Base.Below.nextA HB4.out hb5)
   have hG : RowG w5 g (k + 1) (eqI k W k) cs := hR.toG.congr (fun c hc => by unfold eqI; rw [if_neg (Nat.lt_irrefl k)])
   have HP := Lib.hid (fun (w2 : World) v'' ca tt hown hg hnu => OwnRG.push (w2 := w2) (v' := v'') (c := k + 1) (ca := ca) (t := tt) HO.out HB5.out hG hwg HB.out.size hown hg hnu)
   have HOB := Lib.hid (World.ownsRow.alloc (ownsRow_below HO.out.row HB5.out) (.cells #[.slice (some ⟨g, 0, none⟩) (k + 1) (k + 1)] 76))
   have HNB := Lib.hid ((HO.out.nou.below HB5.out).below ((Below.refl w5.heap.size w5).alloc (Nat.le_refl _) (.cells #[.slice (some ⟨g, 0, none⟩) (k + 1) (k + 1)] 76)))
   have HBB := Lib.hid (fun (w2 : World) (hg : (w5.alloc (.cells #[.slice (some ⟨g, 0, none⟩) (k + 1) (k + 1)] 76)).grownBy w2 (Value.slice Al k cl).ownBlock) => (below_next (Nat.le_refl _) HB.out (HB5.out.alloc HB5.out.size _)).trans (grown_below hg (fun g e => (ownsRow_block HO.out.row e).choose_spec.2.1) (Nat.le_trans HB.out.size (HB5.out.alloc HB5.out.size _).size)))
   have hs5 := HB5.out.size
   have hs1 := HB.out.size
   clear hg hwg hG hR hb5 HB4 HB5 HRP HW4 HB HO
   go_wp2_with (at_builtin; refine wpList_append_noU _ rfl (.tmp 48) (.tmp 54) 74 rfl w.heap.size 76 ir (.slice none 0 0) 1 24 Tryz.underlying74 ri rz0 rz1 rz2 rfl (by decide) _ _ _ rfl HOB.out ⟨w5.heap.size, 0, none⟩ 1 1 [.slice (some ⟨g, 0, none⟩) (k + 1) (k + 1)] rfl rfl ?p1d ?p2d ?p3d ?p4d ?p5d HNB.out notU_one notU_zero1 ?_)
   try case p1d => exact news_one _ _ _ (by simp)
   try case p2d => first | exact one_slice | (intro u hu; simp at hu; subst hu; rfl)
   try case p3d => first | (simp only [maxLen]; omega) | omega
   try case p4d => omega
   try case p5d => first | (simp only [World.size_alloc]; omega) | omega
   intro v'' w6 hown' hg' hnu' _
   have hF := HP.out w6 v'' _ _ hown' hg' hnu'
   obtain ⟨AL, cL, rfl, hAL⟩ := hF.form
   obtain ⟨gL, rfl, _, _⟩ := hAL (Nat.succ_pos k)
   obtain ⟨gs, cp, cm, css, hmat⟩ := hF.mat
   have hb6 := HBB.out w6 hg'
   have HB6 := Lib.hid hb6
   have HSV := Lib.hid (solved_any (cL := cL) w6 hmat h1 h6 (.inr rfl) hF.cap hb6.size HD.out)
   clear hown' hg' hnu' HP HOB HNB HBB hF hAL hmat hb6 HD HSZ
   go_wp2_with fail
   refine HSV.out.mono ?_
   rintro e w7 ⟨v, cs7, rfl, ho7, hb7⟩
   have HF : Hid (SvRet w.heap.size (eqI k W) (k + 1) k w (.returned (.tuple #[v, .bool (solB (eqI k W) (k + 1) k)])) w7) := Lib.hid ⟨v, cs7, rfl, ho7.base HB6.out.size, HB6.out.trans hb7⟩
   clear ho7 hb7 HSV HB6
   generalize solB (eqI k W) (k + 1) k = ok at *
   go_wp2
   go_ret2
   exact HF.out
end Go.Proofs.YthagenodiofgnaaGreat.Ratio
namespace Go.Proofs.YthagenodiofgnaaGreat.Ratio
open Go.RowKit Go.Proofs.YthagenodiofgnaaGreat Go.Proofs.YthagenodiofgnaaGreat.Base Go.Proofs.YthagenodiofgnaaGreat.Mem Go.Proofs.YthagenodiofgnaaGreat.NatM Go.Proofs.YthagenodiofgnaaGreat.Nat32 Go.Proofs.YthagenodiofgnaaGreat.RatM Go.Proofs.YthagenodiofgnaaGreat.GaussM Go.Proofs.YthagenodiofgnaaGreat.ChM
set_option linter.unusedVariables false
def eqS (n : Nat) (W : Nat → Nat → Rat) : Nat → Nat → Rat := fun r c => if r + 1 = n then 1 else if c < n then (if c = r then W c r + -1 else W c r) else 0
theorem sumR_comm (n m : Nat) (f : Nat → Nat → Rat) : sumR n (fun r => sumR m (fun c => f r c)) = sumR m (fun c => sumR n (fun r => f r c)) := by
 induction n with
 | zero =>
  rw [sumR]
  exact (sumR_zero (fun j _ => rfl)).symm
 | succ n ih =>
  rw [sumR, ih, ← sumR_add]
  exact sumR_congr fun c _ => rfl
theorem rat_m1 (a : Rat) : a + -1 = a - 1 := by grind
theorem rat_part (a b c : Rat) : (a - 1) * b = a * b + -1 * b := by grind
theorem eqI_sum {n : Nat} {W : Nat → Nat → Rat} (hW : ∀ i, i < n → sumR n (fun k => W i k) = 1) (y : Nat → Rat) : sumR n (fun r => sumR n (fun c => eqI n W r c * y c)) = 0 := by
 have e1 : sumR n (fun r => sumR n (fun c => eqI n W r c * y c)) = sumR n (fun r => sumR n (fun c => W c r * y c + (if c = r then -1 * y c else 0))) := by
  refine sumR_congr fun r hr => sumR_congr fun c hc => ?_
  unfold eqI
  rw [if_pos hr, if_pos hc]
  split
  ·exact rat_part _ _ 0
  ·rw [Rat.add_zero]
 rw [e1, sumR_comm]
 refine sumR_zero fun c hc => ?_
 rw [sumR_add]
 have e2 : sumR n (fun r => W c r * y c) = y c * sumR n (fun r => W c r) := by
  rw [← sumR_mul]
  exact sumR_congr fun r _ => Rat.mul_comm _ _
 have e3 : sumR n (fun r => if c = r then -1 * y c else 0) = -1 * y c := by
  rw [sumR_one (k := c) hc]
  ·exact if_pos rfl
  ·intro j _ hj; exact if_neg (fun e => hj e.symm)
 rw [e2, e3, hW c hc]
 grind
theorem eq_row {n : Nat} {W : Nat → Nat → Rat} {r : Nat} (hr : r + 1 < n) (c : Nat) : eqS n W r c = eqI n W r c := by
 unfold eqS eqI
 rw [if_neg (by omega), if_pos (by omega : r < n)]
 split
 ·split
  ·exact rat_m1 _
  ·rfl
 ·rfl
theorem eq_same {n : Nat} {W : Nat → Nat → Rat} (h1 : 1 ≤ n) (hW : ∀ i, i < n → sumR n (fun k => W i k) = 1) (y : Nat → Rat) : Sol (eqI n W) (n + 1) n y ↔ Sol (eqS n W) n n y := by
 obtain ⟨m, rfl⟩ : ∃ m, n = m + 1 := ⟨n - 1, by omega⟩
 have hl : ∀ c, eqS (m + 1) W m c = 1 := fun c => by unfold eqS; rw [if_pos rfl]
 have hl2 : ∀ c, eqI (m + 1) W (m + 1) c = 1 := fun c => by unfold eqI; rw [if_neg (Nat.lt_irrefl _)]
 have hr0 : ∀ r, r < m + 1 → eqI (m + 1) W r (m + 1) = 0 := fun r hr => by unfold eqI; rw [if_pos hr, if_neg (Nat.lt_irrefl _)]
 constructor
 ·intro h r hr
  rcases Nat.lt_or_ge r m with hm | hm
  ·have h2 := h r (by omega)
   have e : sumR (m + 1) (fun j => eqS (m + 1) W r j * y j) = sumR (m + 1) (fun j => eqI (m + 1) W r j * y j) := sumR_congr fun c _ => by rw [eq_row (by omega)]
   rw [e, eq_row (by omega)]; exact h2
  ·obtain rfl : r = m := by omega
   have h2 := h (r + 1) (by omega)
   have e : sumR (r + 1) (fun j => eqS (r + 1) W r j * y j) = sumR (r + 1) (fun j => eqI (r + 1) W (r + 1) j * y j) := sumR_congr fun c _ => by rw [hl, hl2]
   rw [e, h2, hl, hl2]
 ·intro h r hr
  rcases Nat.lt_or_ge r m with hm | hm
  ·have h2 := h r (by omega)
   have e : sumR (m + 1) (fun j => eqI (m + 1) W r j * y j) = sumR (m + 1) (fun j => eqS (m + 1) W r j * y j) := sumR_congr fun c _ => by rw [eq_row (by omega)]
   rw [e, ← eq_row (by omega)]; exact h2
  ·rcases Nat.lt_or_ge m r with hm2 | hm2
   ·obtain rfl : r = m + 1 := by omega
    have h2 := h m (by omega)
    have e : sumR (m + 1) (fun j => eqI (m + 1) W (m + 1) j * y j) = sumR (m + 1) (fun j => eqS (m + 1) W m j * y j) := sumR_congr fun c _ => by rw [hl, hl2]
    rw [e, h2, hl, hl2]
   ·obtain rfl : r = m := by omega
    have h3 := eqI_sum hW y
    rw [sumR] at h3
    have h4 : sumR r (fun q => sumR (r + 1) (fun c => eqI (r + 1) W q c * y c)) = 0 := sumR_zero fun q hq => by
     have h2 := h q (by omega)
     have e : sumR (r + 1) (fun j => eqI (r + 1) W q j * y j) = sumR (r + 1) (fun j => eqS (r + 1) W q j * y j) := sumR_congr fun c _ => by rw [eq_row (by omega)]
     rw [e, h2, eq_row (by omega), hr0 q (by omega)]
    rw [h4, Rat.zero_add] at h3
    rw [h3, hr0 r (by omega)]
end Go.Proofs.YthagenodiofgnaaGreat.Ratio
namespace Go.Proofs.YthagenodiofgnaaGreat.Ratio
open Go.RowKit Go.Proofs.YthagenodiofgnaaGreat Go.Proofs.YthagenodiofgnaaGreat.Base Go.Proofs.YthagenodiofgnaaGreat.Mem Go.Proofs.YthagenodiofgnaaGreat.NatM Go.Proofs.YthagenodiofgnaaGreat.Nat32 Go.Proofs.YthagenodiofgnaaGreat.RatM Go.Proofs.YthagenodiofgnaaGreat.Blk Go.Proofs.YthagenodiofgnaaGreat.MemF Go.Proofs.YthagenodiofgnaaGreat.ChM Go.Proofs.YthagenodiofgnaaGreat.GaussM
open Go.Proofs.YthagenodiofgnaaGreat.Inv (natOf natOf_eq len_pos Rat3 not_slice not_bool frz)
set_option linter.unusedVariables false
theorem RV.put {w wq : World} {q : Rat} {b : Nat} {t : Bool} {C1 C2 : Option Addr} {m1 l1 m2 l2 : Nat} {s : Bool} {A1 A2 : Option Addr} {k1 c1 k2 c2 : Nat} (h : IsRt wq q (.agg #[.bool t, .slice C1 m1 l1, .slice C2 m2 l2])) (K : Blk wq b 82 #[.bool s, .slice A1 k1 c1, .slice A2 k2 c2]) (hb : Below w.heap.size w wq) (hB : w.heap.size ≤ b) :
  RV q w (.returned (.agg #[.bool t, .slice C1 m1 l1, .slice C2 m2 l2])) (put3 wq b (.bool t) (.slice C1 m1 l1) (.slice C2 m2 l2)) := (h.put3 K _ _ _).ret (put3_below hb hB _ _ _)
def dsum (f g : Nat → Rat) (i : Nat) : Rat := sumR i (fun j => absR (f j - g j))
def DisOk (n : Nat) (f g : Nat → Rat) : Prop := (∀ i, i < n → szR (f i) ≤ 200000 ∧ szR (g i) ≤ 200000 ∧ szR (f i - g i) ≤ 200000) ∧ ∀ i, i ≤ n → szR (dsum f g i) ≤ 200000
def DisRel (f g : Nat → Rat) (n g3 : Nat) (w : World) (iv : Value) (wr : World) : Prop :=
 ∃ (i : Nat) (s : Bool) (A1 : Option Addr) (k1 c1 : Nat) (A2 : Option Addr) (k2 c2 : Nat), iv = .int .i64 (i : Int) ∧ i ≤ n ∧ Hid (Blk wr g3 82 #[.bool s, .slice A1 k1 c1, .slice A2 k2 c2]) ∧ Hid (IsRt wr (dsum f g i) (.agg #[.bool s, .slice A1 k1 c1, .slice A2 k2 c2])) ∧ Hid (Blk wr w.heap.size 82 #[.bool false, .slice none 0 0, .slice none 0 0]) ∧ Hid (Below w.heap.size w wr)
set_option maxHeartbeats 1000000 in
set_option maxRecDepth 100000 in
theorem disI_any {A A' : Option Addr} {c c' n : Nat} {f g : Nat → Rat} (w : World) (hx : RdR w A n f) (hy : RdR w A' n g) (hn : n ≤ 1000) (hz : DisOk n f g) : Calls Tryz.prog 45 #[.slice A n c, .slice A' n c'] w (RV (disR n f g) w) := by
 have HX := Lib.hid hx
 have HY := Lib.hid hy
 have HZ0 := Lib.hid hz
 have KR0 : Hid (Blk (w.alloc (.cells #[.bool false, .slice none 0 0, .slice none 0 0] 82)) w.heap.size 82 #[.bool false, .slice none 0 0, .slice none 0 0]) := Lib.hid (Blk.new w _ _)
 have HB0 : Hid (Below w.heap.size w (w.alloc (.cells #[.bool false, .slice none 0 0, .slice none 0 0] 82))) := Lib.hid ((Below.refl _ _).alloc (Nat.le_refl _) _)
 clear hx hy hz
 go_enter Tryz.func45, Tryz.ntmps45
 go_wp2_with fail
 refine (whole_rt 0 0 (by decide) ⟨rfl, rfl, by decide⟩ _).mono ?_
 rintro e w2 ⟨v, rfl, hv0, hb2⟩
 obtain ⟨s, A1, k1, c1, A2, k2, c2, rfl, hv⟩ := hv0.open
 have HB2 := Lib.hid (Base.Below.nextA HB0.out hb2)
 have KR2 := Lib.hid (KR0.out.belowS hb2)
 have HI0 := Lib.hid hv
 clear hb2 hv hv0 KR0 HB0
 go_upto_region 2 with (fail)
 obtain ⟨W3, hW3⟩ : ∃ W3, W3 = w2.alloc (.cells #[.bool s, .slice A1 k1 c1, .slice A2 k2 c2] 82) := ⟨_, rfl⟩
 rw [← hW3]
 obtain ⟨g3, hg3⟩ : ∃ g3, g3 = w2.heap.size := ⟨_, rfl⟩
 rw [← hg3]
 have hlt3 : w.heap.size < g3 := by rw [hg3]; exact KR2.out.lt
 have H0 : Hid (DisRel f g n g3 w (.int .i64 0) W3) := Lib.hid (by
  have hb3 : Below w2.heap.size w2 W3 := by rw [hW3]; exact (Below.refl _ _).alloc (Nat.le_refl _) _
  exact ⟨0, s, A1, k1, c1, A2, k2, c2, rfl, Nat.zero_le _, Lib.hid (by rw [hW3, hg3]; exact Blk.new w2 _ _), Lib.hid (HI0.out.below hb3), Lib.hid (KR2.out.belowS hb3), Lib.hid (Base.Below.nextA HB2.out hb3)⟩)
 clear hW3 hg3 HI0 HB2 KR2
 go_wp2
 go_loopw [11] (fun iv wr => DisRel f g n g3 w iv wr) (fun iv _ => n - (intOf iv).toNat)
 case atStart => exact H0.out
 case round =>
  obtain ⟨i, s, A1, k1, c1, A2, k2, c2, rfl, hi, K3r, HIr, KRr, HB⟩ := hrel
  clear H0
  by_cases hlt : i < n
  ·obtain ⟨ga, s2, B1, j1, e1, B2, j2, e2, rfl, hgl, y0, y1, y2, hpj⟩ := (HX.out.below HB.out).at hlt
   obtain ⟨gb, s4, D1, i1, f1, D2, i2, f2, rfl, hgl2, u0, u1, u2, hpk⟩ := (HY.out.below HB.out).at hlt
   have HSM : Hid (dsum f g (i + 1) = dsum f g i + absR (f i - g i)) := Lib.hid rfl
   have HZ : Hid (szR (f i) ≤ 200000 ∧ szR (g i) ≤ 200000 ∧ szR (dsum f g i) ≤ 200000 ∧ szR (absR (f i - g i)) ≤ 200000) := Lib.hid (by
    obtain ⟨h1, h2, h3⟩ := HZ0.out.1 i hlt
    exact ⟨h1, h2, HZ0.out.2 i hi, by rw [szR_abs]; exact h3⟩)
   generalize f i = x at *
   generalize g i = y at *
   generalize hs0 : dsum f g i = s0 at *
   have HS0 := Lib.hid hs0
   clear hs0
   go_upto_region 5 with (fail)
   obtain ⟨W1, hW1⟩ : ∃ W1, W1 = wr.alloc (.cells #[.bool s2, .slice B1 j1 e1, .slice B2 j2 e2] 82) := ⟨_, rfl⟩
   rw [← hW1]
   obtain ⟨g5, hg5⟩ : ∃ g5, g5 = wr.heap.size := ⟨_, rfl⟩
   rw [← hg5]
   have KF : Hid (Blk W1 g5 82 #[.bool s2, .slice B1 j1 e1, .slice B2 j2 e2]) := Lib.hid (by rw [hW1, hg5]; exact Blk.new wr _ _)
   have hbw : Below wr.heap.size wr W1 := by rw [hW1]; exact (Below.refl _ _).alloc (Nat.le_refl _) _
   have K3 := Lib.hid (K3r.out.belowS hbw)
   have KR := Lib.hid (KRr.out.belowS hbw)
   have HS := Lib.hid (HIr.out.below hbw)
   have HJ := Lib.hid (hpj.below hbw)
   have HK := Lib.hid (hpk.below hbw)
   have HB1 := Lib.hid (Base.Below.nextA HB.out hbw)
   have HV : Hid (∀ W, Below W1.heap.size W1 W → W.cell? ⟨gb, i * 3, none⟩ = some (.bool s4) ∧ W.cell? ⟨gb, i * 3 + 1, none⟩ = some (.slice D1 i1 f1) ∧ W.cell? ⟨gb, i * 3 + 2, none⟩ = some (.slice D2 i2 f2)) := Lib.hid fun W hW => by
    have hb := Base.Below.nextA hbw hW
    exact ⟨(hb.cell (p := ⟨gb, i * 3, none⟩) hgl2).trans u0, (hb.cell (p := ⟨gb, i * 3 + 1, none⟩) hgl2).trans u1, (hb.cell (p := ⟨gb, i * 3 + 2, none⟩) hgl2).trans u2⟩
   clear hW1 hg5 hbw K3r KRr HIr hpj hpk HB y0 y1 y2 u0 u1 u2 hgl hgl2
   refine Rel.wp_region_rel 9 (by kernel_rfl) (by kernel_rfl) (fun F hF => ?_)
   simp only [List.take_succ_cons, List.take_zero, List.drop_succ_cons, List.drop_zero, Rel.putL] at hF ⊢
   have HF := Lib.hid hF
   clear hF
   have uv := @Rel.upon_value Tryz.prog
   have ue := @Rel.upon_enter Tryz.prog
   apply Rel.rel_pure
   apply Exists.intro
   refine ⟨fun vs wq hq hdp R hR => ?_, ?_⟩
   ·(rw [HF.out, Rel.stepAt_eq]; clear hdp; have x0 := (K3.out.belowS hq).at 0 (v := .bool s) rfl; have x1 := (K3.out.belowS hq).at 1 (v := .slice A1 k1 c1) rfl; have x2 := (K3.out.belowS hq).at 2 (v := .slice A2 k2 c2) rfl; go_simp; exact hR)
   apply Rel.rel_pure
   apply Exists.intro
   refine ⟨fun vs wq hq hdp R hR => ?_, ?_⟩
   ·(rw [HF.out, Rel.stepAt_eq]; clear hdp; have y0 := (KF.out.belowS hq).at 0 (v := .bool s2) rfl; have y1 := (KF.out.belowS hq).at 1 (v := .slice B1 j1 e1) rfl; have y2 := (KF.out.belowS hq).at 2 (v := .slice B2 j2 e2) rfl; go_simp; exact hR)
   apply Rel.rel_pure
   apply Exists.intro
   refine ⟨fun vs wq hq hdp R hR => ?_, ?_⟩
   ·(rw [HF.out, Rel.stepAt_eq]; clear hdp; skip; go_simp; exact hR)
   apply Rel.rel_pure
   apply Exists.intro
   refine ⟨fun vs wq hq hdp R hR => ?_, ?_⟩
   ·(rw [HF.out, Rel.stepAt_eq]; clear hdp; skip; go_simp; exact hR)
   apply Rel.rel_pure
   apply Exists.intro
   refine ⟨fun vs wq hq hdp R hR => ?_, ?_⟩
   ·(rw [HF.out, Rel.stepAt_eq]; have qd2 : vs 2 = _ := Rel.dep hdp 2 (by kernel_rfl); have qd3 : vs 3 = _ := Rel.dep hdp 3 (by kernel_rfl); clear hdp; skip; go_simp; exact hR)
   apply Rel.rel_pure
   apply Exists.intro
   refine ⟨fun vs wq hq hdp R hR => ?_, ?_⟩
   ·(rw [HF.out, Rel.stepAt_eq]; have qd4 : vs 4 = _ := Rel.dep hdp 4 (by kernel_rfl); clear hdp; obtain ⟨v0, v1, v2⟩ := HV.out wq hq; go_simp; exact hR)
   refine Rel.rel_law (S := fun v w' => IsRt w' (x - y) v) (isRt_mono _) (fun vs wq hq hdp => ?_) ?_
   ·(rw [HF.out, Rel.stepAt_eq]; have qd1 : vs 1 = _ := Rel.dep hdp 1 (by kernel_rfl); have qd5 : vs 5 = _ := Rel.dep hdp 5 (by kernel_rfl); clear hdp; skip; go_simp; refine (ratMinus wq (HJ.out.below hq) (HK.out.below hq) HZ.out.1 HZ.out.2.1).mono ?_; rintro e w7 h; obtain ⟨v, rfl, hv, hb⟩ := h.is; exact ⟨_, rfl, hv, hb⟩)
   refine Rel.rel_law (S := fun v w' => IsRt w' (absR (x - y)) v) (isRt_mono _) (fun vs wq hq hdp => ?_) ?_
   ·(rw [HF.out, Rel.stepAt_eq]; have qd6 : IsRt wq _ (vs 6) := Rel.dep hdp 6 (by kernel_rfl); clear hdp; skip; go_simp; refine (ratAbs wq qd6).mono ?_; rintro e w7 h; obtain ⟨v, rfl, hv, hb⟩ := h.is; exact ⟨_, rfl, hv, hb⟩)
   refine Rel.rel_law (S := fun v w' => IsRt w' (s0 + absR (x - y)) v) (isRt_mono _) (fun vs wq hq hdp => ?_) ?_
   ·(rw [HF.out, Rel.stepAt_eq]; have qd0 : vs 0 = _ := Rel.dep hdp 0 (by kernel_rfl); have qd7 : IsRt wq _ (vs 7) := Rel.dep hdp 7 (by kernel_rfl); clear hdp; skip; go_simp; refine (ratPlus wq (HS.out.below hq) qd7 HZ.out.2.2.1 HZ.out.2.2.2).mono ?_; rintro e w7 h; obtain ⟨v, rfl, hv, hb⟩ := h.is; exact ⟨_, rfl, hv, hb⟩)
   refine Rel.rel_end (fun vs wq hq hall => ?_)
   rw [HF.out]
   have qe0 : vs 0 = _ := Rel.fin hall 0 (by decide)
   have qe1 : vs 1 = _ := Rel.fin hall 1 (by decide)
   have qe2 : vs 2 = _ := Rel.fin hall 2 (by decide)
   have qe3 : vs 3 = _ := Rel.fin hall 3 (by decide)
   have qe4 : vs 4 = _ := Rel.fin hall 4 (by decide)
   have qe5 : vs 5 = _ := Rel.fin hall 5 (by decide)
   have qe6 : IsRt wq _ (vs 6) := Rel.fin hall 6 (by decide)
   have qe7 : IsRt wq _ (vs 7) := Rel.fin hall 7 (by decide)
   have qe8 : IsRt wq _ (vs 8) := Rel.fin hall 8 (by decide)
   clear hall HF uv ue
   obtain ⟨t, C1, m1, l1, C2, m2, l2, ev, hI⟩ := qe8.open
   have K3q := K3.out.belowS hq
   have HN : Hid (DisRel f g n g3 w (.int .i64 ((i : Int) + 1)) (put3 wq g3 (.bool t) (.slice C1 m1 l1) (.slice C2 m2 l2))) := Lib.hid
    ⟨i + 1, t, C1, m1, l1, C2, m2, l2, by simp, hlt, Lib.hid (put3_blk K3q _ _ _), Lib.hid (by rw [HSM.out]; exact hI.put3 K3q _ _ _), Lib.hid (put3_other (KR.out.belowS hq) (by omega) _ _ _), Lib.hid (put3_below (Base.Below.nextA HB1.out hq) (by omega) _ _ _)⟩
   have z0 := K3q.frz 0
   have z1 := K3q.frz 1
   have z2 := K3q.frz 2
   have d0 := K3q.at 0 (v := .bool s) rfl
   have d1 := K3q.at 1 (v := .slice A1 k1 c1) rfl
   have d2 := K3q.at 2 (v := .slice A2 k2 c2) rfl
   unfold put3 at HN
   clear K3q hI qe6 qe7 qe8 qe0 qe1 qe2 qe3 qe4 qe5 hq K3 KF HS HJ HK HV HB1 HZ HSM KR
   go_wp2
   go_roundw
   case rel => exact HN.out
   case measure => simp [intOf]; omega
  ·obtain rfl : i = n := by omega
   have HZ : Hid (szR (dsum f g i) ≤ 200000 ∧ szR (2 : Rat) ≤ 200000) := Lib.hid ⟨HZ0.out.2 i (Nat.le_refl _), by
    have : Dg (B32 ^ 1) (2 : Rat) := ⟨by decide, by decide⟩
    have := dgb_sz this
    omega⟩
   have HRES : Hid (disR i f g = dsum f g i * (2 : Rat)⁻¹) := Lib.hid rfl
   have K3 := Lib.hid K3r.out
   have HS := Lib.hid HIr.out
   clear K3r HIr
   generalize dsum f g i = s0 at *
   go_upto_region 7 with (fail)
   refine Rel.wp_region_rel 3 (by kernel_rfl) (by kernel_rfl) (fun F hF => ?_)
   simp only [List.take_succ_cons, List.take_zero, List.drop_succ_cons, List.drop_zero, Rel.putL] at hF ⊢
   have HF := Lib.hid hF
   clear hF
   have uv := @Rel.upon_value Tryz.prog
   have ue := @Rel.upon_enter Tryz.prog
   apply Rel.rel_pure
   apply Exists.intro
   refine ⟨fun vs wq hq hdp R hR => ?_, ?_⟩
   ·(rw [HF.out, Rel.stepAt_eq]; clear hdp; have x0 := (K3.out.belowS hq).at 0 (v := .bool s) rfl; have x1 := (K3.out.belowS hq).at 1 (v := .slice A1 k1 c1) rfl; have x2 := (K3.out.belowS hq).at 2 (v := .slice A2 k2 c2) rfl; go_simp; exact hR)
   refine Rel.rel_law (S := fun v w' => IsRt w' 2 v) (isRt_mono _) (fun vs wq hq hdp => ?_) ?_
   ·(rw [HF.out, Rel.stepAt_eq]; clear hdp; skip; go_simp; exact whole_rt 2 2 (by decide) ⟨rfl, rfl, by decide⟩ _)
   refine Rel.rel_law (S := fun v w' => IsRt w' (s0 * (2 : Rat)⁻¹) v) (isRt_mono _) (fun vs wq hq hdp => ?_) ?_
   ·(rw [HF.out, Rel.stepAt_eq]; have qd0 : vs 0 = _ := Rel.dep hdp 0 (by kernel_rfl); have qd1 : IsRt wq _ (vs 1) := Rel.dep hdp 1 (by kernel_rfl); clear hdp; skip; go_simp; refine (ratOver wq (HS.out.below hq) qd1 HZ.out.1 HZ.out.2 (by decide)).mono ?_; rintro e w7 h; obtain ⟨v, rfl, hv, hb⟩ := h.is; exact ⟨_, rfl, hv, hb⟩)
   refine Rel.rel_end (fun vs wq hq hall => ?_)
   rw [HF.out]
   have qe0 : vs 0 = _ := Rel.fin hall 0 (by decide)
   have qe1 : IsRt wq _ (vs 1) := Rel.fin hall 1 (by decide)
   have qe2 : IsRt wq _ (vs 2) := Rel.fin hall 2 (by decide)
   clear hall HF uv ue
   obtain ⟨t, C1, m1, l1, C2, m2, l2, ev, hI⟩ := qe2.open
   have KRq := KRr.out.belowS hq
   have HBq := Base.Below.nextA HB.out hq
   have HI2 : Hid (IsRt wq (disR i f g) (.agg #[.bool t, .slice C1 m1 l1, .slice C2 m2 l2])) := Lib.hid (by rw [HRES.out]; exact hI)
   clear hI qe0 qe1 qe2 hq K3 HS HZ KRr HB HRES
   have z0 := (KRq).frz 0
   have z1 := (KRq).frz 1
   have z2 := (KRq).frz 2
   have c0 := (KRq).at 0 (v := .bool false) rfl
   have c1 := (KRq).at 1 (v := .slice none 0 0) rfl
   have c2 := (KRq).at 2 (v := .slice none 0 0) rfl
   have SS := put3_blk (KRq) (.bool t) (.slice C1 m1 l1) (.slice C2 m2 l2)
   unfold put3 at SS
   have s0 := SS.at 0 rfl
   have s1 := SS.at 1 rfl
   have s2 := SS.at 2 rfl
   have HFIN := Lib.hid (RV.put (HI2.out) (KRq) (HBq) (Nat.le_refl _))
   unfold put3 at HFIN
   clear SS
   go_wp2
   refine bodyPost_ret (v := .agg #[.bool t, .slice C1 m1 l1, .slice C2 m2 l2]) (by simp [results, Tryz.results45, go_sem, s0, s1, s2]) rfl ?_
   exact HFIN.out
end Go.Proofs.YthagenodiofgnaaGreat.Ratio
namespace Go.Proofs.YthagenodiofgnaaGreat.Ratio
open Go.RowKit Go.Proofs.YthagenodiofgnaaGreat Go.Proofs.YthagenodiofgnaaGreat.Base Go.Proofs.YthagenodiofgnaaGreat.Mem Go.Proofs.YthagenodiofgnaaGreat.NatM Go.Proofs.YthagenodiofgnaaGreat.Nat32 Go.Proofs.YthagenodiofgnaaGreat.RatM Go.Proofs.YthagenodiofgnaaGreat.GaussM Go.Proofs.YthagenodiofgnaaGreat.ChM Go.Proofs.YthagenodiofgnaaGreat.ExtM Go.Proofs.YthagenodiofgnaaGreat.RowN
set_option linter.unusedVariables false
theorem b3 : B32 ^ 3 = 79228162514264337593543950336 := by decide
end Go.Proofs.YthagenodiofgnaaGreat.Ratio
namespace Go.Proofs.YthagenodiofgnaaGreat.Ratio
open Go.RowKit Go.Proofs.YthagenodiofgnaaGreat Go.Proofs.YthagenodiofgnaaGreat.Base Go.Proofs.YthagenodiofgnaaGreat.Mem Go.Proofs.YthagenodiofgnaaGreat.NatM Go.Proofs.YthagenodiofgnaaGreat.Nat32 Go.Proofs.YthagenodiofgnaaGreat.RatM Go.Proofs.YthagenodiofgnaaGreat.GaussM Go.Proofs.YthagenodiofgnaaGreat.ChM Go.Proofs.YthagenodiofgnaaGreat.WalkM Go.Proofs.YthagenodiofgnaaGreat.GiveM
set_option linter.unusedVariables false
def bigE : Nat := 3000
def LeB (m x : Nat) : Prop := x ≤ B32 ^ m
theorem LeB.mul {m k x y : Nat} (h : LeB m x) (g : LeB k y) : LeB (m + k) (x * y) := by
 unfold LeB at *
 rw [Nat.pow_add]
 exact Nat.mul_le_mul h g
theorem LeB.pow {m x : Nat} (h : LeB m x) (t : Nat) : LeB (m * t) (x ^ t) := by
 unfold LeB at *
 rw [Nat.pow_mul]
 exact Nat.pow_le_pow_left h t
theorem LeB.more {m k x : Nat} (h : LeB m x) (hk : m ≤ k) : LeB k x := Nat.le_trans h (Nat.pow_le_pow_right B32_pos hk)
theorem leB_small {x : Nat} (h : x ≤ 4294967296) : LeB 1 x := by unfold LeB; rw [Nat.pow_one]; exact h
theorem leB_ten : LeB 2 1000000000000000000 := by unfold LeB; decide
theorem LeB.lt {m k x : Nat} (h : LeB m x) (hk : m < k) : x < B32 ^ k := Nat.lt_of_le_of_lt h (Nat.pow_lt_pow_right (by decide) hk)
theorem leB_denP {ps : List Int} {n : Nat} (h : AllVF ps n) : LeB (2 * n) (denP ps n) := Nat.le_trans (denP_le h) (leB_ten.pow n)
theorem leB_denW {fs : Nat → List Int} {n m : Nat} (h : ∀ i, i < m → AllVF (fs i) n) : LeB (2 * n * m) (denW fs n m) := Nat.le_trans (denW_le h) ((leB_ten.pow n).pow m)
def topX (n t : Nat) (ps : List Int) (fs : Nat → List Int) : Nat := n * (1000000000000000000 * (n * 1000000000000000000) ^ t * 1000000000000000000) * (denP ps n * denW fs n n ^ t * denW fs n n)
theorem topX_lt {n t : Nat} {ps : List Int} {fs : Nat → List Int} (hn : n ≤ 6) (ht : t ≤ 30) (h1 : AllVF ps n) (h2 : ∀ i, i < n → AllVF (fs i) n) : topX n t ps fs < B32 ^ bigE := by
 have a1 := leB_small (x := n) (by omega)
 have a2 := (a1.mul leB_ten).pow t
 have hD := leB_denP h1
 have hE := leB_denW h2
 have hE72 : LeB 72 (denW fs n n) := hE.more (by
  have := Nat.mul_le_mul (show 2 * n ≤ 12 by omega) hn
  omega)
 have hall := (a1.mul ((leB_ten.mul a2).mul leB_ten)).mul ((hD.mul (hE72.pow t)).mul hE72)
 exact hall.lt (by unfold bigE; omega)
theorem sz_of {D b m : Nat} {q : Rat} (hD : 0 < D) (hb : 0 < b) (h : Ov D b q) (hm : b * D < B32 ^ bigE) : szR q ≤ 200000 := by
 have := ov_sz hD hb h hm
 unfold bigE at this
 omega
theorem le_mul_r {x y : Nat} (h : 0 < y) : x ≤ x * y := Nat.le_mul_of_pos_right x h
theorem run_ok {n t : Nat} {ps : List Int} {fs : Nat → List Int} (hn1 : 1 ≤ n) (hn : n ≤ 6) (ht : t ≤ 30) (h1 : AllVF ps n) (h2 : ∀ i, i < n → AllVF (fs i) n) : StepOk n (wM fs) (runR n (wM fs) (fq ps) t) := by
 have hX := topX_lt hn ht h1 h2
 have hD := denP_pos h1
 have hE := denW_pos (m := n) h2
 have hp : ∀ k, k < n → Ov (denP ps n * denW fs n n ^ t) (1000000000000000000 * (n * 1000000000000000000) ^ t) (runR n (wM fs) (fq ps) t k) := fun k hk => ov_run (fun i hi => ov_fq h1 hi) (fun i k hi hk => ov_wM h2 hi hk) t k hk
 have hM : ∀ i k, i < n → k < n → Ov (denW fs n n) 1000000000000000000 (wM fs i k) := fun i k hi hk => ov_wM h2 hi hk
 have hDt : 0 < denP ps n * denW fs n n ^ t := Nat.mul_pos hD (Nat.pow_pos hE)
 have hbt : 0 < 1000000000000000000 * (n * 1000000000000000000) ^ t := Nat.mul_pos (by decide) (Nat.pow_pos (by omega))
 unfold topX at hX
 generalize 1000000000000000000 * (n * 1000000000000000000) ^ t = bt at *
 generalize denP ps n * denW fs n n ^ t = Dt at *
 generalize denW fs n n = E at *
 have hDE : 0 < Dt * E := Nat.mul_pos hDt hE
 have hbe : 0 < n * (bt * 1000000000000000000) := Nat.mul_pos hn1 (Nat.mul_pos hbt (by decide))
 intro i k hi hk
 refine ⟨?_, ?_, ?_, ?_⟩
 ·refine sz_of hDt hbt (hp i hi) (m := 0) (Nat.lt_of_le_of_lt ?_ hX)
  refine Nat.mul_le_mul ?_ (le_mul_r hE)
  exact Nat.le_trans (le_mul_r (y := 1000000000000000000) (by decide)) (by rw [Nat.mul_comm n]; exact le_mul_r hn1)
 ·have := dgb_sz (dgb_vf (h2 i hi k hk))
  show szR (fq (fs i) k) ≤ 200000
  rw [show fq (fs i) k = qf ((fs i).getD (2 * k) 0) ((fs i).getD (2 * k + 1) 0) from rfl]
  omega
 ·have h := ov_sum (n := i) (f := fun j => runR n (wM fs) (fq ps) t j * wM fs j k) (fun j hj => (hp j (by omega)).mul (hM j k (by omega) hk))
  exact sz_of (m := 0) hDE hbe (h.more (Nat.mul_le_mul_right _ (by omega))) hX
 ·have h := (hp i hi).mul (hM i k hi hk)
  refine sz_of (m := 0) hDE hbe (h.more ?_) hX
  rw [Nat.mul_comm n]; exact le_mul_r hn1
end Go.Proofs.YthagenodiofgnaaGreat.Ratio
namespace Go.Proofs.YthagenodiofgnaaGreat.Ratio
open Go.RowKit Go.Proofs.YthagenodiofgnaaGreat Go.Proofs.YthagenodiofgnaaGreat.Base Go.Proofs.YthagenodiofgnaaGreat.Mem Go.Proofs.YthagenodiofgnaaGreat.NatM Go.Proofs.YthagenodiofgnaaGreat.Nat32 Go.Proofs.YthagenodiofgnaaGreat.RatM Go.Proofs.YthagenodiofgnaaGreat.GaussM Go.Proofs.YthagenodiofgnaaGreat.ChM Go.Proofs.YthagenodiofgnaaGreat.WalkM Go.Proofs.YthagenodiofgnaaGreat.GiveM
set_option linter.unusedVariables false
def wQ (fs : Nat → List Int) : Nat → Nat → Rat := fun i => fq (fs i)
noncomputable def stX (n : Nat) (fs : Nat → List Int) : Nat → Rat := solX (eqS n (wQ fs)) n n
noncomputable def stV (n : Nat) (L : Nat → Nat) (fs : Nat → List Int) : Bool := wkB n L fs && solB (eqS n (wQ fs)) n n
noncomputable def stN (n : Nat) (L : Nat → Nat) (fs : Nat → List Int) : Nat := if stV n L fs then gN (stX n fs) n else 0
noncomputable def stR (n : Nat) (L : Nat → Nat) (fs : Nat → List Int) : List Int := if stV n L fs then gR (stX n fs) n else []
noncomputable def stO (n : Nat) (L : Nat → Nat) (fs : Nat → List Int) : Bool := if stV n L fs then smallAll (stX n fs) n else false
theorem st_no {n : Nat} {L : Nat → Nat} {fs : Nat → List Int} (h : stV n L fs = false) : stN n L fs = 0 ∧ stR n L fs = [] ∧ stO n L fs = false := by
 unfold stN stR stO
 simp [h]
theorem st_yes {n : Nat} {L : Nat → Nat} {fs : Nat → List Int} (h : stV n L fs = true) : stN n L fs = gN (stX n fs) n ∧ stR n L fs = gR (stX n fs) n ∧ stO n L fs = smallAll (stX n fs) n := by
 unfold stN stR stO
 simp [h]
theorem chB_all {ps : List Int} {n : Nat} (h : chB ps n = true) : AllVF ps n ∧ posAll ps n = true ∧ sumR n (fq ps) = 1 := by
 obtain ⟨h1, h2⟩ := chB_range h
 have hv : vfAll ps n = true := by
  cases hvf : vfAll ps n with
  | true => rfl
  | false => rw [chB_vf hvf] at h; cases h
 have hp : posAll ps n = true := by
  cases hpf : posAll ps n with
  | true => rfl
  | false => rw [chB_neg hpf] at h; cases h
 rw [chB_sum h1 h2 hv hp] at h
 exact ⟨vfAll_true.1 hv, hp, of_decide_eq_true h⟩
theorem wk_all {n : Nat} {L : Nat → Nat} {fs : Nat → List Int} (h : wkB n L fs = true) : 1 ≤ n ∧ n ≤ 6 ∧ (∀ i, i < n → L i = n) ∧ (∀ i, i < n → AllVF (fs i) n) ∧ (∀ i, i < n → sumR n (fun k => wQ fs i k) = 1) ∧ (∀ i k, i < n → k < n → Dg (B32 ^ 2) (wQ fs i k)) := by
 obtain ⟨h1, h6, hr⟩ := wkB_true h
 refine ⟨h1, h6, fun i hi => (hr i hi).1, fun i hi => (chB_all (hr i hi).2).1, fun i hi => (chB_all (hr i hi).2).2.2, fun i k hi hk => dgb_vf ((chB_all (hr i hi).2).1 k hk)⟩
theorem st_same {n : Nat} {L : Nat → Nat} {fs : Nat → List Int} (h : wkB n L fs = true) : solB (eqI n (wQ fs)) (n + 1) n = solB (eqS n (wQ fs)) n n ∧ ∀ j, j < n → solX (eqI n (wQ fs)) (n + 1) n j = stX n fs j := by
 obtain ⟨h1, _, _, _, hs, _⟩ := wk_all h
 exact sol_congr (fun y => eq_same h1 hs y)
end Go.Proofs.YthagenodiofgnaaGreat.Ratio
namespace Go.Proofs.YthagenodiofgnaaGreat.Ratio
open Go.RowKit Go.Proofs.YthagenodiofgnaaGreat Go.Proofs.YthagenodiofgnaaGreat.Base Go.Proofs.YthagenodiofgnaaGreat.Mem Go.Proofs.YthagenodiofgnaaGreat.NatM Go.Proofs.YthagenodiofgnaaGreat.Nat32 Go.Proofs.YthagenodiofgnaaGreat.RatM Go.Proofs.YthagenodiofgnaaGreat.GaussM Go.Proofs.YthagenodiofgnaaGreat.ChM Go.Proofs.YthagenodiofgnaaGreat.WalkM Go.Proofs.YthagenodiofgnaaGreat.GiveM
set_option linter.unusedVariables false
theorem sumR_le {n : Nat} {f g : Nat → Rat} (h : ∀ j, j < n → f j ≤ g j) : sumR n f ≤ sumR n g := by
 induction n with
 | zero => exact Rat.le_refl
 | succ n ih =>
  have h1 := ih fun j hj => h j (by omega)
  have h2 := h n (by omega)
  rw [sumR, sumR]
  grind
theorem sumR_pos {n : Nat} {f : Nat → Rat} (h : ∀ j, j < n → 0 ≤ f j) : 0 ≤ sumR n f := by
 have := sumR_le (f := fun _ => 0) h
 rwa [sumR_zero (fun _ _ => rfl)] at this
theorem sumR_none {n : Nat} {f : Nat → Rat} (h : ∀ j, j < n → 0 ≤ f j) (h0 : sumR n f = 0) : ∀ j, j < n → f j = 0 := by
 induction n with
 | zero => intro j hj; omega
 | succ n ih =>
  intro j hj
  rw [sumR] at h0
  have h1 := sumR_pos (n := n) fun j hj => h j (by omega)
  have h2 := h n (by omega)
  rcases Nat.lt_or_ge j n with h3 | h3
  ·exact ih (fun j hj => h j (by omega)) (by grind) j h3
  ·obtain rfl : j = n := by omega
   grind
theorem absR_pos (q : Rat) : 0 ≤ absR q := by
 unfold absR
 split <;> grind
theorem absR_le (q : Rat) : q ≤ absR q := by
 unfold absR
 split <;> grind
theorem absR_add (a b : Rat) : absR (a + b) ≤ absR a + absR b := by
 unfold absR
 split <;> split <;> split <;> grind
theorem absR_mul {a b : Rat} (h : 0 ≤ b) : absR (a * b) = absR a * b := by
 unfold absR
 by_cases ha : a < 0
 ·rw [if_pos ha]
  by_cases hb : b = 0
  ·subst hb; rw [Rat.mul_zero, if_neg (by decide), Rat.mul_zero]
  ·have : a * b < 0 := by
    have hb' : 0 < b := by grind
    have := Rat.mul_pos (show 0 < -a by grind) hb'
    grind
   rw [if_pos this]; grind
 ·rw [if_neg ha]
  have := Rat.mul_nonneg (show 0 ≤ a by grind) h
  rw [if_neg (by grind)]
theorem absR_zero : absR 0 = 0 := by decide
theorem absR_sum (n : Nat) (f : Nat → Rat) : absR (sumR n f) ≤ sumR n fun j => absR (f j) := by
 induction n with
 | zero => rw [sumR, sumR, absR_zero]; exact Rat.le_refl
 | succ n ih =>
  rw [sumR, sumR]
  have := absR_add (sumR n f) (f n)
  grind
theorem eqI_row {n r : Nat} {W : Nat → Nat → Rat} {y : Nat → Rat} (hr : r < n) : sumR n (fun c => eqI n W r c * y c) = stepR n W y r + -1 * y r := by
 have e1 : sumR n (fun c => eqI n W r c * y c) = sumR n (fun c => y c * W c r + (if c = r then -1 * y c else 0)) := by
  refine sumR_congr fun c hc => ?_
  unfold eqI
  rw [if_pos hr, if_pos hc]
  split <;> grind
 rw [e1, sumR_add]
 have e3 : sumR n (fun c => if c = r then -1 * y c else 0) = -1 * y r := by
  rw [sumR_one (k := r) hr]
  ·exact if_pos rfl
  ·intro j _ hj; exact if_neg hj
 rw [e3]
 rfl
theorem eqI_last {n : Nat} {W : Nat → Nat → Rat} {y : Nat → Rat} : sumR n (fun c => eqI n W n c * y c) = sumR n y := by
 refine sumR_congr fun c hc => ?_
 unfold eqI
 rw [if_neg (Nat.lt_irrefl n), Rat.one_mul]
theorem eqI_sol {n : Nat} {W : Nat → Nat → Rat} {y : Nat → Rat} : Sol (eqI n W) (n + 1) n y ↔ (∀ r, r < n → stepR n W y r = y r) ∧ sumR n y = 1 := by
 have e0 : ∀ r, r < n → eqI n W r n = 0 := fun r hr => by unfold eqI; rw [if_pos hr, if_neg (Nat.lt_irrefl n)]
 have e1 : eqI n W n n = 1 := by unfold eqI; rw [if_neg (Nat.lt_irrefl n)]
 constructor
 ·intro h
  refine ⟨fun r hr => ?_, ?_⟩
  ·have := h r (by omega)
   rw [eqI_row hr, e0 r hr] at this
   grind
  ·have := h n (by omega)
   rw [eqI_last, e1] at this
   exact this
 ·rintro ⟨h1, h2⟩ r hr
  rcases Nat.lt_or_ge r n with hm | hm
  ·rw [eqI_row hm, e0 r hm, h1 r hm]; grind
  ·obtain rfl : r = n := by omega
   rw [eqI_last, e1, h2]
theorem step_scale (n : Nat) (W : Nat → Nat → Rat) (y : Nat → Rat) (s : Rat) (r : Nat) : stepR n W (fun i => s * y i) r = s * stepR n W y r := by
 unfold stepR
 rw [← sumR_mul]
 exact sumR_congr fun i _ => by grind
theorem step_total {n : Nat} {W : Nat → Nat → Rat} (hW : ∀ i, i < n → sumR n (fun k => W i k) = 1) (y : Nat → Rat) : sumR n (fun r => stepR n W y r) = sumR n y := by
 unfold stepR
 rw [sumR_comm]
 refine sumR_congr fun i hi => ?_
 rw [sumR_mul, hW i hi, Rat.mul_one]
theorem settled_pos {n : Nat} {W : Nat → Nat → Rat} {x : Nat → Rat} (hp : ∀ i k, i < n → k < n → 0 ≤ W i k) (hW : ∀ i, i < n → sumR n (fun k => W i k) = 1) (hx : Only (eqI n W) (n + 1) n x) : ∀ j, j < n → 0 ≤ x j := by
 obtain ⟨h1, h2⟩ := eqI_sol.1 hx.1
 have hge : ∀ r, r < n → 0 ≤ stepR n W (fun i => absR (x i)) r + -1 * absR (x r) := fun r hr => by
  have e := absR_sum n (fun i => x i * W i r)
  have e2 : sumR n (fun i => absR (x i * W i r)) = stepR n W (fun i => absR (x i)) r := sumR_congr fun i hi => absR_mul (hp i r hi hr)
  rw [e2] at e
  have e3 : sumR n (fun i => x i * W i r) = x r := h1 r hr
  rw [e3] at e
  grind
 have htot : sumR n (fun r => stepR n W (fun i => absR (x i)) r + -1 * absR (x r)) = 0 := by
  rw [sumR_add, step_total hW, sumR_mul]
  grind
 have heq := sumR_none hge htot
 have hS : 1 ≤ sumR n (fun i => absR (x i)) := by rw [← h2]; exact sumR_le fun j _ => absR_le (x j)
 have hS0 : sumR n (fun i => absR (x i)) ≠ 0 := fun e => by rw [e] at hS; exact absurd hS (by decide)
 have hSp : 0 ≤ (sumR n (fun i => absR (x i)))⁻¹ := by
  generalize sumR n (fun i => absR (x i)) = S at *
  by_cases h : 0 ≤ S⁻¹
  ·exact h
  ·have h3 := Rat.mul_pos (show 0 < S by grind) (show 0 < -S⁻¹ by grind)
   have h4 := Rat.mul_inv_cancel S hS0
   grind
 have hsol : Sol (eqI n W) (n + 1) n (fun i => (sumR n (fun i => absR (x i)))⁻¹ * absR (x i)) := by
  refine eqI_sol.2 ⟨fun r hr => ?_, ?_⟩
  ·rw [step_scale]
   have := heq r hr
   have e : stepR n W (fun i => absR (x i)) r = absR (x r) := by grind
   rw [e]
  ·rw [sumR_mul, Rat.inv_mul_cancel _ hS0]
 intro j hj
 rw [← hx.2 _ hsol j hj]
 exact Rat.mul_nonneg hSp (absR_pos _)
theorem stX_pos {n : Nat} {L : Nat → Nat} {fs : Nat → List Int} (h : stV n L fs = true) : ∀ j, j < n → 0 ≤ stX n fs j := by
 unfold stV at h
 rw [Bool.and_eq_true] at h
 obtain ⟨hn1, hn6, hLn, hfs, hsum, hdg⟩ := wk_all h.1
 have hpos : ∀ i k, i < n → k < n → 0 ≤ wQ fs i k := fun i k hi hk => by
  obtain ⟨_, _, hr⟩ := wkB_true h.1
  have hps := (chB_all (hr i hi).2).2.1
  have h0 : 0 ≤ (fs i).getD (2 * k) 0 := of_decide_eq_true (all_range.1 hps k hk)
  obtain ⟨g1, _, g3⟩ := (hfs i hi k hk).num
  show 0 ≤ qf _ _
  have : decide (qf ((fs i).getD (2 * k) 0) ((fs i).getD (2 * k + 1) 0) < 0) = false := by rw [g3]; exact decide_eq_false (by omega)
  exact Rat.not_lt.1 (of_decide_eq_false this)
 obtain ⟨e1, e2⟩ := st_same h.1
 have ho := sol_only (e1.trans h.2)
 intro j hj
 rw [← e2 j hj]
 exact settled_pos hpos hsum ho j hj
end Go.Proofs.YthagenodiofgnaaGreat.Ratio
namespace Go.Proofs.YthagenodiofgnaaGreat.Ratio
open Go.RowKit Go.Proofs.YthagenodiofgnaaGreat Go.Proofs.YthagenodiofgnaaGreat.Base Go.Proofs.YthagenodiofgnaaGreat.Mem Go.Proofs.YthagenodiofgnaaGreat.NatM Go.Proofs.YthagenodiofgnaaGreat.Nat32 Go.Proofs.YthagenodiofgnaaGreat.RatM Go.Proofs.YthagenodiofgnaaGreat.GaussM Go.Proofs.YthagenodiofgnaaGreat.ChM Go.Proofs.YthagenodiofgnaaGreat.WalkM Go.Proofs.YthagenodiofgnaaGreat.GiveM
set_option linter.unusedVariables false
theorem outF_len (f : Nat → Rat) : ∀ n, (outF f n).length = 2 * n
 | 0 => rfl
 | n + 1 => by rw [outF, List.length_append, outF_len f n]; simp; omega
theorem outF_get (f : Nat → Rat) : ∀ {n i : Nat}, i < n → (outF f n).getD (2 * i) 0 = numQ (f i) ∧ (outF f n).getD (2 * i + 1) 0 = denQ (f i)
 | 0, i, h => absurd h (Nat.not_lt_zero _)
 | n + 1, i, h => by
  rw [outF]
  have hl := outF_len f n
  rcases Nat.lt_or_ge i n with h1 | h1
  ·obtain ⟨e1, e2⟩ := outF_get f h1
   constructor
   ·rw [List.getD_eq_getElem?_getD, List.getElem?_append_left (by omega), ← List.getD_eq_getElem?_getD]; exact e1
   ·rw [List.getD_eq_getElem?_getD, List.getElem?_append_left (by omega), ← List.getD_eq_getElem?_getD]; exact e2
  ·obtain rfl : i = n := by omega
   constructor
   ·rw [List.getD_eq_getElem?_getD, List.getElem?_append_right (by omega), hl, Nat.sub_self]; rfl
   ·rw [List.getD_eq_getElem?_getD, List.getElem?_append_right (by omega), hl, show 2 * i + 1 - 2 * i = 1 by omega]; rfl
theorem small_at {f : Nat → Rat} {n i : Nat} (h : smallAll f n = true) (hi : i < n) : smallQ (f i) = true := by
 cases h' : smallQ (f i) with
 | true => rfl
 | false => rw [(small_no hi h').2.2] at h; cases h
theorem outF_vf {f : Nat → Rat} {n : Nat} (h : smallAll f n = true) : AllVF (outF f n) n ∧ ∀ i, i < n → fq (outF f n) i = f i := by
 have key : ∀ i, i < n → (outF f n).getD (2 * i) 0 = (f i).num ∧ (outF f n).getD (2 * i + 1) 0 = ((f i).den : Int) := fun i hi => by
  obtain ⟨e1, e2⟩ := outF_get f hi
  have hs := small_at h hi
  obtain ⟨_, g2, g3⟩ := small_yes (small_true hs).1 (small_true hs).2
  exact ⟨e1.trans g2, e2.trans g3⟩
 refine ⟨fun i hi => ?_, fun i hi => ?_⟩
 ·rw [(key i hi).1, (key i hi).2]
  exact VF.of _ (small_at h hi)
 ·unfold fq
  rw [(key i hi).1, (key i hi).2]
  exact qf_self _
theorem stO_true {n : Nat} {L : Nat → Nat} {fs : Nat → List Int} (h : stO n L fs = true) : stV n L fs = true ∧ wkB n L fs = true ∧ solB (eqS n (wQ fs)) n n = true ∧ smallAll (stX n fs) n = true ∧ stN n L fs = n ∧ stR n L fs = outF (stX n fs) n := by
 have hv : stV n L fs = true := by
  cases h' : stV n L fs with
  | true => rfl
  | false => rw [(st_no h').2.2] at h; cases h
 obtain ⟨e1, e2, e3⟩ := st_yes hv
 rw [e3] at h
 have hb := hv
 unfold stV at hb
 rw [Bool.and_eq_true] at hb
 refine ⟨hv, hb.1, hb.2, h, ?_, ?_⟩
 ·rw [e1]; unfold gN; rw [if_pos h]
 ·rw [e2]; unfold gR; rw [if_pos h]
end Go.Proofs.YthagenodiofgnaaGreat.Ratio
