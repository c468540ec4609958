/- The program: the equations of the settled chances. -/
import Derived.Test.YtionognmgcabbaaMgIsR10
import Derived.Test.YtionognmgcabbaaMgIsR08
import Derived.Test.YtionognmgcabbaaMgIsR09
import Derived.Deep.Cut
import Derived.Test.YtionognmgcabbaaMgIsR05
import Derived.Test.YtionognmgcabbaaMgIsR07
namespace Go.Proofs.Ytionognmgcabbaa.Ratio
open Go.RowKit Go.Proofs.Ytionognmgcabbaa Go.Proofs.Ytionognmgcabbaa.Base Go.Proofs.Ytionognmgcabbaa.Mem Go.Proofs.Ytionognmgcabbaa.NatM Go.Proofs.Ytionognmgcabbaa.Nat32 Go.Proofs.Ytionognmgcabbaa.RatM Go.Proofs.Ytionognmgcabbaa.Blk Go.Proofs.Ytionognmgcabbaa.MemF Go.Proofs.Ytionognmgcabbaa.ChM Go.Proofs.Ytionognmgcabbaa.GaussM
open Go.Proofs.Ytionognmgcabbaa.Inv (natOf natOf_eq len_pos Rat3 not_slice not_bool frz)
set_option linter.unusedVariables false
/-- the program's equations: those of the places, and that of the sum -/
def eqI (n : Nat) (W : Nat → Nat → Rat) : Nat → Nat → Rat := fun r c => if r < n then (if c < n then (if c = r then W c r - 1 else W c r) else 0) else 1
theorem dg_one {m : Nat} (h : 1 ≤ m) : Dg (B32 ^ m) 1 := by
  refine dgb_more (m := 1) ⟨by decide +kernel, by decide +kernel⟩ h
theorem eqI_dg {n : Nat} {W : Nat → Nat → Rat} (h : ∀ i k, i < n → k < n → Dg (B32 ^ 2) (W i k)) (r c : Nat) (hr : r < n + 1) (hc : c ≤ n) : Dg (B32 ^ 4) (eqI n W r c) := by
  unfold eqI
  split
  · split
    · split
      · exact dgb_sub (m := 2) (k := 1) (h _ _ ‹_› ‹_›) (dg_one (Nat.le_refl _))
      · exact dgb_more (h _ _ ‹_› ‹_›) (by decide)
    · exact dgb_zero (by decide)
  · exact dg_one (by decide)
theorem rdU_put3o {w : World} {A : Option Addr} {xs : List Nat} {b o : Nat} {s : Bool} {A1 A2 : Option Addr} {k1 c1 k2 c2 : Nat} (hr : RdU w w.heap.size A xs) {t : TypeId} {cs : Array Value} (K : Blk w b t cs) (x0 : cs[o]? = some (.bool s)) (x1 : cs[o + 1]? = some (.slice A1 k1 c1)) (x2 : cs[o + 2]? = some (.slice A2 k2 c2)) (v0 v1 v2 : Value) : RdU (put3o w b o v0 v1 v2) (put3o w b o v0 v1 v2).heap.size A xs := by
  have e0 : (put3o w b o v0 v1 v2).heap.size = w.heap.size := by simp [put3o]
  have K0 := K.setTo o v0 rfl
  have K1 := K0.setTo (o + 1) v1 rfl
  have y1 : (cs.setIfInBounds o v0)[o + 1]? = some (.slice A1 k1 c1) := by rw [Array.getElem?_setIfInBounds_ne (by omega)]; exact x1
  have y2 : ((cs.setIfInBounds o v0).setIfInBounds (o + 1) v1)[o + 2]? = some (.slice A2 k2 c2) := by rw [Array.getElem?_setIfInBounds_ne (by omega), Array.getElem?_setIfInBounds_ne (by omega)]; exact x2
  rw [e0]
  exact ((hr.non (K.at o x0) (not_bool _) _).non (K0.at (o + 1) y1) (not_slice _ _ _) _).non (K1.at (o + 2) y2) (not_slice _ _ _) _
theorem OwnR.put3o {w : World} {B n : Nat} {v : Value} {f : Nat → Rat} {ws : List Value} {b o : Nat} {s : Bool} {A1 A2 : Option Addr} {k1 c1 k2 c2 : Nat} (h : OwnR w B v n f ws) {t : TypeId} {cs : Array Value} (K : Blk w b t cs) (x0 : cs[o]? = some (.bool s)) (x1 : cs[o + 1]? = some (.slice A1 k1 c1)) (x2 : cs[o + 2]? = some (.slice A2 k2 c2)) (hne : ∀ g, v.ownBlock = some g → g ≠ b) (v0 v1 v2 : Value) : OwnR (Ratio.put3o w b o v0 v1 v2) B v n f ws := by
  have hn : v.ownBlock = none ∨ v.ownBlock ≠ some b := by
    cases hv : v.ownBlock with
    | none => exact .inl rfl
    | some g => exact .inr (fun e => hne g hv (Option.some.inj e))
  refine ⟨((h.row.kept (Src.grown_setCell w ⟨b, o, none⟩ v0) hn).kept (Src.grown_setCell _ ⟨b, o + 1, none⟩ v1) hn).kept (Src.grown_setCell _ ⟨b, o + 2, none⟩ v2) hn, fun i hi => ?_⟩
  obtain ⟨D1, d1, D2, d2, e, h1, h2, h3, h4⟩ := h.els i hi
  exact ⟨D1, d1, D2, d2, e, rdU_put3o h1 K x0 x1 x2 _ _ _, rdU_put3o h2 K x0 x1 x2 _ _ _, h3, h4⟩
theorem NoU.put3o {w : World} {v : Value} {b o : Nat} (h : NoU w v) (hne : ∀ g, v.ownBlock = some g → g ≠ b) (v0 v1 v2 : Value) : NoU (Ratio.put3o w b o v0 v1 v2) v := fun g e => by
  obtain ⟨h1, h2⟩ := h g e
  have hg := hne g e
  refine ⟨by simp [Ratio.put3o]; exact h1, fun o' u hu => h2 o' u ?_⟩
  have hx : ∀ (w' : World) (o'' : Nat) (x : Value), (w'.setCell ⟨b, o'', none⟩ x).cell? ⟨g, o', none⟩ = w'.cell? ⟨g, o', none⟩ := fun w' o'' x => World.cell?_setCell_other _ _ _ _ (fun e => hg (by injection e with e; first | exact e | exact e.symm))
  unfold Ratio.put3o at hu
  rw [hx, hx, hx] at hu
  exact hu
def StRel (n : Nat) (W : Nat → Nat → Rat) (w : World) (kv lv : Value) (wr : World) : Prop :=
  ∃ (k : Nat) (us : List Value), kv = .int .i64 (k : Int) ∧ k ≤ n ∧ Hid (OwnRG wr w.heap.size lv k (n + 1) (eqI n W) us) ∧ Hid (Below w.heap.size w wr)
theorem OwnRG.cap {w : World} {B n L gL cL : Nat} {f : Nat → Nat → Rat} {us : List Value} (h : OwnRG w B (.slice (some ⟨gL, 0, none⟩) n cL) n L f us) : n ≤ cL := by
  rcases h.row.2 with ⟨e, _⟩ | ⟨g, cap, cur, e, _, _, h1, _⟩
  · cases e
  · injection e with _ _ e
    omega
set_option maxHeartbeats 4000000 in
set_option maxRecDepth 100000 in
theorem settledI_any {A : Option Addr} {c n : Nat} {W : Nat → Nat → Rat} (w : World) (hx : RdRR w A n (fun _ => n) W) (h1 : 1 ≤ n) (h6 : n ≤ 6) (hd : ∀ i k, i < n → k < n → Dg (B32 ^ 2) (W i k)) :
    Calls Try.prog 80 #[.slice A n c] w (SvRet w.heap.size (eqI n W) (n + 1) n w) := by
  obtain ⟨iw, wi, wz0, wz1, wz2⟩ := info_parts infoR
  obtain ⟨ir, ri, rz0, rz1, rz2⟩ := info_parts infoRR
  have HX := Lib.hid hx
  have HD := Lib.hid (eqI_dg hd)
  have HSZ := Lib.hid (fun i k (hi : i < n) (hk : k < n) => dgb_sz (hd i k hi hk))
  have H0 : Hid (StRel n W w (.int .i64 0) (.slice (some ⟨w.heap.size, 0, none⟩) 0 0) (w.alloc (.cells #[] 72))) := Lib.hid ⟨0, [], rfl, Nat.zero_le _, Lib.hid (OwnRG.lit0 w _ _), Lib.hid ((Below.refl _ _).alloc (Nat.le_refl _) _)⟩
  clear hx hd
  go_enter Try.func80, Try.ntmps80
  go_wp2
  go_loopw [14, 5] (fun kv lv wr => StRel n W w kv lv wr) (fun kv _ _ => n - (intOf kv).toNat)
  case atStart => exact H0.out
  case round =>
    obtain ⟨k, us, rfl, hk, HO, HB⟩ := hrel
    clear H0
    obtain ⟨Al, cl, hlv, hAl⟩ := ownsRow_form HO.out.row
    subst hlv
    by_cases hkn : k < n
    · obtain ⟨wo, rfl⟩ : ∃ wo : World, wo = wr := ⟨_, rfl⟩
      have H1 : Hid (SoRel n (eqI n W k) wo (.int .i64 0) (.slice (some ⟨wo.heap.size, 0, none⟩) 0 0) (wo.alloc (.cells #[] 89))) := Lib.hid ⟨0, [], rfl, Nat.zero_le _, Lib.hid (OwnR.lit0 wo _), Lib.hid (NoU.lit0 wo _), Lib.hid ((Below.refl _ _).alloc (Nat.le_refl _) _)⟩
      have hwo := HB.out.size
      go_wp2
      go_loopw [19, 7] (fun iv ev w2 => SoRel n (eqI n W k) wo iv ev w2) (fun iv _ _ => n - (intOf iv).toNat)
      case atStart => exact H1.out
      case round =>
        obtain ⟨i, cs, rfl, hi, HE, HNU, HBo⟩ := hrel
        clear H1
        have hso := HBo.out.size
        obtain ⟨Ae, ce, rfl, _⟩ := HE.out.form
        by_cases hin : i < n
        · have HXr := HX.out.below (HB.out.trans (HBo.out.mono HB.out.size))
          obtain ⟨g0, A6, c6, rfl, hg0, y, hrow⟩ := HXr.at hin
          obtain ⟨gm, s, A1, k1, c1, A2, k2, c2, rfl, hgm, x0, x1, x2, hI⟩ := hrow.at hkn
          clear HXr hrow
          go_upto_region 10 with (fail)
          obtain ⟨W5, hW5⟩ : ∃ W5, W5 = wr.alloc (.cells #[.bool s, .slice A1 k1 c1, .slice A2 k2 c2] 89) := ⟨_, rfl⟩
          rw [← hW5]
          obtain ⟨g9, hg9⟩ : ∃ g9, g9 = wr.heap.size := ⟨_, rfl⟩
          rw [← hg9]
          have hb5 : Below wr.heap.size wr W5 := by rw [hW5]; exact (Below.refl _ _).alloc (Nat.le_refl _) _
          have K9 : Hid (Blk W5 g9 89 #[.bool s, .slice A1 k1 c1, .slice A2 k2 c2]) := Lib.hid (by rw [hW5, hg9]; exact Blk.new wr _ _)
          have HE5 := Lib.hid (HE.out.below hb5)
          have HNU5 := Lib.hid (HNU.out.below hb5)
          have HBo5 := Lib.hid (below_next (Nat.le_refl _) HBo.out hb5)
          have HI := Lib.hid (hI.below hb5)
          have hg9o : wo.heap.size ≤ g9 := by omega
          have hne9 : Hid (∀ b, (Value.slice Ae i ce).ownBlock = some b → b ≠ g9) := Lib.hid (fun b e => by obtain ⟨_, _, _, h⟩ := ownsRow_block HE.out.row e; omega)
          clear y x0 x1 x2 hI hW5 hg9 hb5 HE HNU HBo
          obtain ⟨q0, hq0⟩ : ∃ q0, q0 = W i k := ⟨_, rfl⟩
          rw [← hq0] at HI
          have HQ0 := Lib.hid hq0
          have HZ : Hid (szR q0 ≤ 200000 ∧ szR 1 ≤ 200000) := Lib.hid ⟨by rw [hq0]; have := HSZ.out i k hin hkn; omega, by have := dgb_sz (dg_one (m := 1) (Nat.le_refl _)); omega⟩
          clear hq0
          by_cases hik : i = k
          case' pos =>
            have heq : ((i : Int) == (k : Int)) = true := by simp [hik]
            have hfi : Hid (eqI n W k i = q0 - 1) := Lib.hid (by unfold eqI; rw [if_pos hkn, if_pos hin, if_pos hik, HQ0.out])
            clear hik
            go_upto_region 11 with (fail)
            refine Rel.wp_region_rel 3 (by kernel_rfl) (by kernel_rfl) (fun F hF => ?_)
            simp only [List.take_succ_cons, List.take_zero, List.drop_succ_cons, List.drop_zero, Rel.putL] at hF ⊢
            have HF := Lib.hid hF
            clear hF
            have uv := @Rel.upon_value Try.prog
            have ue := @Rel.upon_enter Try.prog
            apply Rel.rel_pure
            apply Exists.intro
            refine ⟨fun vs wq hq hdp R hR => ?_, ?_⟩
            · (rw [HF.out, Rel.stepAt_eq]; clear hdp; have y0 := (K9.out.belowS hq).at 0 (v := .bool s) rfl; have y1 := (K9.out.belowS hq).at 1 (v := .slice A1 k1 c1) rfl; have y2 := (K9.out.belowS hq).at 2 (v := .slice A2 k2 c2) rfl; go_simp; exact hR)
            refine Rel.rel_law (S := fun v w' => IsRt w' 1 v) (isRt_mono _) (fun vs wq hq hdp => ?_) ?_
            · (rw [HF.out, Rel.stepAt_eq]; clear hdp; skip; go_simp; exact whole_rt 1 1 (by decide) ⟨rfl, rfl, by decide +kernel⟩ _)
            refine Rel.rel_law (S := fun v w' => IsRt w' (q0 - 1) v) (isRt_mono _) (fun vs wq hq hdp => ?_) ?_
            · (rw [HF.out, Rel.stepAt_eq]; have qd0 : vs 0 = _ := Rel.dep hdp 0 (by kernel_rfl); have qd1 : IsRt wq _ (vs 1) := Rel.dep hdp 1 (by kernel_rfl); clear hdp; skip; go_simp; refine (ratMinus wq (HI.out.below hq) qd1 HZ.out.1 HZ.out.2).mono ?_; rintro e w7 h; obtain ⟨v, rfl, hv, hb⟩ := h.is; exact ⟨_, rfl, hv, hb⟩)
            refine Rel.rel_end (fun vs wq hq hall => ?_)
            rw [HF.out]
            have qe0 : vs 0 = _ := Rel.fin hall 0 (by decide)
            have qe1 : IsRt wq _ (vs 1) := Rel.fin hall 1 (by decide)
            have qe2 : IsRt wq _ (vs 2) := Rel.fin hall 2 (by decide)
            clear hall HF uv ue
            obtain ⟨t, C1, m1, l1, C2, m2, l2, ev2, hI2⟩ := qe2.open
            have K9q := K9.out.belowS hq
            obtain ⟨W6, hW6⟩ : ∃ W6, W6 = put3o wq g9 0 (.bool t) (.slice C1 m1 l1) (.slice C2 m2 l2) := ⟨_, rfl⟩
            have hb6 : Below wo.heap.size wo W6 := by rw [hW6]; exact put3o_below (below_next (Nat.le_refl _) HBo5.out hq) hg9o _ _ _
            have HI6 : Hid (IsRt W6 (eqI n W k i) (.agg #[.bool t, .slice C1 m1 l1, .slice C2 m2 l2])) := Lib.hid (by rw [hfi.out, hW6]; exact isRt_put3o hI2 K9q rfl rfl rfl _ _ _)
            have K6 : Hid (Blk W6 g9 89 #[.bool t, .slice C1 m1 l1, .slice C2 m2 l2]) := Lib.hid (by rw [hW6]; exact ((K9q.setTo 0 _ rfl).setTo 1 _ rfl).setTo 2 _ rfl)
            have HE6 : Hid (OwnR W6 wo.heap.size (.slice Ae i ce) i (eqI n W k) cs) := Lib.hid (by rw [hW6]; exact (HE5.out.below hq).put3o K9q rfl rfl rfl hne9.out _ _ _)
            have HNU6 : Hid (NoU W6 (.slice Ae i ce)) := Lib.hid (by rw [hW6]; exact (HNU5.out.below hq).put3o hne9.out _ _ _)
            have HBo6 := Lib.hid hb6
            have d0 := K9q.at 0 (v := .bool s) rfl
            have d1 := K9q.at 1 (v := .slice A1 k1 c1) rfl
            have d2 := K9q.at 2 (v := .slice A2 k2 c2) rfl
            have z0 := K9q.frz 0
            have z1 := K9q.frz 1
            have z2 := K9q.frz 2
            unfold put3o at hW6
            have HW6 := Lib.hid hW6
            clear hW6 hb6 hI2 K9q hq K9 HE5 HNU5 HBo5 HI hfi HZ HQ0 qe0 qe1 qe2
            go_upto_region 12 with (fail)
            rw [← HW6.out]
            clear HW6 d0 d1 d2 z0 z1 z2
          case' neg =>
            have heq := cast_ne hik
            have hfi : Hid (eqI n W k i = q0) := Lib.hid (by unfold eqI; rw [if_pos hkn, if_pos hin, if_neg hik, HQ0.out])
            clear hik
            obtain ⟨W6, hW6⟩ : ∃ W6, W6 = W5 := ⟨_, rfl⟩
            rw [← hW6] at K9 HE5 HNU5 HBo5 HI ⊢
            obtain ⟨t, rfl⟩ : ∃ t, t = s := ⟨_, rfl⟩
            obtain ⟨C1, rfl⟩ : ∃ t, t = A1 := ⟨_, rfl⟩
            obtain ⟨C2, rfl⟩ : ∃ t, t = A2 := ⟨_, rfl⟩
            obtain ⟨m1, rfl⟩ : ∃ t, t = k1 := ⟨_, rfl⟩
            obtain ⟨m2, rfl⟩ : ∃ t, t = k2 := ⟨_, rfl⟩
            obtain ⟨l1, rfl⟩ : ∃ t, t = c1 := ⟨_, rfl⟩
            obtain ⟨l2, rfl⟩ : ∃ t, t = c2 := ⟨_, rfl⟩
            have HI6 : Hid (IsRt W6 (eqI n W k i) (.agg #[.bool t, .slice C1 m1 l1, .slice C2 m2 l2])) := Lib.hid (by rw [hfi.out]; exact HI.out)
            have K6 := K9
            have HE6 := HE5
            have HNU6 := HNU5
            have HBo6 := HBo5
            clear hW6 K9 HE5 HNU5 HBo5 HI hfi HZ HQ0
          all_goals
            have y0 := K6.out.at 0 (v := .bool t) rfl
            have y1 := K6.out.at 1 (v := .slice C1 m1 l1) rfl
            have y2 := K6.out.at 2 (v := .slice C2 m2 l2) rfl
            obtain ⟨D1, j1, D2, j2, evv, d1, d2⟩ := HI6.out
            injection evv with evv
            simp only [Array.mk.injEq, List.cons.injEq, Value.slice.injEq, Value.bool.injEq, and_true] at evv
            obtain ⟨e0, ⟨e1, e2, e3⟩, e4, e5, e6⟩ := evv
            subst e1 e3 e4 e6
            have HNX := Lib.hid (fun (w2 : World) v' ca tt hown hg hnu he => SoRel.next (w2 := w2) (v' := v') (A1 := C1) (A2 := C2) (c1 := l1) (c2 := l2) (ca := ca) (t := tt) hin HE6.out HNU6.out HBo6.out d1 d2 hown hg hnu he)
            unfold rt3 at HNX
            rw [← e0, ← e2, ← e5] at HNX
            have HOA := Lib.hid (World.ownsRow.alloc HE6.out.row (.cells #[.bool t, .slice C1 m1 l1, .slice C2 m2 l2] 89))
            have HNA := Lib.hid (HNU6.out.below ((Below.refl W6.heap.size W6).alloc (Nat.le_refl _) (.cells #[.bool t, .slice C1 m1 l1, .slice C2 m2 l2] 89)))
            have hs6 := HBo6.out.size
            clear e0 e2 e5 d1 d2 HE6 HNU6 HBo6 HI6 K6
            go_wp2_with (at_builtin; refine wpList_append_noU _ rfl (.tmp 35) (.tmp 37) 72 rfl wo.heap.size 89 iw (.agg #[.bool false, .slice none 0 0, .slice none 0 0]) 3 56 Try.underlying72 wi wz0 wz1 wz2 rfl (by decide) _ _ _ rfl HOA.out ⟨W6.heap.size, 0, none⟩ 1 1 [.bool t, .slice C1 m1 l1, .slice C2 m2 l2] rfl rfl ?p1a ?p2a ?p3a ?p4a ?p5a HNA.out notU_three notU_zero3 ?_)
            try case p1a => exact news_three _ _ (by simp)
            try case p2a => exact ones_three
            try case p3a => first | (simp only [maxLen]; omega) | omega
            try case p4a => omega
            try case p5a => first | (simp only [World.size_alloc]; omega) | omega
            intro v' w3 hown' hg' hnu' he
            have HN3 := Lib.hid (HNX.out w3 v' _ _ hown' hg' hnu' (by rw [World.size_alloc]; exact he))
            clear hown' hg' hnu' he HNX HOA HNA y0 y1 y2
            go_wp2
            go_roundw
            case rel => exact HN3.out
            case measure => simp [intOf]; omega
        · obtain rfl : i = n := by omega
          have HPN := Lib.hid (fun (w2 : World) v' A1 A2 c1 c2 (wr' : World) (hb : Below wr.heap.size wr wr') ca tt d1 d2 hown hg hnu he => SoRel.next (n := i + 1) (w2 := w2) (v' := v') (A1 := A1) (A2 := A2) (c1 := c1) (c2 := c2) (ca := ca) (t := tt) (Nat.lt_succ_self i) (HE.out.below hb) (HNU.out.below hb) (below_next (Nat.le_refl _) HBo.out hb) d1 d2 hown hg hnu he)
          have hf0 : eqI i W k i = 0 := by unfold eqI; rw [if_pos hkn, if_neg (Nat.lt_irrefl i)]
          rw [hf0] at HPN
          have HWZ := Lib.hid (fun W' => whole_rt 0 0 (by decide) ⟨rfl, rfl, by decide⟩ W')
          have HOW := Lib.hid (fun W' (hb : Below wr.heap.size wr W') o => World.ownsRow.alloc (ownsRow_below HE.out.row hb) o)
          have HNW := Lib.hid (fun W' (hb : Below wr.heap.size wr W') o => (HNU.out.below hb).below ((Below.refl W'.heap.size W').alloc (Nat.le_refl _) o))
          clear hf0
          go_wp2_with fail
          refine (HWZ.out _).mono ?_
          rintro e w3 ⟨v, rfl, hv, hb3⟩
          obtain ⟨C1, l1, C2, l2, rfl, d1, d2⟩ := hv
          unfold rt3 at HPN
          have HNX := Lib.hid (fun (w2 : World) v' ca tt hown hg hnu he => HPN.out w2 v' C1 C2 l1 l2 w3 hb3 ca tt d1 d2 hown hg hnu he)
          have HOA := Lib.hid (HOW.out w3 hb3 (.cells #[.bool (decide ((0 : Rat) < 0)), .slice C1 (natL (0 : Rat).num.natAbs).length l1, .slice C2 (natL (0 : Rat).den).length l2] 89))
          have HNA := Lib.hid (HNW.out w3 hb3 (.cells #[.bool (decide ((0 : Rat) < 0)), .slice C1 (natL (0 : Rat).num.natAbs).length l1, .slice C2 (natL (0 : Rat).den).length l2] 89))
          have hs3 := (below_next (Nat.le_refl _) HBo.out hb3).size
          clear d1 d2 hb3 HPN HOW HNW HWZ HE HNU HBo
          generalize decide ((0 : Rat) < 0) = t at *
          generalize (natL (0 : Rat).num.natAbs).length = m1 at *
          generalize (natL (0 : Rat).den).length = m2 at *
          go_wp2_with (at_builtin; refine wpList_append_noU _ rfl (.tmp 41) (.tmp 43) 72 rfl wo.heap.size 89 iw (.agg #[.bool false, .slice none 0 0, .slice none 0 0]) 3 56 Try.underlying72 wi wz0 wz1 wz2 rfl (by decide) _ _ _ rfl HOA.out ⟨w3.heap.size, 0, none⟩ 1 1 [.bool t, .slice C1 m1 l1, .slice C2 m2 l2] rfl rfl ?p1b ?p2b ?p3b ?p4b ?p5b HNA.out notU_three notU_zero3 ?_)
          try case p1b => exact news_three _ _ (by simp)
          try case p2b => exact ones_three
          try case p3b => first | (simp only [maxLen]; omega) | omega
          try case p4b => omega
          try case p5b => first | (simp only [World.size_alloc]; omega) | omega
          intro v' w4 hown' hg' hnu' he
          obtain ⟨j, cs', ej, hj, HE4, HNU4, HB4⟩ := HNX.out w4 v' _ _ hown' hg' hnu' (by rw [World.size_alloc]; exact he)
          obtain rfl : j = i + 1 := by injection ej with _ ej; omega
          clear hown' hg' hnu' he HNX HOA HNA ej hj
          obtain ⟨Ar, cr, rfl, hAr⟩ := HE4.out.form
          obtain ⟨gr, rfl, hgr, _⟩ := hAr (Nat.succ_pos i)
          obtain ⟨cur, hcur⟩ := HE4.out.toG
          have HP := Lib.hid (fun (w2 : World) v'' ca tt hown hg hnu => OwnRG.push (w2 := w2) (v' := v'') (c := cr) (ca := ca) (t := tt) HO.out HB4.out hcur hgr HB.out.size hown hg hnu)
          have HOB := Lib.hid (World.ownsRow.alloc (ownsRow_below HO.out.row HB4.out) (.cells #[.slice (some ⟨gr, 0, none⟩) (i + 1) cr] 72))
          have HNB := Lib.hid ((HO.out.nou.below HB4.out).below ((Below.refl w4.heap.size w4).alloc (Nat.le_refl _) (.cells #[.slice (some ⟨gr, 0, none⟩) (i + 1) cr] 72)))
          have HBB := Lib.hid (fun (w2 : World) (hg : (w4.alloc (.cells #[.slice (some ⟨gr, 0, none⟩) (i + 1) cr] 72)).grownBy w2 (Value.slice Al k cl).ownBlock) => (below_next (Nat.le_refl _) HB.out (HB4.out.alloc HB4.out.size _)).trans (grown_below hg (fun g e => (ownsRow_block HO.out.row e).choose_spec.2.1) (Nat.le_trans HB.out.size (HB4.out.alloc HB4.out.size _).size)))
          have hs4 := HB4.out.size
          clear hgr hcur HE4 HNU4 HB4 HB HO
          go_wp2_with (at_builtin; refine wpList_append_noU _ rfl (.tmp 40) (.tmp 45) 70 rfl w.heap.size 72 ir (.slice none 0 0) 1 24 Try.underlying70 ri rz0 rz1 rz2 rfl (by decide) _ _ _ rfl HOB.out ⟨w4.heap.size, 0, none⟩ 1 1 [.slice (some ⟨gr, 0, none⟩) (i + 1) cr] rfl rfl ?p1c ?p2c ?p3c ?p4c ?p5c HNB.out notU_one notU_zero1 ?_)
          try case p1c => exact news_one _ _ _ (by simp)
          try case p2c => first | exact one_slice | (intro u hu; simp at hu; subst hu; rfl)
          try case p3c => first | (simp only [maxLen]; omega) | omega
          try case p4c => omega
          try case p5c => first | (simp only [World.size_alloc]; omega) | omega
          intro v'' w5 hown' hg' hnu' _
          have HN5 : Hid (StRel i W w (.int .i64 ((k : Int) + 1)) v'' w5) := Lib.hid ⟨k + 1, _, by simp, hkn, Lib.hid (HP.out w5 v'' _ _ hown' hg' hnu'), Lib.hid (HBB.out w5 hg')⟩
          clear hown' hg' hnu' HP HOB HNB HBB
          go_wp2
          go_roundw
          case rel => exact HN5.out
          case measure => simp [intOf]; omega
          
    · obtain rfl : k = n := by omega
      have HWZ := Lib.hid (fun W' => whole_rt 1 1 (by decide) ⟨rfl, rfl, by decide +kernel⟩ W')
      go_wp2_with fail
      refine (HWZ.out _).mono ?_
      rintro e w3 ⟨v, rfl, hv, hb3⟩
      obtain ⟨s, A1, k1, c1, A2, k2, c2, rfl, hI⟩ := hv.open
      obtain ⟨W4, hW4⟩ : ∃ W4, W4 = w3.alloc (.cells #[.bool s, .slice A1 k1 c1, .slice A2 k2 c2] 89) := ⟨_, rfl⟩
      have hb4 : Below w3.heap.size w3 W4 := by rw [hW4]; exact (Below.refl _ _).alloc (Nat.le_refl _) _
      have K4 : Blk W4 w3.heap.size 89 #[.bool s, .slice A1 k1 c1, .slice A2 k2 c2] := by rw [hW4]; exact Blk.new w3 _ _
      have hRP := repeat_any (c := 1) (N := k + 1) W4 (K4.at 0 rfl) (K4.at 1 rfl) (K4.at 2 rfl) K4.lt (hI.below hb4) (by omega) (by omega)
      rw [show ((k + 1 : Nat) : Int) = (k : Int) + 1 by omega] at hRP
      have HRP := Lib.hid hRP
      have HB4 := Lib.hid (Base.Below.nextA hb3 hb4)
      have HW4 := Lib.hid hW4
      clear hv hI hb3 hb4 K4 hW4 HWZ hRP
      go_wp2_with fail
      rw [← HW4.out]
      refine HRP.out.mono ?_
      rintro e w5 ⟨cs, rfl, hR, hb5⟩
      obtain ⟨g, hg⟩ : ∃ g, g = W4.heap.size := ⟨_, rfl⟩
      rw [← hg] at hR ⊢
      have hwg : wr.heap.size ≤ g := by rw [hg]; exact HB4.out.size
      have HB5 := Lib.hid (Base.Below.nextA HB4.out hb5)
      have hG : RowG w5 g (k + 1) (eqI k W k) cs := hR.toG.congr (fun c hc => by unfold eqI; rw [if_neg (Nat.lt_irrefl k)])
      have HP := Lib.hid (fun (w2 : World) v'' ca tt hown hg hnu => OwnRG.push (w2 := w2) (v' := v'') (c := k + 1) (ca := ca) (t := tt) HO.out HB5.out hG hwg HB.out.size hown hg hnu)
      have HOB := Lib.hid (World.ownsRow.alloc (ownsRow_below HO.out.row HB5.out) (.cells #[.slice (some ⟨g, 0, none⟩) (k + 1) (k + 1)] 72))
      have HNB := Lib.hid ((HO.out.nou.below HB5.out).below ((Below.refl w5.heap.size w5).alloc (Nat.le_refl _) (.cells #[.slice (some ⟨g, 0, none⟩) (k + 1) (k + 1)] 72)))
      have HBB := Lib.hid (fun (w2 : World) (hg : (w5.alloc (.cells #[.slice (some ⟨g, 0, none⟩) (k + 1) (k + 1)] 72)).grownBy w2 (Value.slice Al k cl).ownBlock) => (below_next (Nat.le_refl _) HB.out (HB5.out.alloc HB5.out.size _)).trans (grown_below hg (fun g e => (ownsRow_block HO.out.row e).choose_spec.2.1) (Nat.le_trans HB.out.size (HB5.out.alloc HB5.out.size _).size)))
      have hs5 := HB5.out.size
      have hs1 := HB.out.size
      clear hg hwg hG hR hb5 HB4 HB5 HRP HW4 HB HO
      go_wp2_with (at_builtin; refine wpList_append_noU _ rfl (.tmp 48) (.tmp 54) 70 rfl w.heap.size 72 ir (.slice none 0 0) 1 24 Try.underlying70 ri rz0 rz1 rz2 rfl (by decide) _ _ _ rfl HOB.out ⟨w5.heap.size, 0, none⟩ 1 1 [.slice (some ⟨g, 0, none⟩) (k + 1) (k + 1)] rfl rfl ?p1d ?p2d ?p3d ?p4d ?p5d HNB.out notU_one notU_zero1 ?_)
      try case p1d => exact news_one _ _ _ (by simp)
      try case p2d => first | exact one_slice | (intro u hu; simp at hu; subst hu; rfl)
      try case p3d => first | (simp only [maxLen]; omega) | omega
      try case p4d => omega
      try case p5d => first | (simp only [World.size_alloc]; omega) | omega
      intro v'' w6 hown' hg' hnu' _
      have hF := HP.out w6 v'' _ _ hown' hg' hnu'
      obtain ⟨AL, cL, rfl, hAL⟩ := hF.form
      obtain ⟨gL, rfl, _, _⟩ := hAL (Nat.succ_pos k)
      obtain ⟨gs, cp, cm, css, hmat⟩ := hF.mat
      have hb6 := HBB.out w6 hg'
      have HB6 := Lib.hid hb6
      have HSV := Lib.hid (solved_any (cL := cL) w6 hmat h1 h6 (.inr rfl) hF.cap hb6.size HD.out)
      clear hown' hg' hnu' HP HOB HNB HBB hF hAL hmat hb6 HD HSZ
      go_wp2_with fail
      refine HSV.out.mono ?_
      rintro e w7 ⟨v, cs7, rfl, ho7, hb7⟩
      have HF : Hid (SvRet w.heap.size (eqI k W) (k + 1) k w (.returned (.tuple #[v, .bool (solB (eqI k W) (k + 1) k)])) w7) := Lib.hid ⟨v, cs7, rfl, ho7.base HB6.out.size, HB6.out.trans hb7⟩
      clear ho7 hb7 HSV HB6
      generalize solB (eqI k W) (k + 1) k = ok at *
      go_wp2
      go_ret2
      exact HF.out
      
end Go.Proofs.Ytionognmgcabbaa.Ratio
/- Plain mathematics: the equations of the settled chances, in both forms. -/
namespace Go.Proofs.Ytionognmgcabbaa.Ratio
open Go.RowKit Go.Proofs.Ytionognmgcabbaa Go.Proofs.Ytionognmgcabbaa.Base Go.Proofs.Ytionognmgcabbaa.Mem Go.Proofs.Ytionognmgcabbaa.NatM Go.Proofs.Ytionognmgcabbaa.Nat32 Go.Proofs.Ytionognmgcabbaa.RatM Go.Proofs.Ytionognmgcabbaa.GaussM Go.Proofs.Ytionognmgcabbaa.ChM
set_option linter.unusedVariables false
/-- the reference's equations: that of the sum stands in the last one's place -/
def eqS (n : Nat) (W : Nat → Nat → Rat) : Nat → Nat → Rat := fun r c => if r + 1 = n then 1 else if c < n then (if c = r then W c r + -1 else W c r) else 0
theorem sumR_comm (n m : Nat) (f : Nat → Nat → Rat) : sumR n (fun r => sumR m (fun c => f r c)) = sumR m (fun c => sumR n (fun r => f r c)) := by
  induction n with
  | zero =>
    rw [sumR]
    exact (sumR_zero (fun j _ => rfl)).symm
  | succ n ih =>
    rw [sumR, ih, ← sumR_add]
    exact sumR_congr fun c _ => rfl
theorem rat_m1 (a : Rat) : a + -1 = a - 1 := by grind
theorem rat_part (a b c : Rat) : (a - 1) * b = a * b + -1 * b := by grind
/-- the equations of the places add up to nothing -/
theorem eqI_sum {n : Nat} {W : Nat → Nat → Rat} (hW : ∀ i, i < n → sumR n (fun k => W i k) = 1) (y : Nat → Rat) : sumR n (fun r => sumR n (fun c => eqI n W r c * y c)) = 0 := by
  have e1 : sumR n (fun r => sumR n (fun c => eqI n W r c * y c)) = sumR n (fun r => sumR n (fun c => W c r * y c + (if c = r then -1 * y c else 0))) := by
    refine sumR_congr fun r hr => sumR_congr fun c hc => ?_
    unfold eqI
    rw [if_pos hr, if_pos hc]
    split
    · exact rat_part _ _ 0
    · rw [Rat.add_zero]
  rw [e1, sumR_comm]
  refine sumR_zero fun c hc => ?_
  rw [sumR_add]
  have e2 : sumR n (fun r => W c r * y c) = y c * sumR n (fun r => W c r) := by
    rw [← sumR_mul]
    exact sumR_congr fun r _ => Rat.mul_comm _ _
  have e3 : sumR n (fun r => if c = r then -1 * y c else 0) = -1 * y c := by
    rw [sumR_one (k := c) hc]
    · exact if_pos rfl
    · intro j _ hj; exact if_neg (fun e => hj e.symm)
  rw [e2, e3, hW c hc]
  grind
theorem eq_row {n : Nat} {W : Nat → Nat → Rat} {r : Nat} (hr : r + 1 < n) (c : Nat) : eqS n W r c = eqI n W r c := by
  unfold eqS eqI
  rw [if_neg (by omega), if_pos (by omega : r < n)]
  split
  · split
    · exact rat_m1 _
    · rfl
  · rfl
/-- both forms have the same solutions -/
theorem eq_same {n : Nat} {W : Nat → Nat → Rat} (h1 : 1 ≤ n) (hW : ∀ i, i < n → sumR n (fun k => W i k) = 1) (y : Nat → Rat) : Sol (eqI n W) (n + 1) n y ↔ Sol (eqS n W) n n y := by
  obtain ⟨m, rfl⟩ : ∃ m, n = m + 1 := ⟨n - 1, by omega⟩
  have hl : ∀ c, eqS (m + 1) W m c = 1 := fun c => by unfold eqS; rw [if_pos rfl]
  have hl2 : ∀ c, eqI (m + 1) W (m + 1) c = 1 := fun c => by unfold eqI; rw [if_neg (Nat.lt_irrefl _)]
  have hr0 : ∀ r, r < m + 1 → eqI (m + 1) W r (m + 1) = 0 := fun r hr => by unfold eqI; rw [if_pos hr, if_neg (Nat.lt_irrefl _)]
  constructor
  · intro h r hr
    rcases Nat.lt_or_ge r m with hm | hm
    · have h2 := h r (by omega)
      have e : sumR (m + 1) (fun j => eqS (m + 1) W r j * y j) = sumR (m + 1) (fun j => eqI (m + 1) W r j * y j) := sumR_congr fun c _ => by rw [eq_row (by omega)]
      rw [e, eq_row (by omega)]; exact h2
    · obtain rfl : r = m := by omega
      have h2 := h (r + 1) (by omega)
      have e : sumR (r + 1) (fun j => eqS (r + 1) W r j * y j) = sumR (r + 1) (fun j => eqI (r + 1) W (r + 1) j * y j) := sumR_congr fun c _ => by rw [hl, hl2]
      rw [e, h2, hl, hl2]
  · intro h r hr
    rcases Nat.lt_or_ge r m with hm | hm
    · have h2 := h r (by omega)
      have e : sumR (m + 1) (fun j => eqI (m + 1) W r j * y j) = sumR (m + 1) (fun j => eqS (m + 1) W r j * y j) := sumR_congr fun c _ => by rw [eq_row (by omega)]
      rw [e, ← eq_row (by omega)]; exact h2
    · rcases Nat.lt_or_ge m r with hm2 | hm2
      · obtain rfl : r = m + 1 := by omega
        have h2 := h m (by omega)
        have e : sumR (m + 1) (fun j => eqI (m + 1) W (m + 1) j * y j) = sumR (m + 1) (fun j => eqS (m + 1) W m j * y j) := sumR_congr fun c _ => by rw [hl, hl2]
        rw [e, h2, hl, hl2]
      · obtain rfl : r = m := by omega
        have h3 := eqI_sum hW y
        rw [sumR] at h3
        have h4 : sumR r (fun q => sumR (r + 1) (fun c => eqI (r + 1) W q c * y c)) = 0 := sumR_zero fun q hq => by
          have h2 := h q (by omega)
          have e : sumR (r + 1) (fun j => eqI (r + 1) W q j * y j) = sumR (r + 1) (fun j => eqS (r + 1) W q j * y j) := sumR_congr fun c _ => by rw [eq_row (by omega)]
          rw [e, h2, eq_row (by omega), hr0 q (by omega)]
        rw [h4, Rat.zero_add] at h3
        rw [h3, hr0 r (by omega)]
end Go.Proofs.Ytionognmgcabbaa.Ratio
/- The program: the distance of lists. -/
namespace Go.Proofs.Ytionognmgcabbaa.Ratio
open Go.RowKit Go.Proofs.Ytionognmgcabbaa Go.Proofs.Ytionognmgcabbaa.Base Go.Proofs.Ytionognmgcabbaa.Mem Go.Proofs.Ytionognmgcabbaa.NatM Go.Proofs.Ytionognmgcabbaa.Nat32 Go.Proofs.Ytionognmgcabbaa.RatM Go.Proofs.Ytionognmgcabbaa.Blk Go.Proofs.Ytionognmgcabbaa.MemF Go.Proofs.Ytionognmgcabbaa.ChM Go.Proofs.Ytionognmgcabbaa.GaussM
open Go.Proofs.Ytionognmgcabbaa.Inv (natOf natOf_eq len_pos Rat3 not_slice not_bool frz)
set_option linter.unusedVariables false
theorem RV.put {w wq : World} {q : Rat} {b : Nat} {t : Bool} {C1 C2 : Option Addr} {m1 l1 m2 l2 : Nat} {s : Bool} {A1 A2 : Option Addr} {k1 c1 k2 c2 : Nat} (h : IsRt wq q (.agg #[.bool t, .slice C1 m1 l1, .slice C2 m2 l2])) (K : Blk wq b 89 #[.bool s, .slice A1 k1 c1, .slice A2 k2 c2]) (hb : Below w.heap.size w wq) (hB : w.heap.size ≤ b) :
    RV q w (.returned (.agg #[.bool t, .slice C1 m1 l1, .slice C2 m2 l2])) (put3 wq b (.bool t) (.slice C1 m1 l1) (.slice C2 m2 l2)) := (h.put3 K _ _ _).ret (put3_below hb hB _ _ _)
end Go.Proofs.Ytionognmgcabbaa.Ratio
/- Plain: how far what rows make of a source is from equal chances; its size. -/
namespace Go.Proofs.Ytionognmgcabbaa.Ratio
open Go.RowKit Go.Proofs.Ytionognmgcabbaa Go.Proofs.Ytionognmgcabbaa.Base Go.Proofs.Ytionognmgcabbaa.Mem Go.Proofs.Ytionognmgcabbaa.NatM Go.Proofs.Ytionognmgcabbaa.Nat32 Go.Proofs.Ytionognmgcabbaa.RatM Go.Proofs.Ytionognmgcabbaa.GaussM Go.Proofs.Ytionognmgcabbaa.ChM Go.Proofs.Ytionognmgcabbaa.ExtM Go.Proofs.Ytionognmgcabbaa.RowN
set_option linter.unusedVariables false
theorem b3 : B32 ^ 3 = 79228162514264337593543950336 := by decide
end Go.Proofs.Ytionognmgcabbaa.Ratio
/- Plain: the numbers of a walk of at most 30 steps are small enough. -/
namespace Go.Proofs.Ytionognmgcabbaa.Ratio
open Go.RowKit Go.Proofs.Ytionognmgcabbaa Go.Proofs.Ytionognmgcabbaa.Base Go.Proofs.Ytionognmgcabbaa.Mem Go.Proofs.Ytionognmgcabbaa.NatM Go.Proofs.Ytionognmgcabbaa.Nat32 Go.Proofs.Ytionognmgcabbaa.RatM Go.Proofs.Ytionognmgcabbaa.GaussM Go.Proofs.Ytionognmgcabbaa.ChM Go.Proofs.Ytionognmgcabbaa.WalkM Go.Proofs.Ytionognmgcabbaa.GiveM
set_option linter.unusedVariables false
end Go.Proofs.Ytionognmgcabbaa.Ratio
/- What both sides tell of the settled chances of a walk. -/
namespace Go.Proofs.Ytionognmgcabbaa.Ratio
open Go.RowKit Go.Proofs.Ytionognmgcabbaa Go.Proofs.Ytionognmgcabbaa.Base Go.Proofs.Ytionognmgcabbaa.Mem Go.Proofs.Ytionognmgcabbaa.NatM Go.Proofs.Ytionognmgcabbaa.Nat32 Go.Proofs.Ytionognmgcabbaa.RatM Go.Proofs.Ytionognmgcabbaa.GaussM Go.Proofs.Ytionognmgcabbaa.ChM Go.Proofs.Ytionognmgcabbaa.WalkM Go.Proofs.Ytionognmgcabbaa.GiveM
set_option linter.unusedVariables false
/-- the chances of a walk's steps -/
def wQ (fs : Nat → List Int) : Nat → Nat → Rat := fun i => fq (fs i)
/-- the settled chances -/
noncomputable def stX (n : Nat) (fs : Nat → List Int) : Nat → Rat := solX (eqS n (wQ fs)) n n
/-- is the walk valid, and are there just one list of settled chances -/
noncomputable def stV (n : Nat) (L : Nat → Nat) (fs : Nat → List Int) : Bool := wkB n L fs && solB (eqS n (wQ fs)) n n
noncomputable def stN (n : Nat) (L : Nat → Nat) (fs : Nat → List Int) : Nat := if stV n L fs then gN (stX n fs) n else 0
noncomputable def stR (n : Nat) (L : Nat → Nat) (fs : Nat → List Int) : List Int := if stV n L fs then gR (stX n fs) n else []
noncomputable def stO (n : Nat) (L : Nat → Nat) (fs : Nat → List Int) : Bool := if stV n L fs then smallAll (stX n fs) n else false
theorem st_no {n : Nat} {L : Nat → Nat} {fs : Nat → List Int} (h : stV n L fs = false) : stN n L fs = 0 ∧ stR n L fs = [] ∧ stO n L fs = false := by
  unfold stN stR stO
  simp [h]
theorem st_yes {n : Nat} {L : Nat → Nat} {fs : Nat → List Int} (h : stV n L fs = true) : stN n L fs = gN (stX n fs) n ∧ stR n L fs = gR (stX n fs) n ∧ stO n L fs = smallAll (stX n fs) n := by
  unfold stN stR stO
  simp [h]
theorem chB_all {ps : List Int} {n : Nat} (h : chB ps n = true) : AllVF ps n ∧ posAll ps n = true ∧ sumR n (fq ps) = 1 := by
  obtain ⟨h1, h2⟩ := chB_range h
  have hv : vfAll ps n = true := by
    cases hvf : vfAll ps n with
    | true => rfl
    | false => rw [chB_vf hvf] at h; cases h
  have hp : posAll ps n = true := by
    cases hpf : posAll ps n with
    | true => rfl
    | false => rw [chB_neg hpf] at h; cases h
  rw [chB_sum h1 h2 hv hp] at h
  exact ⟨vfAll_true.1 hv, hp, of_decide_eq_true h⟩
theorem wk_all {n : Nat} {L : Nat → Nat} {fs : Nat → List Int} (h : wkB n L fs = true) : 1 ≤ n ∧ n ≤ 6 ∧ (∀ i, i < n → L i = n) ∧ (∀ i, i < n → AllVF (fs i) n) ∧ (∀ i, i < n → sumR n (fun k => wQ fs i k) = 1) ∧ (∀ i k, i < n → k < n → Dg (B32 ^ 2) (wQ fs i k)) := by
  obtain ⟨h1, h6, hr⟩ := wkB_true h
  refine ⟨h1, h6, fun i hi => (hr i hi).1, fun i hi => (chB_all (hr i hi).2).1, fun i hi => (chB_all (hr i hi).2).2.2, fun i k hi hk => dgb_vf ((chB_all (hr i hi).2).1 k hk)⟩
theorem st_same {n : Nat} {L : Nat → Nat} {fs : Nat → List Int} (h : wkB n L fs = true) : solB (eqI n (wQ fs)) (n + 1) n = solB (eqS n (wQ fs)) n n ∧ ∀ j, j < n → solX (eqI n (wQ fs)) (n + 1) n j = stX n fs j := by
  obtain ⟨h1, _, _, _, hs, _⟩ := wk_all h
  exact sol_congr (fun y => eq_same h1 hs y)
end Go.Proofs.Ytionognmgcabbaa.Ratio
/- What both sides tell of a walk that is the same in both directions. -/
namespace Go.Proofs.Ytionognmgcabbaa.Ratio
open Go.RowKit Go.Proofs.Ytionognmgcabbaa Go.Proofs.Ytionognmgcabbaa.Base Go.Proofs.Ytionognmgcabbaa.Mem Go.Proofs.Ytionognmgcabbaa.NatM Go.Proofs.Ytionognmgcabbaa.Nat32 Go.Proofs.Ytionognmgcabbaa.RatM Go.Proofs.Ytionognmgcabbaa.GaussM Go.Proofs.Ytionognmgcabbaa.ChM Go.Proofs.Ytionognmgcabbaa.WalkM Go.Proofs.Ytionognmgcabbaa.GiveM
set_option linter.unusedVariables false
/-- the chances of a step and of the step back are alike, for the first i places and k more -/
def RvTo (x : Nat → Rat) (W : Nat → Nat → Rat) (i k : Nat) : Prop := ∀ a b, b < a → (a < i ∨ a = i ∧ b < k) → x a * W a b = x b * W b a
noncomputable def revT (n : Nat) (fs : Nat → List Int) : Bool := @decide (RvTo (stX n fs) (wQ fs) n 0) (Classical.propDecidable _)
noncomputable def rvB (n : Nat) (L : Nat → Nat) (fs : Nat → List Int) : Bool := if stO n L fs then revT n fs else false
theorem revT_yes {n : Nat} {fs : Nat → List Int} (h : RvTo (stX n fs) (wQ fs) n 0) : revT n fs = true := by
  unfold revT
  exact @decide_eq_true _ (Classical.propDecidable _) h
theorem revT_no {n i k : Nat} {fs : Nat → List Int} (hi : i < n) (hk : k < i) (h : stX n fs i * wQ fs i k ≠ stX n fs k * wQ fs k i) : revT n fs = false := by
  unfold revT
  exact @decide_eq_false _ (Classical.propDecidable _) (fun h' => h (h' i k hk (.inl hi)))
theorem RvTo.zero (x : Nat → Rat) (W : Nat → Nat → Rat) : RvTo x W 0 0 := fun a b hb h => by omega
theorem RvTo.step {x : Nat → Rat} {W : Nat → Nat → Rat} {i k : Nat} (h : RvTo x W i k) (hk : k < i) (he : x i * W i k = x k * W k i) : RvTo x W i (k + 1) := fun a b hb hab => by
  by_cases e : a = i ∧ b = k
  · obtain ⟨rfl, rfl⟩ := e; exact he
  · exact h a b hb (by omega)
theorem RvTo.next {x : Nat → Rat} {W : Nat → Nat → Rat} {i k : Nat} (h : RvTo x W i k) (hk : i ≤ k) : RvTo x W (i + 1) 0 := fun a b hb hab => h a b hb (by omega)
theorem outF_len (f : Nat → Rat) : ∀ n, (outF f n).length = 2 * n
  | 0 => rfl
  | n + 1 => by rw [outF, List.length_append, outF_len f n]; simp; omega
theorem outF_get (f : Nat → Rat) : ∀ {n i : Nat}, i < n → (outF f n).getD (2 * i) 0 = numQ (f i) ∧ (outF f n).getD (2 * i + 1) 0 = denQ (f i)
  | 0, i, h => absurd h (Nat.not_lt_zero _)
  | n + 1, i, h => by
    rw [outF]
    have hl := outF_len f n
    rcases Nat.lt_or_ge i n with h1 | h1
    · obtain ⟨e1, e2⟩ := outF_get f h1
      constructor
      · rw [List.getD_eq_getElem?_getD, List.getElem?_append_left (by omega), ← List.getD_eq_getElem?_getD]; exact e1
      · rw [List.getD_eq_getElem?_getD, List.getElem?_append_left (by omega), ← List.getD_eq_getElem?_getD]; exact e2
    · obtain rfl : i = n := by omega
      constructor
      · rw [List.getD_eq_getElem?_getD, List.getElem?_append_right (by omega), hl, Nat.sub_self]; rfl
      · rw [List.getD_eq_getElem?_getD, List.getElem?_append_right (by omega), hl, show 2 * i + 1 - 2 * i = 1 by omega]; rfl
theorem small_at {f : Nat → Rat} {n i : Nat} (h : smallAll f n = true) (hi : i < n) : smallQ (f i) = true := by
  cases h' : smallQ (f i) with
  | true => rfl
  | false => rw [(small_no hi h').2.2] at h; cases h
theorem outF_vf {f : Nat → Rat} {n : Nat} (h : smallAll f n = true) : AllVF (outF f n) n ∧ ∀ i, i < n → fq (outF f n) i = f i := by
  have key : ∀ i, i < n → (outF f n).getD (2 * i) 0 = (f i).num ∧ (outF f n).getD (2 * i + 1) 0 = ((f i).den : Int) := fun i hi => by
    obtain ⟨e1, e2⟩ := outF_get f hi
    have hs := small_at h hi
    obtain ⟨_, g2, g3⟩ := small_yes (small_true hs).1 (small_true hs).2
    exact ⟨e1.trans g2, e2.trans g3⟩
  refine ⟨fun i hi => ?_, fun i hi => ?_⟩
  · rw [(key i hi).1, (key i hi).2]
    exact VF.of _ (small_at h hi)
  · unfold fq
    rw [(key i hi).1, (key i hi).2]
    exact qf_self _
theorem stO_true {n : Nat} {L : Nat → Nat} {fs : Nat → List Int} (h : stO n L fs = true) : stV n L fs = true ∧ wkB n L fs = true ∧ solB (eqS n (wQ fs)) n n = true ∧ smallAll (stX n fs) n = true ∧ stN n L fs = n ∧ stR n L fs = outF (stX n fs) n := by
  have hv : stV n L fs = true := by
    cases h' : stV n L fs with
    | true => rfl
    | false => rw [(st_no h').2.2] at h; cases h
  obtain ⟨e1, e2, e3⟩ := st_yes hv
  rw [e3] at h
  have hb := hv
  unfold stV at hb
  rw [Bool.and_eq_true] at hb
  refine ⟨hv, hb.1, hb.2, h, ?_, ?_⟩
  · rw [e1]; unfold gN; rw [if_pos h]
  · rw [e2]; unfold gR; rw [if_pos h]
end Go.Proofs.Ytionognmgcabbaa.Ratio
/- The program: whether a walk is valid. -/
namespace Go.Proofs.Ytionognmgcabbaa.Ratio
open Go.RowKit Go.Proofs.Ytionognmgcabbaa Go.Proofs.Ytionognmgcabbaa.Base Go.Proofs.Ytionognmgcabbaa.Mem Go.Proofs.Ytionognmgcabbaa.MemF Go.Proofs.Ytionognmgcabbaa.ChM Go.Proofs.Ytionognmgcabbaa.WalkM
set_option linter.unusedVariables false
theorem lenFF_any (A : Option Addr) (n c : Nat) (w : World) (h : n ≤ 9223372036854775807) :
    Calls Try.prog 66 #[.slice A n c] w fun e w' => e = .returned (.int .i64 (n : Int)) ∧ w = w' := by
  go_enter Try.func66, Try.ntmps66
  go_wp2
  go_ret
  exact ⟨rfl, rfl⟩
set_option maxHeartbeats 1000000 in
theorem closureW_any {A A' : Option Addr} {c c' B l n b0 : Nat} {fs : List Int} (w : World) (h0 : w.cell? ⟨b0, 0, none⟩ = some (.slice A n c)) (hx : RdF w B A' l fs) (hB : B ≤ w.heap.size) (hl : l ≤ 1099511627776) (hn : n ≤ 1099511627776) :
    Calls Try.prog 68 #[.slice A' l c', .pointer (some ⟨b0, 0, none⟩)] w fun e w' => e = .returned (.bool (!(decide (l = n) && chB fs l))) ∧ Below w.heap.size w w' := by
  have HC := Lib.hid (areCh_any (c := c') w hx hB hl)
  clear hx
  by_cases hln : l = n
  · have hne : ((l : Int) != (n : Int)) = false := by simp [hln]
    have HE : Hid ((!(decide (l = n) && chB fs l)) = !chB fs l) := Lib.hid (by rw [decide_eq_true hln, Bool.true_and])
    rw [HE.out]
    clear hln HE
    go_enter Try.func68, Try.ntmps68
    go_wp2_with fail
    refine HC.out.mono ?_
    rintro e w1 ⟨rfl, hb1⟩
    have HB1 := Lib.hid hb1
    clear hb1
    go_wp2
    go_ret
    exact ⟨ret_bool (by simp), HB1.out⟩
  · have hne : ((l : Int) != (n : Int)) = true := by simp; omega
    have HE : Hid ((!(decide (l = n) && chB fs l)) = true) := Lib.hid (by rw [decide_eq_false hln]; rfl)
    rw [HE.out]
    clear hln HE
    go_enter Try.func68, Try.ntmps68
    go_wp2
    go_ret
    exact ⟨rfl, Below.refl _ _⟩
set_option maxHeartbeats 1000000 in
theorem indexW_any {A : Option Addr} {c B n b0 : Nat} {L : Nat → Nat} {fs : Nat → List Int} (w : World) (h0 : w.cell? ⟨b0, 0, none⟩ = some (.slice A n c)) (hb0 : b0 < w.heap.size) (hx : RdFF w B A n L fs) (hB : B ≤ w.heap.size) (hL : ∀ i, i < n → L i ≤ 1099511627776) (hn : n ≤ 1099511627776) :
    Calls Try.prog 96 #[.slice A n c, .func (Fn.func 68) #[] #[.pointer (some ⟨b0, 0, none⟩)]] w (IdxRetB ((List.range n).all (rowOk n L fs)) w) := by
  have HX := Lib.hid (hx.more hB)
  clear hx
  go_enter Try.func96, Try.ntmps96
  go_wp2
  go_loopw [8] (fun iv wr => ∃ i : Nat, iv = .int .i64 (i : Int) ∧ i ≤ n ∧ Hid (∀ j, j < i → rowOk n L fs j = true) ∧ Hid (Below w.heap.size w wr)) (fun iv _ => n - (intOf iv).toNat)
  case atStart => exact ⟨0, rfl, Nat.zero_le _, Lib.hid fun j hj => absurd hj (Nat.not_lt_zero j), Lib.hid (Below.refl _ _)⟩
  case round =>
    obtain ⟨i, rfl, hi, hall, HB⟩ := hrel
    have d0 := (HB.out.cell (p := ⟨b0, 0, none⟩) hb0).trans h0
    by_cases hlt : i < n
    · obtain ⟨b, off, A', c', rfl, hbl, g, hr⟩ := (HX.out.below HB.out (Nat.le_refl _)).at hlt
      have HNO := Lib.hid (fun h : rowOk n L fs i = false => (show (List.range n).all (rowOk n L fs) = false from all_no hlt h))
      have HYES := Lib.hid (fun (h : rowOk n L fs i = true) j (hj : j < i + 1) => (show rowOk n L fs j = true by
        rcases Nat.lt_or_ge j i with h1 | h1
        · exact hall.out j h1
        · obtain rfl : j = i := by omega
          exact h))
      have HI : Hid (Calls Try.prog 68 #[.slice A' (L i) c', .pointer (some ⟨b0, 0, none⟩)] wr fun e w' => e = .returned (.bool (!rowOk n L fs i)) ∧ Below wr.heap.size wr w') := Lib.hid (closureW_any (c' := c') wr d0 hr HB.out.size (hL i hlt) hn)
      have hsz := HB.out.size
      clear hr hall d0
      generalize L i = l at *
      go_wp2_with fail
      refine HI.out.mono ?_
      rintro e w1 ⟨rfl, hb1⟩
      have HB1 := Lib.hid (Base.Below.nextA HB.out hb1)
      clear hb1 HI
      cases hv : rowOk n L fs i with
      | false =>
        have HE := Lib.hid (HNO.out hv)
        clear HNO HYES hv HB g
        go_wp2
        go_ret
        exact ⟨(i : Int), rfl, .inr ⟨by omega, HE.out⟩, HB1.out⟩
      | true =>
        have HA := Lib.hid (HYES.out hv)
        clear HNO HYES hv HB g
        go_wp2
        go_roundw
        case rel => exact ⟨i + 1, by simp, hlt, HA, HB1⟩
        case measure => simp [intOf]; omega
    · obtain rfl : i = n := by omega
      have HE := Lib.hid (all_range.2 hall.out)
      clear hall
      go_wp2
      go_ret
      exact ⟨-1, rfl, .inl ⟨rfl, HE.out⟩, HB.out⟩
theorem containsW_any {A : Option Addr} {c B n b0 : Nat} {L : Nat → Nat} {fs : Nat → List Int} (w : World) (h0 : w.cell? ⟨b0, 0, none⟩ = some (.slice A n c)) (hb0 : b0 < w.heap.size) (hx : RdFF w B A n L fs) (hB : B ≤ w.heap.size) (hL : ∀ i, i < n → L i ≤ 1099511627776) (hn : n ≤ 1099511627776) :
    Calls Try.prog 67 #[.slice A n c, .func (Fn.func 68) #[] #[.pointer (some ⟨b0, 0, none⟩)]] w fun e w' => e = .returned (.bool (!(List.range n).all (rowOk n L fs))) ∧ Below w.heap.size w w' := by
  have hc := Lib.hid (indexW_any w h0 hb0 hx hB hL hn)
  clear hx
  go_enter Try.func67, Try.ntmps67
  go_wp2_with fail
  refine hc.out.mono ?_
  rintro e w' ⟨r, rfl, ⟨rfl, hb⟩ | ⟨hr, hb⟩, hbl⟩
  all_goals
    have HB := Lib.hid hbl
    have HE := Lib.hid hb
    clear hbl hb
    go_wp2
    go_ret
    exact ⟨ret_bool (by rw [HE.out]; simp <;> omega), HB.out⟩
set_option maxHeartbeats 1000000 in
theorem walkI_any {A : Option Addr} {c B n : Nat} {L : Nat → Nat} {fs : Nat → List Int} (w : World) (hx : RdFF w B A n L fs) (hB : B ≤ w.heap.size) (hL : ∀ i, i < n → L i ≤ 1099511627776) (hn : n ≤ 1099511627776) :
    Calls Try.prog 35 #[.agg #[.slice A n c]] w fun e w' => e = .returned (.bool (wkB n L fs)) ∧ Below w.heap.size w w' := by
  have hb : Below w.heap.size w (w.alloc (.cells #[.slice A n c] 33)) := (Below.refl _ _).alloc (Nat.le_refl _) _
  have HC := Lib.hid (containsW_any (c := c) (b0 := w.heap.size) (w.alloc (.cells #[.slice A n c] 33)) (by simp) (by simp) (hx.below hb hB) (Nat.le_trans hB hb.size) hL hn)
  have HB := Lib.hid hb
  have HL := Lib.hid (fun W => lenFF_any A n c W (by omega))
  clear hb hx
  by_cases h : 1 ≤ n ∧ n ≤ 6
  · have HE := Lib.hid (wkB_in (L := L) (fs := fs) h)
    have HR := Lib.hid (inR_yes (n := (n : Int)) (lo := 1) (hi := 6) (by omega))
    clear h
    go_enter Try.func35, Try.ntmps35
    go_wp2_with fail
    refine (HL.out _).mono ?_
    rintro e w1 ⟨rfl, rfl⟩
    go_wp2_with fail
    refine (inRange_any _ _ _ _).mono ?_
    rintro e w1 ⟨rfl, rfl⟩
    rw [HR.out]
    go_wp2_with fail
    refine HC.out.mono ?_
    rintro e w1 ⟨rfl, hb1⟩
    have HB1 := Lib.hid (Base.Below.nextA HB.out hb1)
    clear hb1
    go_wp2
    go_ret
    exact ⟨ret_bool (by first | (rw [HE.out]; done) | (rw [HE.out]; simp)), HB1.out⟩
  · have HE := Lib.hid (wkB_out (L := L) (fs := fs) h)
    have HR := Lib.hid (inR_no (n := (n : Int)) (lo := 1) (hi := 6) (by omega))
    clear h
    go_enter Try.func35, Try.ntmps35
    go_wp2_with fail
    refine (HL.out _).mono ?_
    rintro e w1 ⟨rfl, rfl⟩
    go_wp2_with fail
    refine (inRange_any _ _ _ _).mono ?_
    rintro e w1 ⟨rfl, rfl⟩
    rw [HR.out]
    go_wp2
    go_ret
    exact ⟨by rw [HE.out]; rfl, HB.out⟩
end Go.Proofs.Ytionognmgcabbaa.Ratio
/- The program: a walk that is run. -/
namespace Go.Proofs.Ytionognmgcabbaa.Ratio
open Go.RowKit Go.Proofs.Ytionognmgcabbaa Go.Proofs.Ytionognmgcabbaa.Base Go.Proofs.Ytionognmgcabbaa.Mem Go.Proofs.Ytionognmgcabbaa.NatM Go.Proofs.Ytionognmgcabbaa.Nat32 Go.Proofs.Ytionognmgcabbaa.RatM Go.Proofs.Ytionognmgcabbaa.Blk Go.Proofs.Ytionognmgcabbaa.MemF Go.Proofs.Ytionognmgcabbaa.ChM Go.Proofs.Ytionognmgcabbaa.GaussM Go.Proofs.Ytionognmgcabbaa.WalkM Go.Proofs.Ytionognmgcabbaa.GiveM
open Go.Proofs.Ytionognmgcabbaa.Inv (natOf natOf_eq len_pos Rat3 not_slice not_bool frz)
set_option linter.unusedVariables false
theorem RdRR.congrL {w : World} {A : Option Addr} {n : Nat} {L L' : Nat → Nat} {f : Nat → Nat → Rat} (h : RdRR w A n L f) (hL : ∀ i, i < n → L i = L' i) : RdRR w A n L' f := fun h0 => by
  obtain ⟨g, e, hlt, hc⟩ := h h0
  exact ⟨g, e, hlt, fun i hi => by rw [← hL i hi]; exact hc i hi⟩
end Go.Proofs.Ytionognmgcabbaa.Ratio
/- The program: the settled chances of a walk. -/
namespace Go.Proofs.Ytionognmgcabbaa.Ratio
open Go.RowKit Go.Proofs.Ytionognmgcabbaa Go.Proofs.Ytionognmgcabbaa.Base Go.Proofs.Ytionognmgcabbaa.Mem Go.Proofs.Ytionognmgcabbaa.NatM Go.Proofs.Ytionognmgcabbaa.Nat32 Go.Proofs.Ytionognmgcabbaa.RatM Go.Proofs.Ytionognmgcabbaa.Blk Go.Proofs.Ytionognmgcabbaa.MemF Go.Proofs.Ytionognmgcabbaa.ChM Go.Proofs.Ytionognmgcabbaa.GaussM Go.Proofs.Ytionognmgcabbaa.WalkM Go.Proofs.Ytionognmgcabbaa.GiveM
open Go.Proofs.Ytionognmgcabbaa.Inv (natOf natOf_eq len_pos Rat3 not_slice not_bool frz)
set_option linter.unusedVariables false
set_option maxHeartbeats 2000000 in
set_option maxRecDepth 100000 in
theorem setOfI_any {A : Option Addr} {c B n : Nat} {L : Nat → Nat} {fs : Nat → List Int} (w : World) (hx : RdFF w B A n L fs) (hB : B ≤ w.heap.size) (hL : ∀ i, i < n → L i ≤ 1048576) (hn : n ≤ 1048576) :
    Calls Try.prog 50 #[.agg #[.slice A n c]] w (FsRet (stN n L fs) (stR n L fs) (stO n L fs) w) := by
  obtain ⟨W0, hW0⟩ : ∃ W0, W0 = w.alloc (.cells #[.slice A n c] 33) := ⟨_, rfl⟩
  have hb0 : Below w.heap.size w W0 := by rw [hW0]; exact (Below.refl _ _).alloc (Nat.le_refl _) _
  have K0 : Hid (Blk W0 w.heap.size 33 #[.slice A n c]) := Lib.hid (by rw [hW0]; exact Blk.new w _ _)
  have HX := Lib.hid ((hx.below hb0 hB).more (Nat.le_trans hB hb0.size))
  have HV := Lib.hid (walkI_any (c := c) W0 HX.out (Nat.le_refl _) (fun i hi => by have := hL i hi; omega) (by omega))
  have HB0 := Lib.hid hb0
  have HW0 := Lib.hid hW0
  clear hx hb0 hW0 hL
  have x0 := K0.out.at 0 (v := .slice A n c) rfl
  rw [HW0.out] at x0
  cases hv : wkB n L fs with
  | false =>
    have HEE := Lib.hid (st_no (n := n) (L := L) (fs := fs) (by unfold stV; rw [hv]; rfl))
    rw [hv] at HV
    clear hv
    go_enter Try.func50, Try.ntmps50
    go_wp2_with fail
    rw [← HW0.out]
    clear x0
    refine HV.out.mono ?_
    rintro e w1 ⟨rfl, hb1⟩
    have HBZ := Lib.hid (Base.Below.nextA HB0.out hb1)
    clear hb1
    go_wp2
    go_ret2
    rw [HEE.out.1, HEE.out.2.1, HEE.out.2.2]
    exact FsRet.no HBZ.out
  | true =>
    rw [hv] at HV
    obtain ⟨hn1, hn6, hLn, hfs, hsum, hdg⟩ := wk_all hv
    obtain ⟨hsb, hsx⟩ := st_same hv
    have HRW := Lib.hid (fun W (h : Below W0.heap.size W0 W) => rowsI_any (c := c) W (HX.out.below h (Nat.le_refl _)) h.size (fun i hi => by rw [hLn i hi]; exact hfs i hi) (fun i hi => by rw [hLn i hi]; omega) (by omega))
    have HST := Lib.hid (fun W A3 c3 (hr : RdRR W A3 n L (wQ fs)) => settledI_any (c := c3) W (hr.congrL (L' := fun _ => n) hLn) hn1 hn6 hdg)
    have HSB := Lib.hid hsb
    have HSX := Lib.hid hsx
    have HVB := Lib.hid hv
    clear hv hLn hfs hsum hdg hsb hsx
    go_enter Try.func50, Try.ntmps50
    go_wp2_with fail
    rw [← HW0.out]
    clear x0
    refine HV.out.mono ?_
    rintro e w1 ⟨rfl, hb1⟩
    have HW1 := Lib.hid hb1
    have x1 := (K0.out.belowS hb1).at 0 (v := .slice A n c) rfl
    clear hb1 HV
    go_wp2_with fail
    refine (HRW.out _ HW1.out).mono ?_
    rintro e w3 ⟨A3, c3, rfl, hrr, hb3⟩
    have HW3 := Lib.hid (Base.Below.nextA HW1.out hb3)
    have HS3 := Lib.hid (HST.out w3 A3 c3 hrr)
    clear hb3 hrr HRW HW1 HST
    go_wp2_with fail
    refine HS3.out.mono ?_
    rintro e w4 ⟨v, cs, rfl, ho, hb4⟩
    rw [HSB.out]
    have HW4 := Lib.hid (Base.Below.nextA HW3.out hb4)
    have hs3 := HW3.out.size
    cases hsb : solB (eqS n (wQ fs)) n n with
    | false =>
      have HEE := Lib.hid (st_no (n := n) (L := L) (fs := fs) (by unfold stV; rw [HVB.out, hsb]; rfl))
      have HBZ := Lib.hid (Base.Below.nextA HB0.out HW4.out)
      clear hsb ho hb4 HW3 HW4 x1 HS3
      go_wp2
      go_ret2
      rw [HEE.out.1, HEE.out.2.1, HEE.out.2.2]
      exact FsRet.no HBZ.out
    | true =>
      have HEE := Lib.hid (st_yes (n := n) (L := L) (fs := fs) (by unfold stV; rw [HVB.out, hsb]; rfl))
      have hsn : sN (eqI n (wQ fs)) (n + 1) n = n := by
        unfold sN
        rw [HSB.out, hsb, if_pos rfl]
      rw [hsn] at ho
      obtain ⟨A4, c4, rfl, _⟩ := ho.form
      have hcg := give_congr (n := n) (fun j hj => HSX.out j hj)
      have HF := Lib.hid (fractions_any (c := c4) w4 ho.rd (show n ≤ 1000 by omega))
      rw [hcg.1, hcg.2.1, hcg.2.2, ← HEE.out.1, ← HEE.out.2.1, ← HEE.out.2.2] at HF
      clear hsb ho hb4 HW3 x1 HS3 hsn hcg
      go_wp2_with fail
      refine HF.out.mono ?_
      rintro e w6 ⟨A6, c6, rfl, ho6, hb6⟩
      have HO := Lib.hid (And.intro ho6 (Base.Below.nextA HB0.out (Base.Below.nextA HW4.out hb6)))
      have hs4 : w.heap.size ≤ w4.heap.size := Nat.le_trans HB0.out.size HW4.out.size
      clear ho6 hb6
      go_wp2
      go_ret2
      exact ⟨A6, c6, rfl, ownsRow_base HO.out.1 hs4, HO.out.2⟩
end Go.Proofs.Ytionognmgcabbaa.Ratio
