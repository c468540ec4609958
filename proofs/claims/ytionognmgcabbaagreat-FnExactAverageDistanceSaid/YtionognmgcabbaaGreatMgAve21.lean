/- The reference: the distance of lists of fractions of any size. -/
import Derived.Test.YtionognmgcabbaaGreatMgAve19
import Derived.Test.YtionognmgcabbaaGreatMgAve20
import Derived.Test.YtionognmgcabbaaGreatMgAve10
import Derived.Deep.Cut
import Derived.Test.YtionognmgcabbaaGreatMgAve16
import Derived.Deep.RegionWith
import Derived.Deep.AppendLies
import Derived.Deep.RegionLaw
import Derived.Test.YtionognmgcabbaaGreatMgAve07
namespace Go.Proofs.YtionognmgcabbaaGreat.Wide
open Go.RowKit Go.Proofs.YtionognmgcabbaaGreat Go.Proofs.YtionognmgcabbaaGreat.Base Go.Proofs.YtionognmgcabbaaGreat.Mem Go.Proofs.YtionognmgcabbaaGreat.RatM Go.Proofs.YtionognmgcabbaaGreat.BigM Go.Proofs.YtionognmgcabbaaGreat.Big Go.Proofs.YtionognmgcabbaaGreat.Fine Go.Proofs.YtionognmgcabbaaGreat.Blk Go.Proofs.YtionognmgcabbaaGreat.GaussM Go.Proofs.YtionognmgcabbaaGreat.MemF Go.Proofs.YtionognmgcabbaaGreat.ChM
open Go.Proofs.YtionognmgcabbaaGreat.Ratio (absR disR qf_half)
set_option linter.unusedVariables false
theorem Parts.abs {w : World} {q : Rat} {m : Nat} {s fine : Bool} {vn vd : Value} {fn fd : Int} {n d : Nat} (h : Parts w q m s vn vd fine fn fd n d) : absR q = if s then -1 * q else q := by
  obtain ⟨h1, h2⟩ := h.zero
  by_cases hn : n = 0
  · have := h1.1 hn
    subst this
    unfold absR
    cases s <;> simp
  · have h3 := h2 hn
    unfold absR
    cases s with
    | true => rw [if_pos (h3.2 rfl)]; simp only [if_true]; grind
    | false =>
      have : ¬ q < 0 := fun h => by have := h3.1 h; cases this
      rw [if_neg this]; rfl
theorem sub_eq (x y : Rat) : x + -1 * y = x - y := by grind
def DsRel (f g : Nat → Rat) (n D : Nat) (w : World) (lv iv : Value) (wr : World) : Prop :=
  ∃ (i : Nat) (cs : List Value), iv = .int .i64 (i : Int) ∧ i ≤ n ∧ Hid (OwnW wr (w.heap.size + 1) lv i (fun j => absR (f j - g j)) D cs) ∧ Hid (Blk wr w.heap.size 81 #[.bool false, .slice none 0 0, .slice none 0 0, .bool false, .int .i64 0, .int .i64 0]) ∧ Hid (Below w.heap.size w wr)
theorem DsRel.next {f g : Nat → Rat} {n D i : Nat} {w wr w1 w2 : World} {v v' : Value} {cs : List Value} {s fine : Bool} {A1 A2 : Option Addr} {k1 c1 k2 c2 nn dd : Nat} {fn fd : Int} {ca : Array Value} {t : TypeId} (hi : i < n) (h : OwnW wr (w.heap.size + 1) v i (fun j => absR (f j - g j)) D cs) (KR : Blk wr w.heap.size 81 #[.bool false, .slice none 0 0, .slice none 0 0, .bool false, .int .i64 0, .int .i64 0]) (hb : Below w.heap.size w wr) (h1 : Below wr.heap.size wr w1)
    (hp : Parts w1 (absR (f i - g i)) D s (.slice A1 k1 c1) (.slice A2 k2 c2) fine fn fd nn dd) (hown : w2.ownsRow (w.heap.size + 1) 81 6 v' (i + 1) (cs ++ six s (.slice A1 k1 c1) (.slice A2 k2 c2) fine fn fd)) (hg : (w1.alloc (.cells ca t)).grownBy w2 v.ownBlock) : DsRel f g n D w v' (.int .i64 ((i : Int) + 1)) w2 := by
  have hb1 : Below wr.heap.size wr (w1.alloc (.cells ca t)) := h1.alloc h1.size _
  refine ⟨i + 1, _, by simp, hi, Lib.hid (h.push h1 hp hown hg), Lib.hid ?_, Lib.hid ?_⟩
  · refine (KR.belowS hb1).kept hg fun e => ?_
    obtain ⟨_, _, h2, _⟩ := ownsRow_block h.row e
    omega
  · exact (hb.trans (hb1.mono hb.size)).trans (grown_below hg (fun g e => by have := (ownsRow_block h.row e).choose_spec.2.1; omega) (Nat.le_trans hb.size hb1.size))
set_option maxHeartbeats 2000000 in
set_option maxRecDepth 100000 in
theorem disS_any {A A' : Option Addr} {c c' n m m' : Nat} {f g : Nat → Rat} {cs cs' : List Value} (w : World) (hx : OwnW w 0 (.slice A n c) n f m cs) (hy : OwnW w 0 (.slice A' n c') n g m' cs') (h2 : 2 ≤ m) (h2' : 2 ≤ m') (hM : 4 + n * (m + m' + 6) ≤ 300000) (hn : n ≤ 1000) (hm : m + m' ≤ 200000) : Calls Tryz.prog 116 #[.slice A n c, .slice A' n c'] w (WRet (disR n f g) (4 + n * (m + m' + 6)) w) := by
  have HX := Lib.hid hx
  have HY := Lib.hid hy
  have HM1 := Lib.hid (fun W => wideOf_any vf_minus W)
  rw [qf_minus] at HM1
  obtain ⟨iw, wi, wz0, wz1, wz2⟩ := info_parts infoW
  have HMM := Lib.hid hM
  obtain ⟨D, hD⟩ : ∃ D, D = m + m' + 5 := ⟨_, rfl⟩
  have HD := Lib.hid hD
  have H0 : Hid (DsRel f g n D w (.slice (some ⟨w.heap.size + 1, 0, none⟩) 0 0) (.int .i64 0) ((w.alloc (.cells #[.bool false, .slice none 0 0, .slice none 0 0, .bool false, .int .i64 0, .int .i64 0] 81)).alloc (.cells #[] 81))) := Lib.hid (by
    have h := OwnW.lit0 (w.alloc (.cells #[.bool false, .slice none 0 0, .slice none 0 0, .bool false, .int .i64 0, .int .i64 0] 81)) (fun j => absR (f j - g j)) D
    rw [World.size_alloc] at h
    exact ⟨0, [], rfl, Nat.zero_le _, Lib.hid h, Lib.hid ((Blk.new w _ _).alloc _), Lib.hid (((Below.refl _ _).alloc (Nat.le_refl _) _).alloc (by simp) _)⟩)
  clear hx hy hM hD
  go_enter Tryz.func116, Tryz.ntmps116
  go_wp2
  go_loopw [5, 6] (fun lv iv wr => DsRel f g n D w lv iv wr) (fun _ iv _ => n - (intOf iv).toNat)
  case atStart => exact H0.out
  case round =>
    obtain ⟨i, cs, rfl, hi, HO, KRr, HB⟩ := hrel
    clear H0
    by_cases hlt : i < n
    · obtain ⟨ga, s1, B1, j1, e1, B2, j2, e2, fb, gn, gd, n', d', rfl, hgl, y0, y1, y2, y3, y4, y5, hp1⟩ := (HX.out.below HB.out).at hlt
      obtain ⟨gb, s2, D1, i1, b1, D2, i2, b2, fe, pn, pd, n2, d2, rfl, hgl2, u0, u1, u2, u3, u4, u5, hp2⟩ := (HY.out.below HB.out).at hlt
      have HY1 : Hid (∀ W, Below wr.heap.size wr W → W.cell? ⟨ga, i * 6, none⟩ = some (.bool s1) ∧ W.cell? ⟨ga, i * 6 + 1, none⟩ = some (.slice B1 j1 e1) ∧ W.cell? ⟨ga, i * 6 + 2, none⟩ = some (.slice B2 j2 e2) ∧ W.cell? ⟨ga, i * 6 + 3, none⟩ = some (.bool fb) ∧ W.cell? ⟨ga, i * 6 + 4, none⟩ = some (.int .i64 gn) ∧ W.cell? ⟨ga, i * 6 + 5, none⟩ = some (.int .i64 gd)) := Lib.hid fun W hb =>
        ⟨(hb.cell hgl).trans y0, (hb.cell hgl).trans y1, (hb.cell hgl).trans y2, (hb.cell hgl).trans y3, (hb.cell hgl).trans y4, (hb.cell hgl).trans y5⟩
      have HY2 : Hid (∀ W, Below wr.heap.size wr W → W.cell? ⟨gb, i * 6, none⟩ = some (.bool s2) ∧ W.cell? ⟨gb, i * 6 + 1, none⟩ = some (.slice D1 i1 b1) ∧ W.cell? ⟨gb, i * 6 + 2, none⟩ = some (.slice D2 i2 b2) ∧ W.cell? ⟨gb, i * 6 + 3, none⟩ = some (.bool fe) ∧ W.cell? ⟨gb, i * 6 + 4, none⟩ = some (.int .i64 pn) ∧ W.cell? ⟨gb, i * 6 + 5, none⟩ = some (.int .i64 pd)) := Lib.hid fun W hb =>
        ⟨(hb.cell hgl2).trans u0, (hb.cell hgl2).trans u1, (hb.cell hgl2).trans u2, (hb.cell hgl2).trans u3, (hb.cell hgl2).trans u4, (hb.cell hgl2).trans u5⟩
      have HE1 : Hid (IsW wr (f i) m (.agg #[.bool s1, .slice B1 j1 e1, .slice B2 j2 e2, .bool fb, .int .i64 gn, .int .i64 gd])) := Lib.hid ⟨_, _, _, _, _, _, _, _, _, _, _, _, rfl, hp1⟩
      have HE2 : Hid (IsW wr (g i) m' (.agg #[.bool s2, .slice D1 i1 b1, .slice D2 i2 b2, .bool fe, .int .i64 pn, .int .i64 pd])) := Lib.hid ⟨_, _, _, _, _, _, _, _, _, _, _, _, rfl, hp2⟩
      clear y0 y1 y2 y3 y4 y5 hp1 hgl u0 u1 u2 u3 u4 u5 hp2 hgl2
      obtain ⟨x, hxe⟩ : ∃ x, x = f i := ⟨_, rfl⟩
      obtain ⟨y, hye⟩ : ∃ y, y = g i := ⟨_, rfl⟩
      rw [← hxe] at HE1
      rw [← hye] at HE2
      have HXY : Hid (absR (f i - g i) = absR (x + -1 * y)) := Lib.hid (by rw [hxe, hye, sub_eq])
      clear hxe hye
      go_wp2
      refine Rel.wp_region_rel 13 (by kernel_rfl) (by kernel_rfl) (fun F hF => ?_)
      simp only [List.take_succ_cons, List.take_zero, List.drop_succ_cons, List.drop_zero, Rel.putL] at hF ⊢
      have HF := Lib.hid hF
      clear hF
      have uv := @Rel.upon_value Tryz.prog
      have ue := @Rel.upon_enter Tryz.prog
      apply Rel.rel_pure
      apply Exists.intro
      refine ⟨fun vs wq hq hdp R hR => ?_, ?_⟩
      · (rw [HF.out, Rel.stepAt_eq]; clear hdp; skip; go_simp; exact hR)
      apply Rel.rel_pure
      apply Exists.intro
      refine ⟨fun vs wq hq hdp R hR => ?_, ?_⟩
      · (rw [HF.out, Rel.stepAt_eq]; clear hdp; skip; go_simp; exact hR)
      apply Rel.rel_pure
      apply Exists.intro
      refine ⟨fun vs wq hq hdp R hR => ?_, ?_⟩
      · (rw [HF.out, Rel.stepAt_eq]; have qd0 : vs 0 = _ := Rel.dep hdp 0 (by kernel_rfl); have qd1 : vs 1 = _ := Rel.dep hdp 1 (by kernel_rfl); clear hdp; skip; go_simp; exact hR)
      apply Rel.rel_pure
      apply Exists.intro
      refine ⟨fun vs wq hq hdp R hR => ?_, ?_⟩
      · (rw [HF.out, Rel.stepAt_eq]; have qd2 : vs 2 = _ := Rel.dep hdp 2 (by kernel_rfl); clear hdp; obtain ⟨y0, y1, y2, y3, y4, y5⟩ := HY1.out wq hq; go_simp; exact hR)
      apply Rel.rel_pure
      apply Exists.intro
      refine ⟨fun vs wq hq hdp R hR => ?_, ?_⟩
      · (rw [HF.out, Rel.stepAt_eq]; clear hdp; skip; go_simp; exact hR)
      refine Rel.rel_law (S := fun v w' => IsW w' (-1) 2 v) (isW_mono _ _) (fun vs wq hq hdp => ?_) ?_
      · (rw [HF.out, Rel.stepAt_eq]; have qd4 : vs 4 = _ := Rel.dep hdp 4 (by kernel_rfl); clear hdp; skip; go_simp; refine (HM1.out _).mono ?_; rintro e w7 ⟨v, rfl, hv, hb⟩; exact ⟨_, rfl, hv, hb⟩)
      apply Rel.rel_pure
      apply Exists.intro
      refine ⟨fun vs wq hq hdp R hR => ?_, ?_⟩
      · (rw [HF.out, Rel.stepAt_eq]; clear hdp; skip; go_simp; exact hR)
      apply Rel.rel_pure
      apply Exists.intro
      refine ⟨fun vs wq hq hdp R hR => ?_, ?_⟩
      · (rw [HF.out, Rel.stepAt_eq]; clear hdp; skip; go_simp; exact hR)
      apply Rel.rel_pure
      apply Exists.intro
      refine ⟨fun vs wq hq hdp R hR => ?_, ?_⟩
      · (rw [HF.out, Rel.stepAt_eq]; have qd6 : vs 6 = _ := Rel.dep hdp 6 (by kernel_rfl); have qd7 : vs 7 = _ := Rel.dep hdp 7 (by kernel_rfl); clear hdp; skip; go_simp; exact hR)
      apply Rel.rel_pure
      apply Exists.intro
      refine ⟨fun vs wq hq hdp R hR => ?_, ?_⟩
      · (rw [HF.out, Rel.stepAt_eq]; have qd8 : vs 8 = _ := Rel.dep hdp 8 (by kernel_rfl); clear hdp; obtain ⟨u0, u1, u2, u3, u4, u5⟩ := HY2.out wq hq; go_simp; exact hR)
      refine Rel.rel_law (S := fun v w' => IsW w' (-1 * y) (2 + m') v) (isW_mono _ _) (fun vs wq hq hdp => ?_) ?_
      · (rw [HF.out, Rel.stepAt_eq]; have qd5 : IsW wq _ _ (vs 5) := Rel.dep hdp 5 (by kernel_rfl); have qd9 : vs 9 = _ := Rel.dep hdp 9 (by kernel_rfl); clear hdp; skip; go_simp; refine (wideMul_any wq qd5 (HE2.out.below hq) (by decide) (by omega) (by decide) h2').mono ?_; rintro e w7 ⟨v, rfl, hv, hb⟩; exact ⟨_, rfl, hv, hb⟩)
      refine Rel.rel_law (S := fun v w' => IsW w' (x + -1 * y) (m + (2 + m') + 1) v) (isW_mono _ _) (fun vs wq hq hdp => ?_) ?_
      · (rw [HF.out, Rel.stepAt_eq]; have qd3 : vs 3 = _ := Rel.dep hdp 3 (by kernel_rfl); have qd10 : IsW wq _ _ (vs 10) := Rel.dep hdp 10 (by kernel_rfl); clear hdp; skip; go_simp; refine (wideAdd_any wq (HE1.out.below hq) qd10 (by omega) (by omega) h2 (by omega)).mono ?_; rintro e w7 ⟨v, rfl, hv, hb⟩; exact ⟨_, rfl, hv, hb⟩)
      refine Rel.rel_alloc (cs := #[.bool false, .slice none 0 0, .slice none 0 0, .bool false, .int .i64 0, .int .i64 0]) (t := 81) (fun vs wq hq hdp R hR => ?_) ?_
      · (rw [HF.out, Rel.stepAt_eq]; clear hdp; go_simp; exact hR)
      refine Rel.rel_end (fun vs wq hq hall => ?_)
      rw [HF.out]
      have qe0 : vs 0 = _ := Rel.fin hall 0 (by decide)
      have qe1 : vs 1 = _ := Rel.fin hall 1 (by decide)
      have qe2 : vs 2 = _ := Rel.fin hall 2 (by decide)
      have qe3 : vs 3 = _ := Rel.fin hall 3 (by decide)
      have qe4 : vs 4 = _ := Rel.fin hall 4 (by decide)
      have qe5 : IsW wq _ _ (vs 5) := Rel.fin hall 5 (by decide)
      have qe6 : vs 6 = _ := Rel.fin hall 6 (by decide)
      have qe7 : vs 7 = _ := Rel.fin hall 7 (by decide)
      have qe8 : vs 8 = _ := Rel.fin hall 8 (by decide)
      have qe9 : vs 9 = _ := Rel.fin hall 9 (by decide)
      have qe10 : IsW wq _ _ (vs 10) := Rel.fin hall 10 (by decide)
      have qe11 : IsW wq _ _ (vs 11) := Rel.fin hall 11 (by decide)
      have qe12 : Rel.NewB _ _ _ (vs 12) wq := Rel.fin hall 12 (by decide)
      clear hall HF uv ue
      obtain ⟨g7, eg7, hg7, hg7b⟩ := qe12
      have K7q : Blk wq g7 81 #[.bool false, .slice none 0 0, .slice none 0 0, .bool false, .int .i64 0, .int .i64 0] := hg7b
      obtain ⟨t, C1, l1, f1, C2, l2, f2, fc, hn1, hd1, n3, d3, ev, hpd⟩ := qe11
      obtain ⟨W7, hW7⟩ : ∃ W7, W7 = put6 wq g7 (.bool t) (.slice C1 l1 f1) (.slice C2 l2 f2) (.bool fc) (.int .i64 hn1) (.int .i64 hd1) := ⟨_, rfl⟩
      have K7 : Hid (Blk W7 g7 81 #[.bool t, .slice C1 l1 f1, .slice C2 l2 f2, .bool fc, .int .i64 hn1, .int .i64 hd1]) := Lib.hid (by rw [hW7]; exact put6_blk K7q _ _ _ _ _ _)
      have HP7 : Hid (Parts W7 (x + -1 * y) (m + (2 + m') + 1) t (.slice C1 l1 f1) (.slice C2 l2 f2) fc hn1 hd1 n3 d3) := Lib.hid (by rw [hW7]; exact hpd.put6 K7q (by decide) _ _ _ _ _ _)
      have HB7 : Hid (Below wr.heap.size wr W7) := Lib.hid (by rw [hW7]; exact put6_below hq hg7 _ _ _ _ _ _)
      unfold put6 at hW7
      have HW7 := Lib.hid hW7
      have z0 := K7q.frz 0
      have z1 := K7q.frz 1
      have z2 := K7q.frz 2
      have z3 := K7q.frz 3
      have z4 := K7q.frz 4
      have z5 := K7q.frz 5
      have c0 := K7q.at 0 (v := .bool false) rfl
      have c1 := K7q.at 1 (v := .slice none 0 0) rfl
      have c2 := K7q.at 2 (v := .slice none 0 0) rfl
      have c3 := K7q.at 3 (v := .bool false) rfl
      have c4 := K7q.at 4 (v := .int .i64 0) rfl
      have c5 := K7q.at 5 (v := .int .i64 0) rfl
      clear qe0 qe1 qe2 qe3 qe4 qe5 qe6 qe7 qe8 qe9 qe10 hq hg7b K7q hpd hW7 HY1 HY2 HE1 HE2
      go_upto_region 6 with (fail)
      rw [← HW7.out]
      clear z0 z1 z2 z3 z4 z5 c0 c1 c2 c3 c4 c5 HW7
      have HAB := Lib.hid HP7.out.abs
      cases t with
      | false =>
        have x0 := K7.out.at 0 (v := .bool false) rfl
        have HPE : Hid (Parts W7 (absR (f i - g i)) D false (.slice C1 l1 f1) (.slice C2 l2 f2) fc hn1 hd1 n3 d3) := Lib.hid (by rw [HXY.out, HAB.out]; exact HP7.out.more (by have := HD.out; omega))
        clear HAB
        have HN := Lib.hid (fun w3 v' ca t hown hg => DsRel.next (w2 := w3) (v' := v') (ca := ca) (t := t) hlt HO.out KRr.out HB.out HB7.out HPE.out hown hg)
        have HOA := Lib.hid (World.ownsRow.alloc (ownsRow_below HO.out.row HB7.out) (.cells #[.bool false, .slice C1 l1 f1, .slice C2 l2 f2, .bool fc, .int .i64 hn1, .int .i64 hd1] 81))
        have d0 := K7.out.at 0 (v := .bool false) rfl
        have d1 := K7.out.at 1 (v := .slice C1 l1 f1) rfl
        have d2 := K7.out.at 2 (v := .slice C2 l2 f2) rfl
        have d3 := K7.out.at 3 (v := .bool fc) rfl
        have d4 := K7.out.at 4 (v := .int .i64 hn1) rfl
        have d5 := K7.out.at 5 (v := .int .i64 hd1) rfl
        have hszW := (HB7.out).size
        have hszB := HB.out.size
        clear HO HB KRr
        go_wp2_with (at_builtin; refine wpList_append_own_at _ rfl (.tmp 33) (.tmp 35) 93 rfl (w.heap.size + 1) 81 iw (.agg #[.bool false, .slice none 0 0, .slice none 0 0, .bool false, .int .i64 0, .int .i64 0]) 6 80 Tryz.underlying93 wi wz0 wz1 wz2 rfl (by decide) _ _ _ rfl HOA.out ⟨W7.heap.size, 0, none⟩ 1 1 [.bool false, .slice C1 l1 f1, .slice C2 l2 f2, .bool fc, .int .i64 hn1, .int .i64 hd1] rfl rfl ?p1a ?p2a ?p3a ?p4a ?p5a ?_)
        try case p1a => exact news_six _ _ (by simp)
        try case p2a => exact ones_six
        try case p3a => first | (simp only [maxLen]; omega) | omega
        try case p4a => omega
        try case p5a => first | (simp only [World.size_alloc]; omega) | omega
        intro v' w3 hown' hg' _ he
        have HN3 := Lib.hid (HN.out w3 v' _ _ hown' hg')
        clear hown' hg' he HN HOA d0 d1 d2 d3 d4 d5
        go_wp2
        go_roundw
        case rel => exact HN3.out
        case measure => simp [intOf]; omega
      | true =>
        have x0 := K7.out.at 0 (v := .bool true) rfl
        obtain ⟨d0, hd0⟩ : ∃ d0, d0 = x + -1 * y := ⟨_, rfl⟩
        have HD7 : Hid (IsW W7 d0 (m + (2 + m') + 1) (.agg #[.bool true, .slice C1 l1 f1, .slice C2 l2 f2, .bool fc, .int .i64 hn1, .int .i64 hd1])) := Lib.hid (by rw [hd0]; exact ⟨_, _, _, _, _, _, _, _, _, _, _, _, rfl, HP7.out⟩)
        have HXD : Hid (absR (f i - g i) = -1 * d0) := Lib.hid (by rw [HXY.out, HAB.out, ← hd0]; rfl)
        clear hd0 HXY HAB
        go_upto_region 7 with (fail)
        clear x0
        refine Rel.wp_region_rel 4 (by kernel_rfl) (by kernel_rfl) (fun F hF => ?_)
        simp only [List.take_succ_cons, List.take_zero, List.drop_succ_cons, List.drop_zero, Rel.putL] at hF ⊢
        have HF := Lib.hid hF
        clear hF
        have uv := @Rel.upon_value Tryz.prog
        have ue := @Rel.upon_enter Tryz.prog
        apply Rel.rel_pure
        apply Exists.intro
        refine ⟨fun vs wq hq hdp R hR => ?_, ?_⟩
        · (rw [HF.out, Rel.stepAt_eq]; clear hdp; skip; go_simp; exact hR)
        refine Rel.rel_law (S := fun v w' => IsW w' (-1) 2 v) (isW_mono _ _) (fun vs wq hq hdp => ?_) ?_
        · (rw [HF.out, Rel.stepAt_eq]; have qd0 : vs 0 = _ := Rel.dep hdp 0 (by kernel_rfl); clear hdp; skip; go_simp; refine (HM1.out _).mono ?_; rintro e w7 ⟨v, rfl, hv, hb⟩; exact ⟨_, rfl, hv, hb⟩)
        apply Rel.rel_pure
        apply Exists.intro
        refine ⟨fun vs wq hq hdp R hR => ?_, ?_⟩
        · (rw [HF.out, Rel.stepAt_eq]; clear hdp; have x0 := (K7.out.belowS hq).at 0 (v := .bool true) rfl; have x1 := (K7.out.belowS hq).at 1 (v := .slice C1 l1 f1) rfl; have x2 := (K7.out.belowS hq).at 2 (v := .slice C2 l2 f2) rfl; have x3 := (K7.out.belowS hq).at 3 (v := .bool fc) rfl; have x4 := (K7.out.belowS hq).at 4 (v := .int .i64 hn1) rfl; have x5 := (K7.out.belowS hq).at 5 (v := .int .i64 hd1) rfl; go_simp; exact hR)
        refine Rel.rel_law (S := fun v w' => IsW w' (-1 * d0) (2 + (m + (2 + m') + 1)) v) (isW_mono _ _) (fun vs wq hq hdp => ?_) ?_
        · (rw [HF.out, Rel.stepAt_eq]; have qd1 : IsW wq _ _ (vs 1) := Rel.dep hdp 1 (by kernel_rfl); have qd2 : vs 2 = _ := Rel.dep hdp 2 (by kernel_rfl); clear hdp; skip; go_simp; refine (wideMul_any wq qd1 (HD7.out.below hq) (by decide) (by omega) (by decide) (by omega)).mono ?_; rintro e w7 ⟨v, rfl, hv, hb⟩; exact ⟨_, rfl, hv, hb⟩)
        refine Rel.rel_end (fun vs wq hq hall => ?_)
        rw [HF.out]
        have qe0 : vs 0 = _ := Rel.fin hall 0 (by decide)
        have qe1 : IsW wq _ _ (vs 1) := Rel.fin hall 1 (by decide)
        have qe2 : vs 2 = _ := Rel.fin hall 2 (by decide)
        have qe3 : IsW wq _ _ (vs 3) := Rel.fin hall 3 (by decide)
        clear hall HF uv ue
        have K7q := K7.out.belowS hq
        obtain ⟨t', C1', l1', f1', C2', l2', f2', fc', hn1', hd1', n3', d3', ev, hpd⟩ := qe3
        obtain ⟨W8, hW8⟩ : ∃ W8, W8 = put6 wq g7 (.bool t') (.slice C1' l1' f1') (.slice C2' l2' f2') (.bool fc') (.int .i64 hn1') (.int .i64 hd1') := ⟨_, rfl⟩
        have K8 : Hid (Blk W8 g7 81 #[.bool t', .slice C1' l1' f1', .slice C2' l2' f2', .bool fc', .int .i64 hn1', .int .i64 hd1']) := Lib.hid (by rw [hW8]; exact put6_blk K7q _ _ _ _ _ _)
        have HPE : Hid (Parts W8 (absR (f i - g i)) D t' (.slice C1' l1' f1') (.slice C2' l2' f2') fc' hn1' hd1' n3' d3') := Lib.hid (by rw [hW8, HXD.out]; exact (hpd.put6 K7q (by decide) _ _ _ _ _ _).more (by have := HD.out; omega))
        have HB8 : Hid (Below wr.heap.size wr W8) := Lib.hid (by rw [hW8]; exact put6_below (Base.Below.nextA HB7.out hq) hg7 _ _ _ _ _ _)
        unfold put6 at hW8
        have HW8 := Lib.hid hW8
        have z0 := K7q.frz 0
        have z1 := K7q.frz 1
        have z2 := K7q.frz 2
        have z3 := K7q.frz 3
        have z4 := K7q.frz 4
        have z5 := K7q.frz 5
        have c0 := K7q.at 0 (v := .bool true) rfl
        have c1 := K7q.at 1 (v := .slice C1 l1 f1) rfl
        have c2 := K7q.at 2 (v := .slice C2 l2 f2) rfl
        have c3 := K7q.at 3 (v := .bool fc) rfl
        have c4 := K7q.at 4 (v := .int .i64 hn1) rfl
        have c5 := K7q.at 5 (v := .int .i64 hd1) rfl
        clear qe0 qe1 qe2 hq K7q hpd hW8 K7 HP7 HB7 HD7 HXD
        go_upto_region 8 with (fail)
        rw [← HW8.out]
        clear z0 z1 z2 z3 z4 z5 c0 c1 c2 c3 c4 c5 HW8
        have HN := Lib.hid (fun w3 v' ca t hown hg => DsRel.next (w2 := w3) (v' := v') (ca := ca) (t := t) hlt HO.out KRr.out HB.out HB8.out HPE.out hown hg)
        have HOA := Lib.hid (World.ownsRow.alloc (ownsRow_below HO.out.row HB8.out) (.cells #[.bool t', .slice C1' l1' f1', .slice C2' l2' f2', .bool fc', .int .i64 hn1', .int .i64 hd1'] 81))
        have d0 := K8.out.at 0 (v := .bool t') rfl
        have d1 := K8.out.at 1 (v := .slice C1' l1' f1') rfl
        have d2 := K8.out.at 2 (v := .slice C2' l2' f2') rfl
        have d3 := K8.out.at 3 (v := .bool fc') rfl
        have d4 := K8.out.at 4 (v := .int .i64 hn1') rfl
        have d5 := K8.out.at 5 (v := .int .i64 hd1') rfl
        have hszW := (HB8.out).size
        have hszB := HB.out.size
        clear HO HB KRr
        go_wp2_with (at_builtin; refine wpList_append_own_at _ rfl (.tmp 33) (.tmp 35) 93 rfl (w.heap.size + 1) 81 iw (.agg #[.bool false, .slice none 0 0, .slice none 0 0, .bool false, .int .i64 0, .int .i64 0]) 6 80 Tryz.underlying93 wi wz0 wz1 wz2 rfl (by decide) _ _ _ rfl HOA.out ⟨W8.heap.size, 0, none⟩ 1 1 [.bool t', .slice C1' l1' f1', .slice C2' l2' f2', .bool fc', .int .i64 hn1', .int .i64 hd1'] rfl rfl ?p1b ?p2b ?p3b ?p4b ?p5b ?_)
        try case p1b => exact news_six _ _ (by simp)
        try case p2b => exact ones_six
        try case p3b => first | (simp only [maxLen]; omega) | omega
        try case p4b => omega
        try case p5b => first | (simp only [World.size_alloc]; omega) | omega
        intro v' w3 hown' hg' _ he
        have HN3 := Lib.hid (HN.out w3 v' _ _ hown' hg')
        clear hown' hg' he HN HOA d0 d1 d2 d3 d4 d5
        go_wp2
        go_roundw
        case rel => exact HN3.out
        case measure => simp [intOf]; omega
    · obtain rfl : i = n := by omega
      obtain ⟨A5, c5, rfl, _⟩ := HO.out.form
      have hDm : 2 + i * (D + 1) = 2 + i * (m + m' + 6) := by rw [HD.out]
      have hMM := HMM.out
      have HSU := Lib.hid (sum_any wr (HO.out.base (Nat.zero_le _)) (show 2 ≤ D by have := HD.out; omega) (by rw [hDm]; omega) hn)
      rw [hDm] at HSU
      have HRES : Hid (disR i f g = sumR i (fun j => absR (f j - g j)) * qf 1 2) := Lib.hid (by rw [qf_half]; rfl)
      have hMs : 2 + i * (m + m' + 6) + 2 ≤ 300000 := by omega
      have hMe : 2 + i * (m + m' + 6) + 2 = 4 + i * (m + m' + 6) := by omega
      clear HO hDm
      generalize sumR i (fun j => absR (f j - g j)) = S at *
      generalize i * (m + m' + 6) = E at *
      go_wp2_with fail
      refine HSU.out.mono ?_
      rintro e w2 ⟨v, rfl, hv, hb2⟩
      have HB2 := Lib.hid (Base.Below.nextA HB.out hb2)
      have KR2 := Lib.hid (KRr.out.belowS hb2)
      have HH := Lib.hid (half_any w2 hv (by omega) (by omega))
      have HV2 := Lib.hid hv
      clear hb2 hv HSU KRr HB
      go_wp2_with fail
      refine HH.out.mono ?_
      rintro e w3 ⟨v3, rfl, hv3, hb3⟩
      have HB3 := Lib.hid (Base.Below.nextA HB2.out hb3)
      have KR3 := Lib.hid (KR2.out.belowS hb3)
      have HL := Lib.hid (lowest_any w3 hv3 (by omega))
      clear hb3 hv3 HH KR2 HB2
      go_wp2_with fail
      refine HL.out.mono ?_
      rintro e w4 ⟨v4, rfl, hv4, hb4⟩
      obtain ⟨s, A1, k1, c1', A2, k2, c2', fine, fn, fd, nn, dd, rfl, hpz⟩ := hv4.wide
      have KRq := KR3.out.belowS hb4
      have HBq := Base.Below.nextA HB3.out hb4
      have HP2 : Hid (Parts w4 (disR i f g) (4 + E) s (.slice A1 k1 c1') (.slice A2 k2 c2') fine fn fd nn dd) := Lib.hid (by rw [HRES.out]; exact hpz.more (by omega))
      clear hv4 hb4 hpz HL KR3 HB3 HRES hMe
      have z0 := (KRq).frz 0
      have z1 := (KRq).frz 1
      have z2 := (KRq).frz 2
      have z3 := (KRq).frz 3
      have z4 := (KRq).frz 4
      have z5 := (KRq).frz 5
      have c0 := (KRq).at 0 (v := .bool false) rfl
      have c1 := (KRq).at 1 (v := .slice none 0 0) rfl
      have c2 := (KRq).at 2 (v := .slice none 0 0) rfl
      have c3 := (KRq).at 3 (v := .bool false) rfl
      have c4 := (KRq).at 4 (v := .int .i64 0) rfl
      have c5 := (KRq).at 5 (v := .int .i64 0) rfl
      have SS := put6_blk (KRq) (.bool s) (.slice A1 k1 c1') (.slice A2 k2 c2') (.bool fine) (.int .i64 fn) (.int .i64 fd)
      unfold put6 at SS
      have s0 := SS.at 0 rfl
      have s1 := SS.at 1 rfl
      have s2 := SS.at 2 rfl
      have s3 := SS.at 3 rfl
      have s4 := SS.at 4 rfl
      have s5 := SS.at 5 rfl
      have HFIN := Lib.hid (WRet.put (HP2.out) (KRq) (HBq) (Nat.le_refl _))
      clear SS
      go_wp2
      refine bodyPost_ret (v := .agg #[.bool s, .slice A1 k1 c1', .slice A2 k2 c2', .bool fine, .int .i64 fn, .int .i64 fd]) (by simp [results, Tryz.results116, go_sem, s0, s1, s2, s3, s4, s5]) rfl ?_
      exact HFIN.out
end Go.Proofs.YtionognmgcabbaaGreat.Wide
/- Lists of wide fractions that lie in a list of lists, each appended to. -/
namespace Go.Proofs.YtionognmgcabbaaGreat.Wide
open Go.RowKit Go.Proofs.YtionognmgcabbaaGreat Go.Proofs.YtionognmgcabbaaGreat.Base Go.Proofs.YtionognmgcabbaaGreat.Mem Go.Proofs.YtionognmgcabbaaGreat.RatM Go.Proofs.YtionognmgcabbaaGreat.BigM Go.Proofs.YtionognmgcabbaaGreat.Big Go.Proofs.YtionognmgcabbaaGreat.Fine Go.Proofs.YtionognmgcabbaaGreat.Blk Go.Proofs.YtionognmgcabbaaGreat.GaussM
set_option linter.unusedVariables false
/-- the N cells of block g are slices; the list of slice y has the rationals ls y -/
structure LW (w : World) (g N B m : Nat) (ls : Nat → List Rat) (vs : Nat → Value) : Prop where
  blk : ∃ cs, Blk w g 93 cs ∧ cs.size = N ∧ ∀ y, y < N → cs[y]? = some (vs y)
  els : ∀ y, y < N → ∃ cc, OwnW w B (vs y) (ls y).length (fun i => (ls y).getD i 0) m cc
  apart : ∀ y z, y < N → z < N → y ≠ z → (vs y).ownBlock = none ∨ (vs y).ownBlock ≠ (vs z).ownBlock
theorem LW.below {w w' : World} {g N B m : Nat} {ls : Nat → List Rat} {vs : Nat → Value} (h : LW w g N B m ls vs) (hb : Below w.heap.size w w') : LW w' g N B m ls vs := by
  obtain ⟨cs, K, hz, hc⟩ := h.blk
  exact ⟨⟨cs, K.belowS hb, hz, hc⟩, fun y hy => by
    obtain ⟨cc, ho⟩ := h.els y hy
    exact ⟨cc, ho.below hb⟩, h.apart⟩
theorem LW.lt {w : World} {g N B m : Nat} {ls : Nat → List Rat} {vs : Nat → Value} (h : LW w g N B m ls vs) : g < w.heap.size := by
  obtain ⟨cs, K, _⟩ := h.blk
  exact K.lt
theorem LW.cell {w : World} {g N B m : Nat} {ls : Nat → List Rat} {vs : Nat → Value} (h : LW w g N B m ls vs) {y : Nat} (hy : y < N) : w.cell? ⟨g, y, none⟩ = some (vs y) := by
  obtain ⟨cs, K, hz, hc⟩ := h.blk
  exact K.at y (hc y hy)
theorem LW.frz {w : World} {g N B m : Nat} {ls : Nat → List Rat} {vs : Nat → Value} (h : LW w g N B m ls vs) (y : Nat) : w.frozen? ⟨g, y, none⟩ = false := by
  obtain ⟨cs, K, _⟩ := h.blk
  exact K.frz y
/-- a row of wides is as it was behind the growth of another row of wides -/
theorem OwnW.kept {w w' : World} {B B' n n' m : Nat} {v v' : Value} {f : Nat → Rat} {cs cs' : List Value} (h : OwnW w B v n f m cs) (h' : w.ownsRow B' 81 6 v' n' cs') (hne : v.ownBlock = none ∨ v.ownBlock ≠ v'.ownBlock) (hg : w.grownBy w' v'.ownBlock) : OwnW w' B v n f m cs :=
  ⟨h.row.kept hg hne, fun i hi => by
    obtain ⟨s, A1, k1, c1, A2, k2, c2, fine, fn, fd, n, d, e, hp⟩ := h.els i hi
    exact ⟨s, A1, k1, c1, A2, k2, c2, fine, fn, fd, n, d, e, hp.kept h' (by decide) hg⟩⟩
/-- a row of wides is as it was behind a store into a block of another type -/
theorem OwnW.store {w : World} {B n m b i : Nat} {v u : Value} {f : Nat → Rat} {cs : List Value} {t : TypeId} {ca : Array Value} (h : OwnW w B v n f m cs) (K : Blk w b t ca) (ht : t ≠ 2) (ht2 : t ≠ 81) : OwnW (w.setCell ⟨b, i, none⟩ u) B v n f m cs := by
  refine ⟨?_, fun i hi => ?_⟩
  · refine World.ownsRow.kept h.row (Src.grown_setCell w ⟨b, i, none⟩ u) ?_
    cases hb : v.ownBlock with
    | none => exact .inl rfl
    | some g =>
      refine .inr fun e => ?_
      have e : g = b := Option.some.inj e
      subst e
      obtain ⟨cur, h1, _⟩ := ownsRow_block h.row hb
      unfold Blk at K
      rw [K] at h1
      injection h1 with h1
      injection h1 with _ h3
      exact ht2 h3
  · obtain ⟨s, A1, k1, c1, A2, k2, c2, fine, fn, fd, n, d, e, hp⟩ := h.els i hi
    exact ⟨s, A1, k1, c1, A2, k2, c2, fine, fn, fd, n, d, e, hp.store K ht⟩
/-- an element is pushed to list k -/
theorem LW.push {wr w1 w2 : World} {g N B m k : Nat} {ls : Nat → List Rat} {vs : Nat → Value} {v' : Value} {q : Rat} {s fine : Bool} {A1 A2 : Option Addr} {k1 c1 k2 c2 nn dd : Nat} {fn fd : Int} {ca : Array Value} {t : TypeId} (h : LW wr g N B m ls vs) (hk : k < N) (h1 : Below wr.heap.size wr w1)
    (hp : Parts w1 q m s (.slice A1 k1 c1) (.slice A2 k2 c2) fine fn fd nn dd) {cc : List Value} (hc : OwnW wr B (vs k) (ls k).length (fun i => (ls k).getD i 0) m cc) (hown : w2.ownsRow B 81 6 v' ((ls k).length + 1) (cc ++ six s (.slice A1 k1 c1) (.slice A2 k2 c2) fine fn fd)) (hg : (w1.alloc (.cells ca t)).grownBy w2 (vs k).ownBlock) (he : v'.ownBlock = (vs k).ownBlock ∨ v'.ownBlock = some (w1.alloc (.cells ca t)).heap.size) :
    LW (w2.setCell ⟨g, k, none⟩ v') g N B m (fun y => if y = k then ls k ++ [q] else ls y) (fun y => if y = k then v' else vs y) := by
  obtain ⟨cs, K, hz, hcs⟩ := h.blk
  have hb2 : Below wr.heap.size wr (w1.alloc (.cells ca t)) := h1.alloc h1.size _
  have K1 := K.belowS hb2
  have hck := (hc.below h1).below ((Below.refl w1.heap.size w1).alloc (Nat.le_refl _) (.cells ca t))
  have hgne : (vs k).ownBlock ≠ some g := fun e => by
    obtain ⟨cur, e1, _⟩ := ownsRow_block hck.row e
    unfold Blk at K1
    rw [K1] at e1
    injection e1 with e1
    injection e1 with _ e3
    exact absurd e3 (by decide)
  have K2 : Blk w2 g 93 cs := K1.kept hg hgne
  have hpush := OwnW.push (f := fun i => (ls k ++ [q]).getD i 0) (n := (ls k).length) (hc.congr (fun i hi => by simp only [List.getD_eq_getElem?_getD]; rw [List.getElem?_append_left hi])) h1 (by
    have : (ls k ++ [q]).getD (ls k).length 0 = q := by simp [List.getD_eq_getElem?_getD]
    show Parts w1 ((ls k ++ [q]).getD (ls k).length 0) m _ _ _ _ _ _ _ _
    rw [this]; exact hp) hown hg
  refine ⟨⟨_, K2.set k v', by simp [hz], fun y hy => ?_⟩, fun y hy => ?_, fun y z hy hzz hne => ?_⟩
  · by_cases e : y = k
    · subst e; rw [Array.getElem?_setIfInBounds_self_of_lt (by omega), if_pos rfl]
    · rw [Array.getElem?_setIfInBounds_ne (fun h => e h.symm), if_neg e]; exact hcs y hy
  · by_cases e : y = k
    · subst e
      refine ⟨cc ++ six s (.slice A1 k1 c1) (.slice A2 k2 c2) fine fn fd, ?_⟩
      simp only [if_true]
      rw [List.length_append, List.length_singleton]
      exact hpush.store K2 (by decide) (by decide)
    · obtain ⟨cy, hy'⟩ := h.els y hy
      refine ⟨cy, ?_⟩
      simp only [e, if_false]
      exact (OwnW.kept (hy'.below hb2) hck.row (h.apart y k hy hk e) hg).store K2 (by decide) (by decide)
  · have hsz : ∀ y, y < N → (vs y).ownBlock ≠ some (w1.alloc (.cells ca t)).heap.size := fun y hy e => by
      obtain ⟨cy, hy'⟩ := h.els y hy
      obtain ⟨_, _, _, hlt⟩ := ownsRow_block hy'.row e
      have := hb2.size
      omega
    by_cases e : y = k
    · have ez : z ≠ k := fun h => hne (e.trans h.symm)
      simp only [e, ez, if_true, if_false]
      subst e
      rcases he with he | he
      · rw [he]; exact h.apart _ z hy hzz (fun h => ez h.symm)
      · rw [he]; exact .inr fun h => hsz z hzz h.symm
    · by_cases ez : z = k
      · simp only [e, ez, if_true, if_false]
        subst ez
        rcases he with he | he
        · rw [he]; exact h.apart y _ hy hzz e
        · rw [he]; exact .inr fun h => hsz y hy h
      · simp only [e, ez, if_false]; exact h.apart y z hy hzz hne
/-- the list as it is made -/
theorem LW.made (w : World) (N B m : Nat) : LW (w.alloc (.cells (madeCells (Value.slice none 0 0).cells (N * 1)) 93)) w.heap.size N B m (fun _ => []) (fun _ => .slice none 0 0) := by
  refine ⟨⟨_, Blk.new w _ _, ?_, fun y hy => ?_⟩, fun y hy => ⟨[], OwnW.nil _ _ _ _⟩, fun y z _ _ _ => .inl rfl⟩
  · simp [madeCells]
  · simp [madeCells, hy]
    show (#[Value.slice none 0 0])[y % 1]! = Value.slice none 0 0
    rw [Nat.mod_one]
    rfl
end Go.Proofs.YtionognmgcabbaaGreat.Wide
/- The reference: what rows make of a source. -/
namespace Go.Proofs.YtionognmgcabbaaGreat.Wide
open Go.RowKit Go.Proofs.YtionognmgcabbaaGreat Go.Proofs.YtionognmgcabbaaGreat.Base Go.Proofs.YtionognmgcabbaaGreat.Mem Go.Proofs.YtionognmgcabbaaGreat.RatM Go.Proofs.YtionognmgcabbaaGreat.BigM Go.Proofs.YtionognmgcabbaaGreat.Big Go.Proofs.YtionognmgcabbaaGreat.Fine Go.Proofs.YtionognmgcabbaaGreat.Blk Go.Proofs.YtionognmgcabbaaGreat.GaussM Go.Proofs.YtionognmgcabbaaGreat.MemF Go.Proofs.YtionognmgcabbaaGreat.ChM Go.Proofs.YtionognmgcabbaaGreat.ExtM Go.Proofs.YtionognmgcabbaaGreat.RowN
set_option linter.unusedVariables false
theorem infoWs : (Tryz.prog.info? 93).map (fun i => (i.zero, i.size, i.bytes)) = some (some (.slice none 0 0), 1, 24) := by kernel_rfl
theorem run_makeWs (n : Nat) (hn : n ≤ 1048576) (w : World) : (Instr.makeSlice 117 (.int .i64 (n : Int)) (.int .i64 (n : Int))).run Tryz.prog w = .ok (.slice (some ⟨w.heap.size, 0, none⟩) n n) (w.alloc (.cells (madeCells (Value.slice none 0 0).cells (n * 1)) 93)) := by
  obtain ⟨i, hi, hzz⟩ := Option.map_eq_some_iff.1 infoWs
  simp only [Prod.mk.injEq] at hzz
  obtain ⟨hz, hs, hb⟩ := hzz
  have hr := run_make (P := Tryz.prog) w 117 93 i _ Tryz.underlying117 hi hz .i64 .i64 n n (by omega) (Int.le_refl _) (by rw [hb]; omega) (by omega)
  simp only [Int.toNat_natCast, hs] at hr
  exact hr
def LsRel (xs fs : List Int) (n N g : Nat) (w : World) (xv : Value) (wr : World) : Prop :=
  ∃ (i : Nat) (vs : Nat → Value), xv = .int .i64 (i : Int) ∧ i ≤ n ∧ Hid (LW wr g N w.heap.size 2 (fun y => sel xs fs y i) vs) ∧ Hid (Below w.heap.size w wr)
theorem sel_step {xs fs : List Int} {i k : Nat} (hk : rowK xs i xs.length = k) : (fun y => if y = k then sel xs fs k i ++ [fq fs i] else sel xs fs y i) = fun y => sel xs fs y (i + 1) := by
  funext y
  by_cases e : y = k
  · subst e; rw [if_pos rfl, sel_hit hk]
  · rw [if_neg e, sel_miss (fun h => e (h.symm.trans hk))]
/-- the sums of the lists -/
def XtRel (xs fs : List Int) (n N : Nat) (w : World) (ov jv : Value) (wr : World) : Prop :=
  ∃ (j : Nat) (cs : List Value), jv = .int .i64 (j : Int) ∧ j ≤ N ∧ Hid (OwnW wr w.heap.size ov j (exQ xs fs n) 50 cs) ∧ Hid (Below w.heap.size w wr)
theorem XtRel.next {xs fs : List Int} {n N j : Nat} {w wr w1 w2 : World} {v v' : Value} {cs : List Value} {s fine : Bool} {A1 A2 : Option Addr} {k1 c1 k2 c2 nn dd : Nat} {fn fd : Int} {ca : Array Value} {t : TypeId} (hj : j < N) (h : OwnW wr w.heap.size v j (exQ xs fs n) 50 cs) (hb : Below w.heap.size w wr) (h1 : Below wr.heap.size wr w1)
    (hp : Parts w1 (exQ xs fs n j) 50 s (.slice A1 k1 c1) (.slice A2 k2 c2) fine fn fd nn dd) (hown : w2.ownsRow w.heap.size 81 6 v' (j + 1) (cs ++ six s (.slice A1 k1 c1) (.slice A2 k2 c2) fine fn fd)) (hg : (w1.alloc (.cells ca t)).grownBy w2 v.ownBlock) : XtRel xs fs n N w v' (.int .i64 ((j : Int) + 1)) w2 := by
  have hb1 : Below wr.heap.size wr (w1.alloc (.cells ca t)) := h1.alloc h1.size _
  refine ⟨j + 1, _, by simp, hj, Lib.hid (h.push h1 hp hown hg), Lib.hid ?_⟩
  exact (hb.trans (hb1.mono hb.size)).trans (grown_below hg (fun g e => (ownsRow_block h.row e).choose_spec.2.1) (Nat.le_trans hb.size hb1.size))
/-- what is behind the append -/
theorem LW.after {wr w1 w2 : World} {g N B m k : Nat} {ls : Nat → List Rat} {vs : Nat → Value} {ca : Array Value} {t : TypeId} (h : LW wr g N B m ls vs) (hk : k < N) (h1 : Below wr.heap.size wr w1) (hg : (w1.alloc (.cells ca t)).grownBy w2 (vs k).ownBlock) : w2.cell? ⟨g, k, none⟩ = some (vs k) ∧ w2.frozen? ⟨g, k, none⟩ = false := by
  obtain ⟨cs, K, hz, hcs⟩ := h.blk
  have hb2 : Below wr.heap.size wr (w1.alloc (.cells ca t)) := h1.alloc h1.size _
  have K1 := K.belowS hb2
  obtain ⟨cc, hc⟩ := h.els k hk
  have hck := (hc.below h1).below ((Below.refl w1.heap.size w1).alloc (Nat.le_refl _) (.cells ca t))
  have hgne : (vs k).ownBlock ≠ some g := fun e => by
    obtain ⟨cur, e1, _⟩ := ownsRow_block hck.row e
    unfold Blk at K1
    rw [K1] at e1
    injection e1 with e1
    injection e1 with _ e3
    exact absurd e3 (by decide)
  have K2 : Blk w2 g 93 cs := K1.kept hg hgne
  exact ⟨K2.at k (hcs k hk), K2.frz k⟩
theorem LsRel.next {xs fs : List Int} {n N g i k : Nat} {w wr w1 w2 : World} {vs : Nat → Value} {s fine : Bool} {A1 A2 : Option Addr} {k1 c1 k2 c2 nn dd gg cap : Nat} {fn fd : Int} {ca : Array Value} {t : TypeId} {cc : List Value} (hi : i < n) (hg : w.heap.size ≤ g) (hb : Below w.heap.size w wr) (h : LW wr g N w.heap.size 2 (fun y => sel xs fs y i) vs) (hk : k < N) (hr : rowK xs i xs.length = k) (h1 : Below wr.heap.size wr w1)
    (hp : Parts w1 (fq fs i) 2 s (.slice A1 k1 c1) (.slice A2 k2 c2) fine fn fd nn dd) (hc : OwnW wr w.heap.size (vs k) (sel xs fs k i).length (fun j => (sel xs fs k i).getD j 0) 2 cc)
    (hown : w2.ownsRow w.heap.size 81 6 (.slice (some ⟨gg, 0, none⟩) ((sel xs fs k i).length + 1) cap) ((sel xs fs k i).length + 1) (cc ++ six s (.slice A1 k1 c1) (.slice A2 k2 c2) fine fn fd)) (hg2 : (w1.alloc (.cells ca t)).grownBy w2 (vs k).ownBlock) (he : (vs k).ownBlock = some gg ∨ gg = (w1.alloc (.cells ca t)).heap.size) :
    LsRel xs fs n N g w (.int .i64 ((i : Int) + 1)) (w2.setCell ⟨g, k, none⟩ (.slice (some ⟨gg, 0, none⟩) ((sel xs fs k i).length + 1) cap)) := by
  have hb1 : Below wr.heap.size wr (w1.alloc (.cells ca t)) := h1.alloc h1.size _
  have hpu := LW.push h hk h1 hp hc hown hg2 (he.imp (fun e => e.symm) (fun e => by rw [← e]; rfl))
  refine ⟨i + 1, _, by simp, hi, Lib.hid (by rw [← sel_step hr]; exact hpu), Lib.hid ?_⟩
  exact ((hb.trans (hb1.mono hb.size)).trans (grown_below hg2 (fun g e => (ownsRow_block hc.row e).choose_spec.2.1) (Nat.le_trans hb.size hb1.size))).setCell (p := ⟨g, k, none⟩) hg _
set_option maxHeartbeats 2000000 in
set_option maxRecDepth 100000 in
theorem extS_any {A A' : Option Addr} {c c' B B' n : Nat} {fs xs : List Int} (w : World) (hx : RdF w B A n fs) (hB : B ≤ w.heap.size) (hv : AllVF fs n) (hn : n ≤ 16) (hy : RdI w B' A' xs) (hB' : B' ≤ w.heap.size) (h1 : 1 ≤ xs.length) (h3 : xs.length ≤ 3) (hr : ∀ i, i < xs.length → 0 ≤ xs.getD i 0 ∧ xs.getD i 0 ≤ 15) :
    Calls Tryz.prog 122 #[.slice A' xs.length c', .slice A n c] w (WsRet (2 ^ xs.length) (exQ xs fs n) 50 w) := by
  have hN : 2 ^ xs.length ≤ 8 := Nat.pow_le_pow_right (n := 2) (by decide) h3
  have hN1 : 1 ≤ 2 ^ xs.length := Nat.pow_pos (by decide)
  have HK := Lib.hid (fun x => rowK_lt xs x xs.length h3)
  have hp : (2 : Int) ^ xs.length = ((2 ^ xs.length : Nat) : Int) := by simp
  have HX := Lib.hid (hx.more hB)
  have HY := Lib.hid (hy.more hB')
  have HV := Lib.hid hv
  have HR := Lib.hid hr
  clear hx hv hy hr
  generalize 2 ^ xs.length = N at *
  have hws : IntKind.i64.wrap ((2 : Int) ^ xs.length) = (N : Int) := by rw [hp, IntKind.wrap_i64]; omega
  have hw64 : wrap64 ((2 : Int) ^ xs.length) = (N : Int) := by rw [← hws, hp]; unfold wrap64; rw [IntKind.wrap_i64]
  have hmk := fun w => run_makeWs N (by omega) w
  obtain ⟨g, hg⟩ : ∃ g, g = w.heap.size := ⟨_, rfl⟩
  obtain ⟨iw, wi, wz0, wz1, wz2⟩ := info_parts infoW
  have H0 : Hid (LsRel xs fs n N g w (.int .i64 0) (w.alloc (.cells (madeCells #[.slice none 0 0] (N * 1)) 93))) := Lib.hid ⟨0, _, rfl, Nat.zero_le _, Lib.hid (by rw [hg]; exact LW.made w N w.heap.size 2), Lib.hid ((Below.refl _ _).alloc (Nat.le_refl _) _)⟩
  have HG := Lib.hid hg
  clear hp hg
  go_enter Tryz.func122, Tryz.ntmps122
  go_wp2
  rw [← HG.out]
  clear hmk hws hw64
  have hN1' : N * 1 = N := Nat.mul_one N
  rw [hN1'] at H0
  clear hN1'
  go_loopw [6] (fun xv wr => LsRel xs fs n N g w xv wr) (fun xv _ => n - (intOf xv).toNat)
  case atStart => exact H0.out
  case round =>
    obtain ⟨i, vs, rfl, hi, HL, HB⟩ := hrel
    clear H0
    by_cases hlt : i < n
    · go_wp2
      go_loopw [7, 8] (fun yv jv w2 => ∃ j : Nat, jv = .int .i64 (j : Int) ∧ j ≤ xs.length ∧ yv = .int .i64 ((rowK xs i j : Nat) : Int) ∧ w2 = wr) (fun _ jv _ => xs.length - (intOf jv).toNat)
      case atStart => exact ⟨0, rfl, Nat.zero_le _, rfl, rfl⟩
      case round =>
        obtain ⟨j, rfl, hj, rfl, rfl⟩ := hrel
        by_cases hjl : j < xs.length
        · obtain ⟨b, off, rfl, _, hc⟩ := (HY.out.below HB.out (Nat.le_refl _)) (by omega)
          have g1 := hc j hjl
          obtain ⟨r1, r2⟩ := HR.out j hjl
          have HK1 : Hid (rowK xs i (j + 1) = rowK xs i j ||| (PopM.par ((xs.getD j 0).toNat &&& i) <<< j)) := Lib.hid rfl
          have hk := rowK_lt xs i j (by omega)
          have hp8 : 2 ^ j ≤ 2 ^ 3 := Nat.pow_le_pow_right (by decide) (by omega)
          clear hc
          obtain ⟨k', hk'⟩ : ∃ k', k' = rowK xs i (j + 1) := ⟨_, rfl⟩
          rw [← hk'] at HK1
          have HK2 := Lib.hid hk'
          clear hk'
          generalize rowK xs i j = k at *
          generalize xs.getD j 0 = y at *
          obtain ⟨Y, rfl⟩ : ∃ Y : Nat, y = (Y : Int) := ⟨y.toNat, by omega⟩
          rw [Int.toNat_natCast, Nat.and_comm] at HK1
          have hpl := PopM.par_lt (i &&& Y)
          have hor := or_fin ⟨k, by omega⟩ ⟨PopM.par (i &&& Y), hpl⟩ ⟨j, by omega⟩
          replace hor : bits .or .i64 (k : Int) (wrap64 ((PopM.par (i &&& Y) : Int) * (2 : Int) ^ j)) = ((k ||| (PopM.par (i &&& Y) <<< j) : Nat) : Int) := hor
          rw [← HK1.out] at hor
          have HPA := Lib.hid (fun W => parS_any i Y (by omega) (by omega) W)
          go_wp2_with fail
          refine (HPA.out _).mono ?_
          rintro e w1 ⟨rfl, rfl⟩
          go_wp2
          go_roundw
          case rel => exact ⟨j + 1, by simp, hjl, by rw [← HK2.out], by first | trivial | rfl⟩
          case measure => simp [intOf]; omega
        · obtain rfl : j = xs.length := by omega
          obtain ⟨k, hk⟩ : ∃ k, k = rowK xs i xs.length := ⟨_, rfl⟩
          have hkN : k < N := by rw [hk]; exact HK.out i
          rw [← hk]
          have HKE := Lib.hid hk
          clear hk
          obtain ⟨b, off, rfl, hbl, g1, g2⟩ := (HX.out.below HB.out (Nat.le_refl _)).at hlt
          obtain ⟨cc, hcc⟩ := HL.out.els k hkN
          obtain ⟨A3, c3, hv3, _⟩ := hcc.form
          have hcell := HL.out.cell hkN
          rw [hv3] at hcell
          have HW := Lib.hid (fun W => wideOf_any (HV.out i hlt) W)
          have hfq : qf (fs.getD (2 * i) 0) (fs.getD (2 * i + 1) 0) = fq fs i := rfl
          rw [hfq] at HW
          have hsz := HB.out.size
          have hgw := HL.out.lt
          have hll := sel_len xs fs k i
          have HNX := Lib.hid (fun (w1 w2 : World) s fine A1 A2 k1 c1 k2 c2 nn dd gg cap fn fd ca t h1 hp hown hg2 he => LsRel.next (w1 := w1) (w2 := w2) (s := s) (fine := fine) (A1 := A1) (A2 := A2) (k1 := k1) (c1 := c1) (k2 := k2) (c2 := c2) (nn := nn) (dd := dd) (gg := gg) (cap := cap) (fn := fn) (fd := fd) (ca := ca) (t := t) hlt (Nat.le_of_eq HG.out.symm) HB.out HL.out hkN HKE.out.symm h1 hp hcc hown hg2 he)
          have HAF := Lib.hid (fun (w1 w2 : World) ca t h1 hg2 => LW.after (w1 := w1) (w2 := w2) (ca := ca) (t := t) HL.out hkN h1 hg2)
          have HOW := Lib.hid (fun (w1 : World) (h1 : Below wr.heap.size wr w1) => hv3 ▸ ownsRow_below hcc.row h1)
          rw [hv3] at HNX HAF
          clear hfq hcc hv3 HL HB hi
          generalize fs.getD (2 * i) 0 = x0 at *
          generalize fs.getD (2 * i + 1) 0 = x1 at *
          generalize fq fs i = q at *
          generalize hLL : (sel xs fs k i).length = L at *
          have HLL := Lib.hid hLL
          clear hLL
          have HSM := Lib.hid hll
          have hi16 : L ≤ 16 := by omega
          go_wp2
          go_region_law (first
            | (go_simp; go_at_call 67; refine (HW.out _).mono ?_; rintro e w2 ⟨v, rfl, hv, hb2⟩; obtain ⟨s, A1, k1, c1, A2, k2, c2, fine, fn, fd, nn, dd, rfl, hp⟩ := hv; have hb3 : Below wr.heap.size wr w2 := (by first | exact hb2 | exact Base.Below.nextA ((Below.refl wr.heap.size wr).drew) hb2); have hcell2 := (hb3.cell (p := ⟨g, k, none⟩) hgw).trans hcell; have HNN := Lib.hid (fun w3 gg cap ca t hown hg2 he => HNX.out w2 w3 s fine A1 A2 k1 c1 k2 c2 nn dd gg cap fn fd ca t hb3 hp hown hg2 he); have HAA := Lib.hid (fun w3 ca t hg2 => HAF.out w2 w3 ca t hb3 hg2); have HOO := Lib.hid (World.ownsRow.alloc (HOW.out w2 hb3) (.cells #[.bool s, .slice A1 k1 c1, .slice A2 k2 c2, .bool fine, .int .i64 fn, .int .i64 fd] 81)); have hs2 := hb3.size; have hgw2 : g < w2.heap.size := Nat.lt_of_lt_of_le hgw hs2; clear hb2 hb3 hp)
            | (refine step_append_lies _ (by rfl) _ _ _ (by rfl) w.heap.size 81 iw _ 6 80 Tryz.underlying93 wi wz0 wz1 wz2 rfl (by omega) (.slice A3 L c3) L _ (by rfl) HOO.out ⟨w2.heap.size, 0, none⟩ 1 1 [.bool s, .slice A1 k1 c1, .slice A2 k2 c2, .bool fine, .int .i64 fn, .int .i64 fd] (by rfl) (by rfl) (World.news_of_block (cs := #[.bool s, .slice A1 k1 c1, .slice A2 k2 c2, .bool fine, .int .i64 fn, .int .i64 fd]) (t := 81) (fr := (0, 0)) (heap_alloc_new w2 _)) ones_six (by omega) (by simp only [maxLen]; omega) (by omega) (by first | omega | (simp only [World.size_alloc]; omega)) (w2.heap.size + 1) (by simp) ?_; intro gg cap w3 hown' hg' hat hlt2; have HN3 := Lib.hid (HNN.out w3 gg cap _ _ hown' hg' (by rw [World.size_alloc]; exact hat)); have yy := HAA.out w3 _ _ hg'; have y1 := yy.1; have y2 := yy.2; clear hown' hg' hat yy hcell hcell2))
          all_goals
            go_wp2
            go_roundw
            case rel => exact HN3.out
            case measure => simp [intOf]; omega
    · obtain rfl : i = n := by omega
      obtain ⟨w1, rfl⟩ : ∃ x, x = wr := ⟨_, rfl⟩
      have H1 : Hid (XtRel xs fs i N w1 (.slice (some ⟨w1.heap.size, 0, none⟩) 0 0) (.int .i64 0) (w1.alloc (.cells #[] 81))) := Lib.hid ⟨0, [], rfl, Nat.zero_le _, Lib.hid (OwnW.lit0 w1 _ _), Lib.hid ((Below.refl _ _).alloc (Nat.le_refl _) _)⟩
      clear HX HY HR HK
      go_wp2
      go_loopw [9, 10] (fun ov jv w2 => XtRel xs fs i N w1 ov jv w2) (fun _ jv _ => N - (intOf jv).toNat)
      case atStart => exact H1.out
      case round =>
        obtain ⟨j, cs, rfl, hj, HO, HB2⟩ := hrel
        clear H1
        by_cases hlt : j < N
        · have HLw := HL.out.below HB2.out
          have hcell := HLw.cell hlt
          obtain ⟨cc, hcc⟩ := HLw.els j hlt
          obtain ⟨A3, c3, hv3, _⟩ := hcc.form
          rw [hv3] at hcell hcc
          have hll := sel_len xs fs j i
          have HS : Hid (Calls Tryz.prog 66 #[.slice A3 (sel xs fs j i).length c3] wr (WRet (exQ xs fs i j) 50 wr)) := Lib.hid (by
            have hm3 : 2 + (sel xs fs j i).length * (2 + 1) ≤ 50 := by omega
            refine (sum_any wr (hcc.base (Nat.zero_le _)) (Nat.le_refl 2) (by omega) (by omega)).mono fun e w' h => ?_
            obtain ⟨v, e1, h1, h2⟩ := h
            have hsum := sel_sum xs fs j i
            unfold lsum at hsum
            rw [hsum] at h1
            exact ⟨v, e1, h1.more hm3, h2⟩)
          have hsz := HB2.out.size
          clear HLw hcc hv3
          generalize (sel xs fs j i).length = L at *
          go_wp2_with fail
          refine HS.out.mono ?_
          rintro e w2 ⟨v, rfl, hv, hb1⟩
          obtain ⟨s, A1, k1, c1, A2, k2, c2, fine, fn, fd, nn, dd, rfl, hp⟩ := hv
          have hsz1 := hb1.size
          have HN := Lib.hid (fun w3 v' ca t hown hg => XtRel.next (w2 := w3) (v' := v') (ca := ca) (t := t) hlt HO.out HB2.out hb1 hp hown hg)
          have HOA := Lib.hid (World.ownsRow.alloc (ownsRow_below HO.out.row hb1) (.cells #[.bool s, .slice A1 k1 c1, .slice A2 k2 c2, .bool fine, .int .i64 fn, .int .i64 fd] 81))
          clear hp hb1 HO HB2 HS
          go_wp2_with (at_builtin; refine wpList_append_own_at _ rfl (.tmp 60) (.tmp 66) 93 rfl w1.heap.size 81 iw (.agg #[.bool false, .slice none 0 0, .slice none 0 0, .bool false, .int .i64 0, .int .i64 0]) 6 80 Tryz.underlying93 wi wz0 wz1 wz2 rfl (by decide) _ _ _ rfl HOA.out ⟨w2.heap.size, 0, none⟩ 1 1 [.bool s, .slice A1 k1 c1, .slice A2 k2 c2, .bool fine, .int .i64 fn, .int .i64 fd] rfl rfl ?p1a ?p2a ?p3a ?p4a ?p5a ?_)
          try case p1a => exact news_six _ _ (by simp)
          try case p2a => exact ones_six
          try case p3a => first | (simp only [maxLen]; omega) | omega
          try case p4a => omega
          try case p5a => first | (simp only [World.size_alloc]; omega) | omega
          intro v' w3 hown' hg' _ he
          have HN3 := Lib.hid (HN.out w3 v' _ _ hown' hg')
          clear hown' hg' he HN HOA
          go_wp2
          go_roundw
          case rel => exact HN3.out
          case measure => simp [intOf]; omega
        · obtain rfl : j = N := by omega
          obtain ⟨A9, c9, rfl, _⟩ := HO.out.form
          have HF : Hid (WsRet j (exQ xs fs i) 50 w (.returned (.slice A9 j c9)) wr) := Lib.hid ⟨_, cs, rfl, HO.out.base HB.out.size, HB.out.trans (HB2.out.mono HB.out.size)⟩
          clear HO HB2 HL HB
          go_wp2
          go_ret
          exact HF.out
end Go.Proofs.YtionognmgcabbaaGreat.Wide
/- The reference: how far what rows make of a source is from equal chances. -/
namespace Go.Proofs.YtionognmgcabbaaGreat.Wide
open Go.RowKit Go.Proofs.YtionognmgcabbaaGreat Go.Proofs.YtionognmgcabbaaGreat.Base Go.Proofs.YtionognmgcabbaaGreat.Mem Go.Proofs.YtionognmgcabbaaGreat.RatM Go.Proofs.YtionognmgcabbaaGreat.BigM Go.Proofs.YtionognmgcabbaaGreat.Big Go.Proofs.YtionognmgcabbaaGreat.Fine Go.Proofs.YtionognmgcabbaaGreat.Blk Go.Proofs.YtionognmgcabbaaGreat.GaussM Go.Proofs.YtionognmgcabbaaGreat.MemF Go.Proofs.YtionognmgcabbaaGreat.ChM Go.Proofs.YtionognmgcabbaaGreat.ExtM
open Go.Proofs.YtionognmgcabbaaGreat.Ratio (absR disR farQ vf_even)
set_option linter.unusedVariables false
theorem lowV_even {N : Nat} (h : 1 ≤ N) : lowV 1 N = .agg #[.int .i64 1, .int .i64 (N : Int)] := by
  unfold lowV
  rw [show (1 : Int).natAbs = 1 from rfl, Nat.gcd_one_left, Nat.div_one]
  rfl
def EvRel (N : Nat) (w : World) (ov jv : Value) (wr : World) : Prop :=
  ∃ (j : Nat) (cs : List Value), jv = .int .i64 (j : Int) ∧ j ≤ N ∧ Hid (OwnW wr w.heap.size ov j (fun _ => qf 1 (N : Int)) 2 cs) ∧ Hid (Below w.heap.size w wr)
theorem EvRel.next {N j : Nat} {w wr w1 w2 : World} {v v' : Value} {cs : List Value} {s fine : Bool} {A1 A2 : Option Addr} {k1 c1 k2 c2 nn dd : Nat} {fn fd : Int} {ca : Array Value} {t : TypeId} (hj : j < N) (h : OwnW wr w.heap.size v j (fun _ => qf 1 (N : Int)) 2 cs) (hb : Below w.heap.size w wr) (h1 : Below wr.heap.size wr w1)
    (hp : Parts w1 (qf 1 (N : Int)) 2 s (.slice A1 k1 c1) (.slice A2 k2 c2) fine fn fd nn dd) (hown : w2.ownsRow w.heap.size 81 6 v' (j + 1) (cs ++ six s (.slice A1 k1 c1) (.slice A2 k2 c2) fine fn fd)) (hg : (w1.alloc (.cells ca t)).grownBy w2 v.ownBlock) : EvRel N w v' (.int .i64 ((j : Int) + 1)) w2 := by
  have hb1 : Below wr.heap.size wr (w1.alloc (.cells ca t)) := h1.alloc h1.size _
  refine ⟨j + 1, _, by simp, hj, Lib.hid (h.push h1 hp hown hg), Lib.hid ?_⟩
  exact (hb.trans (hb1.mono hb.size)).trans (grown_below hg (fun g e => (ownsRow_block h.row e).choose_spec.2.1) (Nat.le_trans hb.size hb1.size))
set_option maxHeartbeats 2000000 in
set_option maxRecDepth 100000 in
theorem evenS_any {N : Nat} (h1 : 1 ≤ N) (h2 : N ≤ 1000) (w : World) : Calls Tryz.prog 123 #[.int .i64 (N : Int)] w (WsRet N (fun _ => qf 1 (N : Int)) 2 w) := by
  obtain ⟨iw, wi, wz0, wz1, wz2⟩ := info_parts infoW
  have HM : Hid (∀ W, Calls Tryz.prog 68 #[.int .i64 1, .int .i64 (N : Int)] W fun e w' => e = .returned (.agg #[.int .i64 1, .int .i64 (N : Int)]) ∧ Below W.heap.size W w') := Lib.hid fun W => by
    have := fMakeG 1 N (by decide) (by decide) h1 (by omega) W
    rwa [lowV_even h1] at this
  have HW := Lib.hid (fun W => wideOf_any (vf_even h1 h2) W)
  have H0 : Hid (EvRel N w (.slice (some ⟨w.heap.size, 0, none⟩) 0 0) (.int .i64 0) (w.alloc (.cells #[] 81))) := Lib.hid ⟨0, [], rfl, Nat.zero_le _, Lib.hid (OwnW.lit0 w _ _), Lib.hid ((Below.refl _ _).alloc (Nat.le_refl _) _)⟩
  go_enter Tryz.func123, Tryz.ntmps123
  go_wp2
  go_loopw [3, 4] (fun ov jv wr => EvRel N w ov jv wr) (fun _ jv _ => N - (intOf jv).toNat)
  case atStart => exact H0.out
  case round =>
    obtain ⟨j, cs, rfl, hj, HO, HB⟩ := hrel
    clear H0
    by_cases hlt : j < N
    · have hsz := HB.out.size
      go_wp2_with fail
      refine (HM.out _).mono ?_
      rintro e w1 ⟨rfl, hb1⟩
      have HB1 := Lib.hid hb1
      clear hb1
      go_wp2_with fail
      refine (HW.out _).mono ?_
      rintro e w2 ⟨v, rfl, hv, hb2⟩
      obtain ⟨s, A1, k1, c1, A2, k2, c2, fine, fn, fd, nn, dd, rfl, hp⟩ := hv
      have hb3 := Base.Below.nextA HB1.out hb2
      have hsz1 := hb3.size
      have HN := Lib.hid (fun w3 v' ca t hown hg => EvRel.next (w2 := w3) (v' := v') (ca := ca) (t := t) hlt HO.out HB.out hb3 hp hown hg)
      have HOA := Lib.hid (World.ownsRow.alloc (ownsRow_below HO.out.row hb3) (.cells #[.bool s, .slice A1 k1 c1, .slice A2 k2 c2, .bool fine, .int .i64 fn, .int .i64 fd] 81))
      clear hp hb2 hb3 HO HB HB1
      go_wp2_with (at_builtin; refine wpList_append_own_at _ rfl (.tmp 11) (.tmp 15) 93 rfl w.heap.size 81 iw (.agg #[.bool false, .slice none 0 0, .slice none 0 0, .bool false, .int .i64 0, .int .i64 0]) 6 80 Tryz.underlying93 wi wz0 wz1 wz2 rfl (by decide) _ _ _ rfl HOA.out ⟨w2.heap.size, 0, none⟩ 1 1 [.bool s, .slice A1 k1 c1, .slice A2 k2 c2, .bool fine, .int .i64 fn, .int .i64 fd] rfl rfl ?p1a ?p2a ?p3a ?p4a ?p5a ?_)
      try case p1a => exact news_six _ _ (by simp)
      try case p2a => exact ones_six
      try case p3a => first | (simp only [maxLen]; omega) | omega
      try case p4a => omega
      try case p5a => first | (simp only [World.size_alloc]; omega) | omega
      intro v' w3 hown' hg' _ he
      have HN3 := Lib.hid (HN.out w3 v' _ _ hown' hg')
      clear hown' hg' he HN HOA
      go_wp2
      go_roundw
      case rel => exact HN3.out
      case measure => simp [intOf]; omega
    · obtain rfl : j = N := by omega
      obtain ⟨A9, c9, rfl, _⟩ := HO.out.form
      have HF : Hid (WsRet j (fun _ => qf 1 (j : Int)) 2 w (.returned (.slice A9 j c9)) wr) := Lib.hid ⟨_, cs, rfl, HO.out, HB.out⟩
      clear HO HB
      go_wp2
      go_ret
      exact HF.out
set_option maxHeartbeats 2000000 in
set_option maxRecDepth 100000 in
theorem farS_any {A A' : Option Addr} {c c' B B' n : Nat} {fs xs : List Int} (w : World) (hx : RdF w B A n fs) (hB : B ≤ w.heap.size) (hv : AllVF fs n) (hn : n ≤ 16) (hy : RdI w B' A' xs) (hB' : B' ≤ w.heap.size) (h1 : 1 ≤ xs.length) (h3 : xs.length ≤ 3) (hr : ∀ i, i < xs.length → 0 ≤ xs.getD i 0 ∧ xs.getD i 0 ≤ 15) :
    Calls Tryz.prog 58 #[.slice A' xs.length c', .slice A n c] w (WRet (farQ xs fs n) 468 w) := by
  have hN : 2 ^ xs.length ≤ 8 := pow_len h3
  have hN1 : 1 ≤ 2 ^ xs.length := Nat.pow_pos (by decide)
  have hb0 : Below w.heap.size w (w.alloc (.cells #[.bool false, .slice none 0 0, .slice none 0 0, .bool false, .int .i64 0, .int .i64 0] 81)) := (Below.refl _ _).alloc (Nat.le_refl _) _
  have KR0 : Hid (Blk (w.alloc (.cells #[.bool false, .slice none 0 0, .slice none 0 0, .bool false, .int .i64 0, .int .i64 0] 81)) w.heap.size 81 #[.bool false, .slice none 0 0, .slice none 0 0, .bool false, .int .i64 0, .int .i64 0]) := Lib.hid (Blk.new w _ _)
  have HE := Lib.hid (extS_any (c := c) (c' := c') _ (hx.below hb0 hB) (Nat.le_trans hB hb0.size) hv hn (hy.below hb0 hB') (Nat.le_trans hB' hb0.size) h1 h3 hr)
  have HQ : Hid (farQ xs fs n = disR (2 ^ xs.length) (exQ xs fs n) (fun _ => qf 1 ((2 ^ xs.length : Nat) : Int))) := Lib.hid rfl
  have HB0 := Lib.hid hb0
  clear hx hv hy hr hb0
  generalize exQ xs fs n = f at *
  generalize 2 ^ xs.length = N at *
  have HEV := Lib.hid (fun W => evenS_any (N := N) hN1 (by omega) W)
  go_enter Tryz.func58, Tryz.ntmps58
  go_wp2_with fail
  refine HE.out.mono ?_
  rintro e w1 ⟨v, cs, rfl, ho, hb1⟩
  obtain ⟨A1, c1, rfl, _⟩ := ho.form
  have HB1 := Lib.hid (Base.Below.nextA HB0.out hb1)
  have KR1 := Lib.hid (KR0.out.belowS hb1)
  have HO1 := Lib.hid ho
  clear ho hb1 KR0 HB0 HE
  go_wp2_with fail
  refine (HEV.out _).mono ?_
  rintro e w2 ⟨v, cs2, rfl, ho, hb2⟩
  obtain ⟨A2, c2, rfl, _⟩ := ho.form
  have HB2 := Lib.hid (Base.Below.nextA HB1.out hb2)
  have KR2 := Lib.hid (KR1.out.belowS hb2)
  have hN58 : 4 + N * (50 + 2 + 6) ≤ 468 := by omega
  have HD := Lib.hid (disS_any w2 ((HO1.out.below hb2).base (Nat.zero_le _)) (ho.base (Nat.zero_le _)) (by decide) (by decide) (by omega) (by omega) (by decide))
  rw [← HQ.out] at HD
  clear ho hb2 HO1 KR1 HB1 HEV
  go_wp2_with fail
  refine HD.out.mono ?_
  rintro e w3 ⟨v, rfl, hv, hb3⟩
  obtain ⟨s, A1, k1, c1', A2, k2, c2', fine, fn, fd, nn, dd, rfl, hpz⟩ := hv
  have KRq := KR2.out.belowS hb3
  have HBq := Base.Below.nextA HB2.out hb3
  have HP2 := Lib.hid (hpz.more hN58)
  clear hb3 hpz HD KR2 HB2 HQ
  have z0 := (KRq).frz 0
  have z1 := (KRq).frz 1
  have z2 := (KRq).frz 2
  have z3 := (KRq).frz 3
  have z4 := (KRq).frz 4
  have z5 := (KRq).frz 5
  have c0 := (KRq).at 0 (v := .bool false) rfl
  have c1 := (KRq).at 1 (v := .slice none 0 0) rfl
  have c2 := (KRq).at 2 (v := .slice none 0 0) rfl
  have c3 := (KRq).at 3 (v := .bool false) rfl
  have c4 := (KRq).at 4 (v := .int .i64 0) rfl
  have c5 := (KRq).at 5 (v := .int .i64 0) rfl
  have SS := put6_blk (KRq) (.bool s) (.slice A1 k1 c1') (.slice A2 k2 c2') (.bool fine) (.int .i64 fn) (.int .i64 fd)
  unfold put6 at SS
  have s0 := SS.at 0 rfl
  have s1 := SS.at 1 rfl
  have s2 := SS.at 2 rfl
  have s3 := SS.at 3 rfl
  have s4 := SS.at 4 rfl
  have s5 := SS.at 5 rfl
  have HFIN := Lib.hid (WRet.put (HP2.out) (KRq) (HBq) (Nat.le_refl _))
  clear SS
  go_wp2
  refine bodyPost_ret (v := .agg #[.bool s, .slice A1 k1 c1', .slice A2 k2 c2', .bool fine, .int .i64 fn, .int .i64 fd]) (by simp [results, Tryz.results58, go_sem, s0, s1, s2, s3, s4, s5]) rfl ?_
  exact HFIN.out
end Go.Proofs.YtionognmgcabbaaGreat.Wide
/- The reference: a list of fractions of any size is given, if all are small. -/
namespace Go.Proofs.YtionognmgcabbaaGreat.Wide
open Go.RowKit Go.Proofs.YtionognmgcabbaaGreat Go.Proofs.YtionognmgcabbaaGreat.Base Go.Proofs.YtionognmgcabbaaGreat.Mem Go.Proofs.YtionognmgcabbaaGreat.RatM Go.Proofs.YtionognmgcabbaaGreat.BigM Go.Proofs.YtionognmgcabbaaGreat.Big Go.Proofs.YtionognmgcabbaaGreat.Fine Go.Proofs.YtionognmgcabbaaGreat.Blk Go.Proofs.YtionognmgcabbaaGreat.MemF Go.Proofs.YtionognmgcabbaaGreat.GiveM
set_option linter.unusedVariables false
set_option maxHeartbeats 2000000 in
set_option maxRecDepth 100000 in
theorem giveS_any {v : Value} {n m : Nat} {f : Nat → Rat} {cs : List Value} (w : World) (hx : OwnW w 0 v n f m cs) (hm : m ≤ 400000) (hn : n ≤ 1000) : Calls Tryz.prog 79 #[v] w (FsRet (gN f n) (gR f n) (smallAll f n) w) := by
  obtain ⟨A, c, rfl, _⟩ := hx.form
  have HX := Lib.hid hx
  obtain ⟨i2, ki, kz0, kz1, kz2⟩ := info_parts infoFr
  have H0 := Lib.hid (GRel.start f n w)
  clear hx
  go_enter Tryz.func79, Tryz.ntmps79
  go_wp2
  go_loopw [5, 4] (fun iv sv wr => GRel f n w iv sv wr) (fun iv _ _ => n - (intOf iv).toNat)
  case atStart => exact H0.out
  case round =>
    obtain ⟨i, rfl, hi, HO, HA, HB⟩ := hrel
    clear H0
    by_cases hlt : i < n
    · obtain ⟨g, s', B1, j1, e1, B2, j2, e2, fb, gn, gd, n', d', rfl, hgl, y0, y1, y2, y3, y4, y5, hp'⟩ := (HX.out.below HB.out).at hlt
      have HE : IsW wr (f i) m (.agg #[.bool s', .slice B1 j1 e1, .slice B2 j2 e2, .bool fb, .int .i64 gn, .int .i64 gd]) := ⟨_, _, _, _, _, _, _, _, _, _, _, _, rfl, hp'⟩
      have HG := Lib.hid (give_any wr HE hm)
      have HF : Hid (∀ w1 w2 v' cs t, smallQ (f i) = true → Below wr.heap.size wr w1 → _ → _ → _) := Lib.hid (fun w1 w2 v' cs t hv h1 hown hg => GRel.next (w1 := w1) (w2 := w2) (v' := v') (cs := cs) (t := t) hlt HO.out HA.out hv HB.out h1 hown hg)
      have HNO := Lib.hid (fun h => GiveM.small_no hlt (show smallQ (f i) = false from h))
      clear HE hp' hgl
      generalize f i = q at *
      unfold FRet at HG
      generalize numQ q = P at *
      generalize denQ q = Q at *
      go_wp2_with fail
      refine HG.out.mono ?_
      rintro e w1 ⟨rfl, hb1⟩
      have HB1 := Lib.hid hb1
      clear hb1 y0 y1 y2 y3 y4 y5 HG
      go_upto_region 6 with (fail)
      obtain ⟨W2, hW2⟩ : ∃ W2, W2 = w1.alloc (.cells #[.int .i64 P, .int .i64 Q] 43) := ⟨_, rfl⟩
      rw [← hW2]
      have K2 : Hid (Blk W2 w1.heap.size 43 #[.int .i64 P, .int .i64 Q]) := Lib.hid (by rw [hW2]; exact Blk.new w1 _ _)
      have HB2 : Hid (Below wr.heap.size wr W2) := Lib.hid (by rw [hW2]; exact HB1.out.alloc HB1.out.size _)
      have hsz := HB.out.size
      have hsz2 := HB2.out.size
      cases hs : smallQ q with
      | false =>
        have HN := Lib.hid (HNO.out hs)
        have HBB := Lib.hid (Base.Below.nextA HB.out HB2.out)
        clear hW2 hs HNO HF
        go_wp2
        go_ret2
        rw [HN.out.1, HN.out.2.1, HN.out.2.2]
        exact FsRet.no HBB.out
      | true =>
        have HNN := Lib.hid (fun w3 v' cs t hown hg => HF.out W2 w3 v' cs t hs HB2.out hown hg)
        have HW2 := Lib.hid (World.ownsRow.alloc (ownsRow_below HO.out HB2.out) (.cells #[.int .i64 P, .int .i64 Q] 43))
        have x0 := K2.out.at 0 (v := .int .i64 P) rfl
        have x1 := K2.out.at 1 (v := .int .i64 Q) rfl
        clear hW2 hs HNO HF HO HA HB HB1 HB2
        go_wp2_with (at_builtin; refine wpList_append_own_at _ rfl (.tmp 25) (.tmp 27) 28 rfl w.heap.size 43 i2 (.agg #[.int .i64 0, .int .i64 0]) 2 16 Tryz.underlying28 ki kz0 kz1 kz2 rfl (by decide) _ _ _ rfl HW2.out ⟨W2.heap.size, 0, none⟩ 1 1 [.int .i64 P, .int .i64 Q] rfl rfl ?p1a ?p2a ?p3a ?p4a ?p5a ?_)
        try case p1a => exact MemF.news_two _ _ (by simp)
        try case p2a => exact MemF.ones_two
        try case p3a => first | (simp only [maxLen]; omega) | omega
        try case p4a => omega
        try case p5a => first | (simp only [World.size_alloc]; omega) | omega
        intro v' w3 hown' hg' _ he
        have HN3 := Lib.hid (HNN.out w3 v' _ _ hown' hg')
        clear hown' hg' he HNN HW2
        go_wp2
        go_roundw
        case rel => exact HN3.out
        case measure => simp [intOf]; omega
    · obtain rfl : i = n := by omega
      obtain ⟨A', cp, rfl, _⟩ := HO.out.form
      have HY := Lib.hid (GiveM.small_yes' HA.out)
      clear HA
      go_wp2
      go_ret2
      rw [HY.out.1, HY.out.2.1, HY.out.2.2]
      exact ⟨A', cp, rfl, HO.out, HB.out⟩
end Go.Proofs.YtionognmgcabbaaGreat.Wide
