/- The reference's fractions of any size: sums of lists. -/
import Derived.Test.YtionognmgcabbaaMgIsR15
import Derived.Test.YtionognmgcabbaaMgIsR18
import Derived.Test.YtionognmgcabbaaMgIsR16
import Derived.Test.YtionognmgcabbaaMgIsR05
import Derived.Test.YtionognmgcabbaaMgIsR07
import Derived.Test.YtionognmgcabbaaMgIsR19
import Derived.Test.YtionognmgcabbaaMgIsR06
import Derived.Test.YtionognmgcabbaaMgIsR20
import Derived.Test.YtionognmgcabbaaMgIsR11
namespace Go.Proofs.Ytionognmgcabbaa.Wide
open Go.RowKit Go.Proofs.Ytionognmgcabbaa Go.Proofs.Ytionognmgcabbaa.Base Go.Proofs.Ytionognmgcabbaa.Mem Go.Proofs.Ytionognmgcabbaa.RatM Go.Proofs.Ytionognmgcabbaa.BigM Go.Proofs.Ytionognmgcabbaa.Big Go.Proofs.Ytionognmgcabbaa.Fine Go.Proofs.Ytionognmgcabbaa.Blk Go.Proofs.Ytionognmgcabbaa.GaussM Go.Proofs.Ytionognmgcabbaa.MemF Go.Proofs.Ytionognmgcabbaa.ChM
set_option linter.unusedVariables false
theorem isL_mono (q : Rat) (m : Nat) : Rel.Mono (fun v w => IsL w q m v) := fun v w w' h hb => h.below hb
def WidesRel (fs : List Int) (n : Nat) (w : World) (iv ov : Value) (wr : World) : Prop :=
  ∃ (i : Nat) (cs : List Value), iv = .int .i64 (i : Int) ∧ i ≤ n ∧ Hid (OwnW wr w.heap.size ov i (fq fs) 2 cs) ∧ Hid (Below w.heap.size w wr)
theorem WidesRel.next {fs : List Int} {n i : Nat} {w wr w1 w2 : World} {v v' : Value} {cs : List Value} {s fine : Bool} {A1 A2 : Option Addr} {k1 c1 k2 c2 nn dd : Nat} {fn fd : Int} {ca : Array Value} {t : TypeId} (hi : i < n) (h : OwnW wr w.heap.size v i (fq fs) 2 cs) (hb : Below w.heap.size w wr) (h1 : Below wr.heap.size wr w1)
    (hp : Parts w1 (fq fs i) 2 s (.slice A1 k1 c1) (.slice A2 k2 c2) fine fn fd nn dd) (hown : w2.ownsRow w.heap.size 65 6 v' (i + 1) (cs ++ six s (.slice A1 k1 c1) (.slice A2 k2 c2) fine fn fd)) (hg : (w1.alloc (.cells ca t)).grownBy w2 v.ownBlock) : WidesRel fs n w (.int .i64 ((i : Int) + 1)) v' w2 := by
  have hb1 : Below wr.heap.size wr (w1.alloc (.cells ca t)) := h1.alloc h1.size _
  refine ⟨i + 1, _, by simp, hi, Lib.hid (h.push h1 hp hown hg), Lib.hid ?_⟩
  exact (hb.trans (hb1.mono hb.size)).trans (grown_below hg (fun g e => (ownsRow_block h.row e).choose_spec.2.1) (Nat.le_trans hb.size hb1.size))
set_option maxHeartbeats 2000000 in
set_option maxRecDepth 100000 in
theorem wides_any {A : Option Addr} {c B n : Nat} {fs : List Int} (w : World) (hx : RdF w B A n fs) (hB : B ≤ w.heap.size) (hv : AllVF fs n) (hn : n ≤ 1000) : Calls Try.prog 61 #[.slice A n c] w (WsRet n (fq fs) 2 w) := by
  obtain ⟨iw, wi, wz0, wz1, wz2⟩ := info_parts infoW
  have HX := Lib.hid (hx.more hB)
  have HV := Lib.hid hv
  have H0 : Hid (WidesRel fs n w (.int .i64 0) (.slice (some ⟨w.heap.size, 0, none⟩) 0 0) (w.alloc (.cells #[] 65))) := Lib.hid ⟨0, [], rfl, Nat.zero_le _, Lib.hid (OwnW.lit0 w _ _), Lib.hid ((Below.refl _ _).alloc (Nat.le_refl _) _)⟩
  clear hx hv
  go_enter Try.func61, Try.ntmps61
  go_wp2
  go_loopw [4, 3] (fun iv ov wr => WidesRel fs n w iv ov wr) (fun iv _ _ => n - (intOf iv).toNat)
  case atStart => exact H0.out
  case round =>
    obtain ⟨i, cs, rfl, hi, HO, HB⟩ := hrel
    clear H0
    by_cases hlt : i < n
    · obtain ⟨b, off, rfl, hbl, g1, g2⟩ := (HX.out.below HB.out (Nat.le_refl _)).at hlt
      have HW := Lib.hid (fun W => wideOf_any (HV.out i hlt) W)
      have hfq : qf (fs.getD (2 * i) 0) (fs.getD (2 * i + 1) 0) = fq fs i := rfl
      rw [hfq] at HW
      have HFQ := Lib.hid hfq
      clear hfq
      generalize fs.getD (2 * i) 0 = x0 at *
      generalize fs.getD (2 * i + 1) 0 = x1 at *
      have hsz := HB.out.size
      go_wp2_with fail
      refine (HW.out _).mono ?_
      rintro e w1 ⟨v, rfl, hv, hb1⟩
      obtain ⟨s, A1, k1, c1, A2, k2, c2, fine, fn, fd, nn, dd, rfl, hp⟩ := hv
      have hsz1 := hb1.size
      have HN := Lib.hid (fun w2 v' ca t hown hg => WidesRel.next (w2 := w2) (v' := v') (ca := ca) (t := t) hlt HO.out HB.out hb1 hp hown hg)
      have HOA := Lib.hid (World.ownsRow.alloc (ownsRow_below HO.out.row hb1) (.cells #[.bool s, .slice A1 k1 c1, .slice A2 k2 c2, .bool fine, .int .i64 fn, .int .i64 fd] 65))
      clear hp hb1 HO HB g1 g2 HW
      go_wp2_with (at_builtin; refine wpList_append_own_at _ rfl (.tmp 12) (.tmp 18) 61 rfl w.heap.size 65 iw (.agg #[.bool false, .slice none 0 0, .slice none 0 0, .bool false, .int .i64 0, .int .i64 0]) 6 80 Try.underlying61 wi wz0 wz1 wz2 rfl (by decide) _ _ _ rfl HOA.out ⟨w1.heap.size, 0, none⟩ 1 1 [.bool s, .slice A1 k1 c1, .slice A2 k2 c2, .bool fine, .int .i64 fn, .int .i64 fd] rfl rfl ?p1a ?p2a ?p3a ?p4a ?p5a ?_)
      try case p1a => exact news_six _ _ (by simp)
      try case p2a => exact ones_six
      try case p3a => first | (simp only [maxLen]; omega) | omega
      try case p4a => omega
      try case p5a => first | (simp only [World.size_alloc]; omega) | omega
      intro v' w2 hown' hg' _ he
      have HN3 := Lib.hid (HN.out w2 v' _ _ hown' hg')
      clear hown' hg' he HN HOA
      go_wp2
      go_roundw
      case rel => exact HN3.out
      case measure => simp [intOf]; omega
    · obtain rfl : i = n := by omega
      obtain ⟨A', c', rfl, _⟩ := HO.out.form
      have HR : Hid (WsRet i (fq fs) 2 w (.returned (.slice A' i c')) wr) := Lib.hid ⟨_, cs, rfl, HO.out, HB.out⟩
      clear HO HB
      go_wp2
      go_ret
      exact HR.out
def SumRel (f : Nat → Rat) (n m g : Nat) (w : World) (iv : Value) (wr : World) : Prop :=
  ∃ (i : Nat) (s : Bool) (A1 : Option Addr) (k1 c1 : Nat) (A2 : Option Addr) (k2 c2 : Nat) (fa : Bool) (fn fd : Int) (nn dd : Nat), iv = .int .i64 (i : Int) ∧ i ≤ n ∧ Hid (Blk wr g 65 #[.bool s, .slice A1 k1 c1, .slice A2 k2 c2, .bool fa, .int .i64 fn, .int .i64 fd]) ∧ Hid (Parts wr (sumR i f) (2 + i * (m + 1)) s (.slice A1 k1 c1) (.slice A2 k2 c2) fa fn fd nn dd) ∧
    Hid (Blk wr w.heap.size 65 #[.bool false, .slice none 0 0, .slice none 0 0, .bool false, .int .i64 0, .int .i64 0]) ∧ Hid (Below w.heap.size w wr)
theorem size_le {i n m : Nat} (h : i < n) (hM : 2 + n * (m + 1) ≤ 400000) : 2 + i * (m + 1) + m + 1 ≤ 400000 ∧ 2 + (i + 1) * (m + 1) = 2 + i * (m + 1) + m + 1 := by
  have h1 : (i + 1) * (m + 1) ≤ n * (m + 1) := Nat.mul_le_mul_right _ h
  rw [Nat.add_mul, Nat.one_mul] at *
  omega
set_option maxHeartbeats 4000000 in
set_option maxRecDepth 100000 in
theorem sum_any {v : Value} {n m : Nat} {f : Nat → Rat} {cs : List Value} (w : World) (hx : OwnW w 0 v n f m cs) (hm2 : 2 ≤ m) (hM : 2 + n * (m + 1) ≤ 400000) (hn : n ≤ 1000) : Calls Try.prog 60 #[v] w (WRet (sumR n f) (2 + n * (m + 1)) w) := by
  obtain ⟨A, c, rfl, _⟩ := hx.form
  have HX := Lib.hid hx
  have HM0 := Lib.hid hM
  have HWZ := Lib.hid (fun W => wideOf_any vf_zero W)
  rw [qf_zero] at HWZ
  clear hx hM
  go_enter Try.func60, Try.ntmps60
  go_wp2_with fail
  refine (zero_any _).mono ?_
  rintro e w1 ⟨rfl, hb1⟩
  have KR1 := Lib.hid ((Blk.new w 65 #[.bool false, .slice none 0 0, .slice none 0 0, .bool false, .int .i64 0, .int .i64 0]).belowS hb1)
  have HB1 := Lib.hid (Base.Below.boxed hb1)
  clear hb1
  go_wp2_with fail
  refine (HWZ.out _).mono ?_
  rintro e w2 ⟨v, rfl, hv, hb2⟩
  obtain ⟨s, A1, k1, c1, A2, k2, c2, fa, fn, fd, nn, dd, rfl, hp⟩ := hv
  have KR2 := Lib.hid (KR1.out.belowS hb2)
  have HB2 := Lib.hid (Base.Below.nextA HB1.out hb2)
  have HP2 := Lib.hid hp
  clear hp hb2 KR1 HB1 HWZ
  go_upto_region 2 with (fail)
  obtain ⟨W3, hW3⟩ : ∃ W3, W3 = w2.alloc (.cells #[.bool s, .slice A1 k1 c1, .slice A2 k2 c2, .bool fa, .int .i64 fn, .int .i64 fd] 65) := ⟨_, rfl⟩
  rw [← hW3]
  obtain ⟨g3, hg3⟩ : ∃ g3, g3 = w2.heap.size := ⟨_, rfl⟩
  rw [← hg3]
  have hlt3 : w.heap.size < g3 := by rw [hg3]; exact KR2.out.lt
  have H0 : Hid (SumRel f n m g3 w (.int .i64 0) W3) := Lib.hid (by
    have hb3 : Below w2.heap.size w2 W3 := by rw [hW3]; exact (Below.refl _ _).alloc (Nat.le_refl _) _
    have hz := HP2.out
    refine ⟨0, s, A1, k1, c1, A2, k2, c2, fa, fn, fd, nn, dd, rfl, Nat.zero_le _, Lib.hid (by rw [hW3, hg3]; exact Blk.new w2 _ _), Lib.hid ?_, Lib.hid (KR2.out.belowS hb3), Lib.hid (Base.Below.nextA HB2.out hb3)⟩
    rw [Nat.zero_mul]; exact hz.below hb3)
  clear hW3 hg3 KR2 HB2 HP2
  go_wp2
  go_loopw [4] (fun iv wr => SumRel f n m g3 w iv wr) (fun iv _ => n - (intOf iv).toNat)
  case atStart => exact H0.out
  case round =>
    obtain ⟨i, s, A1, k1, c1, A2, k2, c2, fa, fn, fd, nn, dd, rfl, hi, K3, HP, KR, HB⟩ := hrel
    clear H0
    by_cases hlt : i < n
    · obtain ⟨hM1, hM2⟩ := size_le hlt HM0.out
      have HM := Lib.hid hM1
      have HMM := Lib.hid hM2
      clear hM1 hM2
      obtain ⟨g, s', B1, j1, e1, B2, j2, e2, fb, gn, gd, n', d', rfl, hgl, y0, y1, y2, y3, y4, y5, hp'⟩ := (HX.out.below HB.out).at hlt
      have HY : Hid (∀ W, Below wr.heap.size wr W → W.cell? ⟨g, i * 6, none⟩ = some (.bool s') ∧ W.cell? ⟨g, i * 6 + 1, none⟩ = some (.slice B1 j1 e1) ∧ W.cell? ⟨g, i * 6 + 2, none⟩ = some (.slice B2 j2 e2) ∧ W.cell? ⟨g, i * 6 + 3, none⟩ = some (.bool fb) ∧ W.cell? ⟨g, i * 6 + 4, none⟩ = some (.int .i64 gn) ∧ W.cell? ⟨g, i * 6 + 5, none⟩ = some (.int .i64 gd)) := Lib.hid fun W hb =>
        ⟨(hb.cell hgl).trans y0, (hb.cell hgl).trans y1, (hb.cell hgl).trans y2, (hb.cell hgl).trans y3, (hb.cell hgl).trans y4, (hb.cell hgl).trans y5⟩
      have HE : Hid (IsW wr (f i) m (.agg #[.bool s', .slice B1 j1 e1, .slice B2 j2 e2, .bool fb, .int .i64 gn, .int .i64 gd])) := Lib.hid ⟨_, _, _, _, _, _, _, _, _, _, _, _, rfl, hp'⟩
      have HS : Hid (IsW wr (sumR i f) (2 + i * (m + 1)) (.agg #[.bool s, .slice A1 k1 c1, .slice A2 k2 c2, .bool fa, .int .i64 fn, .int .i64 fd])) := Lib.hid ⟨_, _, _, _, _, _, _, _, _, _, _, _, rfl, HP.out⟩
      clear y0 y1 y2 y3 y4 y5 hp' HP
      go_wp2
      refine Rel.wp_region_rel 7 (by kernel_rfl) (by kernel_rfl) (fun F hF => ?_)
      simp only [List.take_succ_cons, List.take_zero, List.drop_succ_cons, List.drop_zero, Rel.putL] at hF ⊢
      have HF := Lib.hid hF
      clear hF
      have uv := @Rel.upon_value Try.prog
      have ue := @Rel.upon_enter Try.prog
      apply Rel.rel_pure
      apply Exists.intro
      refine ⟨fun vs wq hq hdp R hR => ?_, ?_⟩
      · (rw [HF.out, Rel.stepAt_eq]; clear hdp; have x0 := (K3.out.belowS hq).at 0 (v := .bool s) rfl; have x1 := (K3.out.belowS hq).at 1 (v := .slice A1 k1 c1) rfl; have x2 := (K3.out.belowS hq).at 2 (v := .slice A2 k2 c2) rfl; have x3 := (K3.out.belowS hq).at 3 (v := .bool fa) rfl; have x4 := (K3.out.belowS hq).at 4 (v := .int .i64 fn) rfl; have x5 := (K3.out.belowS hq).at 5 (v := .int .i64 fd) rfl; go_simp; exact hR)
      apply Rel.rel_pure
      apply Exists.intro
      refine ⟨fun vs wq hq hdp R hR => ?_, ?_⟩
      · (rw [HF.out, Rel.stepAt_eq]; clear hdp; skip; go_simp; exact hR)
      apply Rel.rel_pure
      apply Exists.intro
      refine ⟨fun vs wq hq hdp R hR => ?_, ?_⟩
      · (rw [HF.out, Rel.stepAt_eq]; clear hdp; skip; go_simp; exact hR)
      apply Rel.rel_pure
      apply Exists.intro
      refine ⟨fun vs wq hq hdp R hR => ?_, ?_⟩
      · (rw [HF.out, Rel.stepAt_eq]; have qd1 : vs 1 = _ := Rel.dep hdp 1 (by kernel_rfl); have qd2 : vs 2 = _ := Rel.dep hdp 2 (by kernel_rfl); clear hdp; skip; go_simp; exact hR)
      apply Rel.rel_pure
      apply Exists.intro
      refine ⟨fun vs wq hq hdp R hR => ?_, ?_⟩
      · (rw [HF.out, Rel.stepAt_eq]; have qd3 : vs 3 = _ := Rel.dep hdp 3 (by kernel_rfl); clear hdp; obtain ⟨y0, y1, y2, y3, y4, y5⟩ := HY.out wq hq; go_simp; exact hR)
      refine Rel.rel_law (S := fun v w' => IsW w' (sumR i f + f i) (2 + i * (m + 1) + m + 1) v) (isW_mono _ _) (fun vs wq hq hdp => ?_) ?_
      · (rw [HF.out, Rel.stepAt_eq]; have qd0 : vs 0 = _ := Rel.dep hdp 0 (by kernel_rfl); have qd4 : vs 4 = _ := Rel.dep hdp 4 (by kernel_rfl); clear hdp; skip; go_simp; refine (wideAdd_any wq (HS.out.below hq) (HE.out.below hq) (by have := HM.out; omega) (by have := HM.out; omega) (by omega) hm2).mono ?_; rintro e w7 ⟨v, rfl, hv, hb⟩; exact ⟨_, rfl, hv, hb⟩)
      refine Rel.rel_law (S := fun v w' => IsL w' (sumR i f + f i) (2 + i * (m + 1) + m + 1) v) (isL_mono _ _) (fun vs wq hq hdp => ?_) ?_
      · (rw [HF.out, Rel.stepAt_eq]; have qd5 : IsW wq _ _ (vs 5) := Rel.dep hdp 5 (by kernel_rfl); clear hdp; skip; go_simp; refine (lowest_any wq qd5 (by have := HM.out; omega)).mono ?_; rintro e w7 ⟨v, rfl, hv, hb⟩; exact ⟨_, rfl, hv, hb⟩)
      refine Rel.rel_end (fun vs wq hq hall => ?_)
      rw [HF.out]
      have qe0 : vs 0 = _ := Rel.fin hall 0 (by decide)
      have qe1 : vs 1 = _ := Rel.fin hall 1 (by decide)
      have qe2 : vs 2 = _ := Rel.fin hall 2 (by decide)
      have qe3 : vs 3 = _ := Rel.fin hall 3 (by decide)
      have qe4 : vs 4 = _ := Rel.fin hall 4 (by decide)
      have qe5 : IsW wq _ _ (vs 5) := Rel.fin hall 5 (by decide)
      have qe6 : IsL wq _ _ (vs 6) := Rel.fin hall 6 (by decide)
      clear hall HF uv ue
      obtain ⟨t, C1, l1, f1, C2, l2, f2, fc, hn1, hd1, n2, d2, ev, hp2⟩ := qe6.wide
      have K3q := K3.out.belowS hq
      have KRq := KR.out.belowS hq
      have HBq := Base.Below.nextA HB.out hq
      have hP2 := hp2.put6 K3q (by decide) (.bool t) (.slice C1 l1 f1) (.slice C2 l2 f2) (.bool fc) (.int .i64 hn1) (.int .i64 hd1)
      have HN : Hid (SumRel f n m g3 w (.int .i64 ((i : Int) + 1)) (put6 wq g3 (.bool t) (.slice C1 l1 f1) (.slice C2 l2 f2) (.bool fc) (.int .i64 hn1) (.int .i64 hd1))) := Lib.hid
        ⟨i + 1, t, C1, l1, f1, C2, l2, f2, fc, hn1, hd1, n2, d2, by simp, hlt, Lib.hid (put6_blk K3q _ _ _ _ _ _), Lib.hid (by rw [HMM.out]; exact hP2), Lib.hid (put6_other KRq (by omega) _ _ _ _ _ _), Lib.hid (put6_below HBq (by omega) _ _ _ _ _ _)⟩
      have z0 := K3q.frz 0
      have z1 := K3q.frz 1
      have z2 := K3q.frz 2
      have z3 := K3q.frz 3
      have z4 := K3q.frz 4
      have z5 := K3q.frz 5
      have c0 := K3q.at 0 (v := .bool s) rfl
      have c1 := K3q.at 1 (v := .slice A1 k1 c1) rfl
      have c2 := K3q.at 2 (v := .slice A2 k2 c2) rfl
      have c3 := K3q.at 3 (v := .bool fa) rfl
      have c4 := K3q.at 4 (v := .int .i64 fn) rfl
      have c5 := K3q.at 5 (v := .int .i64 fd) rfl
      unfold put6 at HN
      clear K3q KRq HBq hP2 hp2 hq K3 KR HB HY HE HS HM HMM
      go_wp2
      go_roundw
      case rel => exact HN.out
      case measure => simp [intOf]; omega
    · obtain rfl : i = n := by omega
      obtain ⟨c1', hc1⟩ : ∃ c1', c1' = c1 := ⟨_, rfl⟩
      obtain ⟨c2', hc2⟩ : ∃ c2', c2' = c2 := ⟨_, rfl⟩
      obtain ⟨fine, hfa⟩ : ∃ fine, fine = fa := ⟨_, rfl⟩
      subst hc1 hc2 hfa
      have x0 := K3.out.at 0 (v := .bool s) rfl; have x1 := K3.out.at 1 (v := .slice A1 k1 c1') rfl; have x2 := K3.out.at 2 (v := .slice A2 k2 c2') rfl; have x3 := K3.out.at 3 (v := .bool fine) rfl; have x4 := K3.out.at 4 (v := .int .i64 fn) rfl; have x5 := K3.out.at 5 (v := .int .i64 fd) rfl
      have z0 := (KR.out).frz 0
      have z1 := (KR.out).frz 1
      have z2 := (KR.out).frz 2
      have z3 := (KR.out).frz 3
      have z4 := (KR.out).frz 4
      have z5 := (KR.out).frz 5
      have c0 := (KR.out).at 0 (v := .bool false) rfl
      have c1 := (KR.out).at 1 (v := .slice none 0 0) rfl
      have c2 := (KR.out).at 2 (v := .slice none 0 0) rfl
      have c3 := (KR.out).at 3 (v := .bool false) rfl
      have c4 := (KR.out).at 4 (v := .int .i64 0) rfl
      have c5 := (KR.out).at 5 (v := .int .i64 0) rfl
      have SS := put6_blk (KR.out) (.bool s) (.slice A1 k1 c1') (.slice A2 k2 c2') (.bool fine) (.int .i64 fn) (.int .i64 fd)
      unfold put6 at SS
      have s0 := SS.at 0 rfl
      have s1 := SS.at 1 rfl
      have s2 := SS.at 2 rfl
      have s3 := SS.at 3 rfl
      have s4 := SS.at 4 rfl
      have s5 := SS.at 5 rfl
      have HFIN := Lib.hid (WRet.put (HP.out) (KR.out) (HB.out) (Nat.le_refl _))
      clear SS
      go_wp2
      refine bodyPost_ret (v := .agg #[.bool s, .slice A1 k1 c1', .slice A2 k2 c2', .bool fine, .int .i64 fn, .int .i64 fd]) (by simp [results, Try.results60, go_sem, s0, s1, s2, s3, s4, s5]) rfl ?_
      exact HFIN.out
end Go.Proofs.Ytionognmgcabbaa.Wide
/- The reference: whether a list are chances; the bits of a source. -/
namespace Go.Proofs.Ytionognmgcabbaa.Wide
open Go.RowKit Go.Proofs.Ytionognmgcabbaa Go.Proofs.Ytionognmgcabbaa.Base Go.Proofs.Ytionognmgcabbaa.Mem Go.Proofs.Ytionognmgcabbaa.RatM Go.Proofs.Ytionognmgcabbaa.BigM Go.Proofs.Ytionognmgcabbaa.Big Go.Proofs.Ytionognmgcabbaa.Fine Go.Proofs.Ytionognmgcabbaa.Blk Go.Proofs.Ytionognmgcabbaa.GaussM Go.Proofs.Ytionognmgcabbaa.MemF Go.Proofs.Ytionognmgcabbaa.ValF Go.Proofs.Ytionognmgcabbaa.ChM
set_option linter.unusedVariables false
set_option maxHeartbeats 1000000 in
theorem fAll_any {A : Option Addr} {c B n : Nat} {fs : List Int} (w : World) (hx : RdF w B A n fs) (hB : B ≤ w.heap.size) (hn : n ≤ 1099511627776) : Calls Try.prog 59 #[.slice A n c] w fun e w' => e = .returned (.bool (vfAll fs n)) ∧ Below w.heap.size w w' := by
  have HX := Lib.hid (hx.more hB)
  clear hx
  go_enter Try.func59, Try.ntmps59
  go_wp2
  go_loopw [3] (fun iv wr => ∃ i : Nat, iv = .int .i64 (i : Int) ∧ i ≤ n ∧ Hid (∀ j, j < i → vfB (fs.getD (2 * j) 0) (fs.getD (2 * j + 1) 0) = true) ∧ Hid (Below w.heap.size w wr)) (fun iv _ => n - (intOf iv).toNat)
  case atStart => exact ⟨0, rfl, Nat.zero_le _, Lib.hid fun j hj => absurd hj (Nat.not_lt_zero j), Lib.hid (Below.refl _ _)⟩
  case round =>
    obtain ⟨i, rfl, hi, hall, HB⟩ := hrel
    by_cases hlt : i < n
    · obtain ⟨b, off, rfl, hbl, g1, g2⟩ := (HX.out.below HB.out (Nat.le_refl _)).at hlt
      have HV := Lib.hid (fun W => validS_any (fs.getD (2 * i) 0) (fs.getD (2 * i + 1) 0) W)
      have HNO := Lib.hid (fun h => (show vfAll fs n = false from all_no hlt h))
      have HYES := Lib.hid (fun (h : vfB (fs.getD (2 * i) 0) (fs.getD (2 * i + 1) 0) = true) j (hj : j < i + 1) => (show vfB (fs.getD (2 * j) 0) (fs.getD (2 * j + 1) 0) = true by
        rcases Nat.lt_or_ge j i with h1 | h1
        · exact hall.out j h1
        · obtain rfl : j = i := by omega
          exact h))
      have hsz := HB.out.size
      generalize fs.getD (2 * i) 0 = x0 at *
      generalize fs.getD (2 * i + 1) 0 = x1 at *
      go_wp2_with fail
      refine (HV.out _).mono ?_
      rintro e w1 ⟨rfl, hb1⟩
      have HB1 := Lib.hid (Base.Below.nextA HB.out hb1)
      cases hv : vfB x0 x1 with
      | false =>
        have HE := Lib.hid (HNO.out hv)
        clear HNO HYES HV hb1 hv HB g1 g2 hall
        go_wp2
        go_ret
        exact ⟨by rw [HE.out]; rfl, HB1.out⟩
      | true =>
        have HA := Lib.hid (HYES.out hv)
        clear HNO HYES HV hb1 hv HB g1 g2 hall
        go_wp2
        go_roundw
        case rel => exact ⟨i + 1, by simp, hlt, HA, HB1⟩
        case measure => simp [intOf]; omega
    · obtain rfl : i = n := by omega
      have HE : Hid (vfAll fs i = true) := Lib.hid (all_range.2 hall.out)
      clear hall
      go_wp2
      go_ret
      exact ⟨by rw [HE.out]; rfl, HB.out⟩
theorem cmpW_zero (q r : Rat) : (cmpW q r == 0) = decide (q = r) := by
  unfold cmpW
  by_cases h : q = r
  · simp [h]
  · by_cases h2 : q < r
    · simp [h, h2]
    · simp [h, h2]
set_option maxHeartbeats 2000000 in
set_option maxRecDepth 100000 in
theorem isS_any {A : Option Addr} {c B n : Nat} {fs : List Int} (w : World) (hx : RdF w B A n fs) (hB : B ≤ w.heap.size) (hn : n ≤ 1099511627776) : Calls Try.prog 26 #[.slice A n c] w fun e w' => e = .returned (.bool (chB fs n)) ∧ Below w.heap.size w w' := by
  have HX := Lib.hid (hx.more hB)
  have HFA := Lib.hid (fAll_any (c := c) w hx hB hn)
  clear hx
  by_cases h1 : n < 1
  · have HE := Lib.hid (chB_short (fs := fs) h1)
    have h1' : (n : Int) < 1 := by omega
    go_enter Try.func26, Try.ntmps26
    go_wp2
    go_ret
    exact ⟨by rw [HE.out]; rfl, Below.refl _ _⟩
  by_cases h2 : 16 < n
  · have HE := Lib.hid (chB_long (fs := fs) h2)
    have h1' : ¬ (n : Int) < 1 := by omega
    have h2' : (16 : Int) < n := by omega
    go_enter Try.func26, Try.ntmps26
    go_wp2
    go_ret
    exact ⟨by rw [HE.out]; rfl, Below.refl _ _⟩
  have h1' : ¬ (n : Int) < 1 := by omega
  have h2' : ¬ (16 : Int) < n := by omega
  go_enter Try.func26, Try.ntmps26
  go_wp2_with fail
  refine HFA.out.mono ?_
  rintro e w1 ⟨rfl, hb1⟩
  have HB1 := Lib.hid hb1
  clear hb1
  cases hv : vfAll fs n with
  | false =>
    have HE := Lib.hid (chB_vf hv)
    go_wp2
    go_ret
    exact ⟨by rw [HE.out]; rfl, HB1.out⟩
  | true =>
    have HV := Lib.hid hv
    clear hv
    go_wp2
    go_loopw [3] (fun iv wr => ∃ i : Nat, iv = .int .i64 (i : Int) ∧ i ≤ n ∧ Hid (∀ j, j < i → decide (0 ≤ fs.getD (2 * j) 0) = true) ∧ wr = w1) (fun iv _ => n - (intOf iv).toNat)
    case atStart => exact ⟨0, rfl, Nat.zero_le _, Lib.hid fun j hj => absurd hj (Nat.not_lt_zero j), rfl⟩
    case round =>
      obtain ⟨i, rfl, hi, hall, rfl⟩ := hrel
      by_cases hlt : i < n
      · obtain ⟨b, off, rfl, hbl, g1, g2⟩ := (HX.out.below HB1.out (Nat.le_refl _)).at hlt
        have HNO := Lib.hid (fun h => (show posAll fs n = false from all_no hlt h))
        have HYES := Lib.hid (fun (h : decide (0 ≤ fs.getD (2 * i) 0) = true) j (hj : j < i + 1) => (show decide (0 ≤ fs.getD (2 * j) 0) = true by
          rcases Nat.lt_or_ge j i with h1 | h1
          · exact hall.out j h1
          · obtain rfl : j = i := by omega
            exact h))
        generalize fs.getD (2 * i) 0 = x0 at *
        generalize fs.getD (2 * i + 1) 0 = x1 at *
        by_cases hx0 : x0 < 0
        · have HE := Lib.hid (chB_neg (HNO.out (by simp; omega)))
          clear HNO HYES
          go_wp2
          go_ret
          exact ⟨by rw [HE.out]; rfl, HB1.out⟩
        · have HA := Lib.hid (HYES.out (by simp; omega))
          clear HNO HYES hall
          go_wp2
          go_roundw
          case rel => exact ⟨i + 1, by simp, hlt, HA, by first | trivial | rfl⟩
          case measure => simp [intOf]; omega
      · obtain rfl : i = n := by omega
        have HE := Lib.hid (chB_sum (fs := fs) (n := i) (by omega) (by omega) HV.out (all_range.2 hall.out))
        have HW1 := Lib.hid (wides_any (c := c) wr (HX.out.below HB1.out (Nat.le_refl _)) HB1.out.size (vfAll_true.1 HV.out) (by omega))
        have HO := Lib.hid (fun W => wideOf_any vf_one W)
        rw [qf_one] at HO
        clear hall
        go_wp2_with fail
        refine HW1.out.mono ?_
        rintro e w2 ⟨v2, cs2, rfl, hv2, hb2⟩
        have HB2 := Lib.hid (Base.Below.nextA HB1.out hb2)
        have HV2 := Lib.hid (hv2.base (Nat.zero_le _))
        clear hv2 hb2
        go_wp2_with fail
        refine (sum_any w2 HV2.out (by omega) (by omega) (by omega)).mono ?_
        rintro e w3 ⟨v3, rfl, hv3, hb3⟩
        have HB3 := Lib.hid (Base.Below.nextA HB2.out hb3)
        have HV3 := Lib.hid hv3
        clear hv3 hb3
        go_wp2_with fail
        refine (HO.out w3).mono ?_
        rintro e w4 ⟨v4, rfl, hv4, hb4⟩
        have HB4 := Lib.hid (Base.Below.nextA HB3.out hb4)
        have HV4 := Lib.hid hv4
        replace HV3 := Lib.hid (HV3.out.below hb4)
        clear hv4 hb4
        go_wp2_with fail
        refine (cmp_any w4 HV3.out HV4.out (by omega) (by omega) (by omega)).mono ?_
        rintro e w5 ⟨rfl, hb5⟩
        have HB5 := Lib.hid (Base.Below.nextA HB4.out hb5)
        have HE2 := Lib.hid (HE.out.trans (cmpW_zero _ _).symm)
        clear hb5 HE
        generalize cmpW (sumR i (fq fs)) 1 = cw at *
        go_wp2
        go_ret
        exact ⟨ret_bool HE2.out.symm, HB5.out⟩
end Go.Proofs.Ytionognmgcabbaa.Wide
/- The reference: whether a walk is valid. -/
namespace Go.Proofs.Ytionognmgcabbaa.Wide
open Go.RowKit Go.Proofs.Ytionognmgcabbaa Go.Proofs.Ytionognmgcabbaa.Base Go.Proofs.Ytionognmgcabbaa.Mem Go.Proofs.Ytionognmgcabbaa.MemF Go.Proofs.Ytionognmgcabbaa.ChM Go.Proofs.Ytionognmgcabbaa.WalkM
set_option linter.unusedVariables false
set_option maxHeartbeats 2000000 in
set_option maxRecDepth 100000 in
theorem walkS_any {A : Option Addr} {c B n b0 : Nat} {L : Nat → Nat} {fs : Nat → List Int} (w : World) (h0 : w.cell? ⟨b0, 0, none⟩ = some (.slice A n c)) (hb0 : b0 < w.heap.size) (hx : RdFF w B A n L fs) (hB : B ≤ w.heap.size) (hL : ∀ i, i < n → L i ≤ 1099511627776) (hn : n ≤ 1099511627776) :
    Calls Try.prog 25 #[.pointer (some ⟨b0, 0, none⟩)] w fun e w' => e = .returned (.bool (wkB n L fs)) ∧ Below w.heap.size w w' := by
  have HX := Lib.hid (hx.more hB)
  clear hx
  by_cases h1 : n < 1
  · have HE := Lib.hid (wkB_out (L := L) (fs := fs) (n := n) (by omega))
    have h1' : (n : Int) < 1 := by omega
    go_enter Try.func25, Try.ntmps25
    go_wp2
    go_ret
    exact ⟨by rw [HE.out]; rfl, Below.refl _ _⟩
  by_cases h2 : 6 < n
  · have HE := Lib.hid (wkB_out (L := L) (fs := fs) (n := n) (by omega))
    have h1' : ¬ (n : Int) < 1 := by omega
    have h2' : (6 : Int) < n := by omega
    go_enter Try.func25, Try.ntmps25
    go_wp2
    go_ret
    exact ⟨by rw [HE.out]; rfl, Below.refl _ _⟩
  have h1' : ¬ (n : Int) < 1 := by omega
  have h2' : ¬ (6 : Int) < n := by omega
  have HIN := Lib.hid (wkB_in (L := L) (fs := fs) (n := n) (by omega))
  go_enter Try.func25, Try.ntmps25
  go_wp2
  go_loopw [4] (fun iv wr => ∃ i : Nat, iv = .int .i64 (i : Int) ∧ i ≤ n ∧ Hid (∀ j, j < i → rowOk n L fs j = true) ∧ Hid (Below w.heap.size w wr)) (fun iv _ => n - (intOf iv).toNat)
  case atStart => exact ⟨0, rfl, Nat.zero_le _, Lib.hid fun j hj => absurd hj (Nat.not_lt_zero j), Lib.hid (Below.refl _ _)⟩
  case round =>
    obtain ⟨i, rfl, hi, hall, HB⟩ := hrel
    have d0 := (HB.out.cell (p := ⟨b0, 0, none⟩) hb0).trans h0
    by_cases hlt : i < n
    · obtain ⟨b, off, A', c', rfl, hbl, g, hr⟩ := (HX.out.below HB.out (Nat.le_refl _)).at hlt
      have HNO := Lib.hid (fun h : rowOk n L fs i = false => (show wkB n L fs = false by rw [HIN.out]; exact all_no hlt h))
      have HYES := Lib.hid (fun (h : rowOk n L fs i = true) j (hj : j < i + 1) => (show rowOk n L fs j = true by
        rcases Nat.lt_or_ge j i with h1 | h1
        · exact hall.out j h1
        · obtain rfl : j = i := by omega
          exact h))
      have HI := Lib.hid (isS_any (c := c') wr hr HB.out.size (hL i hlt))
      have HOK : Hid (rowOk n L fs i = (decide (L i = n) && chB (fs i) (L i))) := Lib.hid rfl
      clear hr hall
      generalize L i = l at *
      by_cases hln : l = n
      · have HLN := Lib.hid hln
        have hne : ((l : Int) != (n : Int)) = false := by simp [hln]
        clear hln
        go_wp2_with fail
        refine HI.out.mono ?_
        rintro e w1 ⟨rfl, hb1⟩
        have HB1 := Lib.hid (Base.Below.nextA HB.out hb1)
        clear hb1 d0
        cases hc : chB (fs i) l with
        | false =>
          have HE := Lib.hid (HNO.out (by rw [HOK.out, hc, Bool.and_false]))
          clear HNO HYES hc HOK
          go_wp2
          go_ret
          exact ⟨by rw [HE.out]; rfl, HB1.out⟩
        | true =>
          have HA := Lib.hid (HYES.out (by rw [HOK.out, hc, Bool.and_true]; simpa using HLN.out))
          clear HNO HYES hc HOK
          go_wp2
          go_roundw
          case rel => exact ⟨i + 1, by simp, hlt, HA, HB1⟩
          case measure => simp [intOf]; omega
      · have hne : ((l : Int) != (n : Int)) = true := by simp; omega
        have HE := Lib.hid (HNO.out (by rw [HOK.out, decide_eq_false hln]; rfl))
        clear HNO HYES hln
        go_wp2
        go_ret
        exact ⟨by rw [HE.out]; rfl, HB.out⟩
    · obtain rfl : i = n := by omega
      have HE : Hid (wkB i L fs = true) := Lib.hid (by rw [HIN.out]; exact all_range.2 hall.out)
      clear hall
      go_wp2
      go_ret
      exact ⟨by rw [HE.out]; rfl, HB.out⟩
end Go.Proofs.Ytionognmgcabbaa.Wide
/- The reference: the equations of the settled chances. -/
namespace Go.Proofs.Ytionognmgcabbaa.Wide
open Go.RowKit Go.Proofs.Ytionognmgcabbaa Go.Proofs.Ytionognmgcabbaa.Base Go.Proofs.Ytionognmgcabbaa.Mem Go.Proofs.Ytionognmgcabbaa.MemF Go.Proofs.Ytionognmgcabbaa.RatM Go.Proofs.Ytionognmgcabbaa.BigM Go.Proofs.Ytionognmgcabbaa.Big Go.Proofs.Ytionognmgcabbaa.Fine Go.Proofs.Ytionognmgcabbaa.Blk Go.Proofs.Ytionognmgcabbaa.GaussM Go.Proofs.Ytionognmgcabbaa.WalkM Go.Proofs.Ytionognmgcabbaa.ChM
open Go.Proofs.Ytionognmgcabbaa.Ratio (below_next cast_ne eqS eqI solB solX sN)
open Go.Proofs.Ytionognmgcabbaa.NatM (B32)
set_option linter.unusedVariables false
theorem B32_D30 : B32 ^ 4 ≤ D30 ^ 5 := by decide
theorem vf_nought : VF 0 1 := ⟨by decide, by decide, by decide, by decide, by decide⟩
theorem qf_nought : qf 0 1 = 0 := by decide +kernel
theorem OwnW.put6W {w : World} {B n m : Nat} {v : Value} {f : Nat → Rat} {ws : List Value} {b : Nat} (h : OwnW w B v n f m ws) {t : TypeId} {u0 u1 u2 u3 u4 u5 : Value} (K : Blk w b t #[u0, u1, u2, u3, u4, u5]) (ht : t ≠ 2) (hne : ∀ g, v.ownBlock = some g → g ≠ b) (v0 v1 v2 v3 v4 v5 : Value) : OwnW (put6 w b v0 v1 v2 v3 v4 v5) B v n f m ws := by
  have hn : v.ownBlock = none ∨ v.ownBlock ≠ some b := by
    cases hv : v.ownBlock with
    | none => exact .inl rfl
    | some g => exact .inr (fun e => hne g hv (Option.some.inj e))
  refine ⟨(((((h.row.kept (Src.grown_setCell w ⟨b, 0, none⟩ v0) hn).kept (Src.grown_setCell _ ⟨b, 1, none⟩ v1) hn).kept (Src.grown_setCell _ ⟨b, 2, none⟩ v2) hn).kept (Src.grown_setCell _ ⟨b, 3, none⟩ v3) hn).kept (Src.grown_setCell _ ⟨b, 4, none⟩ v4) hn).kept (Src.grown_setCell _ ⟨b, 5, none⟩ v5) hn, fun i hi => ?_⟩
  obtain ⟨s, A1, k1, c1, A2, k2, c2, fine, fn, fd, nn, dd, e, hp⟩ := h.els i hi
  exact ⟨s, A1, k1, c1, A2, k2, c2, fine, fn, fd, nn, dd, e, hp.put6 K ht _ _ _ _ _ _⟩
theorem eqS_dg {n : Nat} {W : Nat → Nat → Rat} (h : ∀ i k, i < n → k < n → Dg (B32 ^ 2) (W i k)) (r c : Nat) (hr : r < n) (hc : c ≤ n) : Dg (D30 ^ 5) (eqS n W r c) := by
  have key : Dg (B32 ^ 4) (eqS n W r c) := by
    unfold eqS
    split
    · exact Ratio.dg_one (by decide)
    · split
      · split
        · rw [Ratio.rat_m1]
          exact Ratio.dgb_sub (m := 2) (k := 1) (h _ _ ‹_› hr) (Ratio.dg_one (Nat.le_refl _))
        · exact Ratio.dgb_more (h _ _ ‹_› hr) (by decide)
      · exact Ratio.dgb_zero (by decide)
  exact key.more B32_D30
def SsRel (n : Nat) (W : Nat → Nat → Rat) (w : World) (kv lv : Value) (wr : World) : Prop :=
  ∃ (k : Nat) (us : List Value), kv = .int .i64 (k : Int) ∧ k ≤ n ∧ Hid (OwnWW wr w.heap.size lv k (n + 1) (eqS n W) 5 us) ∧ Hid (Below w.heap.size w wr)
set_option maxHeartbeats 4000000 in
set_option maxRecDepth 100000 in
theorem settledS_any {A : Option Addr} {c B n b0 : Nat} {fs : Nat → List Int} (w : World) (h0 : w.cell? ⟨b0, 0, none⟩ = some (.slice A n c)) (hb0 : b0 < w.heap.size) (hx : RdFF w B A n (fun _ => n) fs) (hB : B ≤ w.heap.size) (h1 : 1 ≤ n) (h6 : n ≤ 6) (hv : ∀ i, i < n → AllVF (fs i) n) (hd : ∀ i k, i < n → k < n → Dg (B32 ^ 2) (fq (fs i) k)) :
    Calls Try.prog 45 #[.pointer (some ⟨b0, 0, none⟩)] w (SwRet (eqS n fun i => fq (fs i)) n (mD 6) w) := by
  obtain ⟨iw, wi, wz0, wz1, wz2⟩ := info_parts infoW
  obtain ⟨iv, vi, vz0, vz1, vz2⟩ := info_parts infoWW
  obtain ⟨W, hWd⟩ : ∃ W : Nat → Nat → Rat, W = fun i => fq (fs i) := ⟨_, rfl⟩
  rw [← hWd]
  have HX := Lib.hid (hx.more hB)
  have HD : Hid (∀ r c, r < n → c ≤ n → Dg (D30 ^ 5) (eqS n W r c)) := Lib.hid (by rw [hWd]; exact eqS_dg hd)
  have HV : Hid (∀ i k, i < n → k < n → VF ((fs i).getD (2 * k) 0) ((fs i).getD (2 * k + 1) 0) ∧ qf ((fs i).getD (2 * k) 0) ((fs i).getD (2 * k + 1) 0) = W i k) := Lib.hid (fun i k hi hk => ⟨hv i hi k hk, by rw [hWd]; rfl⟩)
  have H0 : Hid (SsRel n W w (.int .i64 0) (.slice (some ⟨w.heap.size, 0, none⟩) 0 0) (w.alloc (.cells #[] 61))) := Lib.hid ⟨0, [], rfl, Nat.zero_le _, Lib.hid (OwnWW.lit0 w _ _ _), Lib.hid ((Below.refl _ _).alloc (Nat.le_refl _) _)⟩
  have HM1 := Lib.hid (fun W => wideOf_any vf_minus W)
  rw [qf_minus] at HM1
  have HWO := Lib.hid (fun W => wideOf_any vf_one W)
  rw [qf_one] at HWO
  have HC0 := Lib.hid (fun W' (hb : Below w.heap.size w W') => (hb.cell (p := ⟨b0, 0, none⟩) hb0).trans h0)
  clear hx hd hv hWd hb0
  go_enter Try.func45, Try.ntmps45
  go_wp2
  clear h0
  go_loopw [6, 5] (fun kv lv wr => SsRel n W w kv lv wr) (fun kv _ _ => n - (intOf kv).toNat)
  case atStart => exact H0.out
  case round =>
    obtain ⟨k, us, rfl, hk, HO, HB⟩ := hrel
    clear H0
    obtain ⟨Al, cl, hlv, hAl⟩ := HO.out.form
    subst hlv
    by_cases hkn : k < n
    · obtain ⟨wo, rfl⟩ : ∃ wo : World, wo = wr := ⟨_, rfl⟩
      have H1 : Hid (SyRel n 5 (eqS n W k) wo (.int .i64 0) (.slice (some ⟨wo.heap.size, 0, none⟩) 0 0) (wo.alloc (.cells #[] 65))) := Lib.hid ⟨0, [], rfl, Nat.zero_le _, Lib.hid (OwnW.lit0 wo _ _), Lib.hid ((Below.refl _ _).alloc (Nat.le_refl _) _)⟩
      have hwo := HB.out.size
      have hbw : Hid (∀ W', Below wo.heap.size wo W' → Below w.heap.size w W') := Lib.hid (fun W' hb => below_next (Nat.le_refl _) HB.out hb)
      go_wp2
      go_loopw [8, 7] (fun iv ev w2 => SyRel n 5 (eqS n W k) wo iv ev w2) (fun iv _ _ => n - (intOf iv).toNat)
      case atStart => exact H1.out
      case round =>
        obtain ⟨i, cs, rfl, hi, HE, HBo⟩ := hrel
        clear H1
        have hso := HBo.out.size
        obtain ⟨Ae, ce, hev, hAe⟩ := HE.out.form
        subst hev
        by_cases hin : i < n
        · obtain ⟨bf, of, A6, c6, rfl, hbf, y, hrow⟩ := (HX.out.below (hbw.out wr HBo.out) (Nat.le_refl _)).at hin
          obtain ⟨br, or, rfl, hbr, x0, x1⟩ := hrow.at hkn
          have p0 := HC0.out wr (hbw.out wr HBo.out)
          obtain ⟨hvf, hqf⟩ := HV.out i k hin hkn
          have HW0 := Lib.hid (fun W' => wideOf_any hvf W')
          rw [hqf] at HW0
          clear hrow hvf hqf
          generalize (fs i).getD (2 * k) 0 = z0 at *
          generalize (fs i).getD (2 * k + 1) 0 = z1 at *
          go_wp2_with fail
          refine (HW0.out _).mono ?_
          rintro e w4 ⟨v, rfl, hv4, hb4⟩
          obtain ⟨s, A1, k1, c1, A2, k2, c2, fi, fn, fd, nn, dd, rfl, hp4⟩ := hv4
          obtain ⟨W5, hW5⟩ : ∃ W5, W5 = w4.alloc (.cells #[.bool s, .slice A1 k1 c1, .slice A2 k2 c2, .bool fi, .int .i64 fn, .int .i64 fd] 65) := ⟨_, rfl⟩
          obtain ⟨g9, hg9⟩ : ∃ g9, g9 = w4.heap.size := ⟨_, rfl⟩
          have hb5 : Below w4.heap.size w4 W5 := by rw [hW5]; exact (Below.refl _ _).alloc (Nat.le_refl _) _
          have K9 : Hid (Blk W5 g9 65 #[.bool s, .slice A1 k1 c1, .slice A2 k2 c2, .bool fi, .int .i64 fn, .int .i64 fd]) := Lib.hid (by rw [hW5, hg9]; exact Blk.new w4 _ _)
          have hb45 := Base.Below.nextA hb4 hb5
          have hb4s := hb4.size
          have HE5 := Lib.hid (HE.out.below hb45)
          have HBo5 := Lib.hid (below_next (Nat.le_refl _) HBo.out hb45)
          have HI : Hid (IsW W5 (W i k) 2 (.agg #[.bool s, .slice A1 k1 c1, .slice A2 k2 c2, .bool fi, .int .i64 fn, .int .i64 fd])) := Lib.hid (IsW.below ⟨_, _, _, _, _, _, _, _, _, _, _, _, rfl, hp4⟩ hb5)
          have hg9o : wo.heap.size ≤ g9 := by omega
          have hne9 : Hid (∀ b, (Value.slice Ae i ce).ownBlock = some b → b ≠ g9) := Lib.hid (fun b e => by obtain ⟨_, _, _, h⟩ := ownsRow_block HE.out.row e; omega)
          have HW5 := Lib.hid hW5
          have HG9 := Lib.hid hg9
          clear y x0 x1 p0 hW5 hg9 hb4 hb5 hb45 hb4s hp4 HE HBo HW0
          go_upto_region 11 with (fail)
          rw [← HW5.out, ← HG9.out]
          clear HW5 HG9
          obtain ⟨q0, hq0⟩ : ∃ q0, q0 = W i k := ⟨_, rfl⟩
          rw [← hq0] at HI
          obtain ⟨q1, hq1⟩ : ∃ q1, q1 = (if i = k then q0 + -1 else q0) := ⟨_, rfl⟩
          obtain ⟨q2, hq2⟩ : ∃ q2, q2 = (if k + 1 = n then 1 else q1) := ⟨_, rfl⟩
          have HQE : Hid (q2 = eqS n W k i) := Lib.hid (by unfold eqS; rw [hq2, hq1, hq0]; split <;> first | rfl | (rw [if_pos hin]))
          by_cases hik : i = k
          case' pos =>
            have heq : ((i : Int) == (k : Int)) = true := by simp [hik]
            have hfi : Hid (q1 = q0 + -1) := Lib.hid (by rw [hq1, if_pos hik])
            clear hik hq1 hq0
            have HQ2 := Lib.hid hq2
            clear hq2
            go_upto_region 12 with (fail)
            refine Rel.wp_region_rel 4 (by kernel_rfl) (by kernel_rfl) (fun F hF => ?_)
            simp only [List.take_succ_cons, List.take_zero, List.drop_succ_cons, List.drop_zero, Rel.putL] at hF ⊢
            have HF := Lib.hid hF
            clear hF
            have uv := @Rel.upon_value Try.prog
            have ue := @Rel.upon_enter Try.prog
            apply Rel.rel_pure
            apply Exists.intro
            refine ⟨fun vs wq hq hdp R hR => ?_, ?_⟩
            · (rw [HF.out, Rel.stepAt_eq]; clear hdp; have y0 := (K9.out.belowS hq).at 0 (v := .bool s) rfl; have y1 := (K9.out.belowS hq).at 1 (v := .slice A1 k1 c1) rfl; have y2 := (K9.out.belowS hq).at 2 (v := .slice A2 k2 c2) rfl; have y3 := (K9.out.belowS hq).at 3 (v := .bool fi) rfl; have y4 := (K9.out.belowS hq).at 4 (v := .int .i64 fn) rfl; have y5 := (K9.out.belowS hq).at 5 (v := .int .i64 fd) rfl; go_simp; exact hR)
            apply Rel.rel_pure
            apply Exists.intro
            refine ⟨fun vs wq hq hdp R hR => ?_, ?_⟩
            · (rw [HF.out, Rel.stepAt_eq]; clear hdp; skip; go_simp; exact hR)
            refine Rel.rel_law (S := fun v w' => IsW w' (-1) 2 v) (isW_mono _ _) (fun vs wq hq hdp => ?_) ?_
            · (rw [HF.out, Rel.stepAt_eq]; have qd1 : vs 1 = _ := Rel.dep hdp 1 (by kernel_rfl); clear hdp; skip; go_simp; refine (HM1.out _).mono ?_; rintro e w7 ⟨v, rfl, hv, hb⟩; exact ⟨_, rfl, hv, hb⟩)
            refine Rel.rel_law (S := fun v w' => IsW w' (q0 + -1) 5 v) (isW_mono _ _) (fun vs wq hq hdp => ?_) ?_
            · (rw [HF.out, Rel.stepAt_eq]; have qd0 : vs 0 = _ := Rel.dep hdp 0 (by kernel_rfl); have qd2 : IsW wq _ _ (vs 2) := Rel.dep hdp 2 (by kernel_rfl); clear hdp; skip; go_simp; refine (wideAdd_any wq (HI.out.below hq) qd2 (by decide) (by decide) (by decide) (by decide)).mono ?_; rintro e w7 ⟨v, rfl, hv, hb⟩; exact ⟨_, rfl, hv, hb⟩)
            refine Rel.rel_end (fun vs wq hq hall => ?_)
            rw [HF.out]
            have qe0 : vs 0 = _ := Rel.fin hall 0 (by decide)
            have qe1 : vs 1 = _ := Rel.fin hall 1 (by decide)
            have qe2 : IsW wq _ _ (vs 2) := Rel.fin hall 2 (by decide)
            have qe3 : IsW wq _ _ (vs 3) := Rel.fin hall 3 (by decide)
            clear hall HF uv ue
            obtain ⟨t, C1, m1, l1, C2, m2, l2, fi2, fn2, fd2, nn2, dd2, ev2, hp2⟩ := qe3
            have K9q := K9.out.belowS hq
            obtain ⟨W6, hW6⟩ : ∃ W6, W6 = put6 wq g9 (.bool t) (.slice C1 m1 l1) (.slice C2 m2 l2) (.bool fi2) (.int .i64 fn2) (.int .i64 fd2) := ⟨_, rfl⟩
            have hb6 : Below wo.heap.size wo W6 := by rw [hW6]; exact put6_below (below_next (Nat.le_refl _) HBo5.out hq) hg9o _ _ _ _ _ _
            have HI6 : Hid (IsW W6 q1 5 (.agg #[.bool t, .slice C1 m1 l1, .slice C2 m2 l2, .bool fi2, .int .i64 fn2, .int .i64 fd2])) := Lib.hid (by rw [hfi.out, hW6]; exact ⟨_, _, _, _, _, _, _, _, _, _, nn2, dd2, rfl, hp2.put6 K9q (by decide) _ _ _ _ _ _⟩)
            have K6 : Hid (Blk W6 g9 65 #[.bool t, .slice C1 m1 l1, .slice C2 m2 l2, .bool fi2, .int .i64 fn2, .int .i64 fd2]) := Lib.hid (by rw [hW6]; exact put6_blk K9q _ _ _ _ _ _)
            have HE6 : Hid (OwnW W6 wo.heap.size (.slice Ae i ce) i (eqS n W k) 5 cs) := Lib.hid (by rw [hW6]; exact (HE5.out.below hq).put6W K9q (by decide) hne9.out _ _ _ _ _ _)
            have HBo6 := Lib.hid hb6
            have z0 := K9q.frz 0
            have d0 := K9q.at 0 (v := .bool s) rfl
            have z1 := K9q.frz 1
            have d1 := K9q.at 1 (v := .slice A1 k1 c1) rfl
            have z2 := K9q.frz 2
            have d2 := K9q.at 2 (v := .slice A2 k2 c2) rfl
            have z3 := K9q.frz 3
            have d3 := K9q.at 3 (v := .bool fi) rfl
            have z4 := K9q.frz 4
            have d4 := K9q.at 4 (v := .int .i64 fn) rfl
            have z5 := K9q.frz 5
            have d5 := K9q.at 5 (v := .int .i64 fd) rfl
            unfold put6 at hW6
            have HW6 := Lib.hid hW6
            clear hW6 hb6 hp2 K9q hq K9 HE5 HBo5 HI hfi qe0 qe1 qe2
            go_upto_region 13 with (fail)
            rw [← HW6.out]
            clear HW6 z0 z1 z2 z3 z4 z5 d0 d1 d2 d3 d4 d5
          case' neg =>
            have heq := cast_ne hik
            have hfi : Hid (q1 = q0) := Lib.hid (by rw [hq1, if_neg hik])
            clear hik hq1 hq0
            have HQ2 := Lib.hid hq2
            clear hq2
            go_upto_region 13 with (fail)
            obtain ⟨W6, hW6⟩ : ∃ W6, W6 = W5 := ⟨_, rfl⟩
            rw [← hW6] at K9 HE5 HBo5 HI ⊢
            obtain ⟨t, rfl⟩ : ∃ zz, zz = s := ⟨_, rfl⟩
            obtain ⟨C1, rfl⟩ : ∃ zz, zz = A1 := ⟨_, rfl⟩
            obtain ⟨m1, rfl⟩ : ∃ zz, zz = k1 := ⟨_, rfl⟩
            obtain ⟨l1, rfl⟩ : ∃ zz, zz = c1 := ⟨_, rfl⟩
            obtain ⟨C2, rfl⟩ : ∃ zz, zz = A2 := ⟨_, rfl⟩
            obtain ⟨m2, rfl⟩ : ∃ zz, zz = k2 := ⟨_, rfl⟩
            obtain ⟨l2, rfl⟩ : ∃ zz, zz = c2 := ⟨_, rfl⟩
            obtain ⟨fi2, rfl⟩ : ∃ zz, zz = fi := ⟨_, rfl⟩
            obtain ⟨fn2, rfl⟩ : ∃ zz, zz = fn := ⟨_, rfl⟩
            obtain ⟨fd2, rfl⟩ : ∃ zz, zz = fd := ⟨_, rfl⟩
            have HI6 : Hid (IsW W6 q1 5 (.agg #[.bool t, .slice C1 m1 l1, .slice C2 m2 l2, .bool fi2, .int .i64 fn2, .int .i64 fd2])) := Lib.hid (by rw [hfi.out]; exact HI.out.more (by decide))
            have K6 := K9
            have HE6 := HE5
            have HBo6 := HBo5
            clear hW6 K9 HE5 HBo5 HI hfi
          all_goals
            by_cases hkl : k + 1 = n
            case' pos =>
              have heq2 : ((k : Int) == (n : Int) - 1) = true := by simp; omega
              have hfl : Hid (q2 = 1) := Lib.hid (by rw [HQ2.out, if_pos hkl])
              have hkl2 : k + 1 ≤ n := by omega
              clear hkl HQ2
              go_wp2_with fail
              refine (HWO.out _).mono ?_
              rintro e w7 ⟨v, rfl, hv7, hb7⟩
              obtain ⟨t3, D1, i1, b1, D2, i2, b2, fi3, fn3, fd3, nn3, dd3, rfl, hp3⟩ := hv7
              have K7 := K6.out.belowS hb7
              obtain ⟨W8, hW8⟩ : ∃ W8, W8 = put6 w7 g9 (.bool t3) (.slice D1 i1 b1) (.slice D2 i2 b2) (.bool fi3) (.int .i64 fn3) (.int .i64 fd3) := ⟨_, rfl⟩
              have hb8 : Below wo.heap.size wo W8 := by rw [hW8]; exact put6_below (below_next (Nat.le_refl _) HBo6.out hb7) hg9o _ _ _ _ _ _
              have HI8 : Hid (IsW W8 q2 5 (.agg #[.bool t3, .slice D1 i1 b1, .slice D2 i2 b2, .bool fi3, .int .i64 fn3, .int .i64 fd3])) := Lib.hid (by rw [hfl.out, hW8]; exact IsW.more ⟨_, _, _, _, _, _, _, _, _, _, nn3, dd3, rfl, hp3.put6 K7 (by decide) _ _ _ _ _ _⟩ (by decide))
              have K8 : Hid (Blk W8 g9 65 #[.bool t3, .slice D1 i1 b1, .slice D2 i2 b2, .bool fi3, .int .i64 fn3, .int .i64 fd3]) := Lib.hid (by rw [hW8]; exact put6_blk K7 _ _ _ _ _ _)
              have HE8 : Hid (OwnW W8 wo.heap.size (.slice Ae i ce) i (eqS n W k) 5 cs) := Lib.hid (by rw [hW8]; exact (HE6.out.below hb7).put6W K7 (by decide) hne9.out _ _ _ _ _ _)
              have HBo8 := Lib.hid hb8
              have z0 := K7.frz 0
              have d0 := K7.at 0 (v := .bool t) rfl
              have z1 := K7.frz 1
              have d1 := K7.at 1 (v := .slice C1 m1 l1) rfl
              have z2 := K7.frz 2
              have d2 := K7.at 2 (v := .slice C2 m2 l2) rfl
              have z3 := K7.frz 3
              have d3 := K7.at 3 (v := .bool fi2) rfl
              have z4 := K7.frz 4
              have d4 := K7.at 4 (v := .int .i64 fn2) rfl
              have z5 := K7.frz 5
              have d5 := K7.at 5 (v := .int .i64 fd2) rfl
              unfold put6 at hW8
              have HW8 := Lib.hid hW8
              clear hW8 hb8 hp3 hb7 K7 K6 HE6 HBo6 HI6 hfl
              go_upto_region 15 with (fail)
              rw [← HW8.out]
              clear HW8 z0 z1 z2 z3 z4 z5 d0 d1 d2 d3 d4 d5
            case' neg =>
              have heq2 : ((k : Int) == (n : Int) - 1) = false := by simp; omega
              have hfl : Hid (q2 = q1) := Lib.hid (by rw [HQ2.out, if_neg hkl])
              clear HQ2 hkl
              go_upto_region 15 with (fail)
              obtain ⟨W8, hW8⟩ : ∃ W8, W8 = W6 := ⟨_, rfl⟩
              rw [← hW8] at K6 HE6 HBo6 HI6 ⊢
              obtain ⟨t3, rfl⟩ : ∃ zz, zz = t := ⟨_, rfl⟩
              obtain ⟨D1, rfl⟩ : ∃ zz, zz = C1 := ⟨_, rfl⟩
              obtain ⟨i1, rfl⟩ : ∃ zz, zz = m1 := ⟨_, rfl⟩
              obtain ⟨b1, rfl⟩ : ∃ zz, zz = l1 := ⟨_, rfl⟩
              obtain ⟨D2, rfl⟩ : ∃ zz, zz = C2 := ⟨_, rfl⟩
              obtain ⟨i2, rfl⟩ : ∃ zz, zz = m2 := ⟨_, rfl⟩
              obtain ⟨b2, rfl⟩ : ∃ zz, zz = l2 := ⟨_, rfl⟩
              obtain ⟨fi3, rfl⟩ : ∃ zz, zz = fi2 := ⟨_, rfl⟩
              obtain ⟨fn3, rfl⟩ : ∃ zz, zz = fn2 := ⟨_, rfl⟩
              obtain ⟨fd3, rfl⟩ : ∃ zz, zz = fd2 := ⟨_, rfl⟩
              have HI8 : Hid (IsW W8 q2 5 (.agg #[.bool t3, .slice D1 i1 b1, .slice D2 i2 b2, .bool fi3, .int .i64 fn3, .int .i64 fd3])) := Lib.hid (by rw [hfl.out]; exact HI6.out)
              have K8 := K6
              have HE8 := HE6
              have HBo8 := HBo6
              clear hW8 K6 HE6 HBo6 HI6 hfl
          all_goals
            have y0 := K8.out.at 0 (v := .bool t3) rfl
            have y1 := K8.out.at 1 (v := .slice D1 i1 b1) rfl
            have y2 := K8.out.at 2 (v := .slice D2 i2 b2) rfl
            have y3 := K8.out.at 3 (v := .bool fi3) rfl
            have y4 := K8.out.at 4 (v := .int .i64 fn3) rfl
            have y5 := K8.out.at 5 (v := .int .i64 fd3) rfl
            rw [HQE.out] at HI8
            obtain ⟨nn8, dd8, hp8⟩ := HI8.out.parts
            have HNX := Lib.hid (fun (w2 : World) v' ca tt hown hg => OwnW.push (w2 := w2) (v' := v') (ca := ca) (t := tt) (f := eqS n W k) HE8.out (Below.refl _ _) hp8 hown hg)
            unfold six at HNX
            have HOA := Lib.hid (World.ownsRow.alloc HE8.out.row (.cells #[.bool t3, .slice D1 i1 b1, .slice D2 i2 b2, .bool fi3, .int .i64 fn3, .int .i64 fd3] 65))
            have HBN := Lib.hid (fun (w2 : World) (hg : (W8.alloc (.cells #[.bool t3, .slice D1 i1 b1, .slice D2 i2 b2, .bool fi3, .int .i64 fn3, .int .i64 fd3] 65)).grownBy w2 (Value.slice Ae i ce).ownBlock) => (below_next (Nat.le_refl _) HBo8.out ((Below.refl W8.heap.size W8).alloc (Nat.le_refl _) _)).trans (grown_below hg (fun g e => (ownsRow_block HE8.out.row e).choose_spec.2.1) (Nat.le_trans HBo8.out.size ((Below.refl W8.heap.size W8).alloc (Nat.le_refl _) _).size)))
            have hs8 := HBo8.out.size
            clear hp8 HE8 HBo8 HI8 K8
            go_wp2_with (at_builtin; refine wpList_append_own_at _ rfl (.tmp 52) (.tmp 54) 61 rfl wo.heap.size 65 iw (.agg #[.bool false, .slice none 0 0, .slice none 0 0, .bool false, .int .i64 0, .int .i64 0]) 6 80 Try.underlying61 wi wz0 wz1 wz2 rfl (by decide) _ _ _ rfl HOA.out ⟨W8.heap.size, 0, none⟩ 1 1 [.bool t3, .slice D1 i1 b1, .slice D2 i2 b2, .bool fi3, .int .i64 fn3, .int .i64 fd3] rfl rfl ?p1a ?p2a ?p3a ?p4a ?p5a ?_)
            try case p1a => exact news_six _ _ (by simp)
            try case p2a => exact ones_six
            try case p3a => first | (simp only [maxLen]; omega) | omega
            try case p4a => omega
            try case p5a => first | (simp only [World.size_alloc]; omega) | omega
            intro v' w9 hown' hg' _ he
            have HN9 : Hid (SyRel n 5 (eqS n W k) wo (.int .i64 ((i : Int) + 1)) v' w9) := Lib.hid ⟨i + 1, _, by simp, hin, Lib.hid (HNX.out w9 v' _ _ hown' hg'), Lib.hid (HBN.out w9 hg')⟩
            clear hown' hg' he HNX HOA HBN y0 y1 y2 y3 y4 y5
            go_wp2
            go_roundw
            case rel => exact HN9.out
            case measure => simp [intOf]; omega
        · have hie : n ≤ i := by omega
          obtain rfl : i = n := by omega
          have hf0 : eqS i W k i = if k + 1 = i then 1 else 0 := by
            unfold eqS
            split
            · rfl
            · first | rfl | rw [if_neg (Nat.lt_irrefl i)]
          have HQE := Lib.hid hf0
          have HWN := Lib.hid (fun W' => wideOf_any vf_nought W')
          rw [qf_nought] at HWN
          have HE3 := Lib.hid (fun W' (hb : Below wr.heap.size wr W') => HE.out.below hb)
          have HBE := Lib.hid (fun W' (hb : Below wr.heap.size wr W') => below_next (Nat.le_refl _) HBo.out hb)
          have hne0 : ∀ b, (Value.slice Ae i ce).ownBlock = some b → b < wr.heap.size := fun b e => by obtain ⟨_, _, _, h⟩ := ownsRow_block HE.out.row e; exact h
          clear hf0 HE HBo hie
          go_wp2_with fail
          refine (zero_any _).mono ?_
          rintro e w3 ⟨rfl, hb3⟩
          have HB3 := Lib.hid hb3
          clear hb3
          go_wp2_with fail
          refine (HWN.out _).mono ?_
          rintro e w4 ⟨v, rfl, hv4, hb4⟩
          obtain ⟨s, A1, k1, c1, A2, k2, c2, fi, fn, fd, nn, dd, rfl, hp4⟩ := hv4
          obtain ⟨W5, hW5⟩ : ∃ W5, W5 = w4.alloc (.cells #[.bool s, .slice A1 k1 c1, .slice A2 k2 c2, .bool fi, .int .i64 fn, .int .i64 fd] 65) := ⟨_, rfl⟩
          obtain ⟨g9, hg9⟩ : ∃ g9, g9 = w4.heap.size := ⟨_, rfl⟩
          have hb5 : Below w4.heap.size w4 W5 := by rw [hW5]; exact (Below.refl _ _).alloc (Nat.le_refl _) _
          have K6 : Hid (Blk W5 g9 65 #[.bool s, .slice A1 k1 c1, .slice A2 k2 c2, .bool fi, .int .i64 fn, .int .i64 fd]) := Lib.hid (by rw [hW5, hg9]; exact Blk.new w4 _ _)
          have hb35 := Base.Below.nextA HB3.out (Base.Below.nextA hb4 hb5)
          have hb34 := (Base.Below.nextA HB3.out hb4).size
          have HE6 := Lib.hid (HE3.out W5 hb35)
          have HBo6 := Lib.hid (HBE.out W5 hb35)
          have HI6 : Hid (IsW W5 0 5 (.agg #[.bool s, .slice A1 k1 c1, .slice A2 k2 c2, .bool fi, .int .i64 fn, .int .i64 fd])) := Lib.hid (IsW.more (IsW.below ⟨_, _, _, _, _, _, _, _, _, _, _, _, rfl, hp4⟩ hb5) (by decide))
          have hg9o : wo.heap.size ≤ g9 := by omega
          have hne9 : Hid (∀ b, (Value.slice Ae i ce).ownBlock = some b → b ≠ g9) := Lib.hid (fun b e => by have := hne0 b e; omega)
          have HW5 := Lib.hid hW5
          have HG9 := Lib.hid hg9
          clear hW5 hg9 hb4 hb5 hb34 hb35 hp4 HE3 HBE HB3 HWN hne0
          go_upto_region 17 with (fail)
          rw [← HW5.out, ← HG9.out]
          clear HW5 HG9
          obtain ⟨q2, hq2⟩ : ∃ q2 : Rat, q2 = (if k + 1 = i then 1 else 0) := ⟨_, rfl⟩
          rw [← hq2] at HQE
          by_cases hkl : k + 1 = i
          case' pos =>
            have heq2 : ((k : Int) == (i : Int) - 1) = true := by simp; omega
            have hfl : Hid (q2 = 1) := Lib.hid (by rw [hq2, if_pos hkl])
            clear hkl hq2
            go_wp2_with fail
            refine (HWO.out _).mono ?_
            rintro e w7 ⟨v, rfl, hv7, hb7⟩
            obtain ⟨t3, D1, i1, b1, D2, i2, b2, fi3, fn3, fd3, nn3, dd3, rfl, hp3⟩ := hv7
            have K7 := K6.out.belowS hb7
            obtain ⟨W8, hW8⟩ : ∃ W8, W8 = put6 w7 g9 (.bool t3) (.slice D1 i1 b1) (.slice D2 i2 b2) (.bool fi3) (.int .i64 fn3) (.int .i64 fd3) := ⟨_, rfl⟩
            have hb8 : Below wo.heap.size wo W8 := by rw [hW8]; exact put6_below (below_next (Nat.le_refl _) HBo6.out hb7) hg9o _ _ _ _ _ _
            have HI8 : Hid (IsW W8 q2 5 (.agg #[.bool t3, .slice D1 i1 b1, .slice D2 i2 b2, .bool fi3, .int .i64 fn3, .int .i64 fd3])) := Lib.hid (by rw [hfl.out, hW8]; exact IsW.more ⟨_, _, _, _, _, _, _, _, _, _, nn3, dd3, rfl, hp3.put6 K7 (by decide) _ _ _ _ _ _⟩ (by decide))
            have K8 : Hid (Blk W8 g9 65 #[.bool t3, .slice D1 i1 b1, .slice D2 i2 b2, .bool fi3, .int .i64 fn3, .int .i64 fd3]) := Lib.hid (by rw [hW8]; exact put6_blk K7 _ _ _ _ _ _)
            have HE8 : Hid (OwnW W8 wo.heap.size (.slice Ae i ce) i (eqS i W k) 5 cs) := Lib.hid (by rw [hW8]; exact (HE6.out.below hb7).put6W K7 (by decide) hne9.out _ _ _ _ _ _)
            have HBo8 := Lib.hid hb8
            have z0 := K7.frz 0
            have d0 := K7.at 0 (v := .bool s) rfl
            have z1 := K7.frz 1
            have d1 := K7.at 1 (v := .slice A1 k1 c1) rfl
            have z2 := K7.frz 2
            have d2 := K7.at 2 (v := .slice A2 k2 c2) rfl
            have z3 := K7.frz 3
            have d3 := K7.at 3 (v := .bool fi) rfl
            have z4 := K7.frz 4
            have d4 := K7.at 4 (v := .int .i64 fn) rfl
            have z5 := K7.frz 5
            have d5 := K7.at 5 (v := .int .i64 fd) rfl
            unfold put6 at hW8
            have HW8 := Lib.hid hW8
            clear hW8 hb8 hp3 hb7 K7 K6 HE6 HBo6 HI6 hfl
            go_upto_region 19 with (fail)
            rw [← HW8.out]
            clear HW8 z0 z1 z2 z3 z4 z5 d0 d1 d2 d3 d4 d5
          case' neg =>
            have heq2 : ((k : Int) == (i : Int) - 1) = false := by simp; omega
            have hfl : Hid (q2 = 0) := Lib.hid (by rw [hq2, if_neg hkl])
            clear hkl hq2
            go_upto_region 19 with (fail)
            obtain ⟨W8, hW8⟩ : ∃ W8, W8 = W5 := ⟨_, rfl⟩
            rw [← hW8] at K6 HE6 HBo6 HI6 ⊢
            obtain ⟨t3, rfl⟩ : ∃ zz, zz = s := ⟨_, rfl⟩
            obtain ⟨D1, rfl⟩ : ∃ zz, zz = A1 := ⟨_, rfl⟩
            obtain ⟨i1, rfl⟩ : ∃ zz, zz = k1 := ⟨_, rfl⟩
            obtain ⟨b1, rfl⟩ : ∃ zz, zz = c1 := ⟨_, rfl⟩
            obtain ⟨D2, rfl⟩ : ∃ zz, zz = A2 := ⟨_, rfl⟩
            obtain ⟨i2, rfl⟩ : ∃ zz, zz = k2 := ⟨_, rfl⟩
            obtain ⟨b2, rfl⟩ : ∃ zz, zz = c2 := ⟨_, rfl⟩
            obtain ⟨fi3, rfl⟩ : ∃ zz, zz = fi := ⟨_, rfl⟩
            obtain ⟨fn3, rfl⟩ : ∃ zz, zz = fn := ⟨_, rfl⟩
            obtain ⟨fd3, rfl⟩ : ∃ zz, zz = fd := ⟨_, rfl⟩
            have HI8 : Hid (IsW W8 q2 5 (.agg #[.bool t3, .slice D1 i1 b1, .slice D2 i2 b2, .bool fi3, .int .i64 fn3, .int .i64 fd3])) := Lib.hid (by rw [hfl.out]; exact HI6.out)
            have K8 := K6
            have HE8 := HE6
            have HBo8 := HBo6
            clear hW8 K6 HE6 HBo6 HI6 hfl
          all_goals
            have y0 := K8.out.at 0 (v := .bool t3) rfl
            have y1 := K8.out.at 1 (v := .slice D1 i1 b1) rfl
            have y2 := K8.out.at 2 (v := .slice D2 i2 b2) rfl
            have y3 := K8.out.at 3 (v := .bool fi3) rfl
            have y4 := K8.out.at 4 (v := .int .i64 fn3) rfl
            have y5 := K8.out.at 5 (v := .int .i64 fd3) rfl
            rw [← HQE.out] at HI8
            obtain ⟨nn8, dd8, hp8⟩ := HI8.out.parts
            have HNX := Lib.hid (fun (w2 : World) v' ca tt hown hg => OwnW.push (w2 := w2) (v' := v') (ca := ca) (t := tt) (f := eqS i W k) HE8.out (Below.refl _ _) hp8 hown hg)
            unfold six at HNX
            have HOA := Lib.hid (World.ownsRow.alloc HE8.out.row (.cells #[.bool t3, .slice D1 i1 b1, .slice D2 i2 b2, .bool fi3, .int .i64 fn3, .int .i64 fd3] 65))
            have HBN := Lib.hid (fun (w2 : World) (hg : (W8.alloc (.cells #[.bool t3, .slice D1 i1 b1, .slice D2 i2 b2, .bool fi3, .int .i64 fn3, .int .i64 fd3] 65)).grownBy w2 (Value.slice Ae i ce).ownBlock) => (below_next (Nat.le_refl _) HBo8.out ((Below.refl W8.heap.size W8).alloc (Nat.le_refl _) _)).trans (grown_below hg (fun g e => (ownsRow_block HE8.out.row e).choose_spec.2.1) (Nat.le_trans HBo8.out.size ((Below.refl W8.heap.size W8).alloc (Nat.le_refl _) _).size)))
            have hs8 := HBo8.out.size
            clear hp8 HE8 HBo8 HI8 K8
            go_wp2_with (at_builtin; refine wpList_append_own_at _ rfl (.tmp 65) (.tmp 67) 61 rfl wo.heap.size 65 iw (.agg #[.bool false, .slice none 0 0, .slice none 0 0, .bool false, .int .i64 0, .int .i64 0]) 6 80 Try.underlying61 wi wz0 wz1 wz2 rfl (by decide) _ _ _ rfl HOA.out ⟨W8.heap.size, 0, none⟩ 1 1 [.bool t3, .slice D1 i1 b1, .slice D2 i2 b2, .bool fi3, .int .i64 fn3, .int .i64 fd3] rfl rfl ?p1b ?p2b ?p3b ?p4b ?p5b ?_)
            try case p1b => exact news_six _ _ (by simp)
            try case p2b => exact ones_six
            try case p3b => first | (simp only [maxLen]; omega) | omega
            try case p4b => omega
            try case p5b => first | (simp only [World.size_alloc]; omega) | omega
            intro v' w9 hown' hg' _ he
            have hF9 := HNX.out w9 v' _ _ hown' hg'
            have hb9 := HBN.out w9 hg'
            obtain ⟨Ar, cr, rfl, hAr⟩ := hF9.form
            obtain ⟨gr, rfl, hgr, _⟩ := hAr (Nat.succ_pos i)
            obtain ⟨cur, hcur⟩ := hF9.toV
            have HP := Lib.hid (fun (w2 : World) v'' ca tt hown hg => OwnWW.push (w2 := w2) (v' := v'') (c := cr) (ca := ca) (t := tt) HO.out hb9 hcur hgr HB.out.size hown hg)
            have HOB := Lib.hid (World.ownsRow.alloc (ownsRow_below HO.out.row hb9) (.cells #[.slice (some ⟨gr, 0, none⟩) (i + 1) cr] 61))
            have HBB := Lib.hid (fun (w2 : World) (hg : (w9.alloc (.cells #[.slice (some ⟨gr, 0, none⟩) (i + 1) cr] 61)).grownBy w2 (Value.slice Al k cl).ownBlock) => (below_next (Nat.le_refl _) HB.out (hb9.alloc hb9.size _)).trans (grown_below hg (fun g e => (ownsRow_block HO.out.row e).choose_spec.2.1) (Nat.le_trans HB.out.size (hb9.alloc hb9.size _).size)))
            have hs9 := hb9.size
            clear hown' hg' he HNX HOA HBN y0 y1 y2 y3 y4 y5 hF9 hb9 hAr hgr hcur HB HO
            go_wp2_with (at_builtin; refine wpList_append_own_at _ rfl (.tmp 64) (.tmp 69) 112 rfl w.heap.size 61 iv (.slice none 0 0) 1 24 Try.underlying112 vi vz0 vz1 vz2 rfl (by decide) _ _ _ rfl HOB.out ⟨w9.heap.size, 0, none⟩ 1 1 [.slice (some ⟨gr, 0, none⟩) (i + 1) cr] rfl rfl ?p1c ?p2c ?p3c ?p4c ?p5c ?_)
            try case p1c => exact news_one _ _ _ (by simp)
            try case p2c => first | exact one_slice | (intro u hu; simp at hu; subst hu; rfl)
            try case p3c => first | (simp only [maxLen]; omega) | omega
            try case p4c => omega
            try case p5c => first | (simp only [World.size_alloc]; omega) | omega
            intro v'' wA hown' hg' _ _
            have HNA : Hid (SsRel i W w (.int .i64 ((k : Int) + 1)) v'' wA) := Lib.hid ⟨k + 1, _, by simp, hkn, Lib.hid (HP.out wA v'' _ _ hown' hg'), Lib.hid (HBB.out wA hg')⟩
            clear hown' hg' HP HOB HBB
            go_wp2
            go_roundw
            case rel => exact HNA.out
            case measure => simp [intOf]; omega

    · obtain rfl : k = n := by omega
      obtain ⟨gL, rfl, _, _⟩ := hAl (by omega)
      obtain ⟨gs, cp, cm, css, hmat⟩ := HO.out.mat
      have HSV := Lib.hid (solveS_any (c0 := cl) wr hmat h1 h6 HD.out)
      have HB6 := HB
      clear hmat HO HB HD hAl
      go_wp2_with fail
      refine HSV.out.mono ?_
      rintro e w7 ⟨v, cs7, rfl, ho7, hb7⟩
      have HF : Hid (SwRet (eqS k W) k (mD 6) w (.returned (.tuple #[v, .bool (solB (eqS k W) k k)])) w7) := Lib.hid ⟨v, cs7, rfl, ho7.base HB6.out.size, below_next (Nat.le_refl _) HB6.out hb7⟩
      clear ho7 hb7 HSV HB6
      generalize solB (eqS k W) k k = ok at *
      go_wp2
      go_ret2
      exact HF.out

end Go.Proofs.Ytionognmgcabbaa.Wide
/- The reference: a list of fractions of any size is given, if all are small. -/
namespace Go.Proofs.Ytionognmgcabbaa.Wide
open Go.RowKit Go.Proofs.Ytionognmgcabbaa Go.Proofs.Ytionognmgcabbaa.Base Go.Proofs.Ytionognmgcabbaa.Mem Go.Proofs.Ytionognmgcabbaa.RatM Go.Proofs.Ytionognmgcabbaa.BigM Go.Proofs.Ytionognmgcabbaa.Big Go.Proofs.Ytionognmgcabbaa.Fine Go.Proofs.Ytionognmgcabbaa.Blk Go.Proofs.Ytionognmgcabbaa.MemF Go.Proofs.Ytionognmgcabbaa.GiveM
set_option linter.unusedVariables false
set_option maxHeartbeats 2000000 in
set_option maxRecDepth 100000 in
theorem giveS_any {v : Value} {n m : Nat} {f : Nat → Rat} {cs : List Value} (w : World) (hx : OwnW w 0 v n f m cs) (hm : m ≤ 400000) (hn : n ≤ 1000) : Calls Try.prog 32 #[v] w (FsRet (gN f n) (gR f n) (smallAll f n) w) := by
  obtain ⟨A, c, rfl, _⟩ := hx.form
  have HX := Lib.hid hx
  obtain ⟨i2, ki, kz0, kz1, kz2⟩ := info_parts infoFr
  have H0 := Lib.hid (GRel.start f n w)
  clear hx
  go_enter Try.func32, Try.ntmps32
  go_wp2
  go_loopw [5, 4] (fun iv sv wr => GRel f n w iv sv wr) (fun iv _ _ => n - (intOf iv).toNat)
  case atStart => exact H0.out
  case round =>
    obtain ⟨i, rfl, hi, HO, HA, HB⟩ := hrel
    clear H0
    by_cases hlt : i < n
    · obtain ⟨g, s', B1, j1, e1, B2, j2, e2, fb, gn, gd, n', d', rfl, hgl, y0, y1, y2, y3, y4, y5, hp'⟩ := (HX.out.below HB.out).at hlt
      have HE : IsW wr (f i) m (.agg #[.bool s', .slice B1 j1 e1, .slice B2 j2 e2, .bool fb, .int .i64 gn, .int .i64 gd]) := ⟨_, _, _, _, _, _, _, _, _, _, _, _, rfl, hp'⟩
      have HG := Lib.hid (give_any wr HE hm)
      have HF : Hid (∀ w1 w2 v' cs t, smallQ (f i) = true → Below wr.heap.size wr w1 → _ → _ → _) := Lib.hid (fun w1 w2 v' cs t hv h1 hown hg => GRel.next (w1 := w1) (w2 := w2) (v' := v') (cs := cs) (t := t) hlt HO.out HA.out hv HB.out h1 hown hg)
      have HNO := Lib.hid (fun h => GiveM.small_no hlt (show smallQ (f i) = false from h))
      clear HE hp' hgl
      generalize f i = q at *
      unfold FRet at HG
      generalize numQ q = P at *
      generalize denQ q = Q at *
      go_wp2_with fail
      refine HG.out.mono ?_
      rintro e w1 ⟨rfl, hb1⟩
      have HB1 := Lib.hid hb1
      clear hb1 y0 y1 y2 y3 y4 y5 HG
      go_upto_region 6 with (fail)
      obtain ⟨W2, hW2⟩ : ∃ W2, W2 = w1.alloc (.cells #[.int .i64 P, .int .i64 Q] 63) := ⟨_, rfl⟩
      rw [← hW2]
      have K2 : Hid (Blk W2 w1.heap.size 63 #[.int .i64 P, .int .i64 Q]) := Lib.hid (by rw [hW2]; exact Blk.new w1 _ _)
      have HB2 : Hid (Below wr.heap.size wr W2) := Lib.hid (by rw [hW2]; exact HB1.out.alloc HB1.out.size _)
      have hsz := HB.out.size
      have hsz2 := HB2.out.size
      cases hs : smallQ q with
      | false =>
        have HN := Lib.hid (HNO.out hs)
        have HBB := Lib.hid (Base.Below.nextA HB.out HB2.out)
        clear hW2 hs HNO HF
        go_wp2
        go_ret2
        rw [HN.out.1, HN.out.2.1, HN.out.2.2]
        exact FsRet.no HBB.out
      | true =>
        have HNN := Lib.hid (fun w3 v' cs t hown hg => HF.out W2 w3 v' cs t hs HB2.out hown hg)
        have HW2 := Lib.hid (World.ownsRow.alloc (ownsRow_below HO.out HB2.out) (.cells #[.int .i64 P, .int .i64 Q] 63))
        have x0 := K2.out.at 0 (v := .int .i64 P) rfl
        have x1 := K2.out.at 1 (v := .int .i64 Q) rfl
        clear hW2 hs HNO HF HO HA HB HB1 HB2
        go_wp2_with (at_builtin; refine wpList_append_own_at _ rfl (.tmp 25) (.tmp 27) 28 rfl w.heap.size 63 i2 (.agg #[.int .i64 0, .int .i64 0]) 2 16 Try.underlying28 ki kz0 kz1 kz2 rfl (by decide) _ _ _ rfl HW2.out ⟨W2.heap.size, 0, none⟩ 1 1 [.int .i64 P, .int .i64 Q] rfl rfl ?p1a ?p2a ?p3a ?p4a ?p5a ?_)
        try case p1a => exact MemF.news_two _ _ (by simp)
        try case p2a => exact MemF.ones_two
        try case p3a => first | (simp only [maxLen]; omega) | omega
        try case p4a => omega
        try case p5a => first | (simp only [World.size_alloc]; omega) | omega
        intro v' w3 hown' hg' _ he
        have HN3 := Lib.hid (HNN.out w3 v' _ _ hown' hg')
        clear hown' hg' he HNN HW2
        go_wp2
        go_roundw
        case rel => exact HN3.out
        case measure => simp [intOf]; omega
    · obtain rfl : i = n := by omega
      obtain ⟨A', cp, rfl, _⟩ := HO.out.form
      have HY := Lib.hid (GiveM.small_yes' HA.out)
      clear HA
      go_wp2
      go_ret2
      rw [HY.out.1, HY.out.2.1, HY.out.2.2]
      exact ⟨A', cp, rfl, HO.out, HB.out⟩
end Go.Proofs.Ytionognmgcabbaa.Wide
