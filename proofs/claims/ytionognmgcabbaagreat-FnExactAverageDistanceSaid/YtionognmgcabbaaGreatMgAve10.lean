/- Plain: what rows make of a source. -/
import Derived.Test.YtionognmgcabbaaGreatMgAve09
import Derived.Test.YtionognmgcabbaaGreatMgAve08
import Derived.Deep.Cut
import Derived.Test.YtionognmgcabbaaGreatMgAve00
import Derived.Shelf.Lay
import Derived.Shelf.Strconv.Itoa0
import Derived.Lib.ItoaNum
import Derived.Test.YtionognmgcabbaaGreatMgAve07
import Derived.Laws.IdiomCopy
namespace Go.Proofs.YtionognmgcabbaaGreat.ExtM
open Go.RowKit Go.Proofs.YtionognmgcabbaaGreat Go.Proofs.YtionognmgcabbaaGreat.Base Go.Proofs.YtionognmgcabbaaGreat.RatM Go.Proofs.YtionognmgcabbaaGreat.GaussM Go.Proofs.YtionognmgcabbaaGreat.ChM Go.Proofs.YtionognmgcabbaaGreat.RowN
set_option linter.unusedVariables false
/-- the chances of the first n numbers of a source that rows make y of, one after another -/
def sel (xs fs : List Int) (y : Nat) : Nat → List Rat
  | 0 => []
  | n + 1 => if rowK xs n xs.length = y then sel xs fs y n ++ [fq fs n] else sel xs fs y n
/-- their sum -/
def exQ (xs fs : List Int) (n y : Nat) : Rat := sumR n (fun x => if rowK xs x xs.length = y then fq fs x else 0)
def lsum (l : List Rat) : Rat := sumR l.length (fun i => l.getD i 0)
theorem lsum_snoc (l : List Rat) (q : Rat) : lsum (l ++ [q]) = lsum l + q := by
  unfold lsum
  rw [List.length_append, List.length_singleton, sumR]
  have e1 : (l ++ [q]).getD l.length 0 = q := by simp [List.getD_eq_getElem?_getD]
  have e2 : sumR l.length (fun i => (l ++ [q]).getD i 0) = sumR l.length (fun i => l.getD i 0) := sumR_congr fun j hj => by
    simp only [List.getD_eq_getElem?_getD]
    rw [List.getElem?_append_left hj]
  rw [e2]
  show _ + (l ++ [q]).getD l.length 0 = _
  rw [e1]
theorem sel_sum (xs fs : List Int) (y : Nat) : ∀ n, lsum (sel xs fs y n) = exQ xs fs n y
  | 0 => rfl
  | n + 1 => by
    have ih := sel_sum xs fs y n
    show lsum (sel xs fs y (n + 1)) = sumR n _ + _
    unfold sel
    split
    · rename_i h
      rw [lsum_snoc, ih]
      simp only [h, if_true]
      rfl
    · rename_i h
      rw [ih]
      simp only [h, if_false]
      rw [exQ]; grind
theorem sel_len (xs fs : List Int) (y : Nat) : ∀ n, (sel xs fs y n).length ≤ n
  | 0 => Nat.le_refl _
  | n + 1 => by
    have ih := sel_len xs fs y n
    unfold sel
    split
    · rw [List.length_append, List.length_singleton]; omega
    · omega
theorem sel_hit {xs fs : List Int} {y n : Nat} (h : rowK xs n xs.length = y) : sel xs fs y (n + 1) = sel xs fs y n ++ [fq fs n] := by rw [sel, if_pos h]
theorem sel_miss {xs fs : List Int} {y n : Nat} (h : rowK xs n xs.length ≠ y) : sel xs fs y (n + 1) = sel xs fs y n := by rw [sel, if_neg h]
theorem exQ_hit {xs fs : List Int} {y n : Nat} (h : rowK xs n xs.length = y) : exQ xs fs (n + 1) y = exQ xs fs n y + fq fs n := by
  show sumR n _ + _ = _
  simp only [h, if_true]; rfl
theorem exQ_miss {xs fs : List Int} {y n : Nat} (h : rowK xs n xs.length ≠ y) : exQ xs fs (n + 1) y = exQ xs fs n y := by
  show sumR n _ + _ = _
  simp only [h, if_false]; rw [exQ]; grind
/-- sizes of the partial sums -/
theorem dgb_exQ {xs fs : List Int} {n y : Nat} (hv : AllVF fs n) (hn : n ≤ 16) : Dg (NatM.B32 ^ 49) (exQ xs fs n y) := by
  have h := Ratio.dgb_sum (n := n) (m := 2) (f := fun x => if rowK xs x xs.length = y then fq fs x else 0) (fun i hi => by
    show Dg _ (if _ then _ else _)
    split
    · exact Ratio.dgb_vf (hv i hi)
    · exact Ratio.dgb_zero (by omega))
  exact Ratio.dgb_more h (by omega)
theorem AllVF.less {fs : List Int} {n m : Nat} (h : AllVF fs n) (hm : m ≤ n) : AllVF fs m := fun i hi => h i (by omega)
end Go.Proofs.YtionognmgcabbaaGreat.ExtM
/- Plain: the distance of chances; sizes over a common denominator. -/
namespace Go.Proofs.YtionognmgcabbaaGreat.Ratio
open Go.RowKit Go.Proofs.YtionognmgcabbaaGreat Go.Proofs.YtionognmgcabbaaGreat.Base Go.Proofs.YtionognmgcabbaaGreat.Mem Go.Proofs.YtionognmgcabbaaGreat.NatM Go.Proofs.YtionognmgcabbaaGreat.Nat32 Go.Proofs.YtionognmgcabbaaGreat.RatM Go.Proofs.YtionognmgcabbaaGreat.GaussM Go.Proofs.YtionognmgcabbaaGreat.ChM
set_option linter.unusedVariables false
theorem qf_half : qf 1 2 = (2 : Rat)⁻¹ := by decide +kernel
/-- the distance of lists -/
def disR (n : Nat) (f g : Nat → Rat) : Rat := sumR n (fun i => absR (f i - g i)) * (2 : Rat)⁻¹
theorem disR_congr {n : Nat} {f f' g g' : Nat → Rat} (h1 : ∀ i, i < n → f i = f' i) (h2 : ∀ i, i < n → g i = g' i) : disR n f g = disR n f' g' := by
  unfold disR
  rw [sumR_congr fun j hj => by rw [h1 j hj, h2 j hj]]
theorem ov_abs {D b : Nat} {q : Rat} (h : Ov D b q) : Ov D b (absR q) := h.abs
theorem ov_sum {D b n : Nat} {f : Nat → Rat} (h : ∀ i, i < n → Ov D b (f i)) : Ov D (n * b) (sumR n f) := by
  induction n with
  | zero => rw [Nat.zero_mul]; exact Ov.zero D
  | succ n ih =>
    rw [Nat.add_mul, Nat.one_mul]
    exact (ih fun i hi => h i (by omega)).add (h n (by omega))
/-- how great such a number is -/
theorem ov_dg {D b m : Nat} {q : Rat} (hD : 0 < D) (h : Ov D b q) (hm : D < B32 ^ m) (hm2 : b * D < B32 ^ m) : Dg (B32 ^ m) q := by
  obtain ⟨h1, h2⟩ := h.parts hD
  exact ⟨by omega, by omega⟩
theorem ov_sz {D b m : Nat} {q : Rat} (hD : 0 < D) (hb : 0 < b) (h : Ov D b q) (hm : b * D < B32 ^ m) : szR q ≤ 2 * m := by
  refine dgb_sz (ov_dg hD h ?_ hm)
  exact Nat.lt_of_le_of_lt (Nat.le_mul_of_pos_left D hb) hm
/-- the product of the denominators -/
def denP (fs : List Int) : Nat → Nat
  | 0 => 1
  | n + 1 => denP fs n * (fs.getD (2 * n + 1) 0).toNat
theorem denP_pos {fs : List Int} : ∀ {n : Nat}, AllVF fs n → 0 < denP fs n
  | 0, _ => Nat.one_pos
  | n + 1, h => Nat.mul_pos (denP_pos fun i hi => h i (by omega)) (by have := (h n (by omega)).1; omega)
theorem denP_le {fs : List Int} : ∀ {n : Nat}, AllVF fs n → denP fs n ≤ 1000000000000000000 ^ n
  | 0, _ => Nat.le_refl _
  | n + 1, h => by
    rw [Nat.pow_succ]
    refine Nat.mul_le_mul (denP_le fun i hi => h i (by omega)) ?_
    have := (h n (by omega)).2.1
    omega
theorem denP_dvd {fs : List Int} : ∀ {n i : Nat}, i < n → (fs.getD (2 * i + 1) 0).toNat ∣ denP fs n
  | 0, _, h => absurd h (Nat.not_lt_zero _)
  | n + 1, i, h => by
    rcases Nat.lt_or_ge i n with h1 | h1
    · exact Nat.dvd_trans (denP_dvd h1) (Nat.dvd_mul_right _ _)
    · obtain rfl : i = n := by omega
      exact Nat.dvd_mul_left _ _
theorem ov_of {q : Rat} {D b : Nat} (hd : q.den ∣ D) (hn : q.num.natAbs ≤ b) : Ov D b q := by
  obtain ⟨k, rfl⟩ := hd
  have e1 : q * (q.den : Rat) = (q.num : Rat) := num_of q
  have h1 : (1 : Rat) ≤ (q.den : Rat) := by
    have := cast_le (show 1 ≤ q.den from q.den_pos)
    exact this
  have hb0 : (0 : Rat) ≤ (b : Rat) := Rat.natCast_nonneg
  have hb : -(b : Rat) ≤ (q.num : Rat) ∧ (q.num : Rat) ≤ (b : Rat) := by
    have h2 := cast_le hn
    have h0 : (0 : Rat) ≤ ((q.num.natAbs : Nat) : Rat) := Rat.natCast_nonneg
    rcases Int.natAbs_eq q.num with e | e
    · have : (q.num : Rat) = (q.num.natAbs : Rat) := by rw [e]; simp; rfl
      exact ⟨by grind, by grind⟩
    · have : (q.num : Rat) = -(q.num.natAbs : Rat) := by rw [e]; simp; rfl
      exact ⟨by grind, by grind⟩
  refine ⟨⟨q.num * (k : Int), ?_⟩, ?_, ?_⟩
  · rw [Rat.natCast_mul, ← Rat.mul_assoc, e1, Rat.intCast_mul]; rfl
  · by_cases h : 0 ≤ q
    · grind
    · have h2 := Rat.mul_le_mul_of_nonneg_left (c := -q) h1 (by grind)
      grind
  · by_cases h : 0 ≤ q
    · have h2 := Rat.mul_le_mul_of_nonneg_left (c := q) h1 h
      grind
    · grind
theorem ov_vf {n d : Int} {D : Nat} (h : VF n d) (hd : d.toNat ∣ D) : Ov D 1000000000000000000 (qf n d) := by
  obtain ⟨g1, g2, _⟩ := h.num
  refine ov_of ?_ ?_
  · rw [show (qf n d).den = d.toNat by omega]; exact hd
  · rw [g1]; have := h.2.2.1; have := h.2.2.2.1; omega
theorem ov_fq {fs : List Int} {n i : Nat} (h : AllVF fs n) (hi : i < n) : Ov (denP fs n) 1000000000000000000 (fq fs i) := ov_vf (h i hi) (denP_dvd hi)
end Go.Proofs.YtionognmgcabbaaGreat.Ratio
/- The program: the distance of lists. -/
namespace Go.Proofs.YtionognmgcabbaaGreat.Ratio
open Go.RowKit Go.Proofs.YtionognmgcabbaaGreat Go.Proofs.YtionognmgcabbaaGreat.Base Go.Proofs.YtionognmgcabbaaGreat.Mem Go.Proofs.YtionognmgcabbaaGreat.NatM Go.Proofs.YtionognmgcabbaaGreat.Nat32 Go.Proofs.YtionognmgcabbaaGreat.RatM Go.Proofs.YtionognmgcabbaaGreat.Blk Go.Proofs.YtionognmgcabbaaGreat.MemF Go.Proofs.YtionognmgcabbaaGreat.ChM Go.Proofs.YtionognmgcabbaaGreat.GaussM
open Go.Proofs.YtionognmgcabbaaGreat.Inv (natOf natOf_eq len_pos Rat3 not_slice not_bool frz)
set_option linter.unusedVariables false
theorem RV.put {w wq : World} {q : Rat} {b : Nat} {t : Bool} {C1 C2 : Option Addr} {m1 l1 m2 l2 : Nat} {s : Bool} {A1 A2 : Option Addr} {k1 c1 k2 c2 : Nat} (h : IsRt wq q (.agg #[.bool t, .slice C1 m1 l1, .slice C2 m2 l2])) (K : Blk wq b 87 #[.bool s, .slice A1 k1 c1, .slice A2 k2 c2]) (hb : Below w.heap.size w wq) (hB : w.heap.size ≤ b) :
    RV q w (.returned (.agg #[.bool t, .slice C1 m1 l1, .slice C2 m2 l2])) (put3 wq b (.bool t) (.slice C1 m1 l1) (.slice C2 m2 l2)) := (h.put3 K _ _ _).ret (put3_below hb hB _ _ _)
/-- the sum of the differences so far -/
def dsum (f g : Nat → Rat) (i : Nat) : Rat := sumR i (fun j => absR (f j - g j))
/-- the sizes of all that is reckoned -/
def DisOk (n : Nat) (f g : Nat → Rat) : Prop := (∀ i, i < n → szR (f i) ≤ 200000 ∧ szR (g i) ≤ 200000 ∧ szR (f i - g i) ≤ 200000) ∧ ∀ i, i ≤ n → szR (dsum f g i) ≤ 200000
def DisRel (f g : Nat → Rat) (n g3 : Nat) (w : World) (iv : Value) (wr : World) : Prop :=
  ∃ (i : Nat) (s : Bool) (A1 : Option Addr) (k1 c1 : Nat) (A2 : Option Addr) (k2 c2 : Nat), iv = .int .i64 (i : Int) ∧ i ≤ n ∧ Hid (Blk wr g3 87 #[.bool s, .slice A1 k1 c1, .slice A2 k2 c2]) ∧ Hid (IsRt wr (dsum f g i) (.agg #[.bool s, .slice A1 k1 c1, .slice A2 k2 c2])) ∧ Hid (Blk wr w.heap.size 87 #[.bool false, .slice none 0 0, .slice none 0 0]) ∧ Hid (Below w.heap.size w wr)
set_option maxHeartbeats 1000000 in
set_option maxRecDepth 100000 in
theorem disI_any {A A' : Option Addr} {c c' n : Nat} {f g : Nat → Rat} (w : World) (hx : RdR w A n f) (hy : RdR w A' n g) (hn : n ≤ 1000) (hz : DisOk n f g) : Calls Tryz.prog 106 #[.slice A n c, .slice A' n c'] w (RV (disR n f g) w) := by
  have HX := Lib.hid hx
  have HY := Lib.hid hy
  have HZ0 := Lib.hid hz
  have KR0 : Hid (Blk (w.alloc (.cells #[.bool false, .slice none 0 0, .slice none 0 0] 87)) w.heap.size 87 #[.bool false, .slice none 0 0, .slice none 0 0]) := Lib.hid (Blk.new w _ _)
  have HB0 : Hid (Below w.heap.size w (w.alloc (.cells #[.bool false, .slice none 0 0, .slice none 0 0] 87))) := Lib.hid ((Below.refl _ _).alloc (Nat.le_refl _) _)
  clear hx hy hz
  go_enter Tryz.func106, Tryz.ntmps106
  go_wp2_with fail
  refine (whole_rt 0 0 (by decide) ⟨rfl, rfl, by decide⟩ _).mono ?_
  rintro e w2 ⟨v, rfl, hv0, hb2⟩
  obtain ⟨s, A1, k1, c1, A2, k2, c2, rfl, hv⟩ := hv0.open
  have HB2 := Lib.hid (Base.Below.nextA HB0.out hb2)
  have KR2 := Lib.hid (KR0.out.belowS hb2)
  have HI0 := Lib.hid hv
  clear hb2 hv hv0 KR0 HB0
  go_upto_region 2 with (fail)
  obtain ⟨W3, hW3⟩ : ∃ W3, W3 = w2.alloc (.cells #[.bool s, .slice A1 k1 c1, .slice A2 k2 c2] 87) := ⟨_, rfl⟩
  rw [← hW3]
  obtain ⟨g3, hg3⟩ : ∃ g3, g3 = w2.heap.size := ⟨_, rfl⟩
  rw [← hg3]
  have hlt3 : w.heap.size < g3 := by rw [hg3]; exact KR2.out.lt
  have H0 : Hid (DisRel f g n g3 w (.int .i64 0) W3) := Lib.hid (by
    have hb3 : Below w2.heap.size w2 W3 := by rw [hW3]; exact (Below.refl _ _).alloc (Nat.le_refl _) _
    exact ⟨0, s, A1, k1, c1, A2, k2, c2, rfl, Nat.zero_le _, Lib.hid (by rw [hW3, hg3]; exact Blk.new w2 _ _), Lib.hid (HI0.out.below hb3), Lib.hid (KR2.out.belowS hb3), Lib.hid (Base.Below.nextA HB2.out hb3)⟩)
  clear hW3 hg3 HI0 HB2 KR2
  go_wp2
  go_loopw [11] (fun iv wr => DisRel f g n g3 w iv wr) (fun iv _ => n - (intOf iv).toNat)
  case atStart => exact H0.out
  case round =>
    obtain ⟨i, s, A1, k1, c1, A2, k2, c2, rfl, hi, K3r, HIr, KRr, HB⟩ := hrel
    clear H0
    by_cases hlt : i < n
    · obtain ⟨ga, s2, B1, j1, e1, B2, j2, e2, rfl, hgl, y0, y1, y2, hpj⟩ := (HX.out.below HB.out).at hlt
      obtain ⟨gb, s4, D1, i1, f1, D2, i2, f2, rfl, hgl2, u0, u1, u2, hpk⟩ := (HY.out.below HB.out).at hlt
      have HSM : Hid (dsum f g (i + 1) = dsum f g i + absR (f i - g i)) := Lib.hid rfl
      have HZ : Hid (szR (f i) ≤ 200000 ∧ szR (g i) ≤ 200000 ∧ szR (dsum f g i) ≤ 200000 ∧ szR (absR (f i - g i)) ≤ 200000) := Lib.hid (by
        obtain ⟨h1, h2, h3⟩ := HZ0.out.1 i hlt
        exact ⟨h1, h2, HZ0.out.2 i hi, by rw [szR_abs]; exact h3⟩)
      generalize f i = x at *
      generalize g i = y at *
      generalize hs0 : dsum f g i = s0 at *
      have HS0 := Lib.hid hs0
      clear hs0
      go_upto_region 5 with (fail)
      obtain ⟨W1, hW1⟩ : ∃ W1, W1 = wr.alloc (.cells #[.bool s2, .slice B1 j1 e1, .slice B2 j2 e2] 87) := ⟨_, rfl⟩
      rw [← hW1]
      obtain ⟨g5, hg5⟩ : ∃ g5, g5 = wr.heap.size := ⟨_, rfl⟩
      rw [← hg5]
      have KF : Hid (Blk W1 g5 87 #[.bool s2, .slice B1 j1 e1, .slice B2 j2 e2]) := Lib.hid (by rw [hW1, hg5]; exact Blk.new wr _ _)
      have hbw : Below wr.heap.size wr W1 := by rw [hW1]; exact (Below.refl _ _).alloc (Nat.le_refl _) _
      have K3 := Lib.hid (K3r.out.belowS hbw)
      have KR := Lib.hid (KRr.out.belowS hbw)
      have HS := Lib.hid (HIr.out.below hbw)
      have HJ := Lib.hid (hpj.below hbw)
      have HK := Lib.hid (hpk.below hbw)
      have HB1 := Lib.hid (Base.Below.nextA HB.out hbw)
      have HV : Hid (∀ W, Below W1.heap.size W1 W → W.cell? ⟨gb, i * 3, none⟩ = some (.bool s4) ∧ W.cell? ⟨gb, i * 3 + 1, none⟩ = some (.slice D1 i1 f1) ∧ W.cell? ⟨gb, i * 3 + 2, none⟩ = some (.slice D2 i2 f2)) := Lib.hid fun W hW => by
        have hb := Base.Below.nextA hbw hW
        exact ⟨(hb.cell (p := ⟨gb, i * 3, none⟩) hgl2).trans u0, (hb.cell (p := ⟨gb, i * 3 + 1, none⟩) hgl2).trans u1, (hb.cell (p := ⟨gb, i * 3 + 2, none⟩) hgl2).trans u2⟩
      clear hW1 hg5 hbw K3r KRr HIr hpj hpk HB y0 y1 y2 u0 u1 u2 hgl hgl2
      refine Rel.wp_region_rel 9 (by kernel_rfl) (by kernel_rfl) (fun F hF => ?_)
      simp only [List.take_succ_cons, List.take_zero, List.drop_succ_cons, List.drop_zero, Rel.putL] at hF ⊢
      have HF := Lib.hid hF
      clear hF
      have uv := @Rel.upon_value Tryz.prog
      have ue := @Rel.upon_enter Tryz.prog
      apply Rel.rel_pure
      apply Exists.intro
      refine ⟨fun vs wq hq hdp R hR => ?_, ?_⟩
      · (rw [HF.out, Rel.stepAt_eq]; clear hdp; have x0 := (K3.out.belowS hq).at 0 (v := .bool s) rfl; have x1 := (K3.out.belowS hq).at 1 (v := .slice A1 k1 c1) rfl; have x2 := (K3.out.belowS hq).at 2 (v := .slice A2 k2 c2) rfl; go_simp; exact hR)
      apply Rel.rel_pure
      apply Exists.intro
      refine ⟨fun vs wq hq hdp R hR => ?_, ?_⟩
      · (rw [HF.out, Rel.stepAt_eq]; clear hdp; have y0 := (KF.out.belowS hq).at 0 (v := .bool s2) rfl; have y1 := (KF.out.belowS hq).at 1 (v := .slice B1 j1 e1) rfl; have y2 := (KF.out.belowS hq).at 2 (v := .slice B2 j2 e2) rfl; go_simp; exact hR)
      apply Rel.rel_pure
      apply Exists.intro
      refine ⟨fun vs wq hq hdp R hR => ?_, ?_⟩
      · (rw [HF.out, Rel.stepAt_eq]; clear hdp; skip; go_simp; exact hR)
      apply Rel.rel_pure
      apply Exists.intro
      refine ⟨fun vs wq hq hdp R hR => ?_, ?_⟩
      · (rw [HF.out, Rel.stepAt_eq]; clear hdp; skip; go_simp; exact hR)
      apply Rel.rel_pure
      apply Exists.intro
      refine ⟨fun vs wq hq hdp R hR => ?_, ?_⟩
      · (rw [HF.out, Rel.stepAt_eq]; have qd2 : vs 2 = _ := Rel.dep hdp 2 (by kernel_rfl); have qd3 : vs 3 = _ := Rel.dep hdp 3 (by kernel_rfl); clear hdp; skip; go_simp; exact hR)
      apply Rel.rel_pure
      apply Exists.intro
      refine ⟨fun vs wq hq hdp R hR => ?_, ?_⟩
      · (rw [HF.out, Rel.stepAt_eq]; have qd4 : vs 4 = _ := Rel.dep hdp 4 (by kernel_rfl); clear hdp; obtain ⟨v0, v1, v2⟩ := HV.out wq hq; go_simp; exact hR)
      refine Rel.rel_law (S := fun v w' => IsRt w' (x - y) v) (isRt_mono _) (fun vs wq hq hdp => ?_) ?_
      · (rw [HF.out, Rel.stepAt_eq]; have qd1 : vs 1 = _ := Rel.dep hdp 1 (by kernel_rfl); have qd5 : vs 5 = _ := Rel.dep hdp 5 (by kernel_rfl); clear hdp; skip; go_simp; refine (ratMinus wq (HJ.out.below hq) (HK.out.below hq) HZ.out.1 HZ.out.2.1).mono ?_; rintro e w7 h; obtain ⟨v, rfl, hv, hb⟩ := h.is; exact ⟨_, rfl, hv, hb⟩)
      refine Rel.rel_law (S := fun v w' => IsRt w' (absR (x - y)) v) (isRt_mono _) (fun vs wq hq hdp => ?_) ?_
      · (rw [HF.out, Rel.stepAt_eq]; have qd6 : IsRt wq _ (vs 6) := Rel.dep hdp 6 (by kernel_rfl); clear hdp; skip; go_simp; refine (ratAbs wq qd6).mono ?_; rintro e w7 h; obtain ⟨v, rfl, hv, hb⟩ := h.is; exact ⟨_, rfl, hv, hb⟩)
      refine Rel.rel_law (S := fun v w' => IsRt w' (s0 + absR (x - y)) v) (isRt_mono _) (fun vs wq hq hdp => ?_) ?_
      · (rw [HF.out, Rel.stepAt_eq]; have qd0 : vs 0 = _ := Rel.dep hdp 0 (by kernel_rfl); have qd7 : IsRt wq _ (vs 7) := Rel.dep hdp 7 (by kernel_rfl); clear hdp; skip; go_simp; refine (ratPlus wq (HS.out.below hq) qd7 HZ.out.2.2.1 HZ.out.2.2.2).mono ?_; rintro e w7 h; obtain ⟨v, rfl, hv, hb⟩ := h.is; exact ⟨_, rfl, hv, hb⟩)
      refine Rel.rel_end (fun vs wq hq hall => ?_)
      rw [HF.out]
      have qe0 : vs 0 = _ := Rel.fin hall 0 (by decide)
      have qe1 : vs 1 = _ := Rel.fin hall 1 (by decide)
      have qe2 : vs 2 = _ := Rel.fin hall 2 (by decide)
      have qe3 : vs 3 = _ := Rel.fin hall 3 (by decide)
      have qe4 : vs 4 = _ := Rel.fin hall 4 (by decide)
      have qe5 : vs 5 = _ := Rel.fin hall 5 (by decide)
      have qe6 : IsRt wq _ (vs 6) := Rel.fin hall 6 (by decide)
      have qe7 : IsRt wq _ (vs 7) := Rel.fin hall 7 (by decide)
      have qe8 : IsRt wq _ (vs 8) := Rel.fin hall 8 (by decide)
      clear hall HF uv ue
      obtain ⟨t, C1, m1, l1, C2, m2, l2, ev, hI⟩ := qe8.open
      have K3q := K3.out.belowS hq
      have HN : Hid (DisRel f g n g3 w (.int .i64 ((i : Int) + 1)) (put3 wq g3 (.bool t) (.slice C1 m1 l1) (.slice C2 m2 l2))) := Lib.hid
        ⟨i + 1, t, C1, m1, l1, C2, m2, l2, by simp, hlt, Lib.hid (put3_blk K3q _ _ _), Lib.hid (by rw [HSM.out]; exact hI.put3 K3q _ _ _), Lib.hid (put3_other (KR.out.belowS hq) (by omega) _ _ _), Lib.hid (put3_below (Base.Below.nextA HB1.out hq) (by omega) _ _ _)⟩
      have z0 := K3q.frz 0
      have z1 := K3q.frz 1
      have z2 := K3q.frz 2
      have d0 := K3q.at 0 (v := .bool s) rfl
      have d1 := K3q.at 1 (v := .slice A1 k1 c1) rfl
      have d2 := K3q.at 2 (v := .slice A2 k2 c2) rfl
      unfold put3 at HN
      clear K3q hI qe6 qe7 qe8 qe0 qe1 qe2 qe3 qe4 qe5 hq K3 KF HS HJ HK HV HB1 HZ HSM KR
      go_wp2
      go_roundw
      case rel => exact HN.out
      case measure => simp [intOf]; omega
    · obtain rfl : i = n := by omega
      have HZ : Hid (szR (dsum f g i) ≤ 200000 ∧ szR (2 : Rat) ≤ 200000) := Lib.hid ⟨HZ0.out.2 i (Nat.le_refl _), by
        have : Dg (B32 ^ 1) (2 : Rat) := ⟨by decide, by decide⟩
        have := dgb_sz this
        omega⟩
      have HRES : Hid (disR i f g = dsum f g i * (2 : Rat)⁻¹) := Lib.hid rfl
      have K3 := Lib.hid K3r.out
      have HS := Lib.hid HIr.out
      clear K3r HIr
      generalize dsum f g i = s0 at *
      go_upto_region 7 with (fail)
      refine Rel.wp_region_rel 3 (by kernel_rfl) (by kernel_rfl) (fun F hF => ?_)
      simp only [List.take_succ_cons, List.take_zero, List.drop_succ_cons, List.drop_zero, Rel.putL] at hF ⊢
      have HF := Lib.hid hF
      clear hF
      have uv := @Rel.upon_value Tryz.prog
      have ue := @Rel.upon_enter Tryz.prog
      apply Rel.rel_pure
      apply Exists.intro
      refine ⟨fun vs wq hq hdp R hR => ?_, ?_⟩
      · (rw [HF.out, Rel.stepAt_eq]; clear hdp; have x0 := (K3.out.belowS hq).at 0 (v := .bool s) rfl; have x1 := (K3.out.belowS hq).at 1 (v := .slice A1 k1 c1) rfl; have x2 := (K3.out.belowS hq).at 2 (v := .slice A2 k2 c2) rfl; go_simp; exact hR)
      refine Rel.rel_law (S := fun v w' => IsRt w' 2 v) (isRt_mono _) (fun vs wq hq hdp => ?_) ?_
      · (rw [HF.out, Rel.stepAt_eq]; clear hdp; skip; go_simp; exact whole_rt 2 2 (by decide) ⟨rfl, rfl, by decide⟩ _)
      refine Rel.rel_law (S := fun v w' => IsRt w' (s0 * (2 : Rat)⁻¹) v) (isRt_mono _) (fun vs wq hq hdp => ?_) ?_
      · (rw [HF.out, Rel.stepAt_eq]; have qd0 : vs 0 = _ := Rel.dep hdp 0 (by kernel_rfl); have qd1 : IsRt wq _ (vs 1) := Rel.dep hdp 1 (by kernel_rfl); clear hdp; skip; go_simp; refine (ratOver wq (HS.out.below hq) qd1 HZ.out.1 HZ.out.2 (by decide)).mono ?_; rintro e w7 h; obtain ⟨v, rfl, hv, hb⟩ := h.is; exact ⟨_, rfl, hv, hb⟩)
      refine Rel.rel_end (fun vs wq hq hall => ?_)
      rw [HF.out]
      have qe0 : vs 0 = _ := Rel.fin hall 0 (by decide)
      have qe1 : IsRt wq _ (vs 1) := Rel.fin hall 1 (by decide)
      have qe2 : IsRt wq _ (vs 2) := Rel.fin hall 2 (by decide)
      clear hall HF uv ue
      obtain ⟨t, C1, m1, l1, C2, m2, l2, ev, hI⟩ := qe2.open
      have KRq := KRr.out.belowS hq
      have HBq := Base.Below.nextA HB.out hq
      have HI2 : Hid (IsRt wq (disR i f g) (.agg #[.bool t, .slice C1 m1 l1, .slice C2 m2 l2])) := Lib.hid (by rw [HRES.out]; exact hI)
      clear hI qe0 qe1 qe2 hq K3 HS HZ KRr HB HRES
      have z0 := (KRq).frz 0
      have z1 := (KRq).frz 1
      have z2 := (KRq).frz 2
      have c0 := (KRq).at 0 (v := .bool false) rfl
      have c1 := (KRq).at 1 (v := .slice none 0 0) rfl
      have c2 := (KRq).at 2 (v := .slice none 0 0) rfl
      have SS := put3_blk (KRq) (.bool t) (.slice C1 m1 l1) (.slice C2 m2 l2)
      unfold put3 at SS
      have s0 := SS.at 0 rfl
      have s1 := SS.at 1 rfl
      have s2 := SS.at 2 rfl
      have HFIN := Lib.hid (RV.put (HI2.out) (KRq) (HBq) (Nat.le_refl _))
      unfold put3 at HFIN
      clear SS
      go_wp2
      refine bodyPost_ret (v := .agg #[.bool t, .slice C1 m1 l1, .slice C2 m2 l2]) (by simp [results, Tryz.results106, go_sem, s0, s1, s2]) rfl ?_
      exact HFIN.out
end Go.Proofs.YtionognmgcabbaaGreat.Ratio
/- The degree of a number as the program counts it. -/
namespace Go.Proofs
open Go.Shelf
def YtionognmgcabbaaGreat.layd129_ren : Go.Shelf.Ren := ⟨fun | 129 => 185 | n => n, fun | 53 => 176 | 3 => 3 | 4 => 4 | 46 => 150 | 5 => 5 | 9 => 9 | n => n, fun | n => n⟩
theorem YtionognmgcabbaaGreat.layd129 : Go.Proofs.Lays.n129 Tryz.prog YtionognmgcabbaaGreat.layd129_ren := {
  mixed := by kernel_rfl
  f129 := Tryz.func185.trans (congrArg some (by kernel_rfl))
  t3 := Tryz.underlying3
  a3 := Tryz.isAgg3
  z3 := Tryz.sizeOf3
  v3 := Tryz.zeroValue3
  t4 := Tryz.underlying4
  a4 := Tryz.isAgg4
  z4 := Tryz.sizeOf4
  v4 := Tryz.zeroValue4
  t5 := Tryz.underlying5
  a5 := Tryz.isAgg5
  z5 := Tryz.sizeOf5
  v5 := Tryz.zeroValue5
  t9 := Tryz.underlying9
  a9 := Tryz.isAgg9
  z9 := Tryz.sizeOf9
  v9 := Tryz.zeroValue9
  t46 := Tryz.underlying150
  a46 := Tryz.isAgg150
  z46 := Tryz.sizeOf150
  v46 := Tryz.zeroValue150
  t53 := Tryz.underlying176
  a53 := Tryz.isAgg176
  z53 := Tryz.sizeOf176
  v53 := Tryz.zeroValue176 }
end Go.Proofs
namespace Go.Proofs.YtionognmgcabbaaGreat.Deg
open Go.RowKit Go.Proofs.YtionognmgcabbaaGreat Go.Proofs.YtionognmgcabbaaGreat.Base
theorem bitLen_le (p : Nat) (h : p < 9223372036854775808) : Lib.bitLen p ≤ 64 := by
  by_cases h0 : p = 0
  · subst h0; decide
  · have hb := Lib.bitLenAux_bounds 64 p (by omega) (by omega)
    have e0 : Lib.bitLenAux 64 p = Lib.bitLen p := rfl
    rw [e0] at hb
    rcases Nat.lt_or_ge 64 (Lib.bitLen p) with h | h
    · have := Nat.pow_le_pow_right (n := 2) (by decide) (show 64 ≤ Lib.bitLen p - 1 by omega)
      have e : (2 : Nat) ^ 64 = 18446744073709551616 := by decide
      omega
    · exact h
theorem degree_of (p : Nat) (h : p < 9223372036854775808) (w : World) : Calls Tryz.prog 166 #[.int .i64 (p : Int)] w fun e w' => e = .returned (.int .i64 ((Lib.bitLen p : Int) - 1)) ∧ w = w' := by
  have hb := bitLen_le p h
  have HL := Lib.hid (fun w => (Any.bits_Len64 YtionognmgcabbaaGreat.layd129 (p : Int) w (by omega) (by omega)))
  rw [Int.toNat_natCast] at HL
  go_enter Tryz.func166, Tryz.ntmps166
  go_wp2_with fail
  refine (HL.out _).mono ?_
  rintro e w' ⟨rfl, rfl⟩
  go_wp2
  go_ret
  exact ⟨rfl, rfl⟩
end Go.Proofs.YtionognmgcabbaaGreat.Deg
/- The program: the bits of a source. -/
namespace Go.Proofs.YtionognmgcabbaaGreat.Ratio
open Go.RowKit Go.Proofs.YtionognmgcabbaaGreat Go.Proofs.YtionognmgcabbaaGreat.Base Go.Proofs.YtionognmgcabbaaGreat.Mem Go.Proofs.YtionognmgcabbaaGreat.NatM Go.Proofs.YtionognmgcabbaaGreat.Nat32 Go.Proofs.YtionognmgcabbaaGreat.RatM Go.Proofs.YtionognmgcabbaaGreat.Blk Go.Proofs.YtionognmgcabbaaGreat.MemF Go.Proofs.YtionognmgcabbaaGreat.ChM Go.Proofs.YtionognmgcabbaaGreat.ValF Go.Proofs.YtionognmgcabbaaGreat.GaussM Go.Proofs.YtionognmgcabbaaGreat.Deg
set_option linter.unusedVariables false
theorem chB_range {fs : List Int} {n : Nat} (h : chB fs n = true) : 1 ≤ n ∧ n ≤ 16 := by
  simp only [chB, Bool.and_eq_true, decide_eq_true_eq] at h
  exact ⟨h.1, h.2.1⟩
/-- what is said of a source -/
def SrcRet (fs : List Int) (n : Nat) (w : World) (e : Ending) (w' : World) : Prop := ∃ d : Int, e = .returned (.tuple #[.int .i64 d, .bool (decide (bitsQ fs n ≠ 0))]) ∧ (bitsQ fs n ≠ 0 → d = ((bitsQ fs n : Nat) : Int)) ∧ Below w.heap.size w w'
theorem SrcRet.no {fs : List Int} {n : Nat} {w w' : World} {d : Int} (h : bitsQ fs n = 0) (hb : Below w.heap.size w w') : SrcRet fs n w (.returned (.tuple #[.int .i64 d, .bool false])) w' :=
  ⟨d, by rw [h]; rfl, fun h' => absurd h h', hb⟩
theorem SrcRet.yes {fs : List Int} {n k : Nat} {w w' : World} {d : Int} (h : bitsQ fs n = k) (hk : k ≠ 0) (hd : d = (k : Int)) (hb : Below w.heap.size w w') : SrcRet fs n w (.returned (.tuple #[.int .i64 d, .bool true])) w' :=
  ⟨d, by rw [h, decide_eq_true hk], fun _ => by rw [h]; exact hd, hb⟩
set_option maxHeartbeats 4000000 in
set_option maxRecDepth 100000 in
theorem src_any {A : Option Addr} {c B n : Nat} {fs : List Int} (w : World) (hx : RdF w B A n fs) (hB : B ≤ w.heap.size) (hn : n ≤ 1099511627776) : Calls Tryz.prog 124 #[.slice A n c] w (SrcRet fs n w) := by
  have HC := Lib.hid (fun W (h : Below w.heap.size w W) => areCh_any (c := c) W (hx.below h hB) (Nat.le_trans hB h.size) hn)
  have HL := Lib.hid (fun W => lenF_any A n c W (by omega))
  clear hx
  cases hc : chB fs n with
  | false =>
    rw [hc] at HC
    have HE : Hid (bitsQ fs n = 0) := Lib.hid (by unfold bitsQ; rw [hc]; rfl)
    have HD := Lib.hid (fun W => degree_of n (by omega) W)
    clear hc
    have hbl := bitLen_le n (by omega)
    generalize Lib.bitLen n = d at *
    go_enter Tryz.func124, Tryz.ntmps124
    go_wp2_with fail
    refine (HL.out _).mono ?_
    rintro e w1 ⟨rfl, rfl⟩
    go_wp2_with fail
    refine (HD.out _).mono ?_
    rintro e w1 ⟨rfl, rfl⟩
    go_wp2_with fail
    (refine wp_region_below (by kernel_rfl) (by kernel_rfl) ?_; (repeat (refine wpQuiet_step (fun K hK => ?_); go_simp; first | (refine hK _ ?_; clear hK K) | (apply Exists.intro; refine ⟨fun wq hq => ?_, hK _ ?_⟩; (first | rfl | (skip; first | (go_simp; done) | (go_simp; rfl) | (go_at_call 119; refine (HC.out _ hq).mono ?_; rintro e w1 ⟨rfl, hb1⟩; exact ⟨rfl, Base.Below.nextA hq hb1⟩))); clear hK K))); refine wpQuiet_nil ?_; intro wq hq)
    have HB := Lib.hid hq
    go_wp2
    go_ret2
    exact SrcRet.no HE.out HB.out
  | true =>
    obtain ⟨h1, h2⟩ := chB_range hc
    have HCH := Lib.hid hc
    rw [hc] at HC
    clear hc hn
    have h : n = 1 ∨ n = 2 ∨ n = 3 ∨ n = 4 ∨ n = 5 ∨ n = 6 ∨ n = 7 ∨ n = 8 ∨ n = 9 ∨ n = 10 ∨ n = 11 ∨ n = 12 ∨ n = 13 ∨ n = 14 ∨ n = 15 ∨ n = 16 := by omega
    rcases h with rfl | rfl | rfl | rfl | rfl | rfl | rfl | rfl | rfl | rfl | rfl | rfl | rfl | rfl | rfl | rfl
    · have HE : Hid (bitsQ fs 1 = 0) := Lib.hid (by unfold bitsQ; rw [if_pos HCH.out]; rfl)
      have e0 : ((Lib.bitLen 1 : Nat) : Int) - 1 = 0 := by decide
      have HD := Lib.hid (fun W => degree_of 1 (by decide) W)
      rw [e0] at HD
      clear e0
      go_enter Tryz.func124, Tryz.ntmps124
      go_wp2_with fail
      refine (HL.out _).mono ?_
      rintro e w1 ⟨rfl, rfl⟩
      go_wp2_with fail
      refine (HD.out _).mono ?_
      rintro e w1 ⟨rfl, rfl⟩
      go_wp2_with fail
      (refine wp_region_below (by kernel_rfl) (by kernel_rfl) ?_; (repeat (refine wpQuiet_step (fun K hK => ?_); go_simp; first | (refine hK _ ?_; clear hK K) | (apply Exists.intro; refine ⟨fun wq hq => ?_, hK _ ?_⟩; (first | rfl | (skip; first | (go_simp; done) | (go_simp; rfl) | (go_at_call 119; refine (HC.out _ hq).mono ?_; rintro e w1 ⟨rfl, hb1⟩; exact ⟨rfl, Base.Below.nextA hq hb1⟩))); clear hK K))); refine wpQuiet_nil ?_; intro wq hq)
      have HB := Lib.hid hq
      go_wp2
      go_ret2
      first | exact SrcRet.no HE.out HB.out | exact SrcRet.yes HE.out (by decide) rfl HB.out
    · have HE : Hid (bitsQ fs 2 = 1) := Lib.hid (by unfold bitsQ; rw [if_pos HCH.out]; rfl)
      have e0 : ((Lib.bitLen 2 : Nat) : Int) - 1 = 1 := by decide
      have HD := Lib.hid (fun W => degree_of 2 (by decide) W)
      rw [e0] at HD
      clear e0
      go_enter Tryz.func124, Tryz.ntmps124
      go_wp2_with fail
      refine (HL.out _).mono ?_
      rintro e w1 ⟨rfl, rfl⟩
      go_wp2_with fail
      refine (HD.out _).mono ?_
      rintro e w1 ⟨rfl, rfl⟩
      go_wp2_with fail
      (refine wp_region_below (by kernel_rfl) (by kernel_rfl) ?_; (repeat (refine wpQuiet_step (fun K hK => ?_); go_simp; first | (refine hK _ ?_; clear hK K) | (apply Exists.intro; refine ⟨fun wq hq => ?_, hK _ ?_⟩; (first | rfl | (skip; first | (go_simp; done) | (go_simp; rfl) | (go_at_call 119; refine (HC.out _ hq).mono ?_; rintro e w1 ⟨rfl, hb1⟩; exact ⟨rfl, Base.Below.nextA hq hb1⟩))); clear hK K))); refine wpQuiet_nil ?_; intro wq hq)
      have HB := Lib.hid hq
      go_wp2
      go_ret2
      first | exact SrcRet.no HE.out HB.out | exact SrcRet.yes HE.out (by decide) rfl HB.out
    · have HE : Hid (bitsQ fs 3 = 0) := Lib.hid (by unfold bitsQ; rw [if_pos HCH.out]; rfl)
      have e0 : ((Lib.bitLen 3 : Nat) : Int) - 1 = 1 := by decide
      have HD := Lib.hid (fun W => degree_of 3 (by decide) W)
      rw [e0] at HD
      clear e0
      go_enter Tryz.func124, Tryz.ntmps124
      go_wp2_with fail
      refine (HL.out _).mono ?_
      rintro e w1 ⟨rfl, rfl⟩
      go_wp2_with fail
      refine (HD.out _).mono ?_
      rintro e w1 ⟨rfl, rfl⟩
      go_wp2_with fail
      (refine wp_region_below (by kernel_rfl) (by kernel_rfl) ?_; (repeat (refine wpQuiet_step (fun K hK => ?_); go_simp; first | (refine hK _ ?_; clear hK K) | (apply Exists.intro; refine ⟨fun wq hq => ?_, hK _ ?_⟩; (first | rfl | (skip; first | (go_simp; done) | (go_simp; rfl) | (go_at_call 119; refine (HC.out _ hq).mono ?_; rintro e w1 ⟨rfl, hb1⟩; exact ⟨rfl, Base.Below.nextA hq hb1⟩))); clear hK K))); refine wpQuiet_nil ?_; intro wq hq)
      have HB := Lib.hid hq
      go_wp2
      go_ret2
      first | exact SrcRet.no HE.out HB.out | exact SrcRet.yes HE.out (by decide) rfl HB.out
    · have HE : Hid (bitsQ fs 4 = 2) := Lib.hid (by unfold bitsQ; rw [if_pos HCH.out]; rfl)
      have e0 : ((Lib.bitLen 4 : Nat) : Int) - 1 = 2 := by decide
      have HD := Lib.hid (fun W => degree_of 4 (by decide) W)
      rw [e0] at HD
      clear e0
      go_enter Tryz.func124, Tryz.ntmps124
      go_wp2_with fail
      refine (HL.out _).mono ?_
      rintro e w1 ⟨rfl, rfl⟩
      go_wp2_with fail
      refine (HD.out _).mono ?_
      rintro e w1 ⟨rfl, rfl⟩
      go_wp2_with fail
      (refine wp_region_below (by kernel_rfl) (by kernel_rfl) ?_; (repeat (refine wpQuiet_step (fun K hK => ?_); go_simp; first | (refine hK _ ?_; clear hK K) | (apply Exists.intro; refine ⟨fun wq hq => ?_, hK _ ?_⟩; (first | rfl | (skip; first | (go_simp; done) | (go_simp; rfl) | (go_at_call 119; refine (HC.out _ hq).mono ?_; rintro e w1 ⟨rfl, hb1⟩; exact ⟨rfl, Base.Below.nextA hq hb1⟩))); clear hK K))); refine wpQuiet_nil ?_; intro wq hq)
      have HB := Lib.hid hq
      go_wp2
      go_ret2
      first | exact SrcRet.no HE.out HB.out | exact SrcRet.yes HE.out (by decide) rfl HB.out
    · have HE : Hid (bitsQ fs 5 = 0) := Lib.hid (by unfold bitsQ; rw [if_pos HCH.out]; rfl)
      have e0 : ((Lib.bitLen 5 : Nat) : Int) - 1 = 2 := by decide
      have HD := Lib.hid (fun W => degree_of 5 (by decide) W)
      rw [e0] at HD
      clear e0
      go_enter Tryz.func124, Tryz.ntmps124
      go_wp2_with fail
      refine (HL.out _).mono ?_
      rintro e w1 ⟨rfl, rfl⟩
      go_wp2_with fail
      refine (HD.out _).mono ?_
      rintro e w1 ⟨rfl, rfl⟩
      go_wp2_with fail
      (refine wp_region_below (by kernel_rfl) (by kernel_rfl) ?_; (repeat (refine wpQuiet_step (fun K hK => ?_); go_simp; first | (refine hK _ ?_; clear hK K) | (apply Exists.intro; refine ⟨fun wq hq => ?_, hK _ ?_⟩; (first | rfl | (skip; first | (go_simp; done) | (go_simp; rfl) | (go_at_call 119; refine (HC.out _ hq).mono ?_; rintro e w1 ⟨rfl, hb1⟩; exact ⟨rfl, Base.Below.nextA hq hb1⟩))); clear hK K))); refine wpQuiet_nil ?_; intro wq hq)
      have HB := Lib.hid hq
      go_wp2
      go_ret2
      first | exact SrcRet.no HE.out HB.out | exact SrcRet.yes HE.out (by decide) rfl HB.out
    · have HE : Hid (bitsQ fs 6 = 0) := Lib.hid (by unfold bitsQ; rw [if_pos HCH.out]; rfl)
      have e0 : ((Lib.bitLen 6 : Nat) : Int) - 1 = 2 := by decide
      have HD := Lib.hid (fun W => degree_of 6 (by decide) W)
      rw [e0] at HD
      clear e0
      go_enter Tryz.func124, Tryz.ntmps124
      go_wp2_with fail
      refine (HL.out _).mono ?_
      rintro e w1 ⟨rfl, rfl⟩
      go_wp2_with fail
      refine (HD.out _).mono ?_
      rintro e w1 ⟨rfl, rfl⟩
      go_wp2_with fail
      (refine wp_region_below (by kernel_rfl) (by kernel_rfl) ?_; (repeat (refine wpQuiet_step (fun K hK => ?_); go_simp; first | (refine hK _ ?_; clear hK K) | (apply Exists.intro; refine ⟨fun wq hq => ?_, hK _ ?_⟩; (first | rfl | (skip; first | (go_simp; done) | (go_simp; rfl) | (go_at_call 119; refine (HC.out _ hq).mono ?_; rintro e w1 ⟨rfl, hb1⟩; exact ⟨rfl, Base.Below.nextA hq hb1⟩))); clear hK K))); refine wpQuiet_nil ?_; intro wq hq)
      have HB := Lib.hid hq
      go_wp2
      go_ret2
      first | exact SrcRet.no HE.out HB.out | exact SrcRet.yes HE.out (by decide) rfl HB.out
    · have HE : Hid (bitsQ fs 7 = 0) := Lib.hid (by unfold bitsQ; rw [if_pos HCH.out]; rfl)
      have e0 : ((Lib.bitLen 7 : Nat) : Int) - 1 = 2 := by decide
      have HD := Lib.hid (fun W => degree_of 7 (by decide) W)
      rw [e0] at HD
      clear e0
      go_enter Tryz.func124, Tryz.ntmps124
      go_wp2_with fail
      refine (HL.out _).mono ?_
      rintro e w1 ⟨rfl, rfl⟩
      go_wp2_with fail
      refine (HD.out _).mono ?_
      rintro e w1 ⟨rfl, rfl⟩
      go_wp2_with fail
      (refine wp_region_below (by kernel_rfl) (by kernel_rfl) ?_; (repeat (refine wpQuiet_step (fun K hK => ?_); go_simp; first | (refine hK _ ?_; clear hK K) | (apply Exists.intro; refine ⟨fun wq hq => ?_, hK _ ?_⟩; (first | rfl | (skip; first | (go_simp; done) | (go_simp; rfl) | (go_at_call 119; refine (HC.out _ hq).mono ?_; rintro e w1 ⟨rfl, hb1⟩; exact ⟨rfl, Base.Below.nextA hq hb1⟩))); clear hK K))); refine wpQuiet_nil ?_; intro wq hq)
      have HB := Lib.hid hq
      go_wp2
      go_ret2
      first | exact SrcRet.no HE.out HB.out | exact SrcRet.yes HE.out (by decide) rfl HB.out
    · have HE : Hid (bitsQ fs 8 = 3) := Lib.hid (by unfold bitsQ; rw [if_pos HCH.out]; rfl)
      have e0 : ((Lib.bitLen 8 : Nat) : Int) - 1 = 3 := by decide
      have HD := Lib.hid (fun W => degree_of 8 (by decide) W)
      rw [e0] at HD
      clear e0
      go_enter Tryz.func124, Tryz.ntmps124
      go_wp2_with fail
      refine (HL.out _).mono ?_
      rintro e w1 ⟨rfl, rfl⟩
      go_wp2_with fail
      refine (HD.out _).mono ?_
      rintro e w1 ⟨rfl, rfl⟩
      go_wp2_with fail
      (refine wp_region_below (by kernel_rfl) (by kernel_rfl) ?_; (repeat (refine wpQuiet_step (fun K hK => ?_); go_simp; first | (refine hK _ ?_; clear hK K) | (apply Exists.intro; refine ⟨fun wq hq => ?_, hK _ ?_⟩; (first | rfl | (skip; first | (go_simp; done) | (go_simp; rfl) | (go_at_call 119; refine (HC.out _ hq).mono ?_; rintro e w1 ⟨rfl, hb1⟩; exact ⟨rfl, Base.Below.nextA hq hb1⟩))); clear hK K))); refine wpQuiet_nil ?_; intro wq hq)
      have HB := Lib.hid hq
      go_wp2
      go_ret2
      first | exact SrcRet.no HE.out HB.out | exact SrcRet.yes HE.out (by decide) rfl HB.out
    · have HE : Hid (bitsQ fs 9 = 0) := Lib.hid (by unfold bitsQ; rw [if_pos HCH.out]; rfl)
      have e0 : ((Lib.bitLen 9 : Nat) : Int) - 1 = 3 := by decide
      have HD := Lib.hid (fun W => degree_of 9 (by decide) W)
      rw [e0] at HD
      clear e0
      go_enter Tryz.func124, Tryz.ntmps124
      go_wp2_with fail
      refine (HL.out _).mono ?_
      rintro e w1 ⟨rfl, rfl⟩
      go_wp2_with fail
      refine (HD.out _).mono ?_
      rintro e w1 ⟨rfl, rfl⟩
      go_wp2_with fail
      (refine wp_region_below (by kernel_rfl) (by kernel_rfl) ?_; (repeat (refine wpQuiet_step (fun K hK => ?_); go_simp; first | (refine hK _ ?_; clear hK K) | (apply Exists.intro; refine ⟨fun wq hq => ?_, hK _ ?_⟩; (first | rfl | (skip; first | (go_simp; done) | (go_simp; rfl) | (go_at_call 119; refine (HC.out _ hq).mono ?_; rintro e w1 ⟨rfl, hb1⟩; exact ⟨rfl, Base.Below.nextA hq hb1⟩))); clear hK K))); refine wpQuiet_nil ?_; intro wq hq)
      have HB := Lib.hid hq
      go_wp2
      go_ret2
      first | exact SrcRet.no HE.out HB.out | exact SrcRet.yes HE.out (by decide) rfl HB.out
    · have HE : Hid (bitsQ fs 10 = 0) := Lib.hid (by unfold bitsQ; rw [if_pos HCH.out]; rfl)
      have e0 : ((Lib.bitLen 10 : Nat) : Int) - 1 = 3 := by decide
      have HD := Lib.hid (fun W => degree_of 10 (by decide) W)
      rw [e0] at HD
      clear e0
      go_enter Tryz.func124, Tryz.ntmps124
      go_wp2_with fail
      refine (HL.out _).mono ?_
      rintro e w1 ⟨rfl, rfl⟩
      go_wp2_with fail
      refine (HD.out _).mono ?_
      rintro e w1 ⟨rfl, rfl⟩
      go_wp2_with fail
      (refine wp_region_below (by kernel_rfl) (by kernel_rfl) ?_; (repeat (refine wpQuiet_step (fun K hK => ?_); go_simp; first | (refine hK _ ?_; clear hK K) | (apply Exists.intro; refine ⟨fun wq hq => ?_, hK _ ?_⟩; (first | rfl | (skip; first | (go_simp; done) | (go_simp; rfl) | (go_at_call 119; refine (HC.out _ hq).mono ?_; rintro e w1 ⟨rfl, hb1⟩; exact ⟨rfl, Base.Below.nextA hq hb1⟩))); clear hK K))); refine wpQuiet_nil ?_; intro wq hq)
      have HB := Lib.hid hq
      go_wp2
      go_ret2
      first | exact SrcRet.no HE.out HB.out | exact SrcRet.yes HE.out (by decide) rfl HB.out
    · have HE : Hid (bitsQ fs 11 = 0) := Lib.hid (by unfold bitsQ; rw [if_pos HCH.out]; rfl)
      have e0 : ((Lib.bitLen 11 : Nat) : Int) - 1 = 3 := by decide
      have HD := Lib.hid (fun W => degree_of 11 (by decide) W)
      rw [e0] at HD
      clear e0
      go_enter Tryz.func124, Tryz.ntmps124
      go_wp2_with fail
      refine (HL.out _).mono ?_
      rintro e w1 ⟨rfl, rfl⟩
      go_wp2_with fail
      refine (HD.out _).mono ?_
      rintro e w1 ⟨rfl, rfl⟩
      go_wp2_with fail
      (refine wp_region_below (by kernel_rfl) (by kernel_rfl) ?_; (repeat (refine wpQuiet_step (fun K hK => ?_); go_simp; first | (refine hK _ ?_; clear hK K) | (apply Exists.intro; refine ⟨fun wq hq => ?_, hK _ ?_⟩; (first | rfl | (skip; first | (go_simp; done) | (go_simp; rfl) | (go_at_call 119; refine (HC.out _ hq).mono ?_; rintro e w1 ⟨rfl, hb1⟩; exact ⟨rfl, Base.Below.nextA hq hb1⟩))); clear hK K))); refine wpQuiet_nil ?_; intro wq hq)
      have HB := Lib.hid hq
      go_wp2
      go_ret2
      first | exact SrcRet.no HE.out HB.out | exact SrcRet.yes HE.out (by decide) rfl HB.out
    · have HE : Hid (bitsQ fs 12 = 0) := Lib.hid (by unfold bitsQ; rw [if_pos HCH.out]; rfl)
      have e0 : ((Lib.bitLen 12 : Nat) : Int) - 1 = 3 := by decide
      have HD := Lib.hid (fun W => degree_of 12 (by decide) W)
      rw [e0] at HD
      clear e0
      go_enter Tryz.func124, Tryz.ntmps124
      go_wp2_with fail
      refine (HL.out _).mono ?_
      rintro e w1 ⟨rfl, rfl⟩
      go_wp2_with fail
      refine (HD.out _).mono ?_
      rintro e w1 ⟨rfl, rfl⟩
      go_wp2_with fail
      (refine wp_region_below (by kernel_rfl) (by kernel_rfl) ?_; (repeat (refine wpQuiet_step (fun K hK => ?_); go_simp; first | (refine hK _ ?_; clear hK K) | (apply Exists.intro; refine ⟨fun wq hq => ?_, hK _ ?_⟩; (first | rfl | (skip; first | (go_simp; done) | (go_simp; rfl) | (go_at_call 119; refine (HC.out _ hq).mono ?_; rintro e w1 ⟨rfl, hb1⟩; exact ⟨rfl, Base.Below.nextA hq hb1⟩))); clear hK K))); refine wpQuiet_nil ?_; intro wq hq)
      have HB := Lib.hid hq
      go_wp2
      go_ret2
      first | exact SrcRet.no HE.out HB.out | exact SrcRet.yes HE.out (by decide) rfl HB.out
    · have HE : Hid (bitsQ fs 13 = 0) := Lib.hid (by unfold bitsQ; rw [if_pos HCH.out]; rfl)
      have e0 : ((Lib.bitLen 13 : Nat) : Int) - 1 = 3 := by decide
      have HD := Lib.hid (fun W => degree_of 13 (by decide) W)
      rw [e0] at HD
      clear e0
      go_enter Tryz.func124, Tryz.ntmps124
      go_wp2_with fail
      refine (HL.out _).mono ?_
      rintro e w1 ⟨rfl, rfl⟩
      go_wp2_with fail
      refine (HD.out _).mono ?_
      rintro e w1 ⟨rfl, rfl⟩
      go_wp2_with fail
      (refine wp_region_below (by kernel_rfl) (by kernel_rfl) ?_; (repeat (refine wpQuiet_step (fun K hK => ?_); go_simp; first | (refine hK _ ?_; clear hK K) | (apply Exists.intro; refine ⟨fun wq hq => ?_, hK _ ?_⟩; (first | rfl | (skip; first | (go_simp; done) | (go_simp; rfl) | (go_at_call 119; refine (HC.out _ hq).mono ?_; rintro e w1 ⟨rfl, hb1⟩; exact ⟨rfl, Base.Below.nextA hq hb1⟩))); clear hK K))); refine wpQuiet_nil ?_; intro wq hq)
      have HB := Lib.hid hq
      go_wp2
      go_ret2
      first | exact SrcRet.no HE.out HB.out | exact SrcRet.yes HE.out (by decide) rfl HB.out
    · have HE : Hid (bitsQ fs 14 = 0) := Lib.hid (by unfold bitsQ; rw [if_pos HCH.out]; rfl)
      have e0 : ((Lib.bitLen 14 : Nat) : Int) - 1 = 3 := by decide
      have HD := Lib.hid (fun W => degree_of 14 (by decide) W)
      rw [e0] at HD
      clear e0
      go_enter Tryz.func124, Tryz.ntmps124
      go_wp2_with fail
      refine (HL.out _).mono ?_
      rintro e w1 ⟨rfl, rfl⟩
      go_wp2_with fail
      refine (HD.out _).mono ?_
      rintro e w1 ⟨rfl, rfl⟩
      go_wp2_with fail
      (refine wp_region_below (by kernel_rfl) (by kernel_rfl) ?_; (repeat (refine wpQuiet_step (fun K hK => ?_); go_simp; first | (refine hK _ ?_; clear hK K) | (apply Exists.intro; refine ⟨fun wq hq => ?_, hK _ ?_⟩; (first | rfl | (skip; first | (go_simp; done) | (go_simp; rfl) | (go_at_call 119; refine (HC.out _ hq).mono ?_; rintro e w1 ⟨rfl, hb1⟩; exact ⟨rfl, Base.Below.nextA hq hb1⟩))); clear hK K))); refine wpQuiet_nil ?_; intro wq hq)
      have HB := Lib.hid hq
      go_wp2
      go_ret2
      first | exact SrcRet.no HE.out HB.out | exact SrcRet.yes HE.out (by decide) rfl HB.out
    · have HE : Hid (bitsQ fs 15 = 0) := Lib.hid (by unfold bitsQ; rw [if_pos HCH.out]; rfl)
      have e0 : ((Lib.bitLen 15 : Nat) : Int) - 1 = 3 := by decide
      have HD := Lib.hid (fun W => degree_of 15 (by decide) W)
      rw [e0] at HD
      clear e0
      go_enter Tryz.func124, Tryz.ntmps124
      go_wp2_with fail
      refine (HL.out _).mono ?_
      rintro e w1 ⟨rfl, rfl⟩
      go_wp2_with fail
      refine (HD.out _).mono ?_
      rintro e w1 ⟨rfl, rfl⟩
      go_wp2_with fail
      (refine wp_region_below (by kernel_rfl) (by kernel_rfl) ?_; (repeat (refine wpQuiet_step (fun K hK => ?_); go_simp; first | (refine hK _ ?_; clear hK K) | (apply Exists.intro; refine ⟨fun wq hq => ?_, hK _ ?_⟩; (first | rfl | (skip; first | (go_simp; done) | (go_simp; rfl) | (go_at_call 119; refine (HC.out _ hq).mono ?_; rintro e w1 ⟨rfl, hb1⟩; exact ⟨rfl, Base.Below.nextA hq hb1⟩))); clear hK K))); refine wpQuiet_nil ?_; intro wq hq)
      have HB := Lib.hid hq
      go_wp2
      go_ret2
      first | exact SrcRet.no HE.out HB.out | exact SrcRet.yes HE.out (by decide) rfl HB.out
    · have HE : Hid (bitsQ fs 16 = 4) := Lib.hid (by unfold bitsQ; rw [if_pos HCH.out]; rfl)
      have e0 : ((Lib.bitLen 16 : Nat) : Int) - 1 = 4 := by decide
      have HD := Lib.hid (fun W => degree_of 16 (by decide) W)
      rw [e0] at HD
      clear e0
      go_enter Tryz.func124, Tryz.ntmps124
      go_wp2_with fail
      refine (HL.out _).mono ?_
      rintro e w1 ⟨rfl, rfl⟩
      go_wp2_with fail
      refine (HD.out _).mono ?_
      rintro e w1 ⟨rfl, rfl⟩
      go_wp2_with fail
      (refine wp_region_below (by kernel_rfl) (by kernel_rfl) ?_; (repeat (refine wpQuiet_step (fun K hK => ?_); go_simp; first | (refine hK _ ?_; clear hK K) | (apply Exists.intro; refine ⟨fun wq hq => ?_, hK _ ?_⟩; (first | rfl | (skip; first | (go_simp; done) | (go_simp; rfl) | (go_at_call 119; refine (HC.out _ hq).mono ?_; rintro e w1 ⟨rfl, hb1⟩; exact ⟨rfl, Base.Below.nextA hq hb1⟩))); clear hK K))); refine wpQuiet_nil ?_; intro wq hq)
      have HB := Lib.hid hq
      go_wp2
      go_ret2
      first | exact SrcRet.no HE.out HB.out | exact SrcRet.yes HE.out (by decide) rfl HB.out
/-- whether rows are some for a source -/
def isE (xs fs : List Int) (n : Nat) : Bool := decide (bitsQ fs n ≠ 0) && (inR (xs.length : Int) 1 3 && AllIn.allInB xs 0 ((2 ^ bitsQ fs n : Nat) - 1 : Int))
set_option maxHeartbeats 4000000 in
set_option maxRecDepth 100000 in
theorem isE_any {A A' : Option Addr} {c c' B B' n : Nat} {fs xs : List Int} (w : World) (hx : RdF w B A n fs) (hB : B ≤ w.heap.size) (hn : n ≤ 1099511627776) (hy : RdI w B' A' xs) (hB' : B' ≤ w.heap.size) (hm : xs.length ≤ 9223372036854775807) :
    Calls Tryz.prog 59 #[.slice A' xs.length c', .slice A n c] w fun e w' => e = .returned (.bool (isE xs fs n)) ∧ Below w.heap.size w w' := by
  have HS := Lib.hid (src_any (c := c) w hx hB hn)
  have HL := Lib.hid (fun W => AllIn.lenI_any A' xs.length c' W hm)
  clear hx
  have hb4 := bitsQ_le fs n
  have h : bitsQ fs n = 0 ∨ bitsQ fs n = 1 ∨ bitsQ fs n = 2 ∨ bitsQ fs n = 3 ∨ bitsQ fs n = 4 := by omega
  rcases h with h | h | h | h | h
  · have HE : Hid (isE xs fs n = false) := Lib.hid (by unfold isE; rw [h]; rfl)
    have HK := Lib.hid h
    clear h hb4
    go_enter Tryz.func59, Tryz.ntmps59
    go_wp2_with fail
    refine HS.out.mono ?_
    rintro e w1 ⟨d, rfl, hd, hb1⟩
    have HB1 := Lib.hid hb1
    rw [HK.out] at *
    clear hd hb1
    go_wp2
    go_ret
    exact ⟨by rw [HE.out]; rfl, HB1.out⟩
  · have HE : Hid (isE xs fs n = (inR (xs.length : Int) 1 3 && AllIn.allInB xs 0 (2 - 1))) := Lib.hid (by unfold isE; rw [h]; rfl)
    have HK := Lib.hid h
    clear h hb4
    · have HI := Lib.hid (fun W (h : Below w.heap.size w W) => AllIn.allIn_any A' c' B' xs 0 (2 - 1) W (hy.below h hB') (Nat.le_trans hB' h.size) hm)
      clear hy
      go_enter Tryz.func59, Tryz.ntmps59
      go_wp2_with fail
      refine HS.out.mono ?_
      rintro e w1 ⟨d, rfl, hd, hb1⟩
      have HB1 := Lib.hid hb1
      rw [HK.out] at hd
      obtain rfl := hd (by decide)
      rw [HK.out] at *
      clear hd hb1
      go_wp2_with fail
      refine (HL.out _).mono ?_
      rintro e w2 ⟨rfl, rfl⟩
      go_wp2_with fail
      refine (inRange_any _ _ _ _).mono ?_
      rintro e w2 ⟨rfl, rfl⟩
      cases hr : inR (xs.length : Int) 1 3 with
      | false =>
        rw [hr] at HE
        go_wp2
        go_ret
        exact ⟨ret_bool HE.out.symm, HB1.out⟩
      | true =>
        rw [hr] at HE
        go_wp2_with fail
        refine (HI.out _ HB1.out).mono ?_
        rintro e w2 ⟨rfl, hb2⟩
        have HB2 := Lib.hid (Base.Below.nextA HB1.out hb2)
        clear hb2
        go_wp2
        go_ret
        exact ⟨ret_bool HE.out.symm, HB2.out⟩
  · have HE : Hid (isE xs fs n = (inR (xs.length : Int) 1 3 && AllIn.allInB xs 0 (4 - 1))) := Lib.hid (by unfold isE; rw [h]; rfl)
    have HK := Lib.hid h
    clear h hb4
    · have HI := Lib.hid (fun W (h : Below w.heap.size w W) => AllIn.allIn_any A' c' B' xs 0 (4 - 1) W (hy.below h hB') (Nat.le_trans hB' h.size) hm)
      clear hy
      go_enter Tryz.func59, Tryz.ntmps59
      go_wp2_with fail
      refine HS.out.mono ?_
      rintro e w1 ⟨d, rfl, hd, hb1⟩
      have HB1 := Lib.hid hb1
      rw [HK.out] at hd
      obtain rfl := hd (by decide)
      rw [HK.out] at *
      clear hd hb1
      go_wp2_with fail
      refine (HL.out _).mono ?_
      rintro e w2 ⟨rfl, rfl⟩
      go_wp2_with fail
      refine (inRange_any _ _ _ _).mono ?_
      rintro e w2 ⟨rfl, rfl⟩
      cases hr : inR (xs.length : Int) 1 3 with
      | false =>
        rw [hr] at HE
        go_wp2
        go_ret
        exact ⟨ret_bool HE.out.symm, HB1.out⟩
      | true =>
        rw [hr] at HE
        go_wp2_with fail
        refine (HI.out _ HB1.out).mono ?_
        rintro e w2 ⟨rfl, hb2⟩
        have HB2 := Lib.hid (Base.Below.nextA HB1.out hb2)
        clear hb2
        go_wp2
        go_ret
        exact ⟨ret_bool HE.out.symm, HB2.out⟩
  · have HE : Hid (isE xs fs n = (inR (xs.length : Int) 1 3 && AllIn.allInB xs 0 (8 - 1))) := Lib.hid (by unfold isE; rw [h]; rfl)
    have HK := Lib.hid h
    clear h hb4
    · have HI := Lib.hid (fun W (h : Below w.heap.size w W) => AllIn.allIn_any A' c' B' xs 0 (8 - 1) W (hy.below h hB') (Nat.le_trans hB' h.size) hm)
      clear hy
      go_enter Tryz.func59, Tryz.ntmps59
      go_wp2_with fail
      refine HS.out.mono ?_
      rintro e w1 ⟨d, rfl, hd, hb1⟩
      have HB1 := Lib.hid hb1
      rw [HK.out] at hd
      obtain rfl := hd (by decide)
      rw [HK.out] at *
      clear hd hb1
      go_wp2_with fail
      refine (HL.out _).mono ?_
      rintro e w2 ⟨rfl, rfl⟩
      go_wp2_with fail
      refine (inRange_any _ _ _ _).mono ?_
      rintro e w2 ⟨rfl, rfl⟩
      cases hr : inR (xs.length : Int) 1 3 with
      | false =>
        rw [hr] at HE
        go_wp2
        go_ret
        exact ⟨ret_bool HE.out.symm, HB1.out⟩
      | true =>
        rw [hr] at HE
        go_wp2_with fail
        refine (HI.out _ HB1.out).mono ?_
        rintro e w2 ⟨rfl, hb2⟩
        have HB2 := Lib.hid (Base.Below.nextA HB1.out hb2)
        clear hb2
        go_wp2
        go_ret
        exact ⟨ret_bool HE.out.symm, HB2.out⟩
  · have HE : Hid (isE xs fs n = (inR (xs.length : Int) 1 3 && AllIn.allInB xs 0 (16 - 1))) := Lib.hid (by unfold isE; rw [h]; rfl)
    have HK := Lib.hid h
    clear h hb4
    · have HI := Lib.hid (fun W (h : Below w.heap.size w W) => AllIn.allIn_any A' c' B' xs 0 (16 - 1) W (hy.below h hB') (Nat.le_trans hB' h.size) hm)
      clear hy
      go_enter Tryz.func59, Tryz.ntmps59
      go_wp2_with fail
      refine HS.out.mono ?_
      rintro e w1 ⟨d, rfl, hd, hb1⟩
      have HB1 := Lib.hid hb1
      rw [HK.out] at hd
      obtain rfl := hd (by decide)
      rw [HK.out] at *
      clear hd hb1
      go_wp2_with fail
      refine (HL.out _).mono ?_
      rintro e w2 ⟨rfl, rfl⟩
      go_wp2_with fail
      refine (inRange_any _ _ _ _).mono ?_
      rintro e w2 ⟨rfl, rfl⟩
      cases hr : inR (xs.length : Int) 1 3 with
      | false =>
        rw [hr] at HE
        go_wp2
        go_ret
        exact ⟨ret_bool HE.out.symm, HB1.out⟩
      | true =>
        rw [hr] at HE
        go_wp2_with fail
        refine (HI.out _ HB1.out).mono ?_
        rintro e w2 ⟨rfl, hb2⟩
        have HB2 := Lib.hid (Base.Below.nextA HB1.out hb2)
        clear hb2
        go_wp2
        go_ret
        exact ⟨ret_bool HE.out.symm, HB2.out⟩
end Go.Proofs.YtionognmgcabbaaGreat.Ratio
/- Plain: what is known where rows are some for a source. -/
namespace Go.Proofs.YtionognmgcabbaaGreat.ExtM
open Go.RowKit Go.Proofs.YtionognmgcabbaaGreat Go.Proofs.YtionognmgcabbaaGreat.Base Go.Proofs.YtionognmgcabbaaGreat.RatM Go.Proofs.YtionognmgcabbaaGreat.GaussM Go.Proofs.YtionognmgcabbaaGreat.ChM Go.Proofs.YtionognmgcabbaaGreat.RowN Go.Proofs.YtionognmgcabbaaGreat.Ratio Go.Proofs.YtionognmgcabbaaGreat.GiveM
set_option linter.unusedVariables false
theorem chB_all {fs : List Int} {n : Nat} (h : chB fs n = true) : AllVF fs n := by
  unfold chB at h
  simp only [Bool.and_eq_true] at h
  exact vfAll_true.1 h.2.2.1
theorem isE_true {xs fs : List Int} {n : Nat} (h : isE xs fs n = true) : AllVF fs n ∧ n ≤ 16 ∧ 1 ≤ xs.length ∧ xs.length ≤ 3 ∧ (∀ i, i < xs.length → 0 ≤ xs.getD i 0 ∧ xs.getD i 0 ≤ 15) ∧ bitsQ fs n ≠ 0 ∧ inR (xs.length : Int) 1 3 = true ∧ AllIn.allInB xs 0 ((2 ^ bitsQ fs n : Nat) - 1 : Int) = true := by
  unfold isE at h
  simp only [Bool.and_eq_true, decide_eq_true_eq] at h
  obtain ⟨h1, h2, h3⟩ := h
  obtain ⟨g1, g2, g3⟩ := bitsQ_pos h1
  have h4 := bitsQ_le fs n
  have h5 := inR_true h2
  refine ⟨chB_all g1, (chB_range g1).2, by omega, by omega, fun i hi => ?_, h1, h2, h3⟩
  have h6 := AllIn.allInB_true h3 i hi
  have h7 : (2 : Nat) ^ bitsQ fs n ≤ 2 ^ 4 := Nat.pow_le_pow_right (by decide) h4
  refine ⟨h6.1, Int.le_trans h6.2 ?_⟩
  omega
/-- what is returned -/
def extN (xs fs : List Int) (n : Nat) : Nat := if isE xs fs n then gN (exQ xs fs n) (2 ^ xs.length) else 0
def extR (xs fs : List Int) (n : Nat) : List Int := if isE xs fs n then gR (exQ xs fs n) (2 ^ xs.length) else []
def extB (xs fs : List Int) (n : Nat) : Bool := if isE xs fs n then smallAll (exQ xs fs n) (2 ^ xs.length) else false
theorem pow_len {k : Nat} (h : k ≤ 3) : 2 ^ k ≤ 8 := Nat.pow_le_pow_right (n := 2) (by decide) h
theorem extN_le (xs fs : List Int) (n : Nat) : extN xs fs n ≤ 8 := by
  unfold extN
  split
  · rename_i h
    obtain ⟨_, _, _, h3, _⟩ := isE_true h
    exact Nat.le_trans (gN_le _ _) (pow_len h3)
  · omega
theorem ext_yes {xs fs : List Int} {n : Nat} (h : isE xs fs n = true) : extN xs fs n = gN (exQ xs fs n) (2 ^ xs.length) ∧ extR xs fs n = gR (exQ xs fs n) (2 ^ xs.length) ∧ extB xs fs n = smallAll (exQ xs fs n) (2 ^ xs.length) := by
  unfold extN extR extB
  simp only [h, if_true, and_self]
theorem ext_no {xs fs : List Int} {n : Nat} (h : isE xs fs n = false) : extN xs fs n = 0 ∧ extR xs fs n = [] ∧ extB xs fs n = false := by
  unfold extN extR extB
  simp [h]
end Go.Proofs.YtionognmgcabbaaGreat.ExtM
/- Plain: how far what rows make of a source is from equal chances; its size. -/
namespace Go.Proofs.YtionognmgcabbaaGreat.Ratio
open Go.RowKit Go.Proofs.YtionognmgcabbaaGreat Go.Proofs.YtionognmgcabbaaGreat.Base Go.Proofs.YtionognmgcabbaaGreat.Mem Go.Proofs.YtionognmgcabbaaGreat.NatM Go.Proofs.YtionognmgcabbaaGreat.Nat32 Go.Proofs.YtionognmgcabbaaGreat.RatM Go.Proofs.YtionognmgcabbaaGreat.GaussM Go.Proofs.YtionognmgcabbaaGreat.ChM Go.Proofs.YtionognmgcabbaaGreat.ExtM Go.Proofs.YtionognmgcabbaaGreat.RowN
set_option linter.unusedVariables false
theorem vf_even {N : Nat} (h1 : 1 ≤ N) (h2 : N ≤ 1000) : VF 1 (N : Int) := ⟨by omega, by omega, by decide, by decide, by simp⟩
theorem even_num {N : Nat} (h1 : 1 ≤ N) (h2 : N ≤ 1000) : (qf 1 (N : Int)).num = 1 ∧ (qf 1 (N : Int)).den = N ∧ decide (qf 1 (N : Int) < 0) = false := by
  obtain ⟨g1, g2, g3⟩ := (vf_even h1 h2).num
  exact ⟨g1, by omega, g3⟩
/-- the distance from equal chances -/
def farQ (xs fs : List Int) (n : Nat) : Rat := disR (2 ^ xs.length) (exQ xs fs n) (fun _ => qf 1 ((2 ^ xs.length : Nat) : Int))
theorem ov_exQ {xs fs : List Int} {n y : Nat} (hv : AllVF fs n) : Ov (denP fs n) (n * 1000000000000000000) (exQ xs fs n y) :=
  ov_sum fun x hx => by
    show Ov _ _ (if _ then _ else _)
    split
    · exact ov_fq hv hx
    · exact (Ov.zero _).more (Nat.zero_le _)
theorem ov_even {N : Nat} (h1 : 1 ≤ N) (h2 : N ≤ 1000) : Ov N 1 (qf 1 (N : Int)) := by
  obtain ⟨g1, g2, _⟩ := even_num h1 h2
  refine ov_of (by rw [g2]; exact Nat.dvd_refl _) (by rw [g1]; decide)
theorem ov_diff {xs fs : List Int} {n N y : Nat} (hv : AllVF fs n) (h1 : 1 ≤ N) (h2 : N ≤ 1000) : Ov (denP fs n * N) (n * 1000000000000000000 + 1) (exQ xs fs n y - qf 1 (N : Int)) :=
  (ov_exQ hv).scale.sub (by have := (ov_even h1 h2).scale (E := denP fs n); rwa [Nat.mul_comm] at this)
theorem ov_dsum {xs fs : List Int} {n N i : Nat} (hv : AllVF fs n) (h1 : 1 ≤ N) (h2 : N ≤ 1000) : Ov (denP fs n * N) (i * (n * 1000000000000000000 + 1)) (dsum (exQ xs fs n) (fun _ => qf 1 (N : Int)) i) :=
  ov_sum fun j _ => ov_abs (ov_diff hv h1 h2)
theorem ten_le : ∀ n, n ≤ 16 → (1000000000000000000 : Nat) ^ n ≤ B32 ^ (2 * n) := fun n _ => by
  rw [Nat.pow_mul]
  exact Nat.pow_le_pow_left (by decide) n
theorem denP_b {fs : List Int} {n : Nat} (hv : AllVF fs n) (hn : n ≤ 16) : denP fs n ≤ B32 ^ 32 :=
  Nat.le_trans (denP_le hv) (Nat.le_trans (ten_le n hn) (Nat.pow_le_pow_right B32_pos (by omega)))
theorem mul_lt_b {a P x : Nat} (ha : a < B32 ^ 3) (hP : P ≤ B32 ^ 32) (h : x ≤ a * P) : x < B32 ^ 35 := by
  refine Nat.lt_of_le_of_lt h ?_
  refine Nat.lt_of_le_of_lt (Nat.mul_le_mul_left a hP) ?_
  rw [show B32 ^ 35 = B32 ^ 3 * B32 ^ 32 from rfl]
  exact Nat.mul_lt_mul_of_pos_right ha (Nat.pow_pos B32_pos)
theorem b3 : B32 ^ 3 = 79228162514264337593543950336 := by decide
theorem far_ok {xs fs : List Int} {n N : Nat} (hv : AllVF fs n) (hn : n ≤ 16) (h1 : 1 ≤ N) (h2 : N ≤ 8) : DisOk N (exQ xs fs n) (fun _ => qf 1 (N : Int)) := by
  have hP := denP_b hv hn
  have hP0 := denP_pos hv
  have hD0 : 0 < denP fs n * N := Nat.mul_pos hP0 h1
  have hN := (Nat.le_refl N)
  refine ⟨fun i hi => ⟨?_, ?_, ?_⟩, fun i hi => ?_⟩
  · have := dgb_sz (dgb_exQ (xs := xs) (y := i) hv hn); omega
  · have := dgb_sz (dgb_vf (vf_even h1 (show N ≤ 1000 by omega)))
    show szR (qf 1 (N : Int)) ≤ 200000
    omega
  · have h := ov_diff (xs := xs) (y := i) hv h1 (show N ≤ 1000 by omega)
    have := ov_sz hD0 (by omega) h (m := 35) (mul_lt_b (a := (n * 1000000000000000000 + 1) * N) (P := denP fs n) (by
      rw [b3]; have := Nat.mul_le_mul (show n * 1000000000000000000 + 1 ≤ 17000000000000000000 by omega) h2; omega) hP (by rw [Nat.mul_comm (denP fs n) N, ← Nat.mul_assoc]; exact Nat.le_refl _))
    show szR (exQ xs fs n i - qf 1 (N : Int)) ≤ 200000
    omega
  · rcases Nat.eq_zero_or_pos i with rfl | hi0
    · have : Dg (B32 ^ 1) (dsum (exQ xs fs n) (fun _ => qf 1 (N : Int)) 0) := dgb_zero (by omega)
      have := dgb_sz this
      omega
    · have h := ov_dsum (xs := xs) (i := i) hv h1 (show N ≤ 1000 by omega)
      have := ov_sz hD0 (Nat.mul_pos hi0 (by omega)) h (m := 35) (mul_lt_b (a := (i * (n * 1000000000000000000 + 1)) * N) (P := denP fs n) (by
        rw [b3]
        have e1 := Nat.mul_le_mul (show i ≤ 8 by omega) (show n * 1000000000000000000 + 1 ≤ 17000000000000000000 by omega)
        have e2 := Nat.mul_le_mul e1 h2
        omega) hP (by rw [Nat.mul_comm (denP fs n) N, ← Nat.mul_assoc]; exact Nat.le_refl _))
      omega
/-- its size -/
theorem ov_far {xs fs : List Int} {n : Nat} (hv : AllVF fs n) (h3 : xs.length ≤ 3) : Ov (denP fs n * 16) (8 * (n * 1000000000000000000 + 1)) (farQ xs fs n) := by
  have hN : 2 ^ xs.length ≤ 8 := pow_len h3
  have hN1 : 1 ≤ 2 ^ xs.length := Nat.pow_pos (by decide)
  have hd : 2 ^ xs.length ∣ 8 := Nat.pow_dvd_pow 2 h3
  unfold farQ disR
  obtain ⟨k, hk⟩ := hd
  have h := ov_dsum (xs := xs) (i := 2 ^ xs.length) hv hN1 (by omega)
  have h2 := (h.scale (E := k)).more (c := 8 * (n * 1000000000000000000 + 1)) (Nat.mul_le_mul_right _ hN)
  rw [Nat.mul_assoc, ← hk] at h2
  have hh : Ov 2 1 ((2 : Rat)⁻¹) := by
    refine ov_of ?_ ?_
    · rw [show ((2 : Rat)⁻¹).den = 2 by decide +kernel]; exact Nat.dvd_refl _
    · rw [show ((2 : Rat)⁻¹).num = 1 by decide +kernel]; decide
  have h4 := h2.mul hh
  rw [Nat.mul_assoc, Nat.mul_one] at h4
  exact h4
theorem far_sz {xs fs : List Int} {n : Nat} (hv : AllVF fs n) (hn : n ≤ 16) (h3 : xs.length ≤ 3) : szR (farQ xs fs n) ≤ 70 := by
  have hP := denP_b hv hn
  have hP0 := denP_pos hv
  exact ov_sz (Nat.mul_pos hP0 (by decide)) (by omega) (ov_far hv h3) (m := 35) (mul_lt_b (a := 8 * (n * 1000000000000000000 + 1) * 16) (P := denP fs n) (by rw [b3]; omega) hP (by rw [Nat.mul_comm (denP fs n) 16, ← Nat.mul_assoc]; exact Nat.le_refl _))
end Go.Proofs.YtionognmgcabbaaGreat.Ratio
/- copy of elements of more than one cell. -/
namespace Go.Proofs.YtionognmgcabbaaGreat.CopyR
open Go.RowKit Go.Proofs.YtionognmgcabbaaGreat Go.Proofs.YtionognmgcabbaaGreat.Base
set_option linter.unusedVariables false
/-- all is read before anything is written -/
theorem run_copy_wide {P : Program} (w : World) (dT sT ty elem : TypeId) (size m b o dLen dCap : Nat) (a : Addr) (sLen sCap : Nat) (cs : List Value)
    (hu : P.underlying dT = some (.slice elem)) (hs : (P.info? elem).map (·.size) = some size) (hm : m = Nat.min sLen dLen) (hn : cs.length = m * size)
    (hsrc : ∀ j v, cs[j]? = some v → w.cell? (a.add j) = some v) (hc : ∀ j, j < cs.length → (w.cell? ⟨b, o + j, none⟩).isSome = true) (hf : ∀ j, j < cs.length → w.frozen? ⟨b, o + j, none⟩ = false) (h1 : ∀ v ∈ cs, v.oneCell' = true) :
    (Builtin.copy_ #[dT, sT] ty #[.slice (some ⟨b, o, none⟩) dLen dCap, .slice (some a) sLen sCap]).run P w = .ok (goInt m) (w.setCells b o cs) := by
  have hl := run_loadCells_list (P := P) w a cs hsrc
  have hst := run_storeCells_cells (P := P) b o cs 0 w (by simpa using hc) (by simpa using hf) h1
  cases hq : P.info? elem with
  | none => simp [hq] at hs
  | some i =>
    have hi : i.size = size := by simpa [hq] using hs
    simp [Builtin.copy_, run_underlying hu, Builtin.lenOf, Builtin.firstCells, sizeOf, typeInfo, hq, hi, ← hm, ← hn, hl, hst]
end Go.Proofs.YtionognmgcabbaaGreat.CopyR
