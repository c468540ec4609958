/- Plain mathematics: linear equations over the rationals, brought into the form of the unit columns. No program in sight. -/
import Derived.Test.YtionognmgcabbaaGreatMgHit06
import Derived.Test.YtionognmgcabbaaGreatMgHit05
import Derived.Test.YtionognmgcabbaaGreatMgHit03
set_option linter.unusedVariables false
namespace Go.Proofs.YtionognmgcabbaaGreat.GaussM
def sumR : Nat → (Nat → Rat) → Rat
  | 0, _ => 0
  | n + 1, f => sumR n f + f n
theorem sumR_congr {n : Nat} {f g : Nat → Rat} (h : ∀ j, j < n → f j = g j) : sumR n f = sumR n g := by
  induction n with
  | zero => rfl
  | succ n ih => rw [sumR, sumR, ih fun j hj => h j (by omega), h n (by omega)]
theorem sumR_zero {n : Nat} {f : Nat → Rat} (h : ∀ j, j < n → f j = 0) : sumR n f = 0 := by
  induction n with
  | zero => rfl
  | succ n ih => rw [sumR, ih fun j hj => h j (by omega), h n (by omega)]; grind
theorem sumR_add (n : Nat) (f g : Nat → Rat) : sumR n (fun j => f j + g j) = sumR n f + sumR n g := by
  induction n with
  | zero => show (0 : Rat) = 0 + 0; grind
  | succ n ih => rw [sumR, sumR, sumR, ih]; grind
theorem sumR_mul (n : Nat) (t : Rat) (f : Nat → Rat) : sumR n (fun j => t * f j) = t * sumR n f := by
  induction n with
  | zero => show (0 : Rat) = t * 0; grind
  | succ n ih => rw [sumR, sumR, ih]; grind
theorem sumR_one {n k : Nat} {f : Nat → Rat} (hk : k < n) (h : ∀ j, j < n → j ≠ k → f j = 0) : sumR n f = f k := by
  induction n with
  | zero => omega
  | succ n ih =>
    rw [sumR]
    by_cases e : k = n
    · subst e
      rw [sumR_zero fun j hj => h j (by omega) (by omega)]; grind
    · rw [ih (by omega) fun j hj => h j (by omega), h n (by omega) (by omega)]; grind
/-- x solves the first R rows of a matrix with n unknowns and its right side in column n -/
def Sol (M : Nat → Nat → Rat) (R n : Nat) (x : Nat → Rat) : Prop := ∀ r, r < R → sumR n (fun j => M r j * x j) = M r n
/-- x is the only solution -/
def Only (M : Nat → Nat → Rat) (R n : Nat) (x : Nat → Rat) : Prop := Sol M R n x ∧ ∀ y, Sol M R n y → ∀ j, j < n → y j = x j
theorem Sol.congr {M M' : Nat → Nat → Rat} {R n : Nat} {x y : Nat → Rat} (h : ∀ r, r < R → ∀ c, c ≤ n → M r c = M' r c) (hx : ∀ j, j < n → x j = y j) (hs : Sol M R n x) : Sol M' R n y := fun r hr => by
  rw [← h r hr n (Nat.le_refl _), ← hs r hr]
  exact sumR_congr fun j hj => by rw [h r hr j (by omega), hx j hj]
theorem Only.congr {M M' : Nat → Nat → Rat} {R n : Nat} {x : Nat → Rat} (h : ∀ r, r < R → ∀ c, c ≤ n → M r c = M' r c) (hs : Only M R n x) : Only M' R n x :=
  ⟨hs.1.congr h fun _ _ => rfl, fun y hy => hs.2 y (hy.congr (fun r hr c hc => (h r hr c hc).symm) fun _ _ => rfl)⟩
theorem Only.iff {M M' : Nat → Nat → Rat} {R R' n : Nat} {x : Nat → Rat} (h : ∀ y, Sol M R n y ↔ Sol M' R' n y) : Only M R n x ↔ Only M' R' n x := by
  constructor
  · rintro ⟨h1, h2⟩; exact ⟨(h x).1 h1, fun y hy => h2 y ((h y).2 hy)⟩
  · rintro ⟨h1, h2⟩; exact ⟨(h x).2 h1, fun y hy => h2 y ((h y).1 hy)⟩
theorem Only.same {M : Nat → Nat → Rat} {R n : Nat} {x y : Nat → Rat} (hx : Only M R n x) (hy : Only M R n y) : ∀ j, j < n → x j = y j := hy.2 x hx.1
/-- two rows in each other's place -/
def swapM (M : Nat → Nat → Rat) (i k : Nat) : Nat → Nat → Rat := fun r c => if r = k then M i c else if r = i then M k c else M r c
theorem swap_sol {M : Nat → Nat → Rat} {R n i k : Nat} {x : Nat → Rat} (hi : i < R) (hk : k < R) : Sol (swapM M i k) R n x ↔ Sol M R n x := by
  constructor
  · intro h r hr
    by_cases e1 : r = k
    · subst e1
      by_cases e2 : i = r
      · have := h r hr; simpa [swapM, e2] using this
      · have := h i hi; simpa [swapM, e2] using this
    · by_cases e2 : r = i
      · subst e2; have := h k hk; simpa [swapM] using this
      · have := h r hr; simpa [swapM, e1, e2] using this
  · intro h r hr
    unfold swapM
    by_cases e1 : r = k
    · simp only [e1, if_true]; exact h i hi
    · by_cases e2 : r = i
      · simp only [e2, if_true]
        by_cases e3 : i = k
        · simp only [e3, if_true]; exact h k hk
        · simp only [e3, if_false]; exact h k hk
      · simp only [e1, e2, if_false]; exact h r hr
/-- a row times a number -/
def scaleM (M : Nat → Nat → Rat) (k : Nat) (t : Rat) : Nat → Nat → Rat := fun r c => if r = k then M k c * t else M r c
theorem scale_sol {M : Nat → Nat → Rat} {R n k : Nat} {t : Rat} {x : Nat → Rat} (ht : t ≠ 0) : Sol (scaleM M k t) R n x ↔ Sol M R n x := by
  have key : ∀ r, r < R → ((sumR n (fun j => scaleM M k t r j * x j) = scaleM M k t r n) ↔ (sumR n (fun j => M r j * x j) = M r n)) := by
    intro r hr
    unfold scaleM
    by_cases e : r = k
    · subst e
      simp only [if_true]
      have : sumR n (fun j => M r j * t * x j) = t * sumR n (fun j => M r j * x j) := by
        rw [← sumR_mul]; exact sumR_congr fun j _ => by grind
      rw [this]
      constructor <;> intro h <;> grind
    · simp only [e, if_false]
  exact ⟨fun h r hr => (key r hr).1 (h r hr), fun h r hr => (key r hr).2 (h r hr)⟩
/-- a row's multiples are taken from all others -/
def clearM (M : Nat → Nat → Rat) (k : Nat) : Nat → Nat → Rat := fun r c => if r = k then M k c else M r c - M r k * M k c
theorem clear_row {M : Nat → Nat → Rat} {n k r : Nat} {x : Nat → Rat} (e : r ≠ k) : sumR n (fun j => clearM M k r j * x j) = sumR n (fun j => M r j * x j) - M r k * sumR n (fun j => M k j * x j) := by
  rw [← sumR_mul]
  have : ∀ a b : Rat, a - b = a + (-1) * b := by intro a b; grind
  rw [this, ← sumR_mul, ← sumR_add]
  refine sumR_congr fun j _ => ?_
  unfold clearM
  simp only [e, if_false]
  grind
theorem clear_sol {M : Nat → Nat → Rat} {R n k : Nat} {x : Nat → Rat} (hk : k < R) : Sol (clearM M k) R n x ↔ Sol M R n x := by
  have hkk : ∀ c, clearM M k k c = M k c := fun c => by simp [clearM]
  constructor
  · intro h r hr
    have h0 := h k hk
    simp only [hkk] at h0
    by_cases e : r = k
    · subst e; exact h0
    · have := h r hr
      rw [clear_row e, h0] at this
      have e2 : clearM M k r n = M r n - M r k * M k n := by simp [clearM, e]
      rw [e2] at this
      grind
  · intro h r hr
    have h0 := h k hk
    by_cases e : r = k
    · subst e; simp only [hkk]; exact h0
    · rw [clear_row e, h0, h r hr]
      simp [clearM, e]
/-- the first k columns are unit columns -/
def Unit (M : Nat → Nat → Rat) (R k : Nat) : Prop := ∀ j, j < k → ∀ r, r < R → M r j = if r = j then 1 else 0
/-- one stage -/
def stageM (M : Nat → Nat → Rat) (i k : Nat) : Nat → Nat → Rat := clearM (scaleM (swapM M i k) k (M i k)⁻¹) k
theorem stage_sol {M : Nat → Nat → Rat} {R n i k : Nat} {x : Nat → Rat} (hi : i < R) (hk : k < R) (h : M i k ≠ 0) : Sol (stageM M i k) R n x ↔ Sol M R n x := by
  unfold stageM
  have ht : (M i k)⁻¹ ≠ 0 := by
    intro e
    have := Rat.mul_inv_cancel (M i k) h
    rw [e] at this
    grind
  exact (clear_sol hk).trans ((scale_sol ht).trans (swap_sol hi hk))
theorem stage_unit {M : Nat → Nat → Rat} {R i k : Nat} (hU : Unit M R k) (hki : k ≤ i) (hi : i < R) (hk : k < R) (h : M i k ≠ 0) : Unit (stageM M i k) R (k + 1) := by
  intro j hj r hr
  have hinv := Rat.mul_inv_cancel (M i k) h
  have hpiv : ∀ c, scaleM (swapM M i k) k (M i k)⁻¹ k c = M i c * (M i k)⁻¹ := fun c => by simp [scaleM, swapM]
  have hoth : ∀ r c, r ≠ k → scaleM (swapM M i k) k (M i k)⁻¹ r c = if r = i then M k c else M r c := fun r c e => by simp [scaleM, swapM, e]
  unfold stageM clearM
  by_cases e : r = k
  · simp only [e, if_true, hpiv]
    by_cases ej : j = k
    · simp only [ej, if_true, hinv]
    · have h1 := hU j (by omega) i hi
      rw [if_neg (by omega)] at h1
      rw [h1, if_neg (by omega)]; grind
  · simp only [e, if_false, hpiv]
    rw [hoth r j e, hoth r k e]
    by_cases ej : j = k
    · subst ej
      rw [hinv, if_neg e]; grind
    · have h1 := hU j (by omega) i hi
      rw [if_neg (by omega)] at h1
      rw [h1]
      by_cases ei : r = i
      · have h2 := hU j (by omega) k hk
        rw [if_neg (by omega)] at h2
        simp only [ei, if_true, h2]
        rw [if_neg (by omega)]; grind
      · have h2 := hU j (by omega) r hr
        simp only [ei, if_false, h2]; grind
/-- all columns are unit columns: the solution stands on the right -/
theorem unit_sol {M : Nat → Nat → Rat} {R n : Nat} {x : Nat → Rat} (hU : Unit M R n) (hn : n ≤ R) : Sol M R n x ↔ (∀ j, j < n → x j = M j n) ∧ ∀ r, n ≤ r → r < R → M r n = 0 := by
  have key1 : ∀ r, r < n → sumR n (fun j => M r j * x j) = x r := fun r hr => by
    rw [sumR_one hr]
    · rw [hU r hr r (by omega), if_pos rfl]; grind
    · intro j hj e
      rw [hU j hj r (by omega), if_neg (by omega)]; grind
  have key2 : ∀ r, n ≤ r → r < R → sumR n (fun j => M r j * x j) = 0 := fun r hr h2 => sumR_zero fun j hj => by
    rw [hU j hj r h2, if_neg (by omega)]; grind
  constructor
  · intro h
    refine ⟨fun j hj => ?_, fun r h1 h2 => ?_⟩
    · have := h j (by omega); rw [key1 j hj] at this; exact this
    · have := h r h2; rw [key2 r h1 h2] at this; exact this.symm
  · rintro ⟨h1, h2⟩ r hr
    rcases Nat.lt_or_ge r n with h | h
    · rw [key1 r h]; exact h1 r h
    · rw [key2 r h hr, h2 r h hr]
theorem unit_only {M : Nat → Nat → Rat} {R n : Nat} (hU : Unit M R n) (hn : n ≤ R) (h0 : ∀ r, n ≤ r → r < R → M r n = 0) : Only M R n (fun j => M j n) :=
  ⟨(unit_sol hU hn).2 ⟨fun _ _ => rfl, h0⟩, fun y hy => ((unit_sol hU hn).1 hy).1⟩
theorem unit_none {M : Nat → Nat → Rat} {R n r : Nat} (hU : Unit M R n) (hn : n ≤ R) (h1 : n ≤ r) (h2 : r < R) (h0 : M r n ≠ 0) (x : Nat → Rat) : ¬ Only M R n x :=
  fun h => h0 (((unit_sol hU hn).1 h.1).2 r h1 h2)
/-- a column without a number other than 0 in the rows that are left: no solution is the only one -/
theorem col_none {M : Nat → Nat → Rat} {R n k : Nat} (hU : Unit M R k) (hk : k < n) (hkR : k ≤ R) (h0 : ∀ r, k ≤ r → r < R → M r k = 0) (x : Nat → Rat) : ¬ Only M R n x := by
  rintro ⟨hs, ho⟩
  have hy : Sol M R n (fun j => if j = k then x j + 1 else if j < k then x j - M j k else x j) := by
    intro r hr
    have h1 := hs r hr
    have e : sumR n (fun j => M r j * (if j = k then x j + 1 else if j < k then x j - M j k else x j)) = sumR n (fun j => M r j * x j) + sumR n (fun j => M r j * (if j = k then 1 else if j < k then -M j k else 0)) := by
      rw [← sumR_add]
      refine sumR_congr fun j _ => ?_
      split
      · grind
      · split <;> grind
    rw [e, h1]
    have e2 : sumR n (fun j => M r j * (if j = k then 1 else if j < k then -M j k else 0)) = 0 := by
      have e3 : sumR n (fun j => M r j * (if j = k then 1 else if j < k then -M j k else 0)) = sumR n (fun j => if j = k then M r k else 0) + sumR n (fun j => if j < k then M r j * -M j k else 0) := by
        rw [← sumR_add]
        refine sumR_congr fun j _ => ?_
        by_cases e1 : j = k
        · subst e1; simp only [if_true, Nat.lt_irrefl, if_false]; grind
        · simp only [e1, if_false]; split <;> grind
      rw [e3, sumR_one hk (fun j _ e => by simp only [e, if_false])]
      simp only [if_true]
      rcases Nat.lt_or_ge r k with hrk | hrk
      · rw [sumR_one (show r < n by omega) (fun j hj e => ?_)]
        · simp only [hrk, if_true]
          rw [hU r hrk r hr, if_pos rfl]; grind
        · split
          · rename_i hjk
            rw [hU j hjk r hr, if_neg (by omega)]; grind
          · rfl
      · rw [h0 r hrk hr, sumR_zero]
        · grind
        · intro j hj
          split
          · rename_i hjk
            rw [hU j hjk r hr, if_neg (by omega)]; grind
          · rfl
    rw [e2]; grind
  have := ho _ hy k hk
  simp only [if_true] at this
  grind
end Go.Proofs.YtionognmgcabbaaGreat.GaussM
/- Chances: lists of fractions as rationals, plain. -/
namespace Go.Proofs.YtionognmgcabbaaGreat.ChM
open Go.RowKit Go.Proofs.YtionognmgcabbaaGreat Go.Proofs.YtionognmgcabbaaGreat.Base Go.Proofs.YtionognmgcabbaaGreat.RatM Go.Proofs.YtionognmgcabbaaGreat.GaussM Go.Proofs.YtionognmgcabbaaGreat.ValF
set_option linter.unusedVariables false
theorem vf_zero : VF 0 1 := ⟨by decide, by decide, by decide, by decide, by decide⟩
theorem qf_zero : qf 0 1 = 0 := by
  unfold qf
  rw [show (0 : Int).natAbs = 0 from rfl, qv_zero]
/-- the rationals of fractions -/
def fq (fs : List Int) (i : Nat) : Rat := qf (fs.getD (2 * i) 0) (fs.getD (2 * i + 1) 0)
def AllVF (fs : List Int) (n : Nat) : Prop := ∀ i, i < n → VF (fs.getD (2 * i) 0) (fs.getD (2 * i + 1) 0)
def vfAll (fs : List Int) (n : Nat) : Bool := (List.range n).all fun i => vfB (fs.getD (2 * i) 0) (fs.getD (2 * i + 1) 0)
def posAll (fs : List Int) (n : Nat) : Bool := (List.range n).all fun i => decide (0 ≤ fs.getD (2 * i) 0)
theorem all_range {p : Nat → Bool} {n : Nat} : (List.range n).all p = true ↔ ∀ i, i < n → p i = true := by
  simp [List.all_eq_true]
theorem vfAll_true {fs : List Int} {n : Nat} : vfAll fs n = true ↔ AllVF fs n := by
  unfold vfAll AllVF
  rw [all_range]
  exact ⟨fun h i hi => vfB_true.1 (h i hi), fun h i hi => vfB_true.2 (h i hi)⟩
/-- chances -/
def chB (fs : List Int) (n : Nat) : Bool := decide (1 ≤ n) && (decide (n ≤ 16) && (vfAll fs n && (posAll fs n && decide (sumR n (fq fs) = 1))))
theorem all_no {p : Nat → Bool} {n i : Nat} (hi : i < n) (h : p i = false) : (List.range n).all p = false := by
  cases h' : (List.range n).all p with
  | false => rfl
  | true => rw [all_range.1 h' i hi] at h; cases h
theorem chB_short {fs : List Int} {n : Nat} (h : n < 1) : chB fs n = false := by simp [chB]; omega
theorem chB_long {fs : List Int} {n : Nat} (h : 16 < n) : chB fs n = false := by
  unfold chB
  rw [show decide (n ≤ 16) = false by simp; omega]
  simp
theorem chB_vf {fs : List Int} {n : Nat} (h : vfAll fs n = false) : chB fs n = false := by simp [chB, h]
theorem chB_neg {fs : List Int} {n : Nat} (h : posAll fs n = false) : chB fs n = false := by simp [chB, h]
theorem chB_sum {fs : List Int} {n : Nat} (h1 : 1 ≤ n) (h2 : n ≤ 16) (h3 : vfAll fs n = true) (h4 : posAll fs n = true) : chB fs n = decide (sumR n (fq fs) = 1) := by simp [chB, h1, h2, h3, h4]
end Go.Proofs.YtionognmgcabbaaGreat.ChM
/- The program's lists of ratios: made from fractions, given as fractions. -/
namespace Go.Proofs.YtionognmgcabbaaGreat.Ratio
open Go.RowKit Go.Proofs.YtionognmgcabbaaGreat Go.Proofs.YtionognmgcabbaaGreat.Base Go.Proofs.YtionognmgcabbaaGreat.Mem Go.Proofs.YtionognmgcabbaaGreat.NatM Go.Proofs.YtionognmgcabbaaGreat.Nat32 Go.Proofs.YtionognmgcabbaaGreat.RatM Go.Proofs.YtionognmgcabbaaGreat.Blk Go.Proofs.YtionognmgcabbaaGreat.MemF Go.Proofs.YtionognmgcabbaaGreat.GiveM Go.Proofs.YtionognmgcabbaaGreat.ChM
open Go.Proofs.YtionognmgcabbaaGreat.Inv (natOf natOf_eq len_pos Rat3 not_slice not_bool frz)
set_option linter.unusedVariables false
theorem ratioOf_vf {n d : Int} (h : VF n d) (w : World) : Calls Tryz.prog 107 #[.agg #[.int .i64 n, .int .i64 d]] w fun e w' => ∃ A c A' c', e = .returned (.agg #[.bool (decide (qf n d < 0)), .slice A (natL (qf n d).num.natAbs).length c, .slice A' (natL (qf n d).den).length c']) ∧ RdV w w' A (natL (qf n d).num.natAbs) ∧ RdV w w' A' (natL (qf n d).den) ∧ Below w.heap.size w w' := by
  obtain ⟨g1, g2, g3⟩ := h.num
  have := ratioOf_new n d (by have := h.2.2.1; have := h.2.2.2.1; omega) (by have := h.1; omega) h.2.1 w
  rw [g1, g3, show (qf n d).den = d.toNat by omega]
  exact this
set_option maxHeartbeats 2000000 in
set_option maxRecDepth 100000 in
theorem fractions_any {A : Option Addr} {c n : Nat} {f : Nat → Rat} (w : World) (hx : RdR w A n f) (hn : n ≤ 1000) : Calls Tryz.prog 83 #[.slice A n c] w (FsRet (gN f n) (gR f n) (smallAll f n) w) := by
  have HX := Lib.hid hx
  obtain ⟨i2, ki, kz0, kz1, kz2⟩ := info_parts infoFr
  have H0 := Lib.hid (GRel.start f n w)
  clear hx
  go_enter Tryz.func83, Tryz.ntmps83
  go_wp2
  go_loopw [12, 4] (fun iv sv wr => GRel f n w iv sv wr) (fun iv _ _ => n - (intOf iv).toNat)
  case atStart => exact H0.out
  case round =>
    obtain ⟨i, rfl, hi, HO, HA, HB⟩ := hrel
    clear H0
    by_cases hlt : i < n
    · obtain ⟨g, s, A1, k1, c1, A2, k2, c2, rfl, hgl, y0, y1, y2, hp'⟩ := (HX.out.below HB.out).at hlt
      have HF : Hid (∀ w1 w2 v' cs t, smallQ (f i) = true → Below wr.heap.size wr w1 → _ → _ → _) := Lib.hid (fun w1 w2 v' cs t hv h1 hown hg => GRel.next (w1 := w1) (w2 := w2) (v' := v') (cs := cs) (t := t) hlt HO.out HA.out hv HB.out h1 hown hg)
      have HNO := Lib.hid (fun h => GiveM.small_no hlt (show smallQ (f i) = false from h))
      go_upto_region 5 with (fail)
      obtain ⟨W1, hW1⟩ : ∃ W1, W1 = wr.alloc (.cells #[.bool s, .slice A1 k1 c1, .slice A2 k2 c2] 87) := ⟨_, rfl⟩
      rw [← hW1]
      have K1 : Hid (Blk W1 wr.heap.size 87 #[.bool s, .slice A1 k1 c1, .slice A2 k2 c2]) := Lib.hid (by rw [hW1]; exact Blk.new wr _ _)
      have HB1 : Hid (Below wr.heap.size wr W1) := Lib.hid (by rw [hW1]; exact (Below.refl _ _).alloc (Nat.le_refl _) _)
      have HG := Lib.hid (ratFraction W1 (hp'.below HB1.out))
      have z0 := K1.out.at 0 (v := .bool s) rfl
      have z1 := K1.out.at 1 (v := .slice A1 k1 c1) rfl
      have z2 := K1.out.at 2 (v := .slice A2 k2 c2) rfl
      clear hp' hgl y0 y1 y2 hW1
      generalize f i = q at *
      generalize numQ q = P at *
      generalize denQ q = Q at *
      go_wp2_with fail
      refine HG.out.mono ?_
      rintro e w1 ⟨rfl, hb1⟩
      have HB3 := Lib.hid (Base.Below.nextA HB1.out hb1)
      clear hb1 z0 z1 z2 HG HB1 K1
      go_upto_region 6 with (fail)
      obtain ⟨W2, hW2⟩ : ∃ W2, W2 = w1.alloc (.cells #[.int .i64 P, .int .i64 Q] 43) := ⟨_, rfl⟩
      rw [← hW2]
      have K2 : Hid (Blk W2 w1.heap.size 43 #[.int .i64 P, .int .i64 Q]) := Lib.hid (by rw [hW2]; exact Blk.new w1 _ _)
      have HB2 : Hid (Below wr.heap.size wr W2) := Lib.hid (by rw [hW2]; exact HB3.out.alloc HB3.out.size _)
      have hsz := HB.out.size
      have hsz2 := HB2.out.size
      cases hs : smallQ q with
      | false =>
        have HN := Lib.hid (HNO.out hs)
        have HBB := Lib.hid (Base.Below.nextA HB.out HB2.out)
        clear hW2 hs HNO HF
        go_wp2
        go_ret2
        rw [HN.out.1, HN.out.2.1, HN.out.2.2]
        exact FsRet.no HBB.out
      | true =>
        have HNN := Lib.hid (fun w3 v' cs t hown hg => HF.out W2 w3 v' cs t hs HB2.out hown hg)
        have HW2 := Lib.hid (World.ownsRow.alloc (ownsRow_below HO.out HB2.out) (.cells #[.int .i64 P, .int .i64 Q] 43))
        have x0 := K2.out.at 0 (v := .int .i64 P) rfl
        have x1 := K2.out.at 1 (v := .int .i64 Q) rfl
        clear hW2 hs HNO HF HO HA HB HB3 HB2
        go_wp2_with (at_builtin; refine wpList_append_own_at _ rfl (.tmp 23) (.tmp 25) 28 rfl w.heap.size 43 i2 (.agg #[.int .i64 0, .int .i64 0]) 2 16 Tryz.underlying28 ki kz0 kz1 kz2 rfl (by decide) _ _ _ rfl HW2.out ⟨W2.heap.size, 0, none⟩ 1 1 [.int .i64 P, .int .i64 Q] rfl rfl ?p1a ?p2a ?p3a ?p4a ?p5a ?_)
        try case p1a => exact MemF.news_two _ _ (by simp)
        try case p2a => exact MemF.ones_two
        try case p3a => first | (simp only [maxLen]; omega) | omega
        try case p4a => omega
        try case p5a => first | (simp only [World.size_alloc]; omega) | omega
        intro v' w3 hown' hg' _ he
        have HN3 := Lib.hid (HNN.out w3 v' _ _ hown' hg')
        clear hown' hg' he HNN HW2
        go_wp2
        go_roundw
        case rel => exact HN3.out
        case measure => simp [intOf]; omega
    · obtain rfl : i = n := by omega
      obtain ⟨A', cp, rfl, _⟩ := HO.out.form
      have HY := Lib.hid (GiveM.small_yes' HA.out)
      clear HA
      go_wp2
      go_ret2
      rw [HY.out.1, HY.out.2.1, HY.out.2.2]
      exact ⟨A', cp, rfl, HO.out, HB.out⟩
end Go.Proofs.YtionognmgcabbaaGreat.Ratio
/- Walks in memory; whether one is valid, in plain words. -/
namespace Go.Proofs.YtionognmgcabbaaGreat.WalkM
open Go.RowKit Go.Proofs.YtionognmgcabbaaGreat Go.Proofs.YtionognmgcabbaaGreat.Base Go.Proofs.YtionognmgcabbaaGreat.Mem Go.Proofs.YtionognmgcabbaaGreat.MemF Go.Proofs.YtionognmgcabbaaGreat.ChM
set_option linter.unusedVariables false
/-- n lists of fractions lie behind A, in blocks below B: list i has L i fractions, its numbers are fs i -/
def RdFF (w : World) (B : Nat) (A : Option Addr) (n : Nat) (L : Nat → Nat) (fs : Nat → List Int) : Prop :=
  0 < n → ∃ b off, A = some ⟨b, off, none⟩ ∧ b < B ∧ ∀ i, i < n → ∃ A' c, w.cell? ⟨b, off + i, none⟩ = some (.slice A' (L i) c) ∧ RdF w B A' (L i) (fs i)
theorem RdFF.below {w w' : World} {B C n : Nat} {A : Option Addr} {L : Nat → Nat} {fs : Nat → List Int} (h : RdFF w B A n L fs) (hb : Below C w w') (hBC : B ≤ C) : RdFF w' B A n L fs := fun h0 => by
  obtain ⟨b, off, e, hlt, hc⟩ := h h0
  refine ⟨b, off, e, hlt, fun i hi => ?_⟩
  obtain ⟨A', c, h1, h2⟩ := hc i hi
  exact ⟨A', c, (hb.cell (p := ⟨b, off + i, none⟩) (by show b < C; omega)).trans h1, h2.below hb hBC⟩
theorem RdFF.more {w : World} {B C n : Nat} {A : Option Addr} {L : Nat → Nat} {fs : Nat → List Int} (h : RdFF w B A n L fs) (hBC : B ≤ C) : RdFF w C A n L fs := fun h0 => by
  obtain ⟨b, off, e, hlt, hc⟩ := h h0
  refine ⟨b, off, e, by omega, fun i hi => ?_⟩
  obtain ⟨A', c, h1, h2⟩ := hc i hi
  exact ⟨A', c, h1, h2.more hBC⟩
theorem RdFF.at {w : World} {B n : Nat} {A : Option Addr} {L : Nat → Nat} {fs : Nat → List Int} (h : RdFF w B A n L fs) {i : Nat} (hi : i < n) : ∃ b off A' c, A = some ⟨b, off, none⟩ ∧ b < B ∧ w.cell? ⟨b, off + i, none⟩ = some (.slice A' (L i) c) ∧ RdF w B A' (L i) (fs i) := by
  obtain ⟨b, off, e, hlt, hc⟩ := h (by omega)
  obtain ⟨A', c, h1, h2⟩ := hc i hi
  exact ⟨b, off, A', c, e, hlt, h1, h2⟩
def rowOk (n : Nat) (L : Nat → Nat) (fs : Nat → List Int) (i : Nat) : Bool := decide (L i = n) && chB (fs i) (L i)
/-- a valid walk -/
def wkB (n : Nat) (L : Nat → Nat) (fs : Nat → List Int) : Bool := decide (1 ≤ n ∧ n ≤ 6) && (List.range n).all (rowOk n L fs)
theorem wkB_out {n : Nat} {L : Nat → Nat} {fs : Nat → List Int} (h : ¬ (1 ≤ n ∧ n ≤ 6)) : wkB n L fs = false := by
  unfold wkB; rw [decide_eq_false h]; rfl
theorem wkB_in {n : Nat} {L : Nat → Nat} {fs : Nat → List Int} (h : 1 ≤ n ∧ n ≤ 6) : wkB n L fs = (List.range n).all (rowOk n L fs) := by
  unfold wkB; rw [decide_eq_true h]; rfl
theorem wkB_true {n : Nat} {L : Nat → Nat} {fs : Nat → List Int} (h : wkB n L fs = true) : 1 ≤ n ∧ n ≤ 6 ∧ ∀ i, i < n → L i = n ∧ chB (fs i) n = true := by
  simp only [wkB, Bool.and_eq_true, decide_eq_true_eq] at h
  refine ⟨h.1.1, h.1.2, fun i hi => ?_⟩
  have := all_range.1 h.2 i hi
  simp only [rowOk, Bool.and_eq_true, decide_eq_true_eq] at this
  exact ⟨this.1, by rw [← this.1]; exact (by have h2 := this.2; rw [this.1] at h2 ⊢; exact h2)⟩
end Go.Proofs.YtionognmgcabbaaGreat.WalkM
/- The program: the rows of a walk as ratios. -/
namespace Go.Proofs.YtionognmgcabbaaGreat.Ratio
open Go.RowKit Go.Proofs.YtionognmgcabbaaGreat Go.Proofs.YtionognmgcabbaaGreat.Base Go.Proofs.YtionognmgcabbaaGreat.Mem Go.Proofs.YtionognmgcabbaaGreat.NatM Go.Proofs.YtionognmgcabbaaGreat.Nat32 Go.Proofs.YtionognmgcabbaaGreat.RatM Go.Proofs.YtionognmgcabbaaGreat.Blk Go.Proofs.YtionognmgcabbaaGreat.MemF Go.Proofs.YtionognmgcabbaaGreat.GiveM Go.Proofs.YtionognmgcabbaaGreat.ChM Go.Proofs.YtionognmgcabbaaGreat.WalkM
open Go.Proofs.YtionognmgcabbaaGreat.Inv (natOf natOf_eq len_pos Rat3 not_slice not_bool frz)
set_option linter.unusedVariables false
/-- all that the cells lead to lies in blocks from B on -/
def LowC (B : Nat) (cs : List Value) : Prop := ∀ a k c, Value.slice (some a) k c ∈ cs → B ≤ a.block
theorem LowC.nil (B : Nat) : LowC B [] := fun a k c h => by cases h
theorem LowC.push {B : Nat} {cs : List Value} {q : Rat} {A1 A2 : Option Addr} {c1 c2 : Nat} (h : LowC B cs) (h1 : ∀ a, A1 = some a → B ≤ a.block) (h2 : ∀ a, A2 = some a → B ≤ a.block) : LowC B (cs ++ rt3 q A1 A2 c1 c2) := by
  intro a k c hm
  rcases List.mem_append.1 hm with hm | hm
  · exact h a k c hm
  · simp only [rt3, List.mem_cons, List.not_mem_nil, or_false] at hm
    rcases hm with hm | hm | hm
    · cases hm
    · injection hm with e _ _; exact h1 a e.symm
    · injection hm with e _ _; exact h2 a e.symm
def RsRelL (fs : List Int) (n : Nat) (w : World) (iv ov : Value) (wr : World) : Prop :=
  ∃ (i : Nat) (cs : List Value), iv = .int .i64 (i : Int) ∧ i ≤ n ∧ Hid (OwnR wr w.heap.size ov i (fq fs) cs) ∧ Hid (LowC w.heap.size cs) ∧ Hid (Below w.heap.size w wr)
/-- a list that is returned -/
def RsRetL (n : Nat) (f : Nat → Rat) (w : World) (e : Ending) (w' : World) : Prop := ∃ v cs, e = .returned v ∧ OwnR w' w.heap.size v n f cs ∧ LowC w.heap.size cs ∧ Below w.heap.size w w'
theorem RsRelL.next {fs : List Int} {n i : Nat} {w wr w1 w2 : World} {v v' : Value} {cs : List Value} {A1 A2 : Option Addr} {c1 c2 : Nat} {ca : Array Value} {t : TypeId} (hi : i < n) (h : OwnR wr w.heap.size v i (fq fs) cs) (hl : LowC w.heap.size cs) (hb : Below w.heap.size w wr) (h1 : Below wr.heap.size wr w1)
    (d1 : RdV wr w1 A1 (natL (fq fs i).num.natAbs)) (d2 : RdV wr w1 A2 (natL (fq fs i).den)) (hown : w2.ownsRow w.heap.size 87 3 v' (i + 1) (cs ++ rt3 (fq fs i) A1 A2 c1 c2)) (hg : (w1.alloc (.cells ca t)).grownBy w2 v.ownBlock) (he : v'.ownBlock = v.ownBlock ∨ v'.ownBlock = some (w1.alloc (.cells ca t)).heap.size) : RsRelL fs n w (.int .i64 ((i : Int) + 1)) v' w2 := by
  have hb1 : Below wr.heap.size wr (w1.alloc (.cells ca t)) := h1.alloc h1.size _
  have hsz := hb.size
  refine ⟨i + 1, _, by simp, hi, Lib.hid (h.push h1 d1.1 d2.1 (fun _ => d1.apart h.row) (fun _ => d2.apart h.row) hown hg he), Lib.hid (hl.push (fun a ha => Nat.le_trans hsz (d1.2 a ha)) (fun a ha => Nat.le_trans hsz (d2.2 a ha))), Lib.hid ?_⟩
  exact (hb.trans (hb1.mono hb.size)).trans (grown_below hg (fun g e => (ownsRow_block h.row e).choose_spec.2.1) (Nat.le_trans hb.size hb1.size))
set_option maxHeartbeats 2000000 in
set_option maxRecDepth 100000 in
theorem ratiosL_any {A : Option Addr} {c B n : Nat} {fs : List Int} (w : World) (hx : RdF w B A n fs) (hB : B ≤ w.heap.size) (hv : AllVF fs n) (hn : n ≤ 1000) : Calls Tryz.prog 61 #[.slice A n c] w (RsRetL n (fq fs) w) := by
  obtain ⟨iw, wi, wz0, wz1, wz2⟩ := info_parts infoR
  have HX := Lib.hid (hx.more hB)
  have HV := Lib.hid hv
  have H0 : Hid (RsRelL fs n w (.int .i64 0) (.slice (some ⟨w.heap.size, 0, none⟩) 0 0) (w.alloc (.cells #[] 87))) := Lib.hid ⟨0, [], rfl, Nat.zero_le _, Lib.hid (OwnR.lit0 w _), Lib.hid (LowC.nil _), Lib.hid ((Below.refl _ _).alloc (Nat.le_refl _) _)⟩
  clear hx hv
  go_enter Tryz.func61, Tryz.ntmps61
  go_wp2
  go_loopw [9, 3] (fun iv ov wr => RsRelL fs n w iv ov wr) (fun iv _ _ => n - (intOf iv).toNat)
  case atStart => exact H0.out
  case round =>
    obtain ⟨i, cs, rfl, hi, HO, HLC, HB⟩ := hrel
    clear H0
    by_cases hlt : i < n
    · obtain ⟨b, off, rfl, hbl, g1, g2⟩ := (HX.out.below HB.out (Nat.le_refl _)).at hlt
      have HW := Lib.hid (fun W => ratioOf_vf (HV.out i hlt) W)
      have hfq : qf (fs.getD (2 * i) 0) (fs.getD (2 * i + 1) 0) = fq fs i := rfl
      rw [hfq] at HW
      clear hfq
      have HNX := Lib.hid (fun (w1 w2 : World) v' A1 A2 c1 c2 ca t h1 d1 d2 hown hg he => RsRelL.next (w1 := w1) (w2 := w2) (v' := v') (A1 := A1) (A2 := A2) (c1 := c1) (c2 := c2) (ca := ca) (t := t) hlt HO.out HLC.out HB.out h1 d1 d2 hown hg he)
      unfold rt3 at HNX
      clear HLC
      generalize fs.getD (2 * i) 0 = x0 at *
      generalize fs.getD (2 * i + 1) 0 = x1 at *
      generalize fq fs i = q at *
      have hsz := HB.out.size
      go_upto_region 5 with (fail)
      obtain ⟨W1, hW1⟩ : ∃ W1, W1 = wr.alloc (.cells #[.int .i64 x0, .int .i64 x1] 43) := ⟨_, rfl⟩
      rw [← hW1]
      have K1 : Hid (Blk W1 wr.heap.size 43 #[.int .i64 x0, .int .i64 x1]) := Lib.hid (by rw [hW1]; exact Blk.new wr _ _)
      have HB1 : Hid (Below wr.heap.size wr W1) := Lib.hid (by rw [hW1]; exact (Below.refl _ _).alloc (Nat.le_refl _) _)
      have hs1 := HB1.out.size
      have y0 := K1.out.at 0 (v := .int .i64 x0) rfl
      have y1 := K1.out.at 1 (v := .int .i64 x1) rfl
      clear hW1 g1 g2
      go_wp2_with fail
      refine (HW.out _).mono ?_
      rintro e w2 ⟨A1, c1, A2, c2, rfl, d1, d2, hb2⟩
      have HB2 := Lib.hid (Base.Below.nextA HB1.out hb2)
      have hs2 := HB2.out.size
      have HD := Lib.hid (And.intro (d1.old HB1.out.size) (d2.old HB1.out.size))
      have HNN := Lib.hid (fun w3 v' ca t hown hg he => HNX.out w2 w3 v' A1 A2 c1 c2 ca t HB2.out HD.out.1 HD.out.2 hown hg he)
      have HW0 := Lib.hid (fun o => World.ownsRow.alloc (ownsRow_below HO.out.row HB2.out) o)
      clear d1 d2 hb2 HO HB y0 y1 HW HNX HD
      generalize decide (q < 0) = s at *
      generalize (natL q.num.natAbs).length = k1 at *
      generalize (natL q.den).length = k2 at *
      have HW2 := Lib.hid (HW0.out (.cells #[.bool s, .slice A1 k1 c1, .slice A2 k2 c2] 87))
      clear HW0
      go_wp2_with (at_builtin; refine wpList_append_own_at _ rfl (.tmp 13) (.tmp 16) 89 rfl w.heap.size 87 iw (.agg #[.bool false, .slice none 0 0, .slice none 0 0]) 3 56 Tryz.underlying89 wi wz0 wz1 wz2 rfl (by decide) _ _ _ rfl HW2.out ⟨w2.heap.size, 0, none⟩ 1 1 [.bool s, .slice A1 k1 c1, .slice A2 k2 c2] rfl rfl ?p1a ?p2a ?p3a ?p4a ?p5a ?_)
      try case p1a => exact news_three _ _ (by simp)
      try case p2a => exact ones_three
      try case p3a => first | (simp only [maxLen]; omega) | omega
      try case p4a => omega
      try case p5a => first | (simp only [World.size_alloc]; omega) | omega
      intro v' w3 hown' hg' _ he
      have HN3 := Lib.hid (HNN.out w3 v' _ _ hown' hg' (by rw [World.size_alloc]; exact he))
      clear hown' hg' he HNN HW2
      go_wp2
      go_roundw
      case rel => exact HN3.out
      case measure => simp [intOf]; omega
    · obtain rfl : i = n := by omega
      obtain ⟨A', c', rfl, _⟩ := HO.out.form
      have HR : Hid (RsRetL i (fq fs) w (.returned (.slice A' i c')) wr) := Lib.hid ⟨_, cs, rfl, HO.out, HLC.out, HB.out⟩
      clear HO HB HLC
      go_wp2
      go_ret
      exact HR.out

/-! ### Lists of lists -/
/-- a list of ratios that is read, apart from a block -/
def RdX (w : World) (own : Option Nat) (A : Option Addr) (n : Nat) (f : Nat → Rat) : Prop :=
  0 < n → ∃ g, A = some ⟨g, 0, none⟩ ∧ g < w.heap.size ∧ own ≠ some g ∧ ∀ i, i < n → ∃ s A1 k1 c1 A2 k2 c2, w.cell? ⟨g, i * 3, none⟩ = some (.bool s) ∧ w.cell? ⟨g, i * 3 + 1, none⟩ = some (.slice A1 k1 c1) ∧ w.cell? ⟨g, i * 3 + 2, none⟩ = some (.slice A2 k2 c2) ∧ IsRt w (f i) (.agg #[.bool s, .slice A1 k1 c1, .slice A2 k2 c2]) ∧ (0 < k1 → Apart own A1) ∧ (0 < k2 → Apart own A2)
theorem RdX.rd {w : World} {own : Option Nat} {A : Option Addr} {n : Nat} {f : Nat → Rat} (h : RdX w own A n f) : RdR w A n f := fun h0 => by
  obtain ⟨g, e, hlt, _, hc⟩ := h h0
  refine ⟨g, e, hlt, fun i hi => ?_⟩
  obtain ⟨s, A1, k1, c1, A2, k2, c2, x0, x1, x2, hr, _⟩ := hc i hi
  exact ⟨s, A1, k1, c1, A2, k2, c2, x0, x1, x2, hr⟩
theorem RdX.below {w w' : World} {own : Option Nat} {A : Option Addr} {n : Nat} {f : Nat → Rat} (h : RdX w own A n f) (hb : Below w.heap.size w w') : RdX w' own A n f := fun h0 => by
  obtain ⟨g, e, hlt, hne, hc⟩ := h h0
  refine ⟨g, e, Nat.lt_of_lt_of_le hlt hb.size, hne, fun i hi => ?_⟩
  obtain ⟨s, A1, k1, c1, A2, k2, c2, x0, x1, x2, hr, a1, a2⟩ := hc i hi
  exact ⟨s, A1, k1, c1, A2, k2, c2, (hb.cell (p := ⟨g, i * 3, none⟩) hlt).trans x0, (hb.cell (p := ⟨g, i * 3 + 1, none⟩) hlt).trans x1, (hb.cell (p := ⟨g, i * 3 + 2, none⟩) hlt).trans x2, hr.below hb, a1, a2⟩
theorem RdX.congr {w : World} {own : Option Nat} {A : Option Addr} {n : Nat} {f f' : Nat → Rat} (h : RdX w own A n f) (hf : ∀ i, i < n → f i = f' i) : RdX w own A n f' := fun h0 => by
  obtain ⟨g, e, hlt, hne, hc⟩ := h h0
  exact ⟨g, e, hlt, hne, fun i hi => by rw [← hf i hi]; exact hc i hi⟩
theorem apart_kept {w w' : World} {own own' : Option Nat} {A : Option Addr} {xs : List Nat} {k : Nat} (hk : k = xs.length) (h : RdU w w.heap.size A xs) (hg : w.grownBy w' own) (he : own' = own ∨ own' = some w.heap.size) (ha : 0 < k → Apart own A) : RdU w' w'.heap.size A xs ∧ (0 < k → Apart own' A) := by
  refine ⟨fun h0 => rdU_kept h hg (ha (by omega)) h0, fun h0 => ?_⟩
  rcases he with rfl | rfl
  · exact ha h0
  · obtain ⟨b, off, rfl, hlt, _⟩ := h (by omega)
    intro a ha hb
    injection ha with ha
    subst ha
    injection hb with hb
    have : w.heap.size = b := hb
    omega
theorem RdX.kept {w w' : World} {own own' : Option Nat} {A : Option Addr} {n : Nat} {f : Nat → Rat} (h : RdX w own A n f) (hg : w.grownBy w' own) (he : own' = own ∨ own' = some w.heap.size) : RdX w' own' A n f := fun h0 => by
  obtain ⟨g, rfl, hlt, hne, hc⟩ := h h0
  have hx : ∀ o, w'.cell? ⟨g, o, none⟩ = w.cell? ⟨g, o, none⟩ := fun o => World.cell?_of_block (hg.block g hlt (fun e => hne e.symm))
  refine ⟨g, rfl, Nat.lt_of_lt_of_le hlt hg.size, fun e => ?_, fun i hi => ?_⟩
  · rcases he with rfl | rfl
    · exact hne e
    · injection e with e; omega
  · obtain ⟨s, A1, k1, c1, A2, k2, c2, x0, x1, x2, hr, a1, a2⟩ := hc i hi
    obtain ⟨B1, d1, B2, d2, ev, h1, h2⟩ := hr
    injection ev with ev
    simp only [Array.mk.injEq, List.cons.injEq, Value.slice.injEq, Value.bool.injEq, and_true] at ev
    obtain ⟨e0, ⟨e1, e2, e3⟩, e4, e5, e6⟩ := ev
    subst e1 e3 e4 e6
    obtain ⟨p1, p2⟩ := apart_kept e2 h1 hg he a1
    obtain ⟨p3, p4⟩ := apart_kept e5 h2 hg he a2
    exact ⟨s, A1, k1, c1, A2, k2, c2, (hx _).trans x0, (hx _).trans x1, (hx _).trans x2, ⟨A1, c1, A2, c2, by rw [e0, e2, e5], p1, p3⟩, p2, p4⟩
/-- what was made behind the block is apart from it -/
theorem OwnR.rdX {w : World} {B n c : Nat} {A : Option Addr} {f : Nat → Rat} {cs : List Value} (h : OwnR w B (.slice A n c) n f cs) (hl : LowC B cs) {own : Option Nat} (ho : ∀ b, own = some b → b < B) : RdX w own A n f := fun h0 => by
  obtain ⟨g, s, A1, k1, c1, A2, k2, c2, rfl, hlt, _⟩ := h.at h0
  have hgB : B ≤ g := by obtain ⟨_, _, h2, _⟩ := ownsRow_block h.row (g := g) rfl; exact h2
  refine ⟨g, rfl, hlt, fun e => ?_, fun i hi => ?_⟩
  · have := ho g e; omega
  · obtain ⟨g', s, A1, k1, c1, A2, k2, c2, e, _, x0, x1, x2, hr⟩ := h.at hi
    injection e with e
    injection e with e _ _
    subst e
    have hlen : cs.length = n * 3 := h.row.1
    have mem : ∀ o u, o < cs.length → w.cell? ⟨g, o, none⟩ = some u → u ∈ cs := fun o u ho' hu => by
      rw [World.ownsRow.cellAt h.row o (by omega)] at hu
      exact List.mem_of_getElem? hu
    refine ⟨s, A1, k1, c1, A2, k2, c2, x0, x1, x2, hr, fun _ a ha hb => ?_, fun _ a ha hb => ?_⟩
    · subst ha
      have := hl a k1 c1 (mem _ _ (by omega) x1)
      have := ho _ hb
      omega
    · subst ha
      have := hl a k2 c2 (mem _ _ (by omega) x2)
      have := ho _ hb
      omega
/-- the lists of a list of the call's own -/
structure OwnRR (w : World) (B : Nat) (v : Value) (n : Nat) (L : Nat → Nat) (f : Nat → Nat → Rat) (us : List Value) : Prop where
  row : w.ownsRow B 89 1 v n us
  els : ∀ i, i < n → ∃ A c, us[i]? = some (.slice A (L i) c) ∧ RdX w v.ownBlock A (L i) (f i)
theorem OwnRR.lit0 (w : World) (L : Nat → Nat) (f : Nat → Nat → Rat) : OwnRR (w.alloc (.cells #[] 89)) w.heap.size (.slice (some ⟨w.heap.size, 0, none⟩) 0 0) 0 L f [] :=
  ⟨World.ownsRow_made w #[] 0 (Nat.le_refl _) (Nat.zero_le _) (by simp), fun i hi => absurd hi (Nat.not_lt_zero i)⟩
theorem OwnRR.below {w w' : World} {B n : Nat} {v : Value} {L : Nat → Nat} {f : Nat → Nat → Rat} {us : List Value} (h : OwnRR w B v n L f us) (hb : Below w.heap.size w w') : OwnRR w' B v n L f us :=
  ⟨ownsRow_below h.row hb, fun i hi => by
    obtain ⟨A, c, e, h1⟩ := h.els i hi
    exact ⟨A, c, e, h1.below hb⟩⟩
theorem OwnRR.push {wr w1 w2 : World} {B n : Nat} {v v' : Value} {L : Nat → Nat} {f : Nat → Nat → Rat} {us : List Value} {A : Option Addr} {c : Nat} {ca : Array Value} {t : TypeId} (h : OwnRR wr B v n L f us) (h1 : Below wr.heap.size wr w1)
    (hx : RdX w1 v.ownBlock A (L n) (f n)) (hown : w2.ownsRow B 89 1 v' (n + 1) (us ++ [.slice A (L n) c])) (hg : (w1.alloc (.cells ca t)).grownBy w2 v.ownBlock) (he : v'.ownBlock = v.ownBlock ∨ v'.ownBlock = some (w1.alloc (.cells ca t)).heap.size) : OwnRR w2 B v' (n + 1) L f (us ++ [.slice A (L n) c]) := by
  have hb2 : Below w1.heap.size w1 (w1.alloc (.cells ca t)) := (Below.refl _ _).alloc (Nat.le_refl _) _
  have hlen : us.length = n := by have := h.row.1; omega
  refine ⟨hown, fun i hi => ?_⟩
  rcases Nat.lt_or_ge i n with hlt | hge
  · obtain ⟨A', c', e, hx'⟩ := ((h.below h1).below hb2).els i hlt
    exact ⟨A', c', by rw [List.getElem?_append_left (by omega)]; exact e, hx'.kept hg he⟩
  · obtain rfl : i = n := by omega
    exact ⟨A, c, by rw [List.getElem?_append_right (by omega), hlen, Nat.sub_self]; rfl, (hx.below hb2).kept hg he⟩
/-- lists of ratios that are read -/
def RdRR (w : World) (A : Option Addr) (n : Nat) (L : Nat → Nat) (f : Nat → Nat → Rat) : Prop :=
  0 < n → ∃ g, A = some ⟨g, 0, none⟩ ∧ g < w.heap.size ∧ ∀ i, i < n → ∃ A' c, w.cell? ⟨g, i, none⟩ = some (.slice A' (L i) c) ∧ RdR w A' (L i) (f i)
theorem RdRR.below {w w' : World} {A : Option Addr} {n : Nat} {L : Nat → Nat} {f : Nat → Nat → Rat} (h : RdRR w A n L f) (hb : Below w.heap.size w w') : RdRR w' A n L f := fun h0 => by
  obtain ⟨g, e, hlt, hc⟩ := h h0
  refine ⟨g, e, Nat.lt_of_lt_of_le hlt hb.size, fun i hi => ?_⟩
  obtain ⟨A', c, x, hr⟩ := hc i hi
  exact ⟨A', c, (hb.cell (p := ⟨g, i, none⟩) hlt).trans x, hr.below hb⟩
theorem RdRR.at {w : World} {A : Option Addr} {n : Nat} {L : Nat → Nat} {f : Nat → Nat → Rat} (h : RdRR w A n L f) {i : Nat} (hi : i < n) : ∃ g A' c, A = some ⟨g, 0, none⟩ ∧ g < w.heap.size ∧ w.cell? ⟨g, i, none⟩ = some (.slice A' (L i) c) ∧ RdR w A' (L i) (f i) := by
  obtain ⟨g, e, hlt, hc⟩ := h (by omega)
  obtain ⟨A', c, x, hr⟩ := hc i hi
  exact ⟨g, A', c, e, hlt, x, hr⟩
theorem OwnRR.rd {w : World} {B n c : Nat} {A : Option Addr} {L : Nat → Nat} {f : Nat → Nat → Rat} {us : List Value} (h : OwnRR w B (.slice A n c) n L f us) : RdRR w A n L f := fun h0 => by
  obtain ⟨A', c', e, hf⟩ := ownsRow_form h.row
  injection e with e1 e2 e3
  subst e1 e3
  obtain ⟨g, rfl, _, hlt⟩ := hf h0
  refine ⟨g, rfl, hlt, fun i hi => ?_⟩
  obtain ⟨A2, c2, e, hx⟩ := h.els i hi
  have hlen : us.length = n := by have := h.row.1; omega
  exact ⟨A2, c2, by rw [World.ownsRow.cellAt h.row i (by omega)]; exact e, hx.rd⟩
theorem infoRR : (Tryz.prog.info? 89).map (fun i => (i.zero, i.size, i.bytes)) = some (some (.slice none 0 0), 1, 24) := by kernel_rfl
def RrRel (n : Nat) (L : Nat → Nat) (fs : Nat → List Int) (w : World) (iv ov : Value) (wr : World) : Prop :=
  ∃ (i : Nat) (us : List Value), iv = .int .i64 (i : Int) ∧ i ≤ n ∧ Hid (OwnRR wr (w.heap.size + 1) ov i L (fun j => fq (fs j)) us) ∧ Hid (Below w.heap.size w wr)
theorem RrRel.next {n i : Nat} {L : Nat → Nat} {fs : Nat → List Int} {w wr w1 w2 : World} {v v' : Value} {us cs : List Value} {A : Option Addr} {c : Nat} {ca : Array Value} {t : TypeId} (hi : i < n) (h : OwnRR wr (w.heap.size + 1) v i L (fun j => fq (fs j)) us) (hb : Below w.heap.size w wr) (h1 : Below wr.heap.size wr w1)
    (ho : OwnR w1 wr.heap.size (.slice A (L i) c) (L i) (fq (fs i)) cs) (hl : LowC wr.heap.size cs) (hown : w2.ownsRow (w.heap.size + 1) 89 1 v' (i + 1) (us ++ [.slice A (L i) c])) (hg : (w1.alloc (.cells ca t)).grownBy w2 v.ownBlock) (he : v'.ownBlock = v.ownBlock ∨ v'.ownBlock = some (w1.alloc (.cells ca t)).heap.size) : RrRel n L fs w (.int .i64 ((i : Int) + 1)) v' w2 := by
  have hb1 : Below wr.heap.size wr (w1.alloc (.cells ca t)) := h1.alloc h1.size _
  refine ⟨i + 1, _, by simp, hi, Lib.hid (h.push h1 (ho.rdX hl fun b e => ?_) hown hg he), Lib.hid ?_⟩
  · obtain ⟨_, _, _, hlt⟩ := ownsRow_block h.row e; exact hlt
  · exact (hb.trans (hb1.mono hb.size)).trans (grown_below hg (fun g e => by have := (ownsRow_block h.row e).choose_spec.2.1; omega) (Nat.le_trans hb.size hb1.size))
/-- lists of lists that are returned -/
def RrRet (n : Nat) (L : Nat → Nat) (f : Nat → Nat → Rat) (w : World) (e : Ending) (w' : World) : Prop := ∃ A c, e = .returned (.slice A n c) ∧ RdRR w' A n L f ∧ Below w.heap.size w w'
set_option maxHeartbeats 2000000 in
set_option maxRecDepth 100000 in
theorem rowsI_any {A : Option Addr} {c B n : Nat} {L : Nat → Nat} {fs : Nat → List Int} (w : World) (hx : RdFF w B A n L fs) (hB : B ≤ w.heap.size) (hv : ∀ i, i < n → AllVF (fs i) (L i)) (hL : ∀ i, i < n → L i ≤ 1000) (hn : n ≤ 1000) : Calls Tryz.prog 82 #[.agg #[.slice A n c]] w (RrRet n L (fun j => fq (fs j)) w) := by
  obtain ⟨ir, ri, rz0, rz1, rz2⟩ := info_parts infoRR
  have hb0 : Below w.heap.size w (w.alloc (.cells #[.slice A n c] 33)) := (Below.refl _ _).alloc (Nat.le_refl _) _
  have HX := Lib.hid (hx.more hB)
  have HV := Lib.hid (And.intro hv hL)
  have H0 : Hid (RrRel n L fs w (.int .i64 0) (.slice (some ⟨w.heap.size + 1, 0, none⟩) 0 0) ((w.alloc (.cells #[.slice A n c] 33)).alloc (.cells #[] 89))) := Lib.hid (by
    have h := OwnRR.lit0 (w.alloc (.cells #[.slice A n c] 33)) L (fun j => fq (fs j))
    rw [World.size_alloc] at h
    exact ⟨0, [], rfl, Nat.zero_le _, Lib.hid h, Lib.hid (hb0.alloc (by simp) _)⟩)
  clear hx hv hL hb0
  go_enter Tryz.func82, Tryz.ntmps82
  go_wp2
  go_loopw [10, 3] (fun iv ov wr => RrRel n L fs w iv ov wr) (fun iv _ _ => n - (intOf iv).toNat)
  case atStart => exact H0.out
  case round =>
    obtain ⟨i, us, rfl, hi, HO, HB⟩ := hrel
    clear H0
    by_cases hlt : i < n
    · obtain ⟨b, off, A', c', rfl, hbl, g1, hr⟩ := (HX.out.below HB.out (Nat.le_refl _)).at hlt
      have HC := Lib.hid (ratiosL_any (c := c') wr hr HB.out.size (HV.out.1 i hlt) (HV.out.2 i hlt))
      have HNX := Lib.hid (fun (w1 w2 : World) v' cs A c ca t h1 ho hl hown hg he => RrRel.next (w1 := w1) (w2 := w2) (v' := v') (cs := cs) (A := A) (c := c) (ca := ca) (t := t) hlt HO.out HB.out h1 ho hl hown hg he)
      have hsz := HB.out.size
      clear hr
      generalize L i = l at *
      generalize fq (fs i) = ff at *
      go_wp2_with fail
      refine HC.out.mono ?_
      rintro e w1 ⟨v, cs, rfl, ho, hlc, hb1⟩
      obtain ⟨A2, c2, rfl, _⟩ := ho.form
      have hs1 := hb1.size
      have HN := Lib.hid (fun w2 v' ca t hown hg he => HNX.out w1 w2 v' cs A2 c2 ca t hb1 ho hlc hown hg he)
      have HOA := Lib.hid (World.ownsRow.alloc (ownsRow_below HO.out.row hb1) (.cells #[.slice A2 l c2] 89))
      clear ho hlc hb1 HO HB HNX HC g1
      go_wp2_with (at_builtin; refine wpList_append_own_at _ rfl (.tmp 14) (.tmp 17) 112 rfl (w.heap.size + 1) 89 ir (.slice none 0 0) 1 24 Tryz.underlying112 ri rz0 rz1 rz2 rfl (by decide) _ _ _ rfl HOA.out ⟨w1.heap.size, 0, none⟩ 1 1 [.slice A2 l c2] rfl rfl ?p1a ?p2a ?p3a ?p4a ?p5a ?_)
      try case p1a => exact news_one _ _ _ (by simp)
      try case p2a => first | exact one_slice | (intro u hu; simp at hu; subst hu; rfl)
      try case p3a => first | (simp only [maxLen]; omega) | omega
      try case p4a => omega
      try case p5a => first | (simp only [World.size_alloc]; omega) | omega
      intro v' w2 hown' hg' _ he
      have HN3 := Lib.hid (HN.out w2 v' _ _ hown' hg' (by rw [World.size_alloc]; exact he))
      clear hown' hg' he HN HOA
      go_wp2
      go_roundw
      case rel => exact HN3.out
      case measure => simp [intOf]; omega
    · obtain rfl : i = n := by omega
      obtain ⟨A', c', rfl, _⟩ := ownsRow_form HO.out.row
      have HR : Hid (RrRet i L (fun j => fq (fs j)) w (.returned (.slice A' i c')) wr) := Lib.hid ⟨A', c', rfl, HO.out.rd, HB.out⟩
      clear HO HB
      go_wp2
      go_ret
      exact HR.out
end Go.Proofs.YtionognmgcabbaaGreat.Ratio
/- Rows of the call's own without digits in them: what lies elsewhere is kept as they grow. -/
namespace Go.Proofs.YtionognmgcabbaaGreat.Ratio
open Go.RowKit Go.Proofs.YtionognmgcabbaaGreat Go.Proofs.YtionognmgcabbaaGreat.Base Go.Proofs.YtionognmgcabbaaGreat.Mem Go.Proofs.YtionognmgcabbaaGreat.NatM Go.Proofs.YtionognmgcabbaaGreat.Nat32 Go.Proofs.YtionognmgcabbaaGreat.RatM Go.Proofs.YtionognmgcabbaaGreat.Blk
open Go.Proofs.YtionognmgcabbaaGreat.Inv (natOf natOf_eq len_pos Rat3 not_slice not_bool frz)
set_option linter.unusedVariables false
def notU (u : Value) : Prop := ∀ x : Int, u ≠ .int .u32 x
/-- no cell of the own block is a digit -/
def NoU (w : World) (v : Value) : Prop := ∀ g, v.ownBlock = some g → g < w.heap.size ∧ ∀ o u, w.cell? ⟨g, o, none⟩ = some u → notU u
theorem NoU.nil (w : World) : NoU w (.slice none 0 0) := fun g h => by cases h
theorem NoU.apart {w : World} {v : Value} {A : Option Addr} {xs : List Nat} {B : Nat} (h : NoU w v) (hr : RdU w B A xs) (h0 : 0 < xs.length) : Apart v.ownBlock A := by
  intro a ha hb
  obtain ⟨b, off, e, _, hc⟩ := hr h0
  have hx := hc 0 h0
  rw [ha] at e
  injection e with e
  subst e
  exact (h b hb).2 _ _ hx _ rfl
theorem NoU.below {w w' : World} {v : Value} (h : NoU w v) (hb : Below w.heap.size w w') : NoU w' v := fun g e => by
  obtain ⟨h1, h2⟩ := h g e
  exact ⟨Nat.lt_of_lt_of_le h1 hb.size, fun o u hu => h2 o u ((hb.cell (p := ⟨g, o, none⟩) h1).symm.trans hu)⟩
theorem NoU.of_block {w : World} {g n c : Nat} {t : TypeId} {cs : Array Value} (K : Blk w g t cs) (h : ∀ u ∈ cs.toList, notU u) : NoU w (.slice (some ⟨g, 0, none⟩) n c) := fun g' e => by
  injection e with e
  subst e
  exact ⟨K.lt, fun o u hu => by
    rw [K.cell o] at hu
    exact h u (Array.mem_toList_iff.2 (Array.mem_of_getElem? hu))⟩
theorem NoU.lit0 (w : World) (t : TypeId) : NoU (w.alloc (.cells #[] t)) (.slice (some ⟨w.heap.size, 0, none⟩) 0 0) := NoU.of_block (Blk.new w t #[]) (fun u h => by cases h)
/-- a row without digits stays one as elements without digits are appended -/
theorem append_noU {P : Program} (w : World) (base : Nat) (t ty e : TypeId) (i : TypeInfo) (z : Value) (size bytes : Nat) (ht : P.underlying t = some (.slice e)) (hi : P.info? e = some i) (hz : i.zero = some z)
    (hsize : i.size = size) (hby : i.bytes = bytes) (hzs : z.cells.size = size) (hsz : 0 < size)
    (v : Value) (n : Nat) (xs : List Value) (hown : w.ownsRow base e size v n xs) (a : Addr) (m c : Nat) (news : List Value) (hl : news.length = m * size) (hnews : ∀ j u, news[j]? = some u → w.cell? (a.add j) = some u) (h1 : ∀ u ∈ news, u.oneCell' = true)
    (h63 : n + m ≤ maxLen) (hbytes : (n + m) * bytes ≤ 140737488355328) (hp : NoU w v) (hn : ∀ u ∈ news, notU u) (hzz : ∀ u ∈ z.cells.toList, notU u)
    {v' : Value} {w' : World} (hr : (Builtin.append_ #[t, t] ty #[v, .slice (some a) m c]).run P w = .ok v' w') : NoU w' v' := by
  subst hsize
  subst hby
  have hsmall : n + m ≤ 9223372036854775807 := by simp only [maxLen] at h63; omega
  have hzc : ∀ k, ∀ u ∈ (Builtin.zeroCells z.cells k).toList, notU u := fun k u hu => by
    simp only [Builtin.zeroCells] at hu
    simp at hu
    obtain ⟨j, hj, hu⟩ := hu
    have hs : 0 < z.cells.size := by rw [hzs]; exact hsz
    have hlt := Nat.mod_lt j hs
    rw [getElem!_pos z.cells _ hlt] at hu
    subst hu
    exact hzz _ (by simp)
  have fresh : ∀ (ws : List Value) (k n' c' : Nat), (∀ u ∈ ws, notU u) → NoU (w.drew.alloc (.cells (ws.toArray ++ Builtin.zeroCells z.cells k) e)) (.slice (some ⟨w.heap.size, 0, none⟩) n' c') := fun ws k n' c' hw => by
    refine NoU.of_block (Blk.new w.drew e _) (fun u hu => ?_)
    simp only [Array.toList_append, List.mem_append] at hu
    rcases hu with hu | hu
    · exact hw u hu
    · exact hzc k u hu
  rcases hown.2 with ⟨rfl, rfl⟩ | ⟨g, cap, cur, rfl, hbg, hg, hnc, hcm, hcs, htake⟩
  · by_cases hm : m = 0
    · subst hm
      have hn0 : news = [] := List.eq_nil_of_length_eq_zero (by simpa using hl)
      subst hn0
      have hr' : (Builtin.append_ #[t, t] ty #[.slice none 0 0, .slice (some a) 0 c]).run P w = .ok (.slice none 0 0) w := by
        simp [Builtin.append_, run_underlying ht, sizeOf, typeInfo, hi, Builtin.lenOf, Builtin.firstCells, loadCells, loadCellsFrom]
      rw [hr'] at hr
      injection hr with e1 e2
      subst e1 e2
      exact NoU.nil w
    · have hr' := run_append_nil (P := P) w t ty e i z ht hi hz a m c news hl hnews (by omega) (by omega) (by have hb := hbytes; simp only [Nat.zero_add] at hb; omega)
      rw [hr'] at hr
      injection hr with e1 e2
      subst e1 e2
      exact fresh news _ _ _ hn
  · have hcur : ∀ u ∈ cur.toList, notU u := fun u hu => by
      obtain ⟨j, hj⟩ := List.getElem?_of_mem hu
      exact (hp g rfl).2 j u ((cell_of_row w g j cur e (0, 0) hg).trans (by rw [← hj]; simp))
    by_cases hroom : n + m ≤ cap
    · have hfit : n * i.size + news.length ≤ cur.size := by rw [hl, hcs, ← Nat.add_mul]; exact Nat.mul_le_mul_right _ hroom
      have hr' := run_append_room (P := P) w t ty e i ht hi g n cap cur hg a m c news hl hnews h1 hroom hfit
      rw [hr'] at hr
      injection hr with e1 e2
      subst e1 e2
      refine NoU.of_block (setRow_heap w g cur _ e _ hg) (fun u hu => ?_)
      simp only [List.mem_append] at hu
      rcases hu with (hu | hu) | hu
      · exact hcur u (List.mem_of_mem_take hu)
      · exact hn u hu
      · exact hcur u (List.mem_of_mem_drop hu)
    · have holds : ∀ j u, xs[j]? = some u → w.cell? ((⟨g, 0, none⟩ : Addr).add j) = some u := hown.cells (g := g) rfl
      have hr' := run_append_grow (P := P) w t ty e i z ht hi hz ⟨g, 0, none⟩ n cap xs hown.1 holds a m c news hl hnews (by omega) (by omega) (growslice_fits (by omega) hbytes)
      rw [hr'] at hr
      injection hr with e1 e2
      subst e1 e2
      have := fresh (xs ++ news) (grownCap w (n + m) cap e - (n + m)) (n + m) (grownCap w (n + m) cap e) (fun u hu => by
        rcases List.mem_append.1 hu with hu | hu
        · exact hcur u (by rw [← htake] at hu; exact List.mem_of_mem_take hu)
        · exact hn u hu)
      simpa using this
theorem wpList_append_noU {P : Program} (w : World) {ops : Array Oper} {rest : List Oper} {o : Oper} {a : Act} {Q : Exit → Act → World → Prop} (hgd : o.guard = none) (s x : Operand) (t : TypeId)
    (ho : o.op = .call { callee := .builtin .append, args := #[s, x], argTypes := #[t, t] })
    (base : Nat) (e : TypeId) (i : TypeInfo) (z : Value) (size bytes : Nat) (ht : P.underlying t = some (.slice e)) (hi : P.info? e = some i) (hz : i.zero = some z)
    (hsize : i.size = size) (hby : i.bytes = bytes) (hzs : z.cells.size = size) (hsz : 0 < size)
    (v : Value) (n : Nat) (xs : List Value) (hs : a.eval s = v) (hown : w.ownsRow base e size v n xs)
    (ad : Addr) (m c : Nat) (news : List Value) (hx : a.eval x = .slice (some ad) m c) (hl : news.length = m * size) (hnews : ∀ j u, news[j]? = some u → w.cell? (ad.add j) = some u) (h1 : ∀ u ∈ news, u.oneCell' = true)
    (h63 : n + m ≤ maxLen) (hbytes : (n + m) * bytes ≤ 140737488355328) (hbase : base ≤ w.heap.size) (hp : NoU w v) (hn : ∀ u ∈ news, notU u) (hzz : ∀ u ∈ z.cells.toList, notU u)
    (h : ∀ v' w', w'.ownsRow base e size v' (n + m) (xs ++ news) → w.grownBy w' v.ownBlock → NoU w' v' → (v'.ownBlock = v.ownBlock ∨ v'.ownBlock = some w.heap.size) → wpList P ops Q rest (a.put o.dst v') w') :
    wpList P ops Q (o :: rest) a w := by
  refine wpList_plain hgd fun K hK => ?_
  obtain ⟨v', w', hr, h2, h3, h4, h5⟩ := run_append_own_at (P := P) w base t o.type e i z size bytes ht hi hz hsize hby hzs hsz v n xs hown ad m c news hl hnews h1 h63 hbytes hbase
  have h6 := append_noU w base t o.type e i z size bytes ht hi hz hsize hby hzs hsz v n xs hown ad m c news hl hnews h1 h63 hbytes hp hn hzz hr
  unfold Oper.wp execOp
  simp only [ho, resolve, invoke, builtin, Sem.run_bind, Sem.run_pure, Result.andThen_ok, List.map_toArray, List.map_cons, List.map_nil, hs, hx, hr]
  exact hK _ _ (h v' w' h2 h3 h6 h5)
theorem notU_three {s : Bool} {A1 A2 : Option Addr} {k1 c1 k2 c2 : Nat} : ∀ u ∈ [Value.bool s, .slice A1 k1 c1, .slice A2 k2 c2], notU u := by
  intro u hu
  simp only [List.mem_cons, List.not_mem_nil, or_false] at hu
  rcases hu with rfl | rfl | rfl <;> exact fun x h => by cases h
theorem notU_one {A : Option Addr} {k c : Nat} : ∀ u ∈ [Value.slice A k c], notU u := by
  intro u hu
  simp only [List.mem_cons, List.not_mem_nil, or_false] at hu
  subst hu
  exact fun x h => by cases h
theorem notU_zero3 : ∀ u ∈ (Value.agg #[.bool false, .slice none 0 0, .slice none 0 0]).cells.toList, notU u := notU_three
theorem notU_zero1 : ∀ u ∈ (Value.slice none 0 0).cells.toList, notU u := notU_one
end Go.Proofs.YtionognmgcabbaaGreat.Ratio
/- Plain mathematics: how many digits the numerator and the denominator of a rational have behind an operation. No program in sight. -/
set_option linter.unusedVariables false
namespace Go.Proofs.YtionognmgcabbaaGreat.RatM
/-- numerator and denominator are below P -/
def Dg (P : Nat) (q : Rat) : Prop := q.num.natAbs < P ∧ q.den < P
theorem Dg.of {s : Bool} {n d P : Nat} (hd : d ≠ 0) (h1 : n < P) (h2 : d < P) : Dg P (qv s n d) := by
  obtain ⟨e1, e2⟩ := qv_num s (n := n) hd
  unfold Dg
  rw [e1, e2]
  exact ⟨Nat.lt_of_le_of_lt (Nat.div_le_self _ _) h1, Nat.lt_of_le_of_lt (Nat.div_le_self _ _) h2⟩
theorem Dg.more {P Q : Nat} {q : Rat} (h : Dg P q) (hPQ : P ≤ Q) : Dg Q q := ⟨Nat.lt_of_lt_of_le h.1 hPQ, Nat.lt_of_lt_of_le h.2 hPQ⟩
theorem Dg.neg {P : Nat} {q : Rat} (h : Dg P q) : Dg P (-q) := by
  unfold Dg at h ⊢
  rw [Rat.neg_num, Int.natAbs_neg, Rat.neg_den]; exact h
theorem Dg.pos {P : Nat} {q : Rat} (h : Dg P q) : 0 < P := by have := h.2; omega
theorem lt_mul {a b P Q : Nat} (h1 : a < P) (h2 : b < Q) : a * b < P * Q := by
  rcases Nat.eq_zero_or_pos b with rfl | hb
  · rw [Nat.mul_zero]; exact Nat.mul_pos (by omega) h2
  · exact Nat.lt_of_lt_of_le ((Nat.mul_lt_mul_right hb).2 h1) (Nat.mul_le_mul_left P (by omega))
theorem Dg.mul {P Q : Nat} {q r : Rat} (h : Dg P q) (g : Dg Q r) : Dg (P * Q) (q * r) := by
  rw [← qv_self q, ← qv_self r, ← qv_mul _ _ q.den_nz r.den_nz]
  exact Dg.of (Nat.mul_ne_zero q.den_nz r.den_nz) (lt_mul h.1 g.1) (lt_mul h.2 g.2)
theorem Dg.add {P Q : Nat} {q r : Rat} (h : Dg P q) (g : Dg Q r) : Dg (2 * (P * Q)) (q + r) := by
  have e := qv_add (s := decide (q < 0)) (s' := decide (r < 0)) (n := q.num.natAbs) (n' := r.num.natAbs) q.den_nz r.den_nz
  rw [qv_self, qv_self] at e
  have k1 := lt_mul h.1 g.2
  have k2 := lt_mul g.1 h.2
  have k3 := lt_mul h.2 g.2
  rw [Nat.mul_comm Q P] at k2
  have hd := Nat.mul_ne_zero q.den_nz r.den_nz
  rw [e]
  split
  · exact Dg.of hd (by omega) (by omega)
  · split
    · exact Dg.of hd (by omega) (by omega)
    · exact Dg.of hd (by omega) (by omega)
theorem Dg.sub {P Q : Nat} {q r : Rat} (h : Dg P q) (g : Dg Q r) : Dg (2 * (P * Q)) (q - r) := by
  rw [Rat.sub_eq_add_neg]; exact h.add g.neg
theorem Dg.inv {P : Nat} {q : Rat} (h : Dg P q) (hq : q ≠ 0) : Dg P q⁻¹ := by
  have hn : q.num.natAbs ≠ 0 := fun e => hq ((zero_iff q).2 e)
  rw [← qv_self q, ← qv_inv _ hn q.den_nz]
  exact Dg.of hn h.2 h.1
theorem Dg.zero {P : Nat} (h : 1 < P) : Dg P 0 := ⟨by show 0 < P; omega, h⟩
end Go.Proofs.YtionognmgcabbaaGreat.RatM
/- How many digits rationals have: sums, products. -/
namespace Go.Proofs.YtionognmgcabbaaGreat.Ratio
open Go.RowKit Go.Proofs.YtionognmgcabbaaGreat Go.Proofs.YtionognmgcabbaaGreat.Base Go.Proofs.YtionognmgcabbaaGreat.Mem Go.Proofs.YtionognmgcabbaaGreat.NatM Go.Proofs.YtionognmgcabbaaGreat.Nat32 Go.Proofs.YtionognmgcabbaaGreat.RatM Go.Proofs.YtionognmgcabbaaGreat.GaussM Go.Proofs.YtionognmgcabbaaGreat.ChM
set_option linter.unusedVariables false
theorem B32_pos : 0 < B32 := by decide
theorem dgb_more {m k : Nat} {q : Rat} (h : Dg (B32 ^ m) q) (hk : m ≤ k) : Dg (B32 ^ k) q := h.more (Nat.pow_le_pow_right B32_pos hk)
theorem dgb_mul {m k : Nat} {q r : Rat} (h : Dg (B32 ^ m) q) (g : Dg (B32 ^ k) r) : Dg (B32 ^ (m + k)) (q * r) := by
  rw [Nat.pow_add]; exact h.mul g
theorem two_le (m k : Nat) : 2 * (B32 ^ m * B32 ^ k) ≤ B32 ^ (m + k + 1) := by
  rw [Nat.pow_succ, Nat.pow_add, Nat.mul_comm 2]
  exact Nat.mul_le_mul_left _ (by decide)
theorem dgb_add {m k : Nat} {q r : Rat} (h : Dg (B32 ^ m) q) (g : Dg (B32 ^ k) r) : Dg (B32 ^ (m + k + 1)) (q + r) := (h.add g).more (two_le m k)
theorem dgb_zero {m : Nat} (h : 0 < m) : Dg (B32 ^ m) 0 := Dg.zero (Nat.one_lt_pow (by omega) (by decide))
theorem dgb_vf {n d : Int} (h : VF n d) : Dg (B32 ^ 2) (qf n d) := by
  obtain ⟨g1, g2, _⟩ := h.num
  have h2 := h.2.1
  have h3 := h.2.2.1
  have h4 := h.2.2.2.1
  have e : B32 ^ 2 = 18446744073709551616 := by decide
  rw [e]
  exact ⟨by rw [g1]; omega, by omega⟩
theorem dgb_sz {m : Nat} {q : Rat} (h : Dg (B32 ^ m) q) : szR q ≤ 2 * m := by
  have h1 := natL_len_le h.1
  have h2 := natL_len_le h.2
  unfold szR
  omega
theorem dgb_sum {n m : Nat} {f : Nat → Rat} (h : ∀ i, i < n → Dg (B32 ^ m) (f i)) : Dg (B32 ^ (n * (m + 1) + 1)) (sumR n f) := by
  induction n with
  | zero => exact dgb_zero (by omega)
  | succ n ih =>
    have h1 := ih (fun i hi => h i (by omega))
    have h2 := dgb_add h1 (h n (by omega))
    rw [sumR]
    exact dgb_more h2 (by rw [Nat.add_mul]; omega)
end Go.Proofs.YtionognmgcabbaaGreat.Ratio
