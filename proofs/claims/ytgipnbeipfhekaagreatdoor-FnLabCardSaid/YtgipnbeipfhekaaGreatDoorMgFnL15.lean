/- The program's ratios: products. -/
import Derived.Test.YtgipnbeipfhekaaGreatDoorMgFnL14
import Derived.Deep.CutRange
import Derived.Test.YtgipnbeipfhekaaGreatDoorMgFnL09
import Derived.Test.YtgipnbeipfhekaaGreatDoorMgFnL06
import Derived.Test.YtgipnbeipfhekaaGreatDoorMgFnL00
set_option linter.unusedVariables false
set_option linter.unusedSimpArgs false
set_option maxRecDepth 100000
set_option maxHeartbeats 4000000
namespace Go.Proofs.YtgipnbeipfhekaaGreatDoor
namespace Ratio
open Go.RowKit Base Mem NatM Nat32 RatM
open YtgipnbeipfhekaaGreatDoor.Inv (natOf natOf_eq len_pos Rat3 not_slice not_bool frz)
theorem natL_mul_len (x y : Nat) : (natL (x * y)).length ≤ (natL x).length + (natL y).length := by
 refine natL_len_le ?_
 rw [Nat.pow_add]
 have h1 := val_lt _ (natL_ok x)
 have h2 := val_lt _ (natL_ok y)
 rw [natL_val] at h1 h2
 exact Nat.mul_lt_mul_of_lt_of_le h1 (Nat.le_of_lt h2) (Nat.pow_pos (by decide))
theorem natTimes (x y : Nat) (A A' : Option Addr) (c c' : Nat) (w : World) (hx : RdU w w.heap.size A (natL x)) (hy : RdU w w.heap.size A' (natL y)) (hl : (natL x).length ≤ 500000) (hl' : (natL y).length ≤ 500000) :
  Calls Tryz.prog 202 #[.slice A (natL x).length c, .slice A' (natL y).length c'] w (NRet (x * y) w) := by
 have := times_any A A' c c' w.heap.size w.heap.size (natL x) (natL y) w hx (Nat.le_refl _) hy (Nat.le_refl _) (natL_ok x) (natL_ok y) (by omega) (by omega)
 rw [natL_val, natL_val] at this
 exact this
def TF (w : World) (s s' : Bool) (v1 v2 v3 v4 : Value) (W : World) : Prop := Rat3 W w.heap.size (.bool s) v1 v2 ∧ Rat3 W (w.heap.size + 1) (.bool s') v3 v4 ∧ Rat3 W (w.heap.size + 1 + 1) (.bool false) (.slice none 0 0) (.slice none 0 0) ∧ Below w.heap.size w W ∧ w.heap.size + 3 ≤ W.heap.size
theorem TF.below {w W W' : World} {s s' : Bool} {v1 v2 v3 v4 : Value} (h : TF w s s' v1 v2 v3 v4 W) (hb : Below W.heap.size W W') : TF w s s' v1 v2 v3 v4 W' := by
 obtain ⟨h1, h2, h3, h4, h5⟩ := h
 exact ⟨h1.below hb (by omega), h2.below hb (by omega), h3.below hb (by omega), h4.trans (hb.mono (by omega)), by have := hb.size; omega⟩
theorem TF.start (w : World) (s s' : Bool) (v1 v2 v3 v4 : Value) :
  TF w s s' v1 v2 v3 v4 ((((w.alloc (.cells #[.bool s, v1, v2] 147)).alloc (.cells #[.bool s', v3, v4] 147)).alloc (.cells #[.bool false, .slice none 0 0, .slice none 0 0] 147)).drew) := by
 have r1 := Rat3.new w (.bool s) v1 v2 147
 have r2 := Rat3.new (w.alloc (.cells #[.bool s, v1, v2] 147)) (.bool s') v3 v4 147
 have r3 := Rat3.new ((w.alloc (.cells #[.bool s, v1, v2] 147)).alloc (.cells #[.bool s', v3, v4] 147)) (.bool false) (.slice none 0 0) (.slice none 0 0) 147
 simp only [World.size_alloc] at r2 r3
 have b2 : Below (w.heap.size + 1) (w.alloc (.cells #[.bool s, v1, v2] 147)) ((((w.alloc (.cells #[.bool s, v1, v2] 147)).alloc (.cells #[.bool s', v3, v4] 147)).alloc (.cells #[.bool false, .slice none 0 0, .slice none 0 0] 147)).drew) := (((Below.refl _ _).alloc (by simp) _).alloc (by simp) _).drew
 have b3 : Below (w.heap.size + 1 + 1) ((w.alloc (.cells #[.bool s, v1, v2] 147)).alloc (.cells #[.bool s', v3, v4] 147)) ((((w.alloc (.cells #[.bool s, v1, v2] 147)).alloc (.cells #[.bool s', v3, v4] 147)).alloc (.cells #[.bool false, .slice none 0 0, .slice none 0 0] 147)).drew) := ((Below.refl _ _).alloc (by simp) _).drew
 refine ⟨r1.below b2 (Nat.lt_succ_self _), r2.below b3 (Nat.lt_succ_self _), r3.below ((Below.refl (w.heap.size + 1 + 1 + 1) _).drew) (Nat.lt_succ_self _), ?_, by simp⟩
 exact ((((Below.refl _ _).alloc (Nat.le_refl _) _).alloc (by simp) _).alloc (by simp; omega) _).drew
end Ratio
namespace Ratio
open Go.RowKit Base Mem NatM Nat32 RatM
open YtgipnbeipfhekaaGreatDoor.Inv (natOf natOf_eq len_pos Rat3 not_slice not_bool frz)
theorem natPlus (x y : Nat) (A A' : Option Addr) (c c' : Nat) (w : World) (hx : RdU w w.heap.size A (natL x)) (hy : RdU w w.heap.size A' (natL y)) (hl : (natL x).length ≤ 1000000) (hl' : (natL y).length ≤ 1000000) :
  Calls Tryz.prog 203 #[.slice A (natL x).length c, .slice A' (natL y).length c'] w (NRet (x + y) w) := by
 have := plus_any A A' c c' w.heap.size w.heap.size (natL x) (natL y) w hx (Nat.le_refl _) hy (Nat.le_refl _) (natL_ok x) (natL_ok y) (by omega) (by omega)
 rw [natL_val, natL_val] at this
 exact this
theorem natMinus (x y : Nat) (A A' : Option Addr) (c c' : Nat) (w : World) (hx : RdU w w.heap.size A (natL x)) (hy : RdU w w.heap.size A' (natL y)) (hl : (natL x).length ≤ 1000000) (hle : y ≤ x) :
  Calls Tryz.prog 205 #[.slice A (natL x).length c, .slice A' (natL y).length c'] w (NRet (x - y) w) := by
 have := minus_any A A' c c' w.heap.size w.heap.size (natL x) (natL y) w hx (Nat.le_refl _) hy (Nat.le_refl _) (natL_ok x) (natL_ok y) (by omega) (natL_mono hle) (by rw [natL_val, natL_val]; exact hle)
 rw [natL_val, natL_val] at this
 exact this
theorem natL_add_len (x y : Nat) : (natL (x + y)).length ≤ (natL x).length + (natL y).length + 1 := by
 refine natL_len_le ?_
 have h1 := val_lt _ (natL_ok x)
 have h2 := val_lt _ (natL_ok y)
 rw [natL_val] at h1 h2
 have h3 : B32 ^ (natL x).length ≤ B32 ^ ((natL x).length + (natL y).length) := Nat.pow_le_pow_right (by decide) (by omega)
 have h4 : B32 ^ (natL y).length ≤ B32 ^ ((natL x).length + (natL y).length) := Nat.pow_le_pow_right (by decide) (by omega)
 have h5 : B32 ^ ((natL x).length + (natL y).length) * 2 ≤ B32 ^ ((natL x).length + (natL y).length) * B32 := Nat.mul_le_mul_left _ (by decide)
 rw [Nat.pow_succ]
 generalize B32 ^ ((natL x).length + (natL y).length) * B32 = M at *
 generalize B32 ^ ((natL x).length + (natL y).length) = N at *
 generalize B32 ^ (natL x).length = P at *
 generalize B32 ^ (natL y).length = Q at *
 omega
def PCut (T : World → Prop) (w : World) (s : Bool) (LA LB LD : List Nat) (s5 s6 s7 : Value) (wx : World) : Prop :=
 ∃ (p c5 c6 c8 : Nat) (A5 A6 A8 : Option Addr), s5 = .slice A5 LA.length c5 ∧ s6 = .slice A6 LB.length c6 ∧ s7 = .pointer (some ⟨p, 0, none⟩) ∧ T wx ∧ w.heap.size + 3 ≤ p ∧ p < wx.heap.size ∧ Rat3 wx p (.bool s) (.slice none 0 0) (.slice A8 LD.length c8) ∧
  RdU wx wx.heap.size A5 LA ∧ RdU wx wx.heap.size A6 LB ∧ RdU wx wx.heap.size A8 LD
theorem TF.set {w W : World} {s s' : Bool} {v1 v2 v3 v4 : Value} {p : Nat} (h : TF w s s' v1 v2 v3 v4 W) (hp : w.heap.size + 3 ≤ p) (i : Nat) (v : Value) : TF w s s' v1 v2 v3 v4 (W.setCell ⟨p, i, none⟩ v) := by
 obtain ⟨h1, h2, h3, h4, h5⟩ := h
 exact ⟨h1.far (by omega) v, h2.far (by omega) v, h3.far (by omega) v, h4.setCell (by show w.heap.size ≤ p; omega) v, by simp; omega⟩
theorem frzc {W : World} {p b i j : Nat} {v : Value} (h : p ≠ b) : (W.setCell ⟨p, i, none⟩ v).cell? ⟨b, j, none⟩ = W.cell? ⟨b, j, none⟩ := World.cell?_setCell_far _ _ _ _ h
def PCut1 (T : World → Prop) (LA LB : List Nat) (s5 s6 : Value) (wx : World) : Prop :=
 ∃ (c5 c6 : Nat) (A5 A6 : Option Addr), s5 = .slice A5 LA.length c5 ∧ s6 = .slice A6 LB.length c6 ∧ T wx ∧ RdU wx wx.heap.size A5 LA ∧ RdU wx wx.heap.size A6 LB
theorem rtPlus (s s' : Bool) (n d n' d' : Nat) (A1 A2 A3 A4 : Option Addr) (c1 c2 c3 c4 : Nat) (w : World) (h1 : RdU w w.heap.size A1 (natL n)) (h2 : RdU w w.heap.size A2 (natL d)) (h3 : RdU w w.heap.size A3 (natL n')) (h4 : RdU w w.heap.size A4 (natL d'))
    (l1 : (natL n).length ≤ 200000) (l2 : (natL d).length ≤ 200000) (l3 : (natL n').length ≤ 200000) (l4 : (natL d').length ≤ 200000) (hd : 0 < d) (hd' : 0 < d') :
    Calls Tryz.prog 160 #[.agg #[.bool s, .slice A1 (natL n).length c1, .slice A2 (natL d).length c2], .agg #[.bool s', .slice A3 (natL n').length c3, .slice A4 (natL d').length c4]] w (RV (qv s n d + qv s' n' d') w) := by
  have HQ := J (TF.start w s s' (.slice A1 (natL n).length c1) (.slice A2 (natL d).length c2) (.slice A3 (natL n').length c3) (.slice A4 (natL d').length c4))
  obtain ⟨T, hT⟩ : ∃ T : World → Prop, T = TF w s s' (.slice A1 (natL n).length c1) (.slice A2 (natL d).length c2) (.slice A3 (natL n').length c3) (.slice A4 (natL d').length c4) := ⟨_, rfl⟩
  have rd : ∀ {X : World} {A : Option Addr} {xs : List Nat}, RdU w w.heap.size A xs → T X → RdU X X.heap.size A xs := fun h hX => by
    rw [hT] at hX
    exact (h.below hX.2.2.2.1 (Nat.le_refl _)).more hX.2.2.2.1.size
  have TB : ∀ {X Y : World}, T X → Below X.heap.size X Y → T Y := fun hX hb => by rw [hT] at hX ⊢; exact hX.below hb
  have HN : Hid (∀ X, T X → Calls Tryz.prog 202 #[.slice A1 (natL n).length c1, .slice A4 (natL d').length c4] X fun e w' => ∃ A c, e = .returned (.slice A (natL (n * d')).length c) ∧ RdU w' w'.heap.size A (natL (n * d')) ∧ T w') := J fun X hX => (natTimes n d' A1 A4 c1 c4 X (rd h1 hX) (rd h4 hX) (by omega) (by omega)).mono fun e w' ⟨A, c, g1, g2, g3⟩ => ⟨A, c, g1, g2, TB hX g3⟩
  have HB : Hid (∀ X A0 xs, T X → RdU X X.heap.size A0 xs → Calls Tryz.prog 202 #[.slice A3 (natL n').length c3, .slice A2 (natL d).length c2] X fun e w' => ∃ A c, e = .returned (.slice A (natL (n' * d)).length c) ∧ RdU w' w'.heap.size A (natL (n' * d)) ∧ RdU w' w'.heap.size A0 xs ∧ T w') := J fun X A0 xs hX hr => (natTimes n' d A3 A2 c3 c2 X (rd h3 hX) (rd h2 hX) (by omega) (by omega)).mono fun e w' ⟨A, c, g1, g2, g3⟩ => ⟨A, c, g1, g2, (hr.below g3 (Nat.le_refl _)).more g3.size, TB hX g3⟩
  have HD : Hid (∀ X A0 xs A9 ys, T X → RdU X X.heap.size A0 xs → RdU X X.heap.size A9 ys → Calls Tryz.prog 202 #[.slice A2 (natL d).length c2, .slice A4 (natL d').length c4] X fun e w' => ∃ A c, e = .returned (.slice A (natL (d * d')).length c) ∧ RdU w' w'.heap.size A (natL (d * d')) ∧ RdU w' w'.heap.size A0 xs ∧ RdU w' w'.heap.size A9 ys ∧ T w' ∧ Below X.heap.size X w') := J fun X A0 xs A9 ys hX hr hr9 => (natTimes d d' A2 A4 c2 c4 X (rd h2 hX) (rd h4 hX) (by omega) (by omega)).mono fun e w' ⟨A, c, g1, g2, g3⟩ => ⟨A, c, g1, g2, (hr.below g3 (Nat.le_refl _)).more g3.size, (hr9.below g3 (Nat.le_refl _)).more g3.size, TB hX g3, g3⟩
  rw [← hT] at HQ
  have HT : Hid (∀ X, T X → TF w s s' (.slice A1 (natL n).length c1) (.slice A2 (natL d).length c2) (.slice A3 (natL n').length c3) (.slice A4 (natL d').length c4) X) := J fun X h => by rw [← hT]; exact h
  have HTB : Hid (∀ X Y, T X → Below X.heap.size X Y → T Y) := J fun X Y h hb => TB h hb
  have HTS : Hid (∀ X p i v, T X → w.heap.size + 3 ≤ p → T (X.setCell ⟨p, i, none⟩ v)) := J fun X p i v h hp => by rw [hT] at h ⊢; exact h.set hp i v
  clear rd h1 h2 h3 h4 TB hT
  obtain ⟨LA, hLA⟩ : ∃ LA, LA = natL (n * d') := ⟨_, rfl⟩
  obtain ⟨LB, hLB⟩ : ∃ LB, LB = natL (n' * d) := ⟨_, rfl⟩
  obtain ⟨LD, hLD⟩ : ∃ LD, LD = natL (d * d') := ⟨_, rfl⟩
  have m1 := natL_mul_len n d'
  have m2 := natL_mul_len n' d
  have m3 := natL_mul_len d d'
  have la : LA.length ≤ 400000 := by rw [hLA]; omega
  have lb : LB.length ≤ 400000 := by rw [hLB]; omega
  have ld : LD.length ≤ 400000 := by rw [hLD]; omega
  have HL := J (And.intro hLA (And.intro hLB hLD))
  obtain ⟨q, hq⟩ : ∃ q, q = qv s n d + qv s' n' d' := ⟨_, rfl⟩
  have HPl : Hid (∀ X A5 A6 A8 c5 c6, T X → RdU X X.heap.size A5 LA → RdU X X.heap.size A6 LB → RdU X X.heap.size A8 LD → Calls Tryz.prog 203 #[.slice A5 LA.length c5, .slice A6 LB.length c6] X fun e w' => ∃ A9 c9, e = .returned (.slice A9 (natL (n * d' + n' * d)).length c9) ∧ RdU w' w'.heap.size A9 (natL (n * d' + n' * d)) ∧ RdU w' w'.heap.size A8 LD ∧ T w' ∧ Below X.heap.size X w') := J fun X A5 A6 A8 c5 c6 hX g5 g6 g8 => by
    rw [hLA] at g5 la ⊢
    rw [hLB] at g6 lb ⊢
    refine (natPlus _ _ A5 A6 c5 c6 X g5 g6 (by omega) (by omega)).mono ?_
    rintro e w' ⟨A9, c9, rfl, r9, b9⟩
    exact ⟨A9, c9, rfl, r9, (g8.below b9 (Nat.le_refl _)).more b9.size, HTB.out _ _ hX b9, b9⟩
  have HMi : Hid (∀ X A5 A6 A8 c5 c6, n' * d ≤ n * d' → T X → RdU X X.heap.size A5 LA → RdU X X.heap.size A6 LB → RdU X X.heap.size A8 LD → Calls Tryz.prog 205 #[.slice A5 LA.length c5, .slice A6 LB.length c6] X fun e w' => ∃ A9 c9, e = .returned (.slice A9 (natL (n * d' - n' * d)).length c9) ∧ RdU w' w'.heap.size A9 (natL (n * d' - n' * d)) ∧ RdU w' w'.heap.size A8 LD ∧ T w' ∧ Below X.heap.size X w') := J fun X A5 A6 A8 c5 c6 hle hX g5 g6 g8 => by
    rw [hLA] at g5 la ⊢
    rw [hLB] at g6 lb ⊢
    refine (natMinus _ _ A5 A6 c5 c6 X g5 g6 (by omega) hle).mono ?_
    rintro e w' ⟨A9, c9, rfl, r9, b9⟩
    exact ⟨A9, c9, rfl, r9, (g8.below b9 (Nat.le_refl _)).more b9.size, HTB.out _ _ hX b9, b9⟩
  have HMj : Hid (∀ X A5 A6 A8 c5 c6, n * d' ≤ n' * d → T X → RdU X X.heap.size A5 LA → RdU X X.heap.size A6 LB → RdU X X.heap.size A8 LD → Calls Tryz.prog 205 #[.slice A6 LB.length c6, .slice A5 LA.length c5] X fun e w' => ∃ A9 c9, e = .returned (.slice A9 (natL (n' * d - n * d')).length c9) ∧ RdU w' w'.heap.size A9 (natL (n' * d - n * d')) ∧ RdU w' w'.heap.size A8 LD ∧ T w' ∧ Below X.heap.size X w') := J fun X A5 A6 A8 c5 c6 hle hX g5 g6 g8 => by
    rw [hLA] at g5 la ⊢
    rw [hLB] at g6 lb ⊢
    refine (natMinus _ _ A6 A5 c6 c5 X g6 g5 (by omega) hle).mono ?_
    rintro e w' ⟨A9, c9, rfl, r9, b9⟩
    exact ⟨A9, c9, rfl, r9, (g8.below b9 (Nat.le_refl _)).more b9.size, HTB.out _ _ hX b9, b9⟩
  have HCm : Hid (∀ X A5 A6 c5 c6, RdU X X.heap.size A5 LA → RdU X X.heap.size A6 LB → Calls Tryz.prog 204 #[.slice A5 LA.length c5, .slice A6 LB.length c6] X (CmpRet (n * d') (n' * d) X)) := J fun X A5 A6 c5 c6 g5 g6 => by
    rw [hLA] at g5 la ⊢
    rw [hLB] at g6 lb ⊢
    exact compare_any _ _ A5 A6 c5 c6 X.heap.size X.heap.size X g5 g6 (by omega) (by omega)
  have HLw : Hid (∀ X S v A9 A8 c9 c8, qv S v (d * d') = q → (natL v).length ≤ 1000000 → T X → RdU X X.heap.size A9 (natL v) → RdU X X.heap.size A8 LD → Calls Tryz.prog 197 #[.agg #[.bool S, .slice A9 (natL v).length c9, .slice A8 LD.length c8]] X fun e w' => RV q X e w' ∧ T w') := J fun X S v A9 A8 c9 c8 hqv hv hX g9 g8 => by
    rw [hLD] at g8 ld ⊢
    have e := lowestG S v (d * d') A9 A8 c9 c8 X g9 g8 hv (by omega) (Nat.mul_pos hd hd')
    rw [hqv] at e
    refine e.mono fun e w' h => ⟨h, ?_⟩
    obtain ⟨_, _, _, _, _, _, _, hb⟩ := h
    exact HTB.out _ _ hX hb
  have HV1 : Hid ((natL (n * d' + n' * d)).length ≤ 1000000 ∧ (natL (n * d' - n' * d)).length ≤ 1000000 ∧ (natL (n' * d - n * d')).length ≤ 1000000) := J (by
    rw [hLA] at la
    rw [hLB] at lb
    exact ⟨Nat.le_trans (natL_add_len _ _) (by omega), Nat.le_trans (natL_mono (Nat.sub_le _ _)) (by omega), Nat.le_trans (natL_mono (Nat.sub_le _ _)) (by omega)⟩)
  have HE1 : Hid (s = s' → qv s (n * d' + n' * d) (d * d') = q) := J fun h => by
    subst h
    rw [hq]; exact qv_add_same s (by omega) (by omega)
  have HE2 : Hid (s ≠ s' → n' * d ≤ n * d' → qv s (n * d' - n' * d) (d * d') = q) := J fun h hle => by
    have h2 : s' = !s := by cases s <;> cases s' <;> simp_all
    rw [hq, h2]; exact qv_add_diff s (by omega) (by omega) hle
  have HE3 : Hid (s ≠ s' → n * d' ≤ n' * d → qv s' (n' * d - n * d') (d * d') = q) := J fun h hle => by
    have h2 : s = !s' := by cases s <;> cases s' <;> simp_all
    have h3 := qv_add_diff s' (n := n') (d := d') (n' := n) (d' := d) (by omega) (by omega) hle
    rw [hq, h2, Nat.mul_comm d d', h3, Rat.add_comm]
  rw [← hq]
  rw [← hLA] at HN
  rw [← hLB] at HB
  rw [← hLD] at HD
  clear hLA hLB hLD m1 m2 m3 l1 l2 l3 l4 hq
  obtain ⟨va, hva⟩ : ∃ va, va = n * d' + n' * d := ⟨_, rfl⟩
  obtain ⟨vb, hvb⟩ : ∃ vb, vb = n * d' - n' * d := ⟨_, rfl⟩
  obtain ⟨vc, hvc⟩ : ∃ vc, vc = n' * d - n * d' := ⟨_, rfl⟩
  rw [← hva] at HPl HV1 HE1
  rw [← hvb] at HMi HV1 HE2
  rw [← hvc] at HMj HV1 HE3
  clear hva hvb hvc
  generalize n * d' = x at *
  generalize n' * d = y at *
  generalize (natL n).length = k1 at *
  generalize (natL d).length = k2 at *
  generalize (natL n').length = k3 at *
  generalize (natL d').length = k4 at *
  go_enter Tryz.func160, Tryz.ntmps160
  go_wp2_with fail
  have hq0 := HT.out _ HQ.out
  have a0 := (hq0).1.c0; have a1 := (hq0).1.c1; have a2 := (hq0).1.c2; have b0 := (hq0).2.1.c0; have b1 := (hq0).2.1.c1; have b2 := (hq0).2.1.c2; have p0 := (hq0).2.2.1.c0; have p1 := (hq0).2.2.1.c1; have p2 := (hq0).2.2.1.c2; have pf0 := (hq0).2.2.1.f0; have pf1 := (hq0).2.2.1.f1; have pf2 := (hq0).2.2.1.f2
  clear hq0
  go_cut [5, 6] from 8 to 17 (fun s5 s6 wx => PCut1 T LA LB s5 s6 wx)
  case first =>
    go_region_held3 (fun w' => w'.cell? ⟨w.heap.size, 0, none⟩ = some (.bool s) ∧ w'.cell? ⟨w.heap.size, 1, none⟩ = some (.slice A1 k1 c1) ∧ w'.cell? ⟨w.heap.size, 2, none⟩ = some (.slice A2 k2 c2) ∧ w'.cell? ⟨w.heap.size + 1, 0, none⟩ = some (.bool s') ∧ w'.cell? ⟨w.heap.size + 1, 1, none⟩ = some (.slice A3 k3 c3) ∧ w'.cell? ⟨w.heap.size + 1, 2, none⟩ = some (.slice A4 k4 c4))
      (first | exact ⟨a0, a1, a2, b0, b1, b2⟩ | go_keep)
      (first
        | (go_at_call 202; refine (HB.out _ _ _ HQ1.out Hr1.out).mono ?_; rintro e w2 ⟨A6, c6, rfl, hr2, hr1b, hq2⟩; have Hr1b := J hr1b; have Hr2 := J hr2; have HQ2 := J hq2; have hq2 := HT.out _ hq2; clear hr2 hr1b a0 a1 a2 b0 b1 b2 p0 p1 p2 pf0 pf1 pf2; have a0 := (hq2).1.c0; have a1 := (hq2).1.c1; have a2 := (hq2).1.c2; have b0 := (hq2).2.1.c0; have b1 := (hq2).2.1.c1; have b2 := (hq2).2.1.c2; have p0 := (hq2).2.2.1.c0; have p1 := (hq2).2.2.1.c1; have p2 := (hq2).2.2.1.c2; have pf0 := (hq2).2.2.1.f0; have pf1 := (hq2).2.2.1.f1; have pf2 := (hq2).2.2.1.f2; clear hq2)
        | (go_at_call 202; refine (HN.out _ HQ.out).mono ?_; rintro e w1 ⟨A5, c5, rfl, hr1, hq1⟩; have Hr1 := J hr1; have HQ1 := J hq1; have hq1 := HT.out _ hq1; clear hr1 a0 a1 a2 b0 b1 b2 p0 p1 p2 pf0 pf1 pf2; have a0 := (hq1).1.c0; have a1 := (hq1).1.c1; have a2 := (hq1).1.c2; have b0 := (hq1).2.1.c0; have b1 := (hq1).2.1.c1; have b2 := (hq1).2.1.c2; have p0 := (hq1).2.2.1.c0; have p1 := (hq1).2.2.1.c1; have p2 := (hq1).2.2.1.c2; have pf0 := (hq1).2.2.1.f0; have pf1 := (hq1).2.2.1.f1; have pf2 := (hq1).2.2.1.f2; clear hq1))
    all_goals
      have HC : Hid (PCut1 T LA LB (.slice A5 LA.length c5) (.slice A6 LB.length c6) w2) := J ⟨c5, c6, A5, A6, rfl, rfl, HQ2.out, Hr1b.out, Hr2.out⟩
      go_wp2_with fail
      go_meet
      exact HC.out
  case rest =>
    obtain ⟨c5, c6, A5, A6, rfl, rfl, hTc, hr5, hr6⟩ := hcut
    clear a0 a1 a2 b0 b1 b2 p0 p1 p2 pf0 pf1 pf2
    have HTc := J hTc
    have HR5 := J hr5
    have HR6 := J hr6
    have hq0 := HT.out _ hTc
    have hsz := hq0.2.2.2.2
    have a0 := (hq0).1.c0; have a1 := (hq0).1.c1; have a2 := (hq0).1.c2; have b0 := (hq0).2.1.c0; have b1 := (hq0).2.1.c1; have b2 := (hq0).2.1.c2; have p0 := (hq0).2.2.1.c0; have p1 := (hq0).2.2.1.c1; have p2 := (hq0).2.2.1.c2; have pf0 := (hq0).2.2.1.f0; have pf1 := (hq0).2.2.1.f1; have pf2 := (hq0).2.2.1.f2
    clear hq0 hTc hr5 hr6 HN HB
    have HTD : Hid (∀ Y, Below wc.heap.size wc Y → T Y ∧ RdU Y Y.heap.size A5 LA ∧ RdU Y Y.heap.size A6 LB) := J fun Y hb => ⟨HTB.out _ _ HTc.out hb, (HR5.out.below hb (Nat.le_refl _)).more hb.size, (HR6.out.below hb (Nat.le_refl _)).more hb.size⟩
    go_wp2
    go_cut [7] from 18 to 25 (fun s7 wx => PCut T w s LA LB LD (.slice A5 LA.length c5) (.slice A6 LB.length c6) s7 wx)
    case first =>
      go_region_held3 (fun w' => w'.cell? ⟨w.heap.size, 0, none⟩ = some (.bool s) ∧ w'.cell? ⟨w.heap.size, 2, none⟩ = some (.slice A2 k2 c2) ∧ w'.cell? ⟨w.heap.size + 1, 2, none⟩ = some (.slice A4 k4 c4))
        (first | exact ⟨a0, a2, b2⟩ | go_keep | exact ⟨(by rw [frzc hnp, frzc hnp, frzc hnp]; exact a0), (by rw [frzc hnp, frzc hnp, frzc hnp]; exact a2), (by rw [frzc hnp1, frzc hnp1, frzc hnp1]; exact b2)⟩)
        (first
          | (go_at_call 202; refine (HD.out wc.drew _ _ _ _ (HTD.out _ ((Below.refl _ _).drew)).1 (HTD.out _ ((Below.refl _ _).drew)).2.1 (HTD.out _ ((Below.refl _ _).drew)).2.2).mono ?_; rintro e w3 ⟨A8, c8, rfl, g8, g5, g6, gT, gb⟩; have G8 := J g8; have G5 := J g5; have G6 := J g6; have GT := J gT; have hq3 := HT.out _ gT; clear a0 a1 a2 b0 b1 b2 p0 p1 p2 pf0 pf1 pf2; have a0 := (hq3).1.c0; have a1 := (hq3).1.c1; have a2 := (hq3).1.c2; have b0 := (hq3).2.1.c0; have b1 := (hq3).2.1.c1; have b2 := (hq3).2.1.c2; have p0 := (hq3).2.2.1.c0; have p1 := (hq3).2.2.1.c1; have p2 := (hq3).2.2.1.c2; have pf0 := (hq3).2.2.1.f0; have pf1 := (hq3).2.2.1.f1; have pf2 := (hq3).2.2.1.f2; clear hq3 g8 g5 g6 gT gb)
          | (go_at_call 202; refine (HD.out ((wc.alloc (.cells #[.bool false, .slice none 0 0, .slice none 0 0] 147)).drew) _ _ _ _ (HTD.out _ (((Below.refl _ _).alloc (Nat.le_refl _) _).drew)).1 (HTD.out _ (((Below.refl _ _).alloc (Nat.le_refl _) _).drew)).2.1 (HTD.out _ (((Below.refl _ _).alloc (Nat.le_refl _) _).drew)).2.2).mono ?_; rintro e w3 ⟨A8, c8, rfl, g8, g5, g6, gT, gb⟩; have RB := (Inv.Rat3.newd wc (.bool false) (.slice none 0 0) (.slice none 0 0) 147).below gb (by simp); have hnp : wc.heap.size ≠ w.heap.size := (by omega); have hnp1 : wc.heap.size ≠ w.heap.size + 1 := (by omega); have G8 := J g8; have G5 := J g5; have G6 := J g6; have GT := J gT; have HRB := J RB; have r0 := RB.c0; have r1 := RB.c1; have r2 := RB.c2; have rf0 := RB.f0; have rf1 := RB.f1; have rf2 := RB.f2; have hlt3 : wc.heap.size < w3.heap.size := (by have := gb.size; simp at this; omega); have hq3 := HT.out _ gT; clear RB a0 a1 a2 b0 b1 b2 p0 p1 p2 pf0 pf1 pf2; have a0 := (hq3).1.c0; have a1 := (hq3).1.c1; have a2 := (hq3).1.c2; have b0 := (hq3).2.1.c0; have b1 := (hq3).2.1.c1; have b2 := (hq3).2.1.c2; have p0 := (hq3).2.2.1.c0; have p1 := (hq3).2.2.1.c1; have p2 := (hq3).2.2.1.c2; have pf0 := (hq3).2.2.1.f0; have pf1 := (hq3).2.2.1.f1; have pf2 := (hq3).2.2.1.f2; clear hq3 g8 g5 g6 gT gb))
      all_goals
        first
          | (have HC : Hid (PCut T w s LA LB LD (.slice A5 LA.length c5) (.slice A6 LB.length c6) (.pointer (some ⟨wc.heap.size, 0, none⟩)) (((w3.setCell ⟨wc.heap.size, 0, none⟩ (.bool s)).setCell ⟨wc.heap.size, 1, none⟩ (.slice none 0 0)).setCell ⟨wc.heap.size, 2, none⟩ (.slice A8 LD.length c8))) := J (by
              have m6 := HRB.out.set0 (.bool s)
              have m7 := m6.set1 (.slice none 0 0)
              have m8 := m7.set2 (.slice A8 LD.length c8)
              have nn : ∀ {A : Option Addr} {L : List Nat}, RdU w3 w3.heap.size A L → RdU (((w3.setCell ⟨wc.heap.size, 0, none⟩ (.bool s)).setCell ⟨wc.heap.size, 1, none⟩ (.slice none 0 0)).setCell ⟨wc.heap.size, 2, none⟩ (.slice A8 LD.length c8)) w3.heap.size A L := fun h => ((h.non HRB.out.c0 (not_bool _) _).non m6.c1 (not_slice _ _ _) _).non m7.c2 (not_slice _ _ _) _
              refine ⟨wc.heap.size, c5, c6, c8, A5, A6, A8, rfl, rfl, rfl, HTS.out _ _ _ _ (HTS.out _ _ _ _ (HTS.out _ _ _ _ GT.out hsz) hsz) hsz, hsz, by simp only [World.size_setCell]; exact hlt3, m8, ?_, ?_, ?_⟩
              all_goals simp only [World.size_setCell]
              · exact nn G5.out
              · exact nn G6.out
              · exact nn G8.out)
             go_wp2_with fail
             go_meet
             exact HC.out)
          | (have HC : Hid (PCut T w s LA LB LD (.slice A5 LA.length c5) (.slice A6 LB.length c6) (.pointer (some ⟨w3.heap.size, 0, none⟩)) (w3.alloc (.cells #[.bool s, .slice none 0 0, .slice A8 LD.length c8] 147))) := J (by
              have bA : Below w3.heap.size w3 (w3.alloc (.cells #[.bool s, .slice none 0 0, .slice A8 LD.length c8] 147)) := (Below.refl _ _).alloc (Nat.le_refl _) _
              have hz3 := (HT.out _ GT.out).2.2.2.2
              exact ⟨w3.heap.size, c5, c6, c8, A5, A6, A8, rfl, rfl, rfl, HTB.out _ _ GT.out bA, hz3, by simp, Rat3.new w3 _ _ _ _, (G5.out.below bA (Nat.le_refl _)).more bA.size, (G6.out.below bA (Nat.le_refl _)).more bA.size, (G8.out.below bA (Nat.le_refl _)).more bA.size⟩)
             go_wp2_with fail
             go_meet
             exact HC.out)
    case rest =>
      obtain ⟨p, c5', c6', c8, A5', A6', A8, e5, e6, rfl, hTp, hp1, hp2, hR, g5, g6, g8⟩ := hcut
      cases e5
      cases e6
      clear a0 a1 a2 b0 b1 b2 p0 p1 p2 pf0 pf1 pf2 HTD HR5 HR6 HTc hsz HD
      have HTp := J hTp
      have HRx := J hR
      have G5 := J g5
      have G6 := J g6
      have G8 := J g8
      have hq0 := HT.out _ hTp
      have a0 := (hq0).1.c0; have a1 := (hq0).1.c1; have a2 := (hq0).1.c2; have b0 := (hq0).2.1.c0; have b1 := (hq0).2.1.c1; have b2 := (hq0).2.1.c2; have p0 := (hq0).2.2.1.c0; have p1 := (hq0).2.2.1.c1; have p2 := (hq0).2.2.1.c2; have pf0 := (hq0).2.2.1.f0; have pf1 := (hq0).2.2.1.f1; have pf2 := (hq0).2.2.1.f2
      have r0 := hR.c0
      have r1 := hR.c1
      have r2 := hR.c2
      have rf0 := hR.f0
      have rf1 := hR.f1
      have rf2 := hR.f2
      clear hq0 hTp hR g5 g6 g8
      by_cases hss : s = s'
      · have hsb : (s == s') = true := by simp [hss]
        have HQ1 := J (HE1.out hss)
        have HC := J (HPl.out _ A5 A6 A8 c5 c6 HTp.out G5.out G6.out G8.out)
        clear hss HE1 HE2 HE3 HMi HMj HCm
        go_wp2_with fail
        refine HC.out.mono ?_
        rintro e w9 ⟨A9, c9, rfl, k9, k8, t9, bb9⟩
        clear a0 a1 a2 b0 b1 b2 p0 p1 p2 pf0 pf1 pf2 r0 r1 r2 rf0 rf1 rf2
        have R9 := HRx.out.below bb9 hp2
        have hp9 : p < w9.heap.size := Nat.lt_of_lt_of_le hp2 bb9.size
        obtain ⟨W9, hW9⟩ : ∃ W9, W9 = w9.setCell ⟨p, 1, none⟩ (.slice A9 (natL va).length c9) := ⟨_, rfl⟩
        have R10 := R9.set1 (.slice A9 (natL va).length c9)
        have T10 := HTS.out _ _ 1 (.slice A9 (natL va).length c9) t9 hp1
        have k9' := k9.non R9.c1 (not_slice _ _ _) (.slice A9 (natL va).length c9)
        have k8' := k8.non R9.c1 (not_slice _ _ _) (.slice A9 (natL va).length c9)
        have z9 : (w9.setCell ⟨p, 1, none⟩ (.slice A9 (natL va).length c9)).heap.size = w9.heap.size := by simp
        rw [← z9] at k9' k8'
        have q9 := HT.out _ t9
        have a0 := (q9).1.c0; have a1 := (q9).1.c1; have a2 := (q9).1.c2; have b0 := (q9).2.1.c0; have b1 := (q9).2.1.c1; have b2 := (q9).2.1.c2; have p0 := (q9).2.2.1.c0; have p1 := (q9).2.2.1.c1; have p2 := (q9).2.2.1.c2; have pf0 := (q9).2.2.1.f0; have pf1 := (q9).2.2.1.f1; have pf2 := (q9).2.2.1.f2
        have r0 := R9.c0
        have r1 := R9.c1
        have r2 := R9.c2
        have rf0 := R9.f0
        have rf1 := R9.f1
        have rf2 := R9.f2
        have x0 := R10.c0
        have x1 := R10.c1
        have x2 := R10.c2
        have HL2 := J (HLw.out _ s va A9 A8 c9 c8 HQ1.out HV1.out.1 T10 k9' k8')
        clear q9 R9 k9 k8 z9 k9' k8' R10
        have HT10 := J T10
        clear T10 t9 bb9 hW9
        go_wp2_with fail
        refine HL2.out.mono ?_
        rintro e w10 ⟨⟨A10, c10, A11, c11, rfl, hr10, hr11, hb10⟩, hT10⟩
        have hq10 := HT.out _ hT10
        obtain ⟨m6, m7, m8, HR⟩ := rt_store (c1 := c10) (c2 := c11) (decide (q < 0)) hq10.2.2.1 hr10 hr11 hq10.2.2.2.1 (by omega)
        have HRH := J HR
        have m80 := m8.c0
        have m81 := m8.c1
        have m82 := m8.c2
        clear a0 a1 a2 b0 b1 b2 p0 p1 p2 pf0 pf1 pf2 r0 r1 r2 rf0 rf1 rf2 x0 x1 x2
        have a0 := (hq10).1.c0; have a1 := (hq10).1.c1; have a2 := (hq10).1.c2; have b0 := (hq10).2.1.c0; have b1 := (hq10).2.1.c1; have b2 := (hq10).2.1.c2; have p0 := (hq10).2.2.1.c0; have p1 := (hq10).2.2.1.c1; have p2 := (hq10).2.2.1.c2; have pf0 := (hq10).2.2.1.f0; have pf1 := (hq10).2.2.1.f1; have pf2 := (hq10).2.2.1.f2
        clear HR m6 m7 m8 hr10 hr11 hb10 hT10 hq10
        go_wp2
        refine bodyPost_ret (v := .agg #[.bool (decide (q < 0)), .slice A10 (natL q.num.natAbs).length c10, .slice A11 (natL q.den).length c11]) (by simp [results, Tryz.results160, go_sem, m80, m81, m82]) rfl HRH.out
      · have hsb : (s == s') = false := by simp [hss]
        have HC := J (HCm.out _ A5 A6 c5 c6 G5.out G6.out)
        clear HPl HE1 HCm
        go_wp2_with fail
        refine HC.out.mono ?_
        rintro e w8 ⟨r, rfl, hcr, hD⟩
        have HTD : Hid (T w8 ∧ RdU w8 w8.heap.size A5 LA ∧ RdU w8 w8.heap.size A6 LB ∧ RdU w8 w8.heap.size A8 LD ∧ Rat3 w8 p (.bool s) (.slice none 0 0) (.slice A8 LD.length c8) ∧ p < w8.heap.size) := J (by
          obtain ⟨mD, rfl⟩ := hD
          have bD := below_drewN (Below.refl wc.heap.size wc) mD
          exact ⟨HTB.out _ _ HTp.out bD, (G5.out.below bD (Nat.le_refl _)).more bD.size, (G6.out.below bD (Nat.le_refl _)).more bD.size, (G8.out.below bD (Nat.le_refl _)).more bD.size, HRx.out.below bD hp2, Nat.lt_of_lt_of_le hp2 bD.size⟩)
        clear hD HC a0 a1 a2 b0 b1 b2 p0 p1 p2 pf0 pf1 pf2 r0 r1 r2 rf0 rf1 rf2 HRx hp2 HTp G5 G6 G8
        have HRx := J HTD.out.2.2.2.2.1
        have hp2 := HTD.out.2.2.2.2.2
        have hq0 := HT.out _ HTD.out.1
        have a0 := (hq0).1.c0; have a1 := (hq0).1.c1; have a2 := (hq0).1.c2; have b0 := (hq0).2.1.c0; have b1 := (hq0).2.1.c1; have b2 := (hq0).2.1.c2; have p0 := (hq0).2.2.1.c0; have p1 := (hq0).2.2.1.c1; have p2 := (hq0).2.2.1.c2; have pf0 := (hq0).2.2.1.f0; have pf1 := (hq0).2.2.1.f1; have pf2 := (hq0).2.2.1.f2
        have r0 := HRx.out.c0
        have r1 := HRx.out.c1
        have r2 := HRx.out.c2
        have rf0 := HRx.out.f0
        have rf1 := HRx.out.f1
        have rf2 := HRx.out.f2
        clear hq0
        by_cases hle : y ≤ x
        · have hr0 : 0 ≤ r := by
            rcases Nat.lt_or_ge y x with h | h
            · have := hcr.2.2 h; omega
            · have := hcr.2.1 (by omega); omega
          have HQ1 := J (HE2.out hss hle)
          have HC := J (HMi.out _ A5 A6 A8 c5 c6 hle HTD.out.1 HTD.out.2.1 HTD.out.2.2.1 HTD.out.2.2.2.1)
          clear hss HE2 HE3 HMi HMj hcr hle
          go_wp2_with fail
          refine HC.out.mono ?_
          rintro e w9 ⟨A9, c9, rfl, k9, k8, t9, bb9⟩
          clear a0 a1 a2 b0 b1 b2 p0 p1 p2 pf0 pf1 pf2 r0 r1 r2 rf0 rf1 rf2
          have R9 := HRx.out.below bb9 hp2
          have hp9 : p < w9.heap.size := Nat.lt_of_lt_of_le hp2 bb9.size
          obtain ⟨W9, hW9⟩ : ∃ W9, W9 = w9.setCell ⟨p, 1, none⟩ (.slice A9 (natL vb).length c9) := ⟨_, rfl⟩
          have R10 := R9.set1 (.slice A9 (natL vb).length c9)
          have T10 := HTS.out _ _ 1 (.slice A9 (natL vb).length c9) t9 hp1
          have k9' := k9.non R9.c1 (not_slice _ _ _) (.slice A9 (natL vb).length c9)
          have k8' := k8.non R9.c1 (not_slice _ _ _) (.slice A9 (natL vb).length c9)
          have z9 : (w9.setCell ⟨p, 1, none⟩ (.slice A9 (natL vb).length c9)).heap.size = w9.heap.size := by simp
          rw [← z9] at k9' k8'
          have q9 := HT.out _ t9
          have a0 := (q9).1.c0; have a1 := (q9).1.c1; have a2 := (q9).1.c2; have b0 := (q9).2.1.c0; have b1 := (q9).2.1.c1; have b2 := (q9).2.1.c2; have p0 := (q9).2.2.1.c0; have p1 := (q9).2.2.1.c1; have p2 := (q9).2.2.1.c2; have pf0 := (q9).2.2.1.f0; have pf1 := (q9).2.2.1.f1; have pf2 := (q9).2.2.1.f2
          have r0 := R9.c0
          have r1 := R9.c1
          have r2 := R9.c2
          have rf0 := R9.f0
          have rf1 := R9.f1
          have rf2 := R9.f2
          have x0 := R10.c0
          have x1 := R10.c1
          have x2 := R10.c2
          have HL2 := J (HLw.out _ s vb A9 A8 c9 c8 HQ1.out HV1.out.2.1 T10 k9' k8')
          clear q9 R9 k9 k8 z9 k9' k8' R10
          have HT10 := J T10
          clear T10 t9 bb9 hW9
          go_wp2_with fail
          refine HL2.out.mono ?_
          rintro e w10 ⟨⟨A10, c10, A11, c11, rfl, hr10, hr11, hb10⟩, hT10⟩
          have hq10 := HT.out _ hT10
          obtain ⟨m6, m7, m8, HR⟩ := rt_store (c1 := c10) (c2 := c11) (decide (q < 0)) hq10.2.2.1 hr10 hr11 hq10.2.2.2.1 (by omega)
          have HRH := J HR
          have m80 := m8.c0
          have m81 := m8.c1
          have m82 := m8.c2
          clear a0 a1 a2 b0 b1 b2 p0 p1 p2 pf0 pf1 pf2 r0 r1 r2 rf0 rf1 rf2 x0 x1 x2
          have a0 := (hq10).1.c0; have a1 := (hq10).1.c1; have a2 := (hq10).1.c2; have b0 := (hq10).2.1.c0; have b1 := (hq10).2.1.c1; have b2 := (hq10).2.1.c2; have p0 := (hq10).2.2.1.c0; have p1 := (hq10).2.2.1.c1; have p2 := (hq10).2.2.1.c2; have pf0 := (hq10).2.2.1.f0; have pf1 := (hq10).2.2.1.f1; have pf2 := (hq10).2.2.1.f2
          clear HR m6 m7 m8 hr10 hr11 hb10 hT10 hq10
          go_wp2
          refine bodyPost_ret (v := .agg #[.bool (decide (q < 0)), .slice A10 (natL q.num.natAbs).length c10, .slice A11 (natL q.den).length c11]) (by simp [results, Tryz.results160, go_sem, m80, m81, m82]) rfl HRH.out
        · have hr0 : r < 0 := hcr.1 (by omega)
          have HQ1 := J (HE3.out hss (by omega))
          have bW : Below w8.heap.size w8 w8.drew := (Below.refl _ _).drew
          have HC := J (HMj.out w8.drew A5 A6 A8 c5 c6 (by omega) (HTB.out _ _ HTD.out.1 bW) ((HTD.out.2.1.below bW (Nat.le_refl _)).more bW.size) ((HTD.out.2.2.1.below bW (Nat.le_refl _)).more bW.size) ((HTD.out.2.2.2.1.below bW (Nat.le_refl _)).more bW.size))
          have HRd := J (HRx.out.below bW hp2)
          have hpd : p < w8.drew.heap.size := Nat.lt_of_lt_of_le hp2 bW.size
          have hnp1 : p ≠ w.heap.size + 1 := by omega
          clear hss HE2 HE3 HMi HMj hcr hle bW
          go_wp2
          go_region_held3 (fun w' => w'.cell? ⟨w.heap.size + 1, 0, none⟩ = some (.bool s'))
            (first | exact b0 | go_keep | (rw [frzc hnp1]; exact b0) | (rw [frzc hnp1, frzc hnp1]; exact b0))
            (first
              | (go_at_call 205; refine HC.out.mono ?_; rintro e w9 ⟨A9, c9, rfl, k9, k8, t9, bb9⟩; have K9 := J k9; have K8 := J k8; have T9 := J t9; have R9 := J (HRd.out.below bb9 hpd); have hq9 := HT.out _ t9; have z9 := bb9.size; have m1 := R9.out.set1 (.slice A9 (natL vc).length c9); clear a0 a1 a2 b0 b1 b2 p0 p1 p2 pf0 pf1 pf2 r0 r1 r2 rf0 rf1 rf2 k9 k8 t9; have a0 := (hq9).1.c0; have a1 := (hq9).1.c1; have a2 := (hq9).1.c2; have b0 := (hq9).2.1.c0; have b1 := (hq9).2.1.c1; have b2 := (hq9).2.1.c2; have p0 := (hq9).2.2.1.c0; have p1 := (hq9).2.2.1.c1; have p2 := (hq9).2.2.1.c2; have pf0 := (hq9).2.2.1.f0; have pf1 := (hq9).2.2.1.f1; have pf2 := (hq9).2.2.1.f2; have r0 := R9.out.c0; have r1 := R9.out.c1; have r2 := R9.out.c2; have rf0 := R9.out.f0; have rf1 := R9.out.f1; have rf2 := R9.out.f2; have n0 := m1.c0; have nf0 := m1.f0; clear hq9 bb9 m1))
          all_goals
            have R10 := (R9.out.set1 (.slice A9 (natL vc).length c9)).set0 (.bool s')
            have R9b := R9.out.set1 (.slice A9 (natL vc).length c9)
            have T10 := HTS.out _ _ 0 (.bool s') (HTS.out _ _ 1 (.slice A9 (natL vc).length c9) T9.out hp1) hp1
            have k9' := (K9.out.non R9.out.c1 (not_slice _ _ _) (.slice A9 (natL vc).length c9)).non R9b.c0 (not_bool _) (.bool s')
            have k8' := (K8.out.non R9.out.c1 (not_slice _ _ _) (.slice A9 (natL vc).length c9)).non R9b.c0 (not_bool _) (.bool s')
            have z10 : ((w9.setCell ⟨p, 1, none⟩ (.slice A9 (natL vc).length c9)).setCell ⟨p, 0, none⟩ (.bool s')).heap.size = w9.heap.size := by simp
            rw [← z10] at k9' k8'
            have x0 := R10.c0
            have x1 := R10.c1
            have x2 := R10.c2
            have HL2 := J (HLw.out _ s' vc A9 A8 c9 c8 HQ1.out HV1.out.2.2 T10 k9' k8')
            clear R10 R9b T10 k9' k8' z10
            go_wp2_with fail
            refine HL2.out.mono ?_
            rintro e w10 ⟨⟨A10, c10, A11, c11, rfl, hr10, hr11, hb10⟩, hT10⟩
            have hq10 := HT.out _ hT10
            obtain ⟨m6, m7, m8, HR⟩ := rt_store (c1 := c10) (c2 := c11) (decide (q < 0)) hq10.2.2.1 hr10 hr11 hq10.2.2.2.1 (by omega)
            have HRH := J HR
            have m80 := m8.c0
            have m81 := m8.c1
            have m82 := m8.c2
            clear a0 a1 a2 b0 b1 b2 p0 p1 p2 pf0 pf1 pf2 r0 r1 r2 rf0 rf1 rf2 x0 x1 x2
            have a0 := (hq10).1.c0; have a1 := (hq10).1.c1; have a2 := (hq10).1.c2; have b0 := (hq10).2.1.c0; have b1 := (hq10).2.1.c1; have b2 := (hq10).2.1.c2; have p0 := (hq10).2.2.1.c0; have p1 := (hq10).2.2.1.c1; have p2 := (hq10).2.2.1.c2; have pf0 := (hq10).2.2.1.f0; have pf1 := (hq10).2.2.1.f1; have pf2 := (hq10).2.2.1.f2
            clear HR m6 m7 m8 hr10 hr11 hb10 hT10 hq10
            go_wp2
            refine bodyPost_ret (v := .agg #[.bool (decide (q < 0)), .slice A10 (natL q.num.natAbs).length c10, .slice A11 (natL q.den).length c11]) (by simp [results, Tryz.results160, go_sem, m80, m81, m82]) rfl HRH.out
end Ratio
namespace Ratio
open Go.RowKit Base Mem NatM Nat32 RatM
open YtgipnbeipfhekaaGreatDoor.Inv (natOf natOf_eq len_pos Rat3 not_slice not_bool frz)
def IsRt (w : World) (q : Rat) (v : Value) : Prop := ∃ A c A' c', v = .agg #[.bool (decide (q < 0)), .slice A (natL q.num.natAbs).length c, .slice A' (natL q.den).length c'] ∧ RdU w w.heap.size A (natL q.num.natAbs) ∧ RdU w w.heap.size A' (natL q.den)
theorem IsRt.below {w w' : World} {q : Rat} {v : Value} (h : IsRt w q v) (hb : Below w.heap.size w w') : IsRt w' q v := by
 obtain ⟨A, c, A', c', e, h1, h2⟩ := h
 exact ⟨A, c, A', c', e, (h1.below hb (Nat.le_refl _)).more hb.size, (h2.below hb (Nat.le_refl _)).more hb.size⟩
theorem RV.is {q : Rat} {w w' : World} {e : Ending} (h : RV q w e w') : ∃ v, e = .returned v ∧ IsRt w' q v ∧ Below w.heap.size w w' := by
 obtain ⟨A, c, A', c', e1, h1, h2, h3⟩ := h
 exact ⟨_, e1, ⟨A, c, A', c', rfl, h1, h2⟩, h3⟩
theorem IsRt.ret {q : Rat} {w w' : World} {v : Value} (h : IsRt w' q v) (hb : Below w.heap.size w w') : RV q w (.returned v) w' := by
 obtain ⟨A, c, A', c', rfl, h1, h2⟩ := h
 exact ⟨A, c, A', c', rfl, h1, h2, hb⟩
theorem szR_parts {q : Rat} {m : Nat} (h : szR q ≤ m) : (natL q.num.natAbs).length ≤ m ∧ (natL q.den).length ≤ m := by
 unfold szR at h; omega
theorem ratPlus {q r : Rat} {v u : Value} (w : World) (hv : IsRt w q v) (hu : IsRt w r u) (hq : szR q ≤ 200000) (hr : szR r ≤ 200000) : Calls Tryz.prog 160 #[v, u] w (RV (q + r) w) := by
 obtain ⟨A1, c1, A2, c2, rfl, h1, h2⟩ := hv
 obtain ⟨A3, c3, A4, c4, rfl, h3, h4⟩ := hu
 have := rtPlus (decide (q < 0)) (decide (r < 0)) q.num.natAbs q.den r.num.natAbs r.den A1 A2 A3 A4 c1 c2 c3 c4 w h1 h2 h3 h4 (szR_parts hq).1 (szR_parts hq).2 (szR_parts hr).1 (szR_parts hr).2 q.den_pos r.den_pos
 rw [qv_self, qv_self] at this
 exact this
theorem rtOpp (s : Bool) (k1 k2 c1 c2 : Nat) (A1 A2 : Option Addr) (w : World) : Calls Tryz.prog 206 #[.agg #[.bool s, .slice A1 k1 c1, .slice A2 k2 c2]] w fun e w' => e = .returned (.agg #[.bool (!s && decide (0 < k1)), .slice A1 k1 c1, .slice A2 k2 c2]) ∧ Below w.heap.size w w' := by
 rcases Nat.eq_zero_or_pos k1 with rfl | hk
 ·cases s with
  | false =>
   go_enter Tryz.func206, Tryz.ntmps206
   go_wp2
   refine bodyPost_ret (v := .agg #[.bool false, .slice A1 0 c1, .slice A2 k2 c2]) (by simp [results, Tryz.results206, go_sem]) rfl ⟨(by simp [*]), ?_⟩
   exact ((Below.refl _ _).alloc (Nat.le_refl _) _).alloc (by simp) _
  | true =>
   go_enter Tryz.func206, Tryz.ntmps206
   go_wp2
   refine bodyPost_ret (v := .agg #[.bool false, .slice A1 0 c1, .slice A2 k2 c2]) (by simp [results, Tryz.results206, go_sem]) rfl ⟨(by simp [*]), ?_⟩
   exact ((Below.refl _ _).alloc (Nat.le_refl _) _).alloc (by simp) _
 ·cases s with
  | false =>
   go_enter Tryz.func206, Tryz.ntmps206
   go_wp2
   refine bodyPost_ret (v := .agg #[.bool true, .slice A1 k1 c1, .slice A2 k2 c2]) (by simp [results, Tryz.results206, go_sem]) rfl ⟨(by simp [*]), ?_⟩
   exact ((Below.refl _ _).alloc (Nat.le_refl _) _).alloc (by simp) _
  | true =>
   go_enter Tryz.func206, Tryz.ntmps206
   go_wp2
   refine bodyPost_ret (v := .agg #[.bool false, .slice A1 k1 c1, .slice A2 k2 c2]) (by simp [results, Tryz.results206, go_sem]) rfl ⟨(by simp [*]), ?_⟩
   exact ((Below.refl _ _).alloc (Nat.le_refl _) _).alloc (by simp) _
theorem neg_sign (q : Rat) : (!decide (q < 0) && decide (0 < (natL q.num.natAbs).length)) = decide (-q < 0) := by
 have h1 : 0 < (natL q.num.natAbs).length ↔ q ≠ 0 := by
  constructor
  ·intro h e
   rw [e] at h
   have : (natL (0 : Rat).num.natAbs).length = 0 := by rw [show (0 : Rat).num.natAbs = 0 from rfl, natL_zero]; rfl
   omega
  ·intro h
   refine len_pos (Nat.pos_of_ne_zero fun e => h ((zero_iff q).2 e))
 rw [Bool.eq_iff_iff]
 simp only [Bool.and_eq_true, Bool.not_eq_true', decide_eq_false_iff_not, decide_eq_true_eq, h1]
 constructor
 ·rintro ⟨g1, g2⟩; grind
 ·intro g; exact ⟨by grind, by grind⟩
theorem ratOpp {q : Rat} {v : Value} (w : World) (hv : IsRt w q v) : Calls Tryz.prog 206 #[v] w (RV (-q) w) := by
 obtain ⟨A1, c1, A2, c2, rfl, h1, h2⟩ := hv
 refine (rtOpp (decide (q < 0)) (natL q.num.natAbs).length (natL q.den).length c1 c2 A1 A2 w).mono ?_
 rintro e w' ⟨rfl, hb⟩
 rw [neg_sign]
 refine ⟨A1, c1, A2, c2, ?_, ?_, ?_, hb⟩
 ·rw [Rat.neg_num, Int.natAbs_neg, Rat.neg_den]
 ·rw [Rat.neg_num, Int.natAbs_neg]
  exact (h1.below hb (Nat.le_refl _)).more hb.size
 ·rw [Rat.neg_den]
  exact (h2.below hb (Nat.le_refl _)).more hb.size
end Ratio
namespace Ratio
open Go.RowKit Base Mem NatM Nat32 RatM
open YtgipnbeipfhekaaGreatDoor.Inv (natOf natOf_eq len_pos Rat3 not_slice not_bool frz)
theorem szR_neg (q : Rat) : szR (-q) = szR q := by
 unfold szR
 rw [Rat.neg_num, Int.natAbs_neg, Rat.neg_den]
theorem ratMinus {q0 r : Rat} {v u : Value} (w : World) (hv : IsRt w q0 v) (hu : IsRt w r u) (hq : szR q0 ≤ 200000) (hr : szR r ≤ 200000) : Calls Tryz.prog 161 #[v, u] w (RV (q0 - r) w) := by
 obtain ⟨q, hqq⟩ : ∃ q, q = q0 + -r := ⟨_, rfl⟩
 rw [Rat.sub_eq_add_neg, ← hqq]
 obtain ⟨A1, c1, A2, c2, rfl, h1, h2⟩ := hv
 obtain ⟨A3, c3, A4, c4, rfl, h3, h4⟩ := hu
 have HQ := J (TF.start w (decide (q0 < 0)) (decide (r < 0)) (.slice A1 (natL q0.num.natAbs).length c1) (.slice A2 (natL q0.den).length c2) (.slice A3 (natL r.num.natAbs).length c3) (.slice A4 (natL r.den).length c4))
 obtain ⟨T, hT⟩ : ∃ T : World → Prop, T = TF w (decide (q0 < 0)) (decide (r < 0)) (.slice A1 (natL q0.num.natAbs).length c1) (.slice A2 (natL q0.den).length c2) (.slice A3 (natL r.num.natAbs).length c3) (.slice A4 (natL r.den).length c4) := ⟨_, rfl⟩
 have rd : ∀ {X : World} {A : Option Addr} {xs : List Nat}, RdU w w.heap.size A xs → T X → RdU X X.heap.size A xs := fun h hX => by
  rw [hT] at hX
  exact (h.below hX.2.2.2.1 (Nat.le_refl _)).more hX.2.2.2.1.size
 have TB : ∀ {X Y : World}, T X → Below X.heap.size X Y → T Y := fun hX hb => by rw [hT] at hX ⊢; exact hX.below hb
 have HO : Hid (∀ X, T X → Calls Tryz.prog 206 #[.agg #[.bool (decide (r < 0)), .slice A3 (natL r.num.natAbs).length c3, .slice A4 (natL r.den).length c4]] X fun e w' => ∃ A c A' c', e = .returned (.agg #[.bool (decide (-r < 0)), .slice A (natL (-r).num.natAbs).length c, .slice A' (natL (-r).den).length c']) ∧ IsRt w' (-r) (.agg #[.bool (decide (-r < 0)), .slice A (natL (-r).num.natAbs).length c, .slice A' (natL (-r).den).length c']) ∧ T w') := J fun X hX => by
  refine (ratOpp X ⟨A3, c3, A4, c4, rfl, rd h3 hX, rd h4 hX⟩).mono ?_
  rintro e w' ⟨A, c, A', c', rfl, g1, g2, g3⟩
  exact ⟨A, c, A', c', rfl, ⟨A, c, A', c', rfl, g1, g2⟩, TB hX g3⟩
 have HP : Hid (∀ X v2, T X → IsRt X (-r) v2 → Calls Tryz.prog 160 #[.agg #[.bool (decide (q0 < 0)), .slice A1 (natL q0.num.natAbs).length c1, .slice A2 (natL q0.den).length c2], v2] X fun e w' => RV q X e w' ∧ T w') := J fun X v2 hX hv2 => by
  have e := ratPlus X ⟨A1, c1, A2, c2, rfl, rd h1 hX, rd h2 hX⟩ hv2 hq (by rw [szR_neg]; exact hr)
  rw [← hqq] at e
  refine e.mono fun e w' h => ⟨h, ?_⟩
  obtain ⟨_, _, _, _, _, _, _, hb⟩ := h
  exact TB hX hb
 rw [← hT] at HQ
 have HT : Hid (∀ X, T X → TF w (decide (q0 < 0)) (decide (r < 0)) (.slice A1 (natL q0.num.natAbs).length c1) (.slice A2 (natL q0.den).length c2) (.slice A3 (natL r.num.natAbs).length c3) (.slice A4 (natL r.den).length c4) X) := J fun X h => by rw [← hT]; exact h
 clear rd h1 h2 h3 h4 hT TB hqq hq hr
 generalize decide (q0 < 0) = s at *
 generalize decide (r < 0) = s' at *
 obtain ⟨nr, hnr⟩ : ∃ nr, nr = -r := ⟨_, rfl⟩
 rw [← hnr] at HO HP
 clear hnr
 generalize decide (nr < 0) = s2 at *
 generalize (natL nr.num.natAbs).length = k5 at *
 generalize (natL nr.den).length = k6 at *
 generalize (natL q0.num.natAbs).length = k1 at *
 generalize (natL q0.den).length = k2 at *
 generalize (natL r.num.natAbs).length = k3 at *
 generalize (natL r.den).length = k4 at *
 go_enter Tryz.func161, Tryz.ntmps161
 go_wp2_with fail
 have hq0 := HT.out _ HQ.out
 have a0 := (hq0).1.c0; have a1 := (hq0).1.c1; have a2 := (hq0).1.c2; have b0 := (hq0).2.1.c0; have b1 := (hq0).2.1.c1; have b2 := (hq0).2.1.c2; have p0 := (hq0).2.2.1.c0; have p1 := (hq0).2.2.1.c1; have p2 := (hq0).2.2.1.c2; have pf0 := (hq0).2.2.1.f0; have pf1 := (hq0).2.2.1.f1; have pf2 := (hq0).2.2.1.f2
 clear hq0
 go_region_held3 (fun w' => w'.cell? ⟨w.heap.size, 0, none⟩ = some (.bool s) ∧ w'.cell? ⟨w.heap.size, 1, none⟩ = some (.slice A1 k1 c1) ∧ w'.cell? ⟨w.heap.size, 2, none⟩ = some (.slice A2 k2 c2) ∧ w'.cell? ⟨w.heap.size + 1, 0, none⟩ = some (.bool s') ∧ w'.cell? ⟨w.heap.size + 1, 1, none⟩ = some (.slice A3 k3 c3) ∧ w'.cell? ⟨w.heap.size + 1, 2, none⟩ = some (.slice A4 k4 c4))
  (first | exact ⟨a0, a1, a2, b0, b1, b2⟩ | exact ⟨(((HQ3.out.1.far (by omega) _).far (by omega) _).far (by omega) _).c0, (((HQ3.out.1.far (by omega) _).far (by omega) _).far (by omega) _).c1, (((HQ3.out.1.far (by omega) _).far (by omega) _).far (by omega) _).c2, (((HQ3.out.2.1.far (by omega) _).far (by omega) _).far (by omega) _).c0, (((HQ3.out.2.1.far (by omega) _).far (by omega) _).far (by omega) _).c1, (((HQ3.out.2.1.far (by omega) _).far (by omega) _).far (by omega) _).c2⟩ | go_keep | exact ⟨a0, a1, a2, b0, b1, b2⟩ | exact ⟨(((HQ3.out.1.far (by omega) _).far (by omega) _).far (by omega) _).c0, (((HQ3.out.1.far (by omega) _).far (by omega) _).far (by omega) _).c1, (((HQ3.out.1.far (by omega) _).far (by omega) _).far (by omega) _).c2, (((HQ3.out.2.1.far (by omega) _).far (by omega) _).far (by omega) _).c0, (((HQ3.out.2.1.far (by omega) _).far (by omega) _).far (by omega) _).c1, (((HQ3.out.2.1.far (by omega) _).far (by omega) _).far (by omega) _).c2⟩)
  (first
   | (go_at_call 160; refine (HP.out _ _ HQ1.out HR1.out).mono ?_; rintro e w3 ⟨⟨A7, c7, A8, c8, rfl, hr7, hr8, hb3⟩, hq3⟩; have HQ3 := J (HT.out _ hq3); have Hr7 := J hr7; have Hr8 := J hr8; clear hr7 hr8 hb3 a0 a1 a2 b0 b1 b2 p0 p1 p2 pf0 pf1 pf2; have a0 := (HQ3.out).1.c0; have a1 := (HQ3.out).1.c1; have a2 := (HQ3.out).1.c2; have b0 := (HQ3.out).2.1.c0; have b1 := (HQ3.out).2.1.c1; have b2 := (HQ3.out).2.1.c2; have p0 := (HQ3.out).2.2.1.c0; have p1 := (HQ3.out).2.2.1.c1; have p2 := (HQ3.out).2.2.1.c2; have pf0 := (HQ3.out).2.2.1.f0; have pf1 := (HQ3.out).2.2.1.f1; have pf2 := (HQ3.out).2.2.1.f2)
   | (go_at_call 206; refine (HO.out _ HQ.out).mono ?_; rintro e w1 ⟨A5, c5, A6, c6, rfl, hr1, hq1⟩; have HR1 := J hr1; have HQ1 := J hq1; have hq1 := HT.out _ hq1; clear hr1 a0 a1 a2 b0 b1 b2 p0 p1 p2 pf0 pf1 pf2; have a0 := (hq1).1.c0; have a1 := (hq1).1.c1; have a2 := (hq1).1.c2; have b0 := (hq1).2.1.c0; have b1 := (hq1).2.1.c1; have b2 := (hq1).2.1.c2; have p0 := (hq1).2.2.1.c0; have p1 := (hq1).2.2.1.c1; have p2 := (hq1).2.2.1.c2; have pf0 := (hq1).2.2.1.f0; have pf1 := (hq1).2.2.1.f1; have pf2 := (hq1).2.2.1.f2; clear hq1))
 all_goals
  obtain ⟨m6, m7, m8, HR⟩ := rt_store (c1 := c7) (c2 := c8) (decide (q < 0)) HQ3.out.2.2.1 Hr7.out Hr8.out HQ3.out.2.2.2.1 (by omega)
  have HRH := J HR
  have m80 := m8.c0
  have m81 := m8.c1
  have m82 := m8.c2
  clear HR m6 m7 m8
  go_wp2
  refine bodyPost_ret (v := .agg #[.bool (decide (q < 0)), .slice A7 (natL q.num.natAbs).length c7, .slice A8 (natL q.den).length c8]) (by simp [results, Tryz.results161, go_sem, m80, m81, m82]) rfl HRH.out
end Ratio
namespace Ratio
open Go.RowKit Base Mem NatM Nat32 RatM
open YtgipnbeipfhekaaGreatDoor.Inv (natOf natOf_eq len_pos Rat3 not_slice not_bool frz)
end Ratio
namespace Ratio
open Go.RowKit Base Mem NatM Nat32 RatM
open YtgipnbeipfhekaaGreatDoor.Inv (natOf natOf_eq len_pos Rat3 not_slice not_bool frz)
theorem rtZero (s : Bool) (k1 k2 c1 c2 : Nat) (A1 A2 : Option Addr) (w : World) : Calls Tryz.prog 162 #[.agg #[.bool s, .slice A1 k1 c1, .slice A2 k2 c2]] w fun e w' => e = .returned (.bool (decide (k1 = 0))) ∧ Below w.heap.size w w' := by
 have hb := (Below.refl w.heap.size w).alloc (Nat.le_refl _) (.cells #[.bool s, .slice A1 k1 c1, .slice A2 k2 c2] 147)
 have HB := J hb
 clear hb
 rcases Nat.eq_zero_or_pos k1 with rfl | hk
 ·go_enter Tryz.func162, Tryz.ntmps162
  go_wp2
  go_ret
  exact ⟨ret_bool (by simp), HB.out⟩
 ·have hk0 : ((k1 : Int) == 0) = false := by simp only [beq_eq_false_iff_ne]; omega
  have hk1 : decide (k1 = 0) = false := decide_eq_false (by omega)
  go_enter Tryz.func162, Tryz.ntmps162
  go_wp2
  go_ret
  exact ⟨ret_bool (by first | exact hk1.symm | (simp; omega)), HB.out⟩
theorem zero_len (q : Rat) : (natL q.num.natAbs).length = 0 ↔ q = 0 := by
 constructor
 ·intro h
  refine Classical.byContradiction fun hq => ?_
  have := len_pos (Nat.pos_of_ne_zero fun e => hq ((zero_iff q).2 e))
  omega
 ·intro h
  rw [h, show (0 : Rat).num.natAbs = 0 from rfl, natL_zero]; rfl
def cmpQ (q r : Rat) : Int := if q = r then 0 else if q < r then -1 else 1
theorem ratCompare {q r : Rat} {v u : Value} (w : World) (hv : IsRt w q v) (hu : IsRt w r u) (hq : szR q ≤ 200000) (hr : szR r ≤ 200000) : Calls Tryz.prog 100 #[v, u] w fun e w' => e = .returned (.int .i64 (cmpQ q r)) ∧ Below w.heap.size w w' := by
 have hb0 : ∀ v1 v2 v3 u1 u2 u3 : Value, Below w.heap.size w ((w.alloc (.cells #[v1, v2, v3] 147)).alloc (.cells #[u1, u2, u3] 147)) := fun _ _ _ _ _ _ => ((Below.refl _ _).alloc (Nat.le_refl _) _).alloc (by simp) _
 obtain ⟨W2, hW2, bW⟩ : ∃ W2, (∃ A1 c1 A2 c2 A3 c3 A4 c4, v = .agg #[.bool (decide (q < 0)), .slice A1 (natL q.num.natAbs).length c1, .slice A2 (natL q.den).length c2] ∧ u = .agg #[.bool (decide (r < 0)), .slice A3 (natL r.num.natAbs).length c3, .slice A4 (natL r.den).length c4] ∧ W2 = (w.alloc (.cells #[.bool (decide (q < 0)), .slice A1 (natL q.num.natAbs).length c1, .slice A2 (natL q.den).length c2] 147)).alloc (.cells #[.bool (decide (r < 0)), .slice A3 (natL r.num.natAbs).length c3, .slice A4 (natL r.den).length c4] 147)) ∧ Below w.heap.size w W2 := by
  obtain ⟨A1, c1, A2, c2, e1, _, _⟩ := hv
  obtain ⟨A3, c3, A4, c4, e2, _, _⟩ := hu
  exact ⟨_, ⟨A1, c1, A2, c2, A3, c3, A4, c4, e1, e2, rfl⟩, hb0 _ _ _ _ _ _⟩
 have HM := J (ratMinus W2 (hv.below bW) (hu.below bW) hq hr)
 obtain ⟨A1, c1, A2, c2, A3, c3, A4, c4, rfl, rfl, hW⟩ := hW2
 have HW := J hW
 have HB := J bW
 have hc : cmpQ q r = if q - r = 0 then 0 else if q - r < 0 then -1 else 1 := by
  unfold cmpQ
  have h1 : q - r = 0 ↔ q = r := by constructor <;> intro h <;> grind
  have h2 : q - r < 0 ↔ q < r := by constructor <;> intro h <;> grind
  simp only [h1, h2]
 have HC := J hc
 clear hW bW hv hu hq hr hb0 hc
 generalize cmpQ q r = cv at *
 generalize q - r = d at *
 generalize decide (q < 0) = s at *
 generalize decide (r < 0) = s' at *
 generalize (natL q.num.natAbs).length = k1 at *
 generalize (natL q.den).length = k2 at *
 generalize (natL r.num.natAbs).length = k3 at *
 generalize (natL r.den).length = k4 at *
 go_enter Tryz.func100, Tryz.ntmps100
 go_wp2_with fail
 rw [← HW.out]
 refine HM.out.mono ?_
 rintro e w3 ⟨A5, c5, A6, c6, rfl, h5, h6, hb3⟩
 have HB3 := J (HB.out.trans (hb3.mono HB.out.size))
 have HZ := J (fun W => rtZero (decide (d < 0)) (natL d.num.natAbs).length (natL d.den).length c5 c6 A5 A6 W)
 have HZL : Hid (decide ((natL d.num.natAbs).length = 0) = decide (d = 0)) := J (by simp only [zero_len])
 rw [HZL.out] at HZ
 clear h5 h6 hb3
 go_wp2_with fail
 refine (HZ.out _).mono ?_
 rintro e w4 ⟨rfl, hb4⟩
 have HB4 := J ((HB3.out.alloc HB3.out.size (.cells #[.bool (decide (d < 0)), .slice A5 (natL d.num.natAbs).length c5, .slice A6 (natL d.den).length c6] 147)).trans (hb4.mono (by have := HB3.out.size; simp; omega)))
 have d0 : w4.cell? ⟨w3.heap.size, 0, none⟩ = some (.bool (decide (d < 0))) := box_cells hb4 0
 clear hb4
 by_cases hz : d = 0
 ·have hzb : decide (d = 0) = true := decide_eq_true hz
  have hcv : cv = 0 := by rw [HC.out, if_pos hz]
  subst hcv
  generalize decide (d < 0) = sd at *
  clear hz
  go_wp2
  go_ret
  exact ⟨rfl, HB4.out⟩
 ·have hzb : decide (d = 0) = false := decide_eq_false hz
  by_cases hl : d < 0
  ·have hlb : decide (d < 0) = true := decide_eq_true hl
   have hcv : cv = -1 := by rw [HC.out, if_neg hz, if_pos hl]
   subst hcv
   clear hz hl
   go_wp2
   go_ret
   exact ⟨rfl, HB4.out⟩
  ·have hlb : decide (d < 0) = false := decide_eq_false hl
   have hcv : cv = 1 := by rw [HC.out, if_neg hz, if_neg hl]
   subst hcv
   clear hz hl
   go_wp2
   go_ret
   exact ⟨rfl, HB4.out⟩
end Ratio
namespace Ratio
open Go.RowKit Base Mem NatM Nat32 RatM
open YtgipnbeipfhekaaGreatDoor.Inv (natOf natOf_eq len_pos Rat3 not_slice not_bool frz)
theorem smallAny (x : Nat) (A : Option Addr) (c B : Nat) (w : World) (hx : RdU w B A (natL x)) :
  Calls Tryz.prog 198 #[.slice A (natL x).length c] w fun e w' => (∃ i : Int, e = .returned (.tuple #[.int .i64 i, .bool (decide (x ≤ 1000000000000000000))]) ∧ (x ≤ 1000000000000000000 → i = x)) ∧ w = w' := by
 rcases Nat.lt_or_ge 1000000000000000000 x with h | h
 ·rw [decide_eq_false (by omega)]
  refine (small_no x A c B w hx h).mono ?_
  rintro e w' ⟨i, rfl, rfl⟩
  exact ⟨⟨i, rfl, fun h' => absurd h' (by omega)⟩, rfl⟩
 ·rw [decide_eq_true (by omega)]
  refine (small_yes x A c B w hx h).mono ?_
  rintro e w' ⟨rfl, rfl⟩
  exact ⟨⟨x, rfl, fun _ => rfl⟩, rfl⟩
theorem ratFraction {q : Rat} {v : Value} (w : World) (hv : IsRt w q v) :
  Calls Tryz.prog 156 #[v] w fun e w' => e = .returned (.tuple #[.agg #[.int .i64 (numQ q), .int .i64 (denQ q)], .bool (smallQ q)]) ∧ Below w.heap.size w w' := by
 obtain ⟨A, c, A', c', rfl, hx, hy⟩ := hv
 have HB : Hid (Below w.heap.size w ((w.alloc (.cells #[.bool (decide (q < 0)), .slice A (natL q.num.natAbs).length c, .slice A' (natL q.den).length c'] 147)).alloc (.cells #[.int .i64 0, .int .i64 0] 49))) := J (((Below.refl _ _).alloc (Nat.le_refl _) _).alloc (by simp) _)
 have H1 := J (fun W (h : Below w.heap.size w W) => smallAny q.num.natAbs A c w.heap.size W (hx.below h (Nat.le_refl _)))
 have H2 := J (fun W (h : Below w.heap.size w W) => smallAny q.den A' c' w.heap.size W (hy.below h (Nat.le_refl _)))
 have HF : ∀ i j : Int, (q.num.natAbs ≤ 1000000000000000000 → i = q.num.natAbs) → (q.den ≤ 1000000000000000000 → j = q.den) → decide (q.num.natAbs ≤ 1000000000000000000) = true → decide (q.den ≤ 1000000000000000000) = true → smallQ q = true ∧ denQ q = j ∧ ((q.num.natAbs : Int) = i ∧ (q.den : Int) = j) ∧ (decide (q < 0) = true → numQ q = -i ∧ 0 ≤ i ∧ i ≤ 1000000000000000000) ∧ (decide (q < 0) = false → numQ q = i) := by
  intro i j hi hj h1 h2
  have hs : smallQ q = true := by unfold smallQ; rw [h1, h2]; rfl
  have hn := hi (of_decide_eq_true h1)
  have hle := of_decide_eq_true h1
  refine ⟨hs, by unfold denQ; rw [hs, hj (of_decide_eq_true h2)]; rfl, ⟨hn.symm, (hj (of_decide_eq_true h2)).symm⟩, fun hq => ?_, fun hq => ?_⟩
  ·have : q.num < 0 := Int.not_le.1 fun h => Rat.not_le.2 (of_decide_eq_true hq) (Rat.num_nonneg.1 h)
   exact ⟨by unfold numQ; rw [hs]; simp; omega, by omega, by omega⟩
  ·have : 0 ≤ q.num := Rat.num_nonneg.2 (Rat.not_lt.1 (of_decide_eq_false hq))
   unfold numQ; rw [hs]; simp; omega
 have HG : (decide (q.num.natAbs ≤ 1000000000000000000) = false ∨ decide (q.den ≤ 1000000000000000000) = false) → smallQ q = false ∧ numQ q = 0 ∧ denQ q = 0 := by
  intro h
  have hs : smallQ q = false := by unfold smallQ; rcases h with h | h <;> rw [h] <;> simp
  exact ⟨hs, by unfold numQ; rw [hs]; rfl, by unfold denQ; rw [hs]; rfl⟩
 have HF := J HF
 have HG := J HG
 clear hx hy
 generalize decide (q < 0) = s at *
 generalize (natL q.num.natAbs).length = n at *
 generalize (natL q.den).length = n' at *
 generalize hb1 : decide (q.num.natAbs ≤ 1000000000000000000) = b1 at *
 generalize hb2 : decide (q.den ≤ 1000000000000000000) = b2 at *
 clear hb1 hb2
 generalize numQ q = vn at *
 generalize denQ q = vd at *
 generalize smallQ q = sm at *
 go_enter Tryz.func156, Tryz.ntmps156
 go_wp2_with fail
 refine (H1.out _ HB.out).mono ?_
 rintro e w1 ⟨⟨i, rfl, hi⟩, rfl⟩
 have HI := J hi
 clear hi
 go_wp2_with fail
 refine (H2.out _ HB.out).mono ?_
 rintro e w1 ⟨⟨j, rfl, hj⟩, rfl⟩
 have HF2 := J (HF.out i j HI.out hj)
 clear hj
 clear HF
 cases b1 with
 | false =>
  obtain ⟨rfl, rfl, rfl⟩ := HG.out (Or.inl rfl)
  cases b2 <;>
  ·go_wp2
   refine bodyPost_ret (v := .tuple #[.agg #[.int .i64 0, .int .i64 0], .bool false]) (by simp [results, Tryz.results156, go_sem]) rfl ⟨rfl, ?_⟩
   exact ((Below.refl _ _).alloc (Nat.le_refl _) _).alloc (by simp) _
 | true =>
  cases b2 with
  | false =>
   obtain ⟨rfl, rfl, rfl⟩ := HG.out (Or.inr rfl)
   go_wp2
   refine bodyPost_ret (v := .tuple #[.agg #[.int .i64 0, .int .i64 0], .bool false]) (by simp [results, Tryz.results156, go_sem]) rfl ⟨rfl, ?_⟩
   exact ((Below.refl _ _).alloc (Nat.le_refl _) _).alloc (by simp) _
  | true =>
   obtain ⟨rfl, rfl, ⟨e1, e2⟩, hn, hp⟩ := HF2.out rfl rfl
   have E1 := J e1
   have E2 := J e2
   clear e1 e2
   cases s with
   | true =>
    obtain ⟨rfl, h0, hle⟩ := hn rfl
    clear hn hp
    have hw : wrap64 (-i) = -i := by first | (unfold wrap64; omega) | (simp [wrap64]; omega)
    go_wp2
    refine bodyPost_ret (v := .tuple #[.agg #[.int .i64 (-i), .int .i64 vd], .bool true]) (by simp [results, Tryz.results156, go_sem]; first | done | (rw [E1.out, E2.out]; first | exact ⟨hw, rfl⟩ | exact ⟨rfl, rfl⟩)) rfl ⟨rfl, ?_⟩
    exact ((Below.refl _ _).alloc (Nat.le_refl _) _).alloc (by simp) _
   | false =>
    obtain rfl := hp rfl
    clear hn hp
    go_wp2
    refine bodyPost_ret (v := .tuple #[.agg #[.int .i64 vn, .int .i64 vd], .bool true]) (by simp [results, Tryz.results156, go_sem]; first | done | (rw [E1.out, E2.out]; first | exact ⟨hw, rfl⟩ | exact ⟨rfl, rfl⟩)) rfl ⟨rfl, ?_⟩
    exact ((Below.refl _ _).alloc (Nat.le_refl _) _).alloc (by simp) _
end Ratio
namespace LpQ
open Go.RowKit Base Mem MemF GiveM NatM Nat32 RatM Ratio Blk LvQ LvO LvT
open YtgipnbeipfhekaaGreatDoor.Inv (Rat3)
theorem len2 {v : Nat} (h : v ≤ 1000000000000000000) : (natL v).length ≤ 1000000 :=
 Nat.le_trans (natL_len_le (k := 2) (Nat.lt_of_le_of_lt h (by decide))) (by decide)
theorem quo_d {v n M : Nat} (hv0 : 0 < v) (hv : v ≤ 2 ^ n) (hn : n ≤ 50) (hM : M = 2 ^ n) (w : World) : Calls Tryz.prog 155 #[.int .i64 (v : Int), .int .i64 (M : Int)] w (RV (dy n v) w) := by
 have hp : (2 : Nat) ^ n ≤ 2 ^ 50 := Nat.pow_le_pow_right (by decide) hn
 have hp0 := Nat.two_pow_pos n
 rw [show dy n v = qv false v M by rw [hM]; rfl]
 rw [← hM] at hv hp hp0
 clear hM
 have hpos : ∀ e w', RtRet false (v / Nat.gcd v M) (M / Nat.gcd v M) w e w' → RV (qv false v M) w e w' := fun e w' h => RV.of_pos hv0 hp0 h
 obtain ⟨W0, hW0⟩ : ∃ W0, W0 = w.alloc (.cells #[.bool false, .slice none 0 0, .slice none 0 0] 147) := ⟨_, rfl⟩
 have hB0 : Below w.heap.size w W0 := by rw [hW0]; exact (Below.refl _ _).alloc (Nat.le_refl _) _
 have r1 : Rat3 W0 w.heap.size (.bool false) (.slice none 0 0) (.slice none 0 0) := by rw [hW0]; exact Rat3.new w _ _ _ _
 have hz0 : w.heap.size < W0.heap.size := by rw [hW0]; simp
 have HS := J (fun W => size_int (v : Int) (by omega) W)
 rw [Int.natAbs_natCast] at HS
 have HN1 := J (naturalOf_any v (by omega) W0)
 have HN2 := J (fun W => naturalOf_any M (by omega) W)
 have HL := J (fun A A' c c' W hx hy => lowestG_pos false v M A A' c c' W hx hy (len2 (by omega)) (len2 (by omega)) hv0 hp0)
 have HPos := J hpos
 have hvn : ¬ ((v : Int) < 0) := by omega
 clear hpos
 generalize v / Nat.gcd v M = P at *
 generalize M / Nat.gcd v M = Q at *
 refine Calls.mono ?_ HPos.out
 go_enter Tryz.func155, Tryz.ntmps155
 go_wp2_with (go_at_call 83; refine (HS.out _).mono ?_; rintro e w1 ⟨rfl, rfl⟩)
 rw [← hW0]
 refine HN1.out.mono ?_
 rintro e w1 ⟨A3, c3, rfl, h3, hb1⟩
 have H3 := J h3
 have HB1 := J hb1
 clear h3 hb1 hW0
 go_wp2_with fail
 refine (HN2.out _).mono ?_
 rintro e w2 ⟨A4, c4, rfl, h4, hb2⟩
 have HLL := J (HL.out A3 A4 c3 c4 w2 ((H3.out.below hb2 (Nat.le_refl _)).more hb2.size) h4)
 have HB2 := J (HB1.out.trans (hb2.mono HB1.out.size))
 clear h4 hb2
 go_wp2_with fail
 refine HLL.out.mono ?_
 rintro e w3 ⟨A1, c1, A2, c2, rfl, h1, h2, hb3⟩
 have hb03 := HB2.out.trans (hb3.mono HB2.out.size)
 have q1 := r1.below hb03 hz0
 have hb := hB0.trans (hb03.mono hB0.size)
 clear r1 hb03 hb3 hB0 hz0 HLL HL HN1 HN2 HS H3 HB1 HB2 HPos
 obtain ⟨m6, m7, m8, HR⟩ := rt_store false (c1 := c1) (c2 := c2) q1 h1 h2 hb (Nat.le_refl _)
 have HRH := J HR
 clear HR
 obtain ⟨d0, d1, d2, df0, df1, df2⟩ := q1
 obtain ⟨m60, m61, m62, mf60, mf61, mf62⟩ := m6
 obtain ⟨m70, m71, m72, mf70, mf71, mf72⟩ := m7
 obtain ⟨m80, m81, m82, mf80, mf81, mf82⟩ := m8
 go_wp2
 refine bodyPost_ret (v := .agg #[.bool false, .slice A1 (natL P).length c1, .slice A2 (natL Q).length c2]) (by simp [results, Tryz.results155, go_sem, m80, m81, m82]) rfl HRH.out
end LpQ
end Go.Proofs.YtgipnbeipfhekaaGreatDoor
