/- The program's ratios: products. -/
import Derived.Test.YtcimmgpmkfbpdaaGreatDoorMgStr05
import Derived.Deep.CutRange
namespace Go.Proofs.YtcimmgpmkfbpdaaGreatDoor.Ratio
open Go.RowKit Go.Proofs.YtcimmgpmkfbpdaaGreatDoor Go.Proofs.YtcimmgpmkfbpdaaGreatDoor.Base Go.Proofs.YtcimmgpmkfbpdaaGreatDoor.Mem Go.Proofs.YtcimmgpmkfbpdaaGreatDoor.NatM Go.Proofs.YtcimmgpmkfbpdaaGreatDoor.Nat32 Go.Proofs.YtcimmgpmkfbpdaaGreatDoor.RatM
open Go.Proofs.YtcimmgpmkfbpdaaGreatDoor.Inv (natOf natOf_eq len_pos Rat3 not_slice not_bool frz)
set_option linter.unusedVariables false
theorem natL_mul_len (x y : Nat) : (natL (x * y)).length ≤ (natL x).length + (natL y).length := by
 refine natL_len_le ?_
 rw [Nat.pow_add]
 have h1 := val_lt _ (natL_ok x)
 have h2 := val_lt _ (natL_ok y)
 rw [natL_val] at h1 h2
 exact Nat.mul_lt_mul_of_lt_of_le h1 (Nat.le_of_lt h2) (Nat.pow_pos (by decide))
theorem natTimes (x y : Nat) (A A' : Option Addr) (c c' : Nat) (w : World) (hx : RdU w w.heap.size A (natL x)) (hy : RdU w w.heap.size A' (natL y)) (hl : (natL x).length ≤ 500000) (hl' : (natL y).length ≤ 500000) :
  Calls Tryz.prog 130 #[.slice A (natL x).length c, .slice A' (natL y).length c'] w (NRet (x * y) w) := by
 have := times_any A A' c c' w.heap.size w.heap.size (natL x) (natL y) w hx (Nat.le_refl _) hy (Nat.le_refl _) (natL_ok x) (natL_ok y) (by omega) (by omega)
 rw [natL_val, natL_val] at this
 exact this
def TF (w : World) (s s' : Bool) (v1 v2 v3 v4 : Value) (W : World) : Prop := Rat3 W w.heap.size (.bool s) v1 v2 ∧ Rat3 W (w.heap.size + 1) (.bool s') v3 v4 ∧ Rat3 W (w.heap.size + 1 + 1) (.bool false) (.slice none 0 0) (.slice none 0 0) ∧ Below w.heap.size w W ∧ w.heap.size + 3 ≤ W.heap.size
theorem TF.below {w W W' : World} {s s' : Bool} {v1 v2 v3 v4 : Value} (h : TF w s s' v1 v2 v3 v4 W) (hb : Below W.heap.size W W') : TF w s s' v1 v2 v3 v4 W' := by
 obtain ⟨h1, h2, h3, h4, h5⟩ := h
 exact ⟨h1.below hb (by omega), h2.below hb (by omega), h3.below hb (by omega), h4.trans (hb.mono (by omega)), by have := hb.size; omega⟩
theorem TF.start (w : World) (s s' : Bool) (v1 v2 v3 v4 : Value) :
  TF w s s' v1 v2 v3 v4 ((((w.alloc (.cells #[.bool s, v1, v2] 114)).alloc (.cells #[.bool s', v3, v4] 114)).alloc (.cells #[.bool false, .slice none 0 0, .slice none 0 0] 114)).drew) := by
 have r1 := Rat3.new w (.bool s) v1 v2 114
 have r2 := Rat3.new (w.alloc (.cells #[.bool s, v1, v2] 114)) (.bool s') v3 v4 114
 have r3 := Rat3.new ((w.alloc (.cells #[.bool s, v1, v2] 114)).alloc (.cells #[.bool s', v3, v4] 114)) (.bool false) (.slice none 0 0) (.slice none 0 0) 114
 simp only [World.size_alloc] at r2 r3
 have b2 : Below (w.heap.size + 1) (w.alloc (.cells #[.bool s, v1, v2] 114)) ((((w.alloc (.cells #[.bool s, v1, v2] 114)).alloc (.cells #[.bool s', v3, v4] 114)).alloc (.cells #[.bool false, .slice none 0 0, .slice none 0 0] 114)).drew) := (((Below.refl _ _).alloc (by simp) _).alloc (by simp) _).drew
 have b3 : Below (w.heap.size + 1 + 1) ((w.alloc (.cells #[.bool s, v1, v2] 114)).alloc (.cells #[.bool s', v3, v4] 114)) ((((w.alloc (.cells #[.bool s, v1, v2] 114)).alloc (.cells #[.bool s', v3, v4] 114)).alloc (.cells #[.bool false, .slice none 0 0, .slice none 0 0] 114)).drew) := ((Below.refl _ _).alloc (by simp) _).drew
 refine ⟨r1.below b2 (Nat.lt_succ_self _), r2.below b3 (Nat.lt_succ_self _), r3.below ((Below.refl (w.heap.size + 1 + 1 + 1) _).drew) (Nat.lt_succ_self _), ?_, by simp⟩
 exact ((((Below.refl _ _).alloc (Nat.le_refl _) _).alloc (by simp) _).alloc (by simp; omega) _).drew
end Go.Proofs.YtcimmgpmkfbpdaaGreatDoor.Ratio
namespace Go.Proofs.YtcimmgpmkfbpdaaGreatDoor.Ratio
open Go.RowKit Go.Proofs.YtcimmgpmkfbpdaaGreatDoor Go.Proofs.YtcimmgpmkfbpdaaGreatDoor.Base Go.Proofs.YtcimmgpmkfbpdaaGreatDoor.Mem Go.Proofs.YtcimmgpmkfbpdaaGreatDoor.NatM Go.Proofs.YtcimmgpmkfbpdaaGreatDoor.Nat32 Go.Proofs.YtcimmgpmkfbpdaaGreatDoor.RatM
open Go.Proofs.YtcimmgpmkfbpdaaGreatDoor.Inv (natOf natOf_eq len_pos Rat3 not_slice not_bool frz)
set_option linter.unusedVariables false
theorem natPlus (x y : Nat) (A A' : Option Addr) (c c' : Nat) (w : World) (hx : RdU w w.heap.size A (natL x)) (hy : RdU w w.heap.size A' (natL y)) (hl : (natL x).length ≤ 1000000) (hl' : (natL y).length ≤ 1000000) :
  Calls Tryz.prog 131 #[.slice A (natL x).length c, .slice A' (natL y).length c'] w (NRet (x + y) w) := by
 have := plus_any A A' c c' w.heap.size w.heap.size (natL x) (natL y) w hx (Nat.le_refl _) hy (Nat.le_refl _) (natL_ok x) (natL_ok y) (by omega) (by omega)
 rw [natL_val, natL_val] at this
 exact this
theorem natMinus (x y : Nat) (A A' : Option Addr) (c c' : Nat) (w : World) (hx : RdU w w.heap.size A (natL x)) (hy : RdU w w.heap.size A' (natL y)) (hl : (natL x).length ≤ 1000000) (hle : y ≤ x) :
  Calls Tryz.prog 133 #[.slice A (natL x).length c, .slice A' (natL y).length c'] w (NRet (x - y) w) := by
 have := minus_any A A' c c' w.heap.size w.heap.size (natL x) (natL y) w hx (Nat.le_refl _) hy (Nat.le_refl _) (natL_ok x) (natL_ok y) (by omega) (natL_mono hle) (by rw [natL_val, natL_val]; exact hle)
 rw [natL_val, natL_val] at this
 exact this
theorem natL_add_len (x y : Nat) : (natL (x + y)).length ≤ (natL x).length + (natL y).length + 1 := by
 refine natL_len_le ?_
 have h1 := val_lt _ (natL_ok x)
 have h2 := val_lt _ (natL_ok y)
 rw [natL_val] at h1 h2
 have h3 : B32 ^ (natL x).length ≤ B32 ^ ((natL x).length + (natL y).length) := Nat.pow_le_pow_right (by decide) (by omega)
 have h4 : B32 ^ (natL y).length ≤ B32 ^ ((natL x).length + (natL y).length) := Nat.pow_le_pow_right (by decide) (by omega)
 have h5 : B32 ^ ((natL x).length + (natL y).length) * 2 ≤ B32 ^ ((natL x).length + (natL y).length) * B32 := Nat.mul_le_mul_left _ (by decide)
 rw [Nat.pow_succ]
 generalize B32 ^ ((natL x).length + (natL y).length) * B32 = M at *
 generalize B32 ^ ((natL x).length + (natL y).length) = N at *
 generalize B32 ^ (natL x).length = P at *
 generalize B32 ^ (natL y).length = Q at *
 omega
def PCut (T : World → Prop) (w : World) (s : Bool) (LA LB LD : List Nat) (s5 s6 s7 : Value) (wx : World) : Prop :=
 ∃ (p c5 c6 c8 : Nat) (A5 A6 A8 : Option Addr), s5 = .slice A5 LA.length c5 ∧ s6 = .slice A6 LB.length c6 ∧ s7 = .pointer (some ⟨p, 0, none⟩) ∧ T wx ∧ w.heap.size + 3 ≤ p ∧ p < wx.heap.size ∧ Rat3 wx p (.bool s) (.slice none 0 0) (.slice A8 LD.length c8) ∧
  RdU wx wx.heap.size A5 LA ∧ RdU wx wx.heap.size A6 LB ∧ RdU wx wx.heap.size A8 LD
theorem TF.set {w W : World} {s s' : Bool} {v1 v2 v3 v4 : Value} {p : Nat} (h : TF w s s' v1 v2 v3 v4 W) (hp : w.heap.size + 3 ≤ p) (i : Nat) (v : Value) : TF w s s' v1 v2 v3 v4 (W.setCell ⟨p, i, none⟩ v) := by
 obtain ⟨h1, h2, h3, h4, h5⟩ := h
 exact ⟨h1.far (by omega) v, h2.far (by omega) v, h3.far (by omega) v, h4.setCell (by show w.heap.size ≤ p; omega) v, by simp; omega⟩
theorem frzc {W : World} {p b i j : Nat} {v : Value} (h : p ≠ b) : (W.setCell ⟨p, i, none⟩ v).cell? ⟨b, j, none⟩ = W.cell? ⟨b, j, none⟩ := World.cell?_setCell_far _ _ _ _ h
def PCut1 (T : World → Prop) (LA LB : List Nat) (s5 s6 : Value) (wx : World) : Prop :=
 ∃ (c5 c6 : Nat) (A5 A6 : Option Addr), s5 = .slice A5 LA.length c5 ∧ s6 = .slice A6 LB.length c6 ∧ T wx ∧ RdU wx wx.heap.size A5 LA ∧ RdU wx wx.heap.size A6 LB
set_option maxHeartbeats 4000000 in
set_option maxRecDepth 100000 in
theorem rtPlus (s s' : Bool) (n d n' d' : Nat) (A1 A2 A3 A4 : Option Addr) (c1 c2 c3 c4 : Nat) (w : World) (h1 : RdU w w.heap.size A1 (natL n)) (h2 : RdU w w.heap.size A2 (natL d)) (h3 : RdU w w.heap.size A3 (natL n')) (h4 : RdU w w.heap.size A4 (natL d'))
    (l1 : (natL n).length ≤ 200000) (l2 : (natL d).length ≤ 200000) (l3 : (natL n').length ≤ 200000) (l4 : (natL d').length ≤ 200000) (hd : 0 < d) (hd' : 0 < d') :
    Calls Tryz.prog 106 #[.agg #[.bool s, .slice A1 (natL n).length c1, .slice A2 (natL d).length c2], .agg #[.bool s', .slice A3 (natL n').length c3, .slice A4 (natL d').length c4]] w (RV (qv s n d + qv s' n' d') w) := by
  have HQ := Lib.hid (TF.start w s s' (.slice A1 (natL n).length c1) (.slice A2 (natL d).length c2) (.slice A3 (natL n').length c3) (.slice A4 (natL d').length c4))
  obtain ⟨T, hT⟩ : ∃ T : World → Prop, T = TF w s s' (.slice A1 (natL n).length c1) (.slice A2 (natL d).length c2) (.slice A3 (natL n').length c3) (.slice A4 (natL d').length c4) := ⟨_, rfl⟩
  have rd : ∀ {X : World} {A : Option Addr} {xs : List Nat}, RdU w w.heap.size A xs → T X → RdU X X.heap.size A xs := fun h hX => by
    rw [hT] at hX
    exact (h.below hX.2.2.2.1 (Nat.le_refl _)).more hX.2.2.2.1.size
  have TB : ∀ {X Y : World}, T X → Below X.heap.size X Y → T Y := fun hX hb => by rw [hT] at hX ⊢; exact hX.below hb
  have HN : Hid (∀ X, T X → Calls Tryz.prog 130 #[.slice A1 (natL n).length c1, .slice A4 (natL d').length c4] X fun e w' => ∃ A c, e = .returned (.slice A (natL (n * d')).length c) ∧ RdU w' w'.heap.size A (natL (n * d')) ∧ T w') := Lib.hid fun X hX => (natTimes n d' A1 A4 c1 c4 X (rd h1 hX) (rd h4 hX) (by omega) (by omega)).mono fun e w' ⟨A, c, g1, g2, g3⟩ => ⟨A, c, g1, g2, TB hX g3⟩
  have HB : Hid (∀ X A0 xs, T X → RdU X X.heap.size A0 xs → Calls Tryz.prog 130 #[.slice A3 (natL n').length c3, .slice A2 (natL d).length c2] X fun e w' => ∃ A c, e = .returned (.slice A (natL (n' * d)).length c) ∧ RdU w' w'.heap.size A (natL (n' * d)) ∧ RdU w' w'.heap.size A0 xs ∧ T w') := Lib.hid fun X A0 xs hX hr => (natTimes n' d A3 A2 c3 c2 X (rd h3 hX) (rd h2 hX) (by omega) (by omega)).mono fun e w' ⟨A, c, g1, g2, g3⟩ => ⟨A, c, g1, g2, (hr.below g3 (Nat.le_refl _)).more g3.size, TB hX g3⟩
  have HD : Hid (∀ X A0 xs A9 ys, T X → RdU X X.heap.size A0 xs → RdU X X.heap.size A9 ys → Calls Tryz.prog 130 #[.slice A2 (natL d).length c2, .slice A4 (natL d').length c4] X fun e w' => ∃ A c, e = .returned (.slice A (natL (d * d')).length c) ∧ RdU w' w'.heap.size A (natL (d * d')) ∧ RdU w' w'.heap.size A0 xs ∧ RdU w' w'.heap.size A9 ys ∧ T w' ∧ Below X.heap.size X w') := Lib.hid fun X A0 xs A9 ys hX hr hr9 => (natTimes d d' A2 A4 c2 c4 X (rd h2 hX) (rd h4 hX) (by omega) (by omega)).mono fun e w' ⟨A, c, g1, g2, g3⟩ => ⟨A, c, g1, g2, (hr.below g3 (Nat.le_refl _)).more g3.size, (hr9.below g3 (Nat.le_refl _)).more g3.size, TB hX g3, g3⟩
  rw [← hT] at HQ
  have HT : Hid (∀ X, T X → TF w s s' (.slice A1 (natL n).length c1) (.slice A2 (natL d).length c2) (.slice A3 (natL n').length c3) (.slice A4 (natL d').length c4) X) := Lib.hid fun X h => by rw [← hT]; exact h
  have HTB : Hid (∀ X Y, T X → Below X.heap.size X Y → T Y) := Lib.hid fun X Y h hb => TB h hb
  have HTS : Hid (∀ X p i v, T X → w.heap.size + 3 ≤ p → T (X.setCell ⟨p, i, none⟩ v)) := Lib.hid fun X p i v h hp => by rw [hT] at h ⊢; exact h.set hp i v
  clear rd h1 h2 h3 h4 TB hT
  obtain ⟨LA, hLA⟩ : ∃ LA, LA = natL (n * d') := ⟨_, rfl⟩
  obtain ⟨LB, hLB⟩ : ∃ LB, LB = natL (n' * d) := ⟨_, rfl⟩
  obtain ⟨LD, hLD⟩ : ∃ LD, LD = natL (d * d') := ⟨_, rfl⟩
  have m1 := natL_mul_len n d'
  have m2 := natL_mul_len n' d
  have m3 := natL_mul_len d d'
  have la : LA.length ≤ 400000 := by rw [hLA]; omega
  have lb : LB.length ≤ 400000 := by rw [hLB]; omega
  have ld : LD.length ≤ 400000 := by rw [hLD]; omega
  have HL := Lib.hid (And.intro hLA (And.intro hLB hLD))
  obtain ⟨q, hq⟩ : ∃ q, q = qv s n d + qv s' n' d' := ⟨_, rfl⟩
  have HPl : Hid (∀ X A5 A6 A8 c5 c6, T X → RdU X X.heap.size A5 LA → RdU X X.heap.size A6 LB → RdU X X.heap.size A8 LD → Calls Tryz.prog 131 #[.slice A5 LA.length c5, .slice A6 LB.length c6] X fun e w' => ∃ A9 c9, e = .returned (.slice A9 (natL (n * d' + n' * d)).length c9) ∧ RdU w' w'.heap.size A9 (natL (n * d' + n' * d)) ∧ RdU w' w'.heap.size A8 LD ∧ T w' ∧ Below X.heap.size X w') := Lib.hid fun X A5 A6 A8 c5 c6 hX g5 g6 g8 => by
    rw [hLA] at g5 la ⊢
    rw [hLB] at g6 lb ⊢
    refine (natPlus _ _ A5 A6 c5 c6 X g5 g6 (by omega) (by omega)).mono ?_
    rintro e w' ⟨A9, c9, rfl, r9, b9⟩
    exact ⟨A9, c9, rfl, r9, (g8.below b9 (Nat.le_refl _)).more b9.size, HTB.out _ _ hX b9, b9⟩
  have HMi : Hid (∀ X A5 A6 A8 c5 c6, n' * d ≤ n * d' → T X → RdU X X.heap.size A5 LA → RdU X X.heap.size A6 LB → RdU X X.heap.size A8 LD → Calls Tryz.prog 133 #[.slice A5 LA.length c5, .slice A6 LB.length c6] X fun e w' => ∃ A9 c9, e = .returned (.slice A9 (natL (n * d' - n' * d)).length c9) ∧ RdU w' w'.heap.size A9 (natL (n * d' - n' * d)) ∧ RdU w' w'.heap.size A8 LD ∧ T w' ∧ Below X.heap.size X w') := Lib.hid fun X A5 A6 A8 c5 c6 hle hX g5 g6 g8 => by
    rw [hLA] at g5 la ⊢
    rw [hLB] at g6 lb ⊢
    refine (natMinus _ _ A5 A6 c5 c6 X g5 g6 (by omega) hle).mono ?_
    rintro e w' ⟨A9, c9, rfl, r9, b9⟩
    exact ⟨A9, c9, rfl, r9, (g8.below b9 (Nat.le_refl _)).more b9.size, HTB.out _ _ hX b9, b9⟩
  have HMj : Hid (∀ X A5 A6 A8 c5 c6, n * d' ≤ n' * d → T X → RdU X X.heap.size A5 LA → RdU X X.heap.size A6 LB → RdU X X.heap.size A8 LD → Calls Tryz.prog 133 #[.slice A6 LB.length c6, .slice A5 LA.length c5] X fun e w' => ∃ A9 c9, e = .returned (.slice A9 (natL (n' * d - n * d')).length c9) ∧ RdU w' w'.heap.size A9 (natL (n' * d - n * d')) ∧ RdU w' w'.heap.size A8 LD ∧ T w' ∧ Below X.heap.size X w') := Lib.hid fun X A5 A6 A8 c5 c6 hle hX g5 g6 g8 => by
    rw [hLA] at g5 la ⊢
    rw [hLB] at g6 lb ⊢
    refine (natMinus _ _ A6 A5 c6 c5 X g6 g5 (by omega) hle).mono ?_
    rintro e w' ⟨A9, c9, rfl, r9, b9⟩
    exact ⟨A9, c9, rfl, r9, (g8.below b9 (Nat.le_refl _)).more b9.size, HTB.out _ _ hX b9, b9⟩
  have HCm : Hid (∀ X A5 A6 c5 c6, RdU X X.heap.size A5 LA → RdU X X.heap.size A6 LB → Calls Tryz.prog 132 #[.slice A5 LA.length c5, .slice A6 LB.length c6] X (CmpRet (n * d') (n' * d) X)) := Lib.hid fun X A5 A6 c5 c6 g5 g6 => by
    rw [hLA] at g5 la ⊢
    rw [hLB] at g6 lb ⊢
    exact compare_any _ _ A5 A6 c5 c6 X.heap.size X.heap.size X g5 g6 (by omega) (by omega)
  have HLw : Hid (∀ X S v A9 A8 c9 c8, qv S v (d * d') = q → (natL v).length ≤ 1000000 → T X → RdU X X.heap.size A9 (natL v) → RdU X X.heap.size A8 LD → Calls Tryz.prog 125 #[.agg #[.bool S, .slice A9 (natL v).length c9, .slice A8 LD.length c8]] X fun e w' => RV q X e w' ∧ T w') := Lib.hid fun X S v A9 A8 c9 c8 hqv hv hX g9 g8 => by
    rw [hLD] at g8 ld ⊢
    have e := lowestG S v (d * d') A9 A8 c9 c8 X g9 g8 hv (by omega) (Nat.mul_pos hd hd')
    rw [hqv] at e
    refine e.mono fun e w' h => ⟨h, ?_⟩
    obtain ⟨_, _, _, _, _, _, _, hb⟩ := h
    exact HTB.out _ _ hX hb
  have HV1 : Hid ((natL (n * d' + n' * d)).length ≤ 1000000 ∧ (natL (n * d' - n' * d)).length ≤ 1000000 ∧ (natL (n' * d - n * d')).length ≤ 1000000) := Lib.hid (by
    rw [hLA] at la
    rw [hLB] at lb
    exact ⟨Nat.le_trans (natL_add_len _ _) (by omega), Nat.le_trans (natL_mono (Nat.sub_le _ _)) (by omega), Nat.le_trans (natL_mono (Nat.sub_le _ _)) (by omega)⟩)
  have HE1 : Hid (s = s' → qv s (n * d' + n' * d) (d * d') = q) := Lib.hid fun h => by
    subst h
    rw [hq]; exact qv_add_same s (by omega) (by omega)
  have HE2 : Hid (s ≠ s' → n' * d ≤ n * d' → qv s (n * d' - n' * d) (d * d') = q) := Lib.hid fun h hle => by
    have h2 : s' = !s := by cases s <;> cases s' <;> simp_all
    rw [hq, h2]; exact qv_add_diff s (by omega) (by omega) hle
  have HE3 : Hid (s ≠ s' → n * d' ≤ n' * d → qv s' (n' * d - n * d') (d * d') = q) := Lib.hid fun h hle => by
    have h2 : s = !s' := by cases s <;> cases s' <;> simp_all
    have h3 := qv_add_diff s' (n := n') (d := d') (n' := n) (d' := d) (by omega) (by omega) hle
    rw [hq, h2, Nat.mul_comm d d', h3, Rat.add_comm]
  rw [← hq]
  rw [← hLA] at HN
  rw [← hLB] at HB
  rw [← hLD] at HD
  clear hLA hLB hLD m1 m2 m3 l1 l2 l3 l4 hq
  obtain ⟨va, hva⟩ : ∃ va, va = n * d' + n' * d := ⟨_, rfl⟩
  obtain ⟨vb, hvb⟩ : ∃ vb, vb = n * d' - n' * d := ⟨_, rfl⟩
  obtain ⟨vc, hvc⟩ : ∃ vc, vc = n' * d - n * d' := ⟨_, rfl⟩
  rw [← hva] at HPl HV1 HE1
  rw [← hvb] at HMi HV1 HE2
  rw [← hvc] at HMj HV1 HE3
  clear hva hvb hvc
  generalize n * d' = x at *
  generalize n' * d = y at *
  generalize (natL n).length = k1 at *
  generalize (natL d).length = k2 at *
  generalize (natL n').length = k3 at *
  generalize (natL d').length = k4 at *
  go_enter Tryz.func106, Tryz.ntmps106
  go_wp2_with fail
  have hq0 := HT.out _ HQ.out
  have a0 := (hq0).1.c0; have a1 := (hq0).1.c1; have a2 := (hq0).1.c2; have b0 := (hq0).2.1.c0; have b1 := (hq0).2.1.c1; have b2 := (hq0).2.1.c2; have p0 := (hq0).2.2.1.c0; have p1 := (hq0).2.2.1.c1; have p2 := (hq0).2.2.1.c2; have pf0 := (hq0).2.2.1.f0; have pf1 := (hq0).2.2.1.f1; have pf2 := (hq0).2.2.1.f2
  clear hq0
  go_cut [5, 6] from 8 to 17 (fun s5 s6 wx => PCut1 T LA LB s5 s6 wx)
  case first =>
    go_region_held3 (fun w' => w'.cell? ⟨w.heap.size, 0, none⟩ = some (.bool s) ∧ w'.cell? ⟨w.heap.size, 1, none⟩ = some (.slice A1 k1 c1) ∧ w'.cell? ⟨w.heap.size, 2, none⟩ = some (.slice A2 k2 c2) ∧ w'.cell? ⟨w.heap.size + 1, 0, none⟩ = some (.bool s') ∧ w'.cell? ⟨w.heap.size + 1, 1, none⟩ = some (.slice A3 k3 c3) ∧ w'.cell? ⟨w.heap.size + 1, 2, none⟩ = some (.slice A4 k4 c4))
      (first | exact ⟨a0, a1, a2, b0, b1, b2⟩ | go_keep)
      (first
        | (go_at_call 130; refine (HB.out _ _ _ HQ1.out Hr1.out).mono ?_; rintro e w2 ⟨A6, c6, rfl, hr2, hr1b, hq2⟩; have Hr1b := Lib.hid hr1b; have Hr2 := Lib.hid hr2; have HQ2 := Lib.hid hq2; have hq2 := HT.out _ hq2; clear hr2 hr1b a0 a1 a2 b0 b1 b2 p0 p1 p2 pf0 pf1 pf2; have a0 := (hq2).1.c0; have a1 := (hq2).1.c1; have a2 := (hq2).1.c2; have b0 := (hq2).2.1.c0; have b1 := (hq2).2.1.c1; have b2 := (hq2).2.1.c2; have p0 := (hq2).2.2.1.c0; have p1 := (hq2).2.2.1.c1; have p2 := (hq2).2.2.1.c2; have pf0 := (hq2).2.2.1.f0; have pf1 := (hq2).2.2.1.f1; have pf2 := (hq2).2.2.1.f2; clear hq2)
        | (go_at_call 130; refine (HN.out _ HQ.out).mono ?_; rintro e w1 ⟨A5, c5, rfl, hr1, hq1⟩; have Hr1 := Lib.hid hr1; have HQ1 := Lib.hid hq1; have hq1 := HT.out _ hq1; clear hr1 a0 a1 a2 b0 b1 b2 p0 p1 p2 pf0 pf1 pf2; have a0 := (hq1).1.c0; have a1 := (hq1).1.c1; have a2 := (hq1).1.c2; have b0 := (hq1).2.1.c0; have b1 := (hq1).2.1.c1; have b2 := (hq1).2.1.c2; have p0 := (hq1).2.2.1.c0; have p1 := (hq1).2.2.1.c1; have p2 := (hq1).2.2.1.c2; have pf0 := (hq1).2.2.1.f0; have pf1 := (hq1).2.2.1.f1; have pf2 := (hq1).2.2.1.f2; clear hq1))
    all_goals
      have HC : Hid (PCut1 T LA LB (.slice A5 LA.length c5) (.slice A6 LB.length c6) w2) := Lib.hid ⟨c5, c6, A5, A6, rfl, rfl, HQ2.out, Hr1b.out, Hr2.out⟩
      go_wp2_with fail
      go_meet
      exact HC.out
  case rest =>
    obtain ⟨c5, c6, A5, A6, rfl, rfl, hTc, hr5, hr6⟩ := hcut
    clear a0 a1 a2 b0 b1 b2 p0 p1 p2 pf0 pf1 pf2
    have HTc := Lib.hid hTc
    have HR5 := Lib.hid hr5
    have HR6 := Lib.hid hr6
    have hq0 := HT.out _ hTc
    have hsz := hq0.2.2.2.2
    have a0 := (hq0).1.c0; have a1 := (hq0).1.c1; have a2 := (hq0).1.c2; have b0 := (hq0).2.1.c0; have b1 := (hq0).2.1.c1; have b2 := (hq0).2.1.c2; have p0 := (hq0).2.2.1.c0; have p1 := (hq0).2.2.1.c1; have p2 := (hq0).2.2.1.c2; have pf0 := (hq0).2.2.1.f0; have pf1 := (hq0).2.2.1.f1; have pf2 := (hq0).2.2.1.f2
    clear hq0 hTc hr5 hr6 HN HB
    have HTD : Hid (∀ Y, Below wc.heap.size wc Y → T Y ∧ RdU Y Y.heap.size A5 LA ∧ RdU Y Y.heap.size A6 LB) := Lib.hid fun Y hb => ⟨HTB.out _ _ HTc.out hb, (HR5.out.below hb (Nat.le_refl _)).more hb.size, (HR6.out.below hb (Nat.le_refl _)).more hb.size⟩
    go_wp2
    go_cut [7] from 18 to 25 (fun s7 wx => PCut T w s LA LB LD (.slice A5 LA.length c5) (.slice A6 LB.length c6) s7 wx)
    case first =>
      go_region_held3 (fun w' => w'.cell? ⟨w.heap.size, 0, none⟩ = some (.bool s) ∧ w'.cell? ⟨w.heap.size, 2, none⟩ = some (.slice A2 k2 c2) ∧ w'.cell? ⟨w.heap.size + 1, 2, none⟩ = some (.slice A4 k4 c4))
        (first | exact ⟨a0, a2, b2⟩ | go_keep | exact ⟨(by rw [frzc hnp, frzc hnp, frzc hnp]; exact a0), (by rw [frzc hnp, frzc hnp, frzc hnp]; exact a2), (by rw [frzc hnp1, frzc hnp1, frzc hnp1]; exact b2)⟩)
        (first
          | (go_at_call 130; refine (HD.out wc.drew _ _ _ _ (HTD.out _ ((Below.refl _ _).drew)).1 (HTD.out _ ((Below.refl _ _).drew)).2.1 (HTD.out _ ((Below.refl _ _).drew)).2.2).mono ?_; rintro e w3 ⟨A8, c8, rfl, g8, g5, g6, gT, gb⟩; have G8 := Lib.hid g8; have G5 := Lib.hid g5; have G6 := Lib.hid g6; have GT := Lib.hid gT; have hq3 := HT.out _ gT; clear a0 a1 a2 b0 b1 b2 p0 p1 p2 pf0 pf1 pf2; have a0 := (hq3).1.c0; have a1 := (hq3).1.c1; have a2 := (hq3).1.c2; have b0 := (hq3).2.1.c0; have b1 := (hq3).2.1.c1; have b2 := (hq3).2.1.c2; have p0 := (hq3).2.2.1.c0; have p1 := (hq3).2.2.1.c1; have p2 := (hq3).2.2.1.c2; have pf0 := (hq3).2.2.1.f0; have pf1 := (hq3).2.2.1.f1; have pf2 := (hq3).2.2.1.f2; clear hq3 g8 g5 g6 gT gb)
          | (go_at_call 130; refine (HD.out ((wc.alloc (.cells #[.bool false, .slice none 0 0, .slice none 0 0] 114)).drew) _ _ _ _ (HTD.out _ (((Below.refl _ _).alloc (Nat.le_refl _) _).drew)).1 (HTD.out _ (((Below.refl _ _).alloc (Nat.le_refl _) _).drew)).2.1 (HTD.out _ (((Below.refl _ _).alloc (Nat.le_refl _) _).drew)).2.2).mono ?_; rintro e w3 ⟨A8, c8, rfl, g8, g5, g6, gT, gb⟩; have RB := (Inv.Rat3.newd wc (.bool false) (.slice none 0 0) (.slice none 0 0) 114).below gb (by simp); have hnp : wc.heap.size ≠ w.heap.size := (by omega); have hnp1 : wc.heap.size ≠ w.heap.size + 1 := (by omega); have G8 := Lib.hid g8; have G5 := Lib.hid g5; have G6 := Lib.hid g6; have GT := Lib.hid gT; have HRB := Lib.hid RB; have r0 := RB.c0; have r1 := RB.c1; have r2 := RB.c2; have rf0 := RB.f0; have rf1 := RB.f1; have rf2 := RB.f2; have hlt3 : wc.heap.size < w3.heap.size := (by have := gb.size; simp at this; omega); have hq3 := HT.out _ gT; clear RB a0 a1 a2 b0 b1 b2 p0 p1 p2 pf0 pf1 pf2; have a0 := (hq3).1.c0; have a1 := (hq3).1.c1; have a2 := (hq3).1.c2; have b0 := (hq3).2.1.c0; have b1 := (hq3).2.1.c1; have b2 := (hq3).2.1.c2; have p0 := (hq3).2.2.1.c0; have p1 := (hq3).2.2.1.c1; have p2 := (hq3).2.2.1.c2; have pf0 := (hq3).2.2.1.f0; have pf1 := (hq3).2.2.1.f1; have pf2 := (hq3).2.2.1.f2; clear hq3 g8 g5 g6 gT gb))
      all_goals
        first
          | (have HC : Hid (PCut T w s LA LB LD (.slice A5 LA.length c5) (.slice A6 LB.length c6) (.pointer (some ⟨wc.heap.size, 0, none⟩)) (((w3.setCell ⟨wc.heap.size, 0, none⟩ (.bool s)).setCell ⟨wc.heap.size, 1, none⟩ (.slice none 0 0)).setCell ⟨wc.heap.size, 2, none⟩ (.slice A8 LD.length c8))) := Lib.hid (by
              have m6 := HRB.out.set0 (.bool s)
              have m7 := m6.set1 (.slice none 0 0)
              have m8 := m7.set2 (.slice A8 LD.length c8)
              have nn : ∀ {A : Option Addr} {L : List Nat}, RdU w3 w3.heap.size A L → RdU (((w3.setCell ⟨wc.heap.size, 0, none⟩ (.bool s)).setCell ⟨wc.heap.size, 1, none⟩ (.slice none 0 0)).setCell ⟨wc.heap.size, 2, none⟩ (.slice A8 LD.length c8)) w3.heap.size A L := fun h => ((h.non HRB.out.c0 (not_bool _) _).non m6.c1 (not_slice _ _ _) _).non m7.c2 (not_slice _ _ _) _
              refine ⟨wc.heap.size, c5, c6, c8, A5, A6, A8, rfl, rfl, rfl, HTS.out _ _ _ _ (HTS.out _ _ _ _ (HTS.out _ _ _ _ GT.out hsz) hsz) hsz, hsz, by simp only [World.size_setCell]; exact hlt3, m8, ?_, ?_, ?_⟩
              all_goals simp only [World.size_setCell]
              · exact nn G5.out
              · exact nn G6.out
              · exact nn G8.out)
             go_wp2_with fail
             go_meet
             exact HC.out)
          | (have HC : Hid (PCut T w s LA LB LD (.slice A5 LA.length c5) (.slice A6 LB.length c6) (.pointer (some ⟨w3.heap.size, 0, none⟩)) (w3.alloc (.cells #[.bool s, .slice none 0 0, .slice A8 LD.length c8] 114))) := Lib.hid (by
              have bA : Below w3.heap.size w3 (w3.alloc (.cells #[.bool s, .slice none 0 0, .slice A8 LD.length c8] 114)) := (Below.refl _ _).alloc (Nat.le_refl _) _
              have hz3 := (HT.out _ GT.out).2.2.2.2
              exact ⟨w3.heap.size, c5, c6, c8, A5, A6, A8, rfl, rfl, rfl, HTB.out _ _ GT.out bA, hz3, by simp, Rat3.new w3 _ _ _ _, (G5.out.below bA (Nat.le_refl _)).more bA.size, (G6.out.below bA (Nat.le_refl _)).more bA.size, (G8.out.below bA (Nat.le_refl _)).more bA.size⟩)
             go_wp2_with fail
             go_meet
             exact HC.out)
    case rest =>
      obtain ⟨p, c5', c6', c8, A5', A6', A8, e5, e6, rfl, hTp, hp1, hp2, hR, g5, g6, g8⟩ := hcut
      cases e5
      cases e6
      clear a0 a1 a2 b0 b1 b2 p0 p1 p2 pf0 pf1 pf2 HTD HR5 HR6 HTc hsz HD
      have HTp := Lib.hid hTp
      have HRx := Lib.hid hR
      have G5 := Lib.hid g5
      have G6 := Lib.hid g6
      have G8 := Lib.hid g8
      have hq0 := HT.out _ hTp
      have a0 := (hq0).1.c0; have a1 := (hq0).1.c1; have a2 := (hq0).1.c2; have b0 := (hq0).2.1.c0; have b1 := (hq0).2.1.c1; have b2 := (hq0).2.1.c2; have p0 := (hq0).2.2.1.c0; have p1 := (hq0).2.2.1.c1; have p2 := (hq0).2.2.1.c2; have pf0 := (hq0).2.2.1.f0; have pf1 := (hq0).2.2.1.f1; have pf2 := (hq0).2.2.1.f2
      have r0 := hR.c0
      have r1 := hR.c1
      have r2 := hR.c2
      have rf0 := hR.f0
      have rf1 := hR.f1
      have rf2 := hR.f2
      clear hq0 hTp hR g5 g6 g8
      by_cases hss : s = s'
      · have hsb : (s == s') = true := by simp [hss]
        have HQ1 := Lib.hid (HE1.out hss)
        have HC := Lib.hid (HPl.out _ A5 A6 A8 c5 c6 HTp.out G5.out G6.out G8.out)
        clear hss HE1 HE2 HE3 HMi HMj HCm
        go_wp2_with fail
        refine HC.out.mono ?_
        rintro e w9 ⟨A9, c9, rfl, k9, k8, t9, bb9⟩
        clear a0 a1 a2 b0 b1 b2 p0 p1 p2 pf0 pf1 pf2 r0 r1 r2 rf0 rf1 rf2
        have R9 := HRx.out.below bb9 hp2
        have hp9 : p < w9.heap.size := Nat.lt_of_lt_of_le hp2 bb9.size
        obtain ⟨W9, hW9⟩ : ∃ W9, W9 = w9.setCell ⟨p, 1, none⟩ (.slice A9 (natL va).length c9) := ⟨_, rfl⟩
        have R10 := R9.set1 (.slice A9 (natL va).length c9)
        have T10 := HTS.out _ _ 1 (.slice A9 (natL va).length c9) t9 hp1
        have k9' := k9.non R9.c1 (not_slice _ _ _) (.slice A9 (natL va).length c9)
        have k8' := k8.non R9.c1 (not_slice _ _ _) (.slice A9 (natL va).length c9)
        have z9 : (w9.setCell ⟨p, 1, none⟩ (.slice A9 (natL va).length c9)).heap.size = w9.heap.size := by simp
        rw [← z9] at k9' k8'
        have q9 := HT.out _ t9
        have a0 := (q9).1.c0; have a1 := (q9).1.c1; have a2 := (q9).1.c2; have b0 := (q9).2.1.c0; have b1 := (q9).2.1.c1; have b2 := (q9).2.1.c2; have p0 := (q9).2.2.1.c0; have p1 := (q9).2.2.1.c1; have p2 := (q9).2.2.1.c2; have pf0 := (q9).2.2.1.f0; have pf1 := (q9).2.2.1.f1; have pf2 := (q9).2.2.1.f2
        have r0 := R9.c0
        have r1 := R9.c1
        have r2 := R9.c2
        have rf0 := R9.f0
        have rf1 := R9.f1
        have rf2 := R9.f2
        have x0 := R10.c0
        have x1 := R10.c1
        have x2 := R10.c2
        have HL2 := Lib.hid (HLw.out _ s va A9 A8 c9 c8 HQ1.out HV1.out.1 T10 k9' k8')
        clear q9 R9 k9 k8 z9 k9' k8' R10
        have HT10 := Lib.hid T10
        clear T10 t9 bb9 hW9
        go_wp2_with fail
        refine HL2.out.mono ?_
        rintro e w10 ⟨⟨A10, c10, A11, c11, rfl, hr10, hr11, hb10⟩, hT10⟩
        have hq10 := HT.out _ hT10
        obtain ⟨m6, m7, m8, HR⟩ := rt_store (c1 := c10) (c2 := c11) (decide (q < 0)) hq10.2.2.1 hr10 hr11 hq10.2.2.2.1 (by omega)
        have HRH := Lib.hid HR
        have m80 := m8.c0
        have m81 := m8.c1
        have m82 := m8.c2
        clear a0 a1 a2 b0 b1 b2 p0 p1 p2 pf0 pf1 pf2 r0 r1 r2 rf0 rf1 rf2 x0 x1 x2
        have a0 := (hq10).1.c0; have a1 := (hq10).1.c1; have a2 := (hq10).1.c2; have b0 := (hq10).2.1.c0; have b1 := (hq10).2.1.c1; have b2 := (hq10).2.1.c2; have p0 := (hq10).2.2.1.c0; have p1 := (hq10).2.2.1.c1; have p2 := (hq10).2.2.1.c2; have pf0 := (hq10).2.2.1.f0; have pf1 := (hq10).2.2.1.f1; have pf2 := (hq10).2.2.1.f2
        clear HR m6 m7 m8 hr10 hr11 hb10 hT10 hq10
        go_wp2
        refine bodyPost_ret (v := .agg #[.bool (decide (q < 0)), .slice A10 (natL q.num.natAbs).length c10, .slice A11 (natL q.den).length c11]) (by simp [results, Tryz.results106, go_sem, m80, m81, m82]) rfl HRH.out
      · have hsb : (s == s') = false := by simp [hss]
        have HC := Lib.hid (HCm.out _ A5 A6 c5 c6 G5.out G6.out)
        clear HPl HE1 HCm
        go_wp2_with fail
        refine HC.out.mono ?_
        rintro e w8 ⟨r, rfl, hcr, hD⟩
        have HTD : Hid (T w8 ∧ RdU w8 w8.heap.size A5 LA ∧ RdU w8 w8.heap.size A6 LB ∧ RdU w8 w8.heap.size A8 LD ∧ Rat3 w8 p (.bool s) (.slice none 0 0) (.slice A8 LD.length c8) ∧ p < w8.heap.size) := Lib.hid (by
          obtain ⟨mD, rfl⟩ := hD
          have bD := below_drewN (Below.refl wc.heap.size wc) mD
          exact ⟨HTB.out _ _ HTp.out bD, (G5.out.below bD (Nat.le_refl _)).more bD.size, (G6.out.below bD (Nat.le_refl _)).more bD.size, (G8.out.below bD (Nat.le_refl _)).more bD.size, HRx.out.below bD hp2, Nat.lt_of_lt_of_le hp2 bD.size⟩)
        clear hD HC a0 a1 a2 b0 b1 b2 p0 p1 p2 pf0 pf1 pf2 r0 r1 r2 rf0 rf1 rf2 HRx hp2 HTp G5 G6 G8
        have HRx := Lib.hid HTD.out.2.2.2.2.1
        have hp2 := HTD.out.2.2.2.2.2
        have hq0 := HT.out _ HTD.out.1
        have a0 := (hq0).1.c0; have a1 := (hq0).1.c1; have a2 := (hq0).1.c2; have b0 := (hq0).2.1.c0; have b1 := (hq0).2.1.c1; have b2 := (hq0).2.1.c2; have p0 := (hq0).2.2.1.c0; have p1 := (hq0).2.2.1.c1; have p2 := (hq0).2.2.1.c2; have pf0 := (hq0).2.2.1.f0; have pf1 := (hq0).2.2.1.f1; have pf2 := (hq0).2.2.1.f2
        have r0 := HRx.out.c0
        have r1 := HRx.out.c1
        have r2 := HRx.out.c2
        have rf0 := HRx.out.f0
        have rf1 := HRx.out.f1
        have rf2 := HRx.out.f2
        clear hq0
        by_cases hle : y ≤ x
        · have hr0 : 0 ≤ r := by
            rcases Nat.lt_or_ge y x with h | h
            · have := hcr.2.2 h; omega
            · have := hcr.2.1 (by omega); omega
          have HQ1 := Lib.hid (HE2.out hss hle)
          have HC := Lib.hid (HMi.out _ A5 A6 A8 c5 c6 hle HTD.out.1 HTD.out.2.1 HTD.out.2.2.1 HTD.out.2.2.2.1)
          clear hss HE2 HE3 HMi HMj hcr hle
          go_wp2_with fail
          refine HC.out.mono ?_
          rintro e w9 ⟨A9, c9, rfl, k9, k8, t9, bb9⟩
          clear a0 a1 a2 b0 b1 b2 p0 p1 p2 pf0 pf1 pf2 r0 r1 r2 rf0 rf1 rf2
          have R9 := HRx.out.below bb9 hp2
          have hp9 : p < w9.heap.size := Nat.lt_of_lt_of_le hp2 bb9.size
          obtain ⟨W9, hW9⟩ : ∃ W9, W9 = w9.setCell ⟨p, 1, none⟩ (.slice A9 (natL vb).length c9) := ⟨_, rfl⟩
          have R10 := R9.set1 (.slice A9 (natL vb).length c9)
          have T10 := HTS.out _ _ 1 (.slice A9 (natL vb).length c9) t9 hp1
          have k9' := k9.non R9.c1 (not_slice _ _ _) (.slice A9 (natL vb).length c9)
          have k8' := k8.non R9.c1 (not_slice _ _ _) (.slice A9 (natL vb).length c9)
          have z9 : (w9.setCell ⟨p, 1, none⟩ (.slice A9 (natL vb).length c9)).heap.size = w9.heap.size := by simp
          rw [← z9] at k9' k8'
          have q9 := HT.out _ t9
          have a0 := (q9).1.c0; have a1 := (q9).1.c1; have a2 := (q9).1.c2; have b0 := (q9).2.1.c0; have b1 := (q9).2.1.c1; have b2 := (q9).2.1.c2; have p0 := (q9).2.2.1.c0; have p1 := (q9).2.2.1.c1; have p2 := (q9).2.2.1.c2; have pf0 := (q9).2.2.1.f0; have pf1 := (q9).2.2.1.f1; have pf2 := (q9).2.2.1.f2
          have r0 := R9.c0
          have r1 := R9.c1
          have r2 := R9.c2
          have rf0 := R9.f0
          have rf1 := R9.f1
          have rf2 := R9.f2
          have x0 := R10.c0
          have x1 := R10.c1
          have x2 := R10.c2
          have HL2 := Lib.hid (HLw.out _ s vb A9 A8 c9 c8 HQ1.out HV1.out.2.1 T10 k9' k8')
          clear q9 R9 k9 k8 z9 k9' k8' R10
          have HT10 := Lib.hid T10
          clear T10 t9 bb9 hW9
          go_wp2_with fail
          refine HL2.out.mono ?_
          rintro e w10 ⟨⟨A10, c10, A11, c11, rfl, hr10, hr11, hb10⟩, hT10⟩
          have hq10 := HT.out _ hT10
          obtain ⟨m6, m7, m8, HR⟩ := rt_store (c1 := c10) (c2 := c11) (decide (q < 0)) hq10.2.2.1 hr10 hr11 hq10.2.2.2.1 (by omega)
          have HRH := Lib.hid HR
          have m80 := m8.c0
          have m81 := m8.c1
          have m82 := m8.c2
          clear a0 a1 a2 b0 b1 b2 p0 p1 p2 pf0 pf1 pf2 r0 r1 r2 rf0 rf1 rf2 x0 x1 x2
          have a0 := (hq10).1.c0; have a1 := (hq10).1.c1; have a2 := (hq10).1.c2; have b0 := (hq10).2.1.c0; have b1 := (hq10).2.1.c1; have b2 := (hq10).2.1.c2; have p0 := (hq10).2.2.1.c0; have p1 := (hq10).2.2.1.c1; have p2 := (hq10).2.2.1.c2; have pf0 := (hq10).2.2.1.f0; have pf1 := (hq10).2.2.1.f1; have pf2 := (hq10).2.2.1.f2
          clear HR m6 m7 m8 hr10 hr11 hb10 hT10 hq10
          go_wp2
          refine bodyPost_ret (v := .agg #[.bool (decide (q < 0)), .slice A10 (natL q.num.natAbs).length c10, .slice A11 (natL q.den).length c11]) (by simp [results, Tryz.results106, go_sem, m80, m81, m82]) rfl HRH.out
        · have hr0 : r < 0 := hcr.1 (by omega)
          have HQ1 := Lib.hid (HE3.out hss (by omega))
          have bW : Below w8.heap.size w8 w8.drew := (Below.refl _ _).drew
          have HC := Lib.hid (HMj.out w8.drew A5 A6 A8 c5 c6 (by omega) (HTB.out _ _ HTD.out.1 bW) ((HTD.out.2.1.below bW (Nat.le_refl _)).more bW.size) ((HTD.out.2.2.1.below bW (Nat.le_refl _)).more bW.size) ((HTD.out.2.2.2.1.below bW (Nat.le_refl _)).more bW.size))
          have HRd := Lib.hid (HRx.out.below bW hp2)
          have hpd : p < w8.drew.heap.size := Nat.lt_of_lt_of_le hp2 bW.size
          have hnp1 : p ≠ w.heap.size + 1 := by omega
          clear hss HE2 HE3 HMi HMj hcr hle bW
          go_wp2
          go_region_held3 (fun w' => w'.cell? ⟨w.heap.size + 1, 0, none⟩ = some (.bool s'))
            (first | exact b0 | go_keep | (rw [frzc hnp1]; exact b0) | (rw [frzc hnp1, frzc hnp1]; exact b0))
            (first
              | (go_at_call 133; refine HC.out.mono ?_; rintro e w9 ⟨A9, c9, rfl, k9, k8, t9, bb9⟩; have K9 := Lib.hid k9; have K8 := Lib.hid k8; have T9 := Lib.hid t9; have R9 := Lib.hid (HRd.out.below bb9 hpd); have hq9 := HT.out _ t9; have z9 := bb9.size; have m1 := R9.out.set1 (.slice A9 (natL vc).length c9); clear a0 a1 a2 b0 b1 b2 p0 p1 p2 pf0 pf1 pf2 r0 r1 r2 rf0 rf1 rf2 k9 k8 t9; have a0 := (hq9).1.c0; have a1 := (hq9).1.c1; have a2 := (hq9).1.c2; have b0 := (hq9).2.1.c0; have b1 := (hq9).2.1.c1; have b2 := (hq9).2.1.c2; have p0 := (hq9).2.2.1.c0; have p1 := (hq9).2.2.1.c1; have p2 := (hq9).2.2.1.c2; have pf0 := (hq9).2.2.1.f0; have pf1 := (hq9).2.2.1.f1; have pf2 := (hq9).2.2.1.f2; have r0 := R9.out.c0; have r1 := R9.out.c1; have r2 := R9.out.c2; have rf0 := R9.out.f0; have rf1 := R9.out.f1; have rf2 := R9.out.f2; have n0 := m1.c0; have nf0 := m1.f0; clear hq9 bb9 m1))
          all_goals
            have R10 := (R9.out.set1 (.slice A9 (natL vc).length c9)).set0 (.bool s')
            have R9b := R9.out.set1 (.slice A9 (natL vc).length c9)
            have T10 := HTS.out _ _ 0 (.bool s') (HTS.out _ _ 1 (.slice A9 (natL vc).length c9) T9.out hp1) hp1
            have k9' := (K9.out.non R9.out.c1 (not_slice _ _ _) (.slice A9 (natL vc).length c9)).non R9b.c0 (not_bool _) (.bool s')
            have k8' := (K8.out.non R9.out.c1 (not_slice _ _ _) (.slice A9 (natL vc).length c9)).non R9b.c0 (not_bool _) (.bool s')
            have z10 : ((w9.setCell ⟨p, 1, none⟩ (.slice A9 (natL vc).length c9)).setCell ⟨p, 0, none⟩ (.bool s')).heap.size = w9.heap.size := by simp
            rw [← z10] at k9' k8'
            have x0 := R10.c0
            have x1 := R10.c1
            have x2 := R10.c2
            have HL2 := Lib.hid (HLw.out _ s' vc A9 A8 c9 c8 HQ1.out HV1.out.2.2 T10 k9' k8')
            clear R10 R9b T10 k9' k8' z10
            go_wp2_with fail
            refine HL2.out.mono ?_
            rintro e w10 ⟨⟨A10, c10, A11, c11, rfl, hr10, hr11, hb10⟩, hT10⟩
            have hq10 := HT.out _ hT10
            obtain ⟨m6, m7, m8, HR⟩ := rt_store (c1 := c10) (c2 := c11) (decide (q < 0)) hq10.2.2.1 hr10 hr11 hq10.2.2.2.1 (by omega)
            have HRH := Lib.hid HR
            have m80 := m8.c0
            have m81 := m8.c1
            have m82 := m8.c2
            clear a0 a1 a2 b0 b1 b2 p0 p1 p2 pf0 pf1 pf2 r0 r1 r2 rf0 rf1 rf2 x0 x1 x2
            have a0 := (hq10).1.c0; have a1 := (hq10).1.c1; have a2 := (hq10).1.c2; have b0 := (hq10).2.1.c0; have b1 := (hq10).2.1.c1; have b2 := (hq10).2.1.c2; have p0 := (hq10).2.2.1.c0; have p1 := (hq10).2.2.1.c1; have p2 := (hq10).2.2.1.c2; have pf0 := (hq10).2.2.1.f0; have pf1 := (hq10).2.2.1.f1; have pf2 := (hq10).2.2.1.f2
            clear HR m6 m7 m8 hr10 hr11 hb10 hT10 hq10
            go_wp2
            refine bodyPost_ret (v := .agg #[.bool (decide (q < 0)), .slice A10 (natL q.num.natAbs).length c10, .slice A11 (natL q.den).length c11]) (by simp [results, Tryz.results106, go_sem, m80, m81, m82]) rfl HRH.out
end Go.Proofs.YtcimmgpmkfbpdaaGreatDoor.Ratio
namespace Go.Proofs.YtcimmgpmkfbpdaaGreatDoor.Ratio
open Go.RowKit Go.Proofs.YtcimmgpmkfbpdaaGreatDoor Go.Proofs.YtcimmgpmkfbpdaaGreatDoor.Base Go.Proofs.YtcimmgpmkfbpdaaGreatDoor.Mem Go.Proofs.YtcimmgpmkfbpdaaGreatDoor.NatM Go.Proofs.YtcimmgpmkfbpdaaGreatDoor.Nat32 Go.Proofs.YtcimmgpmkfbpdaaGreatDoor.RatM
open Go.Proofs.YtcimmgpmkfbpdaaGreatDoor.Inv (natOf natOf_eq len_pos Rat3 not_slice not_bool frz)
set_option linter.unusedVariables false
def IsRt (w : World) (q : Rat) (v : Value) : Prop := ∃ A c A' c', v = .agg #[.bool (decide (q < 0)), .slice A (natL q.num.natAbs).length c, .slice A' (natL q.den).length c'] ∧ RdU w w.heap.size A (natL q.num.natAbs) ∧ RdU w w.heap.size A' (natL q.den)
theorem IsRt.below {w w' : World} {q : Rat} {v : Value} (h : IsRt w q v) (hb : Below w.heap.size w w') : IsRt w' q v := by
 obtain ⟨A, c, A', c', e, h1, h2⟩ := h
 exact ⟨A, c, A', c', e, (h1.below hb (Nat.le_refl _)).more hb.size, (h2.below hb (Nat.le_refl _)).more hb.size⟩
theorem RV.is {q : Rat} {w w' : World} {e : Ending} (h : RV q w e w') : ∃ v, e = .returned v ∧ IsRt w' q v ∧ Below w.heap.size w w' := by
 obtain ⟨A, c, A', c', e1, h1, h2, h3⟩ := h
 exact ⟨_, e1, ⟨A, c, A', c', rfl, h1, h2⟩, h3⟩
theorem IsRt.ret {q : Rat} {w w' : World} {v : Value} (h : IsRt w' q v) (hb : Below w.heap.size w w') : RV q w (.returned v) w' := by
 obtain ⟨A, c, A', c', rfl, h1, h2⟩ := h
 exact ⟨A, c, A', c', rfl, h1, h2, hb⟩
theorem szR_parts {q : Rat} {m : Nat} (h : szR q ≤ m) : (natL q.num.natAbs).length ≤ m ∧ (natL q.den).length ≤ m := by
 unfold szR at h; omega
theorem ratPlus {q r : Rat} {v u : Value} (w : World) (hv : IsRt w q v) (hu : IsRt w r u) (hq : szR q ≤ 200000) (hr : szR r ≤ 200000) : Calls Tryz.prog 106 #[v, u] w (RV (q + r) w) := by
 obtain ⟨A1, c1, A2, c2, rfl, h1, h2⟩ := hv
 obtain ⟨A3, c3, A4, c4, rfl, h3, h4⟩ := hu
 have := rtPlus (decide (q < 0)) (decide (r < 0)) q.num.natAbs q.den r.num.natAbs r.den A1 A2 A3 A4 c1 c2 c3 c4 w h1 h2 h3 h4 (szR_parts hq).1 (szR_parts hq).2 (szR_parts hr).1 (szR_parts hr).2 q.den_pos r.den_pos
 rw [qv_self, qv_self] at this
 exact this
theorem rtOpp (s : Bool) (k1 k2 c1 c2 : Nat) (A1 A2 : Option Addr) (w : World) : Calls Tryz.prog 134 #[.agg #[.bool s, .slice A1 k1 c1, .slice A2 k2 c2]] w fun e w' => e = .returned (.agg #[.bool (!s && decide (0 < k1)), .slice A1 k1 c1, .slice A2 k2 c2]) ∧ Below w.heap.size w w' := by
 rcases Nat.eq_zero_or_pos k1 with rfl | hk
 ·cases s with
  | false =>
   go_enter Tryz.func134, Tryz.ntmps134
   go_wp2
   refine bodyPost_ret (v := .agg #[.bool false, .slice A1 0 c1, .slice A2 k2 c2]) (by simp [results, Tryz.results134, go_sem]) rfl ⟨(by simp [*]), ?_⟩
   exact ((Below.refl _ _).alloc (Nat.le_refl _) _).alloc (by simp) _
  | true =>
   go_enter Tryz.func134, Tryz.ntmps134
   go_wp2
   refine bodyPost_ret (v := .agg #[.bool false, .slice A1 0 c1, .slice A2 k2 c2]) (by simp [results, Tryz.results134, go_sem]) rfl ⟨(by simp [*]), ?_⟩
   exact ((Below.refl _ _).alloc (Nat.le_refl _) _).alloc (by simp) _
 ·cases s with
  | false =>
   go_enter Tryz.func134, Tryz.ntmps134
   go_wp2
   refine bodyPost_ret (v := .agg #[.bool true, .slice A1 k1 c1, .slice A2 k2 c2]) (by simp [results, Tryz.results134, go_sem]) rfl ⟨(by simp [*]), ?_⟩
   exact ((Below.refl _ _).alloc (Nat.le_refl _) _).alloc (by simp) _
  | true =>
   go_enter Tryz.func134, Tryz.ntmps134
   go_wp2
   refine bodyPost_ret (v := .agg #[.bool false, .slice A1 k1 c1, .slice A2 k2 c2]) (by simp [results, Tryz.results134, go_sem]) rfl ⟨(by simp [*]), ?_⟩
   exact ((Below.refl _ _).alloc (Nat.le_refl _) _).alloc (by simp) _
theorem neg_sign (q : Rat) : (!decide (q < 0) && decide (0 < (natL q.num.natAbs).length)) = decide (-q < 0) := by
 have h1 : 0 < (natL q.num.natAbs).length ↔ q ≠ 0 := by
  constructor
  ·intro h e
   rw [e] at h
   have : (natL (0 : Rat).num.natAbs).length = 0 := by rw [show (0 : Rat).num.natAbs = 0 from rfl, natL_zero]; rfl
   omega
  ·intro h
   refine len_pos (Nat.pos_of_ne_zero fun e => h ((zero_iff q).2 e))
 rw [Bool.eq_iff_iff]
 simp only [Bool.and_eq_true, Bool.not_eq_true', decide_eq_false_iff_not, decide_eq_true_eq, h1]
 constructor
 ·rintro ⟨g1, g2⟩; grind
 ·intro g; exact ⟨by grind, by grind⟩
theorem ratOpp {q : Rat} {v : Value} (w : World) (hv : IsRt w q v) : Calls Tryz.prog 134 #[v] w (RV (-q) w) := by
 obtain ⟨A1, c1, A2, c2, rfl, h1, h2⟩ := hv
 refine (rtOpp (decide (q < 0)) (natL q.num.natAbs).length (natL q.den).length c1 c2 A1 A2 w).mono ?_
 rintro e w' ⟨rfl, hb⟩
 rw [neg_sign]
 refine ⟨A1, c1, A2, c2, ?_, ?_, ?_, hb⟩
 ·rw [Rat.neg_num, Int.natAbs_neg, Rat.neg_den]
 ·rw [Rat.neg_num, Int.natAbs_neg]
  exact (h1.below hb (Nat.le_refl _)).more hb.size
 ·rw [Rat.neg_den]
  exact (h2.below hb (Nat.le_refl _)).more hb.size
end Go.Proofs.YtcimmgpmkfbpdaaGreatDoor.Ratio
