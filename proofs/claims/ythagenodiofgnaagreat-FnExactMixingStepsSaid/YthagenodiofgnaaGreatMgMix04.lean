/- The program's ratios: sums. -/
import Derived.Test.YthagenodiofgnaaGreatMgMix03
import Derived.Deep.CutRange
import Derived.Test.YthagenodiofgnaaGreatMgMix00
import Derived.Laws.BitsAllLaws
import Derived.IntWalk
import Derived.Lib.Builder
import Derived.StillTailTactics
namespace Go.Proofs.YthagenodiofgnaaGreat.Ratio
open Go.RowKit Go.Proofs.YthagenodiofgnaaGreat Go.Proofs.YthagenodiofgnaaGreat.Base Go.Proofs.YthagenodiofgnaaGreat.Mem Go.Proofs.YthagenodiofgnaaGreat.NatM Go.Proofs.YthagenodiofgnaaGreat.Nat32 Go.Proofs.YthagenodiofgnaaGreat.RatM
open Go.Proofs.YthagenodiofgnaaGreat.Inv (natOf natOf_eq len_pos Rat3 not_slice not_bool frz)
set_option linter.unusedVariables false
theorem natPlus (x y : Nat) (A A' : Option Addr) (c c' : Nat) (w : World) (hx : RdU w w.heap.size A (natL x)) (hy : RdU w w.heap.size A' (natL y)) (hl : (natL x).length ≤ 1000000) (hl' : (natL y).length ≤ 1000000) :
  Calls Tryz.prog 105 #[.slice A (natL x).length c, .slice A' (natL y).length c'] w (NRet (x + y) w) := by
 have := plus_any A A' c c' w.heap.size w.heap.size (natL x) (natL y) w hx (Nat.le_refl _) hy (Nat.le_refl _) (natL_ok x) (natL_ok y) (by omega) (by omega)
 rw [natL_val, natL_val] at this
 exact this
theorem natMinus (x y : Nat) (A A' : Option Addr) (c c' : Nat) (w : World) (hx : RdU w w.heap.size A (natL x)) (hy : RdU w w.heap.size A' (natL y)) (hl : (natL x).length ≤ 1000000) (hle : y ≤ x) :
  Calls Tryz.prog 107 #[.slice A (natL x).length c, .slice A' (natL y).length c'] w (NRet (x - y) w) := by
 have := minus_any A A' c c' w.heap.size w.heap.size (natL x) (natL y) w hx (Nat.le_refl _) hy (Nat.le_refl _) (natL_ok x) (natL_ok y) (by omega) (natL_mono hle) (by rw [natL_val, natL_val]; exact hle)
 rw [natL_val, natL_val] at this
 exact this
theorem natL_add_len (x y : Nat) : (natL (x + y)).length ≤ (natL x).length + (natL y).length + 1 := by
 refine natL_len_le ?_
 have h1 := val_lt _ (natL_ok x)
 have h2 := val_lt _ (natL_ok y)
 rw [natL_val] at h1 h2
 have h3 : B32 ^ (natL x).length ≤ B32 ^ ((natL x).length + (natL y).length) := Nat.pow_le_pow_right (by decide) (by omega)
 have h4 : B32 ^ (natL y).length ≤ B32 ^ ((natL x).length + (natL y).length) := Nat.pow_le_pow_right (by decide) (by omega)
 have h5 : B32 ^ ((natL x).length + (natL y).length) * 2 ≤ B32 ^ ((natL x).length + (natL y).length) * B32 := Nat.mul_le_mul_left _ (by decide)
 rw [Nat.pow_succ]
 generalize B32 ^ ((natL x).length + (natL y).length) * B32 = M at *
 generalize B32 ^ ((natL x).length + (natL y).length) = N at *
 generalize B32 ^ (natL x).length = P at *
 generalize B32 ^ (natL y).length = Q at *
 omega
def PCut (T : World → Prop) (w : World) (s : Bool) (LA LB LD : List Nat) (s5 s6 s7 : Value) (wx : World) : Prop :=
 ∃ (p c5 c6 c8 : Nat) (A5 A6 A8 : Option Addr), s5 = .slice A5 LA.length c5 ∧ s6 = .slice A6 LB.length c6 ∧ s7 = .pointer (some ⟨p, 0, none⟩) ∧ T wx ∧ w.heap.size + 3 ≤ p ∧ p < wx.heap.size ∧ Rat3 wx p (.bool s) (.slice none 0 0) (.slice A8 LD.length c8) ∧
  RdU wx wx.heap.size A5 LA ∧ RdU wx wx.heap.size A6 LB ∧ RdU wx wx.heap.size A8 LD
theorem TF.set {w W : World} {s s' : Bool} {v1 v2 v3 v4 : Value} {p : Nat} (h : TF w s s' v1 v2 v3 v4 W) (hp : w.heap.size + 3 ≤ p) (i : Nat) (v : Value) : TF w s s' v1 v2 v3 v4 (W.setCell ⟨p, i, none⟩ v) := by
 obtain ⟨h1, h2, h3, h4, h5⟩ := h
 exact ⟨h1.far (by omega) v, h2.far (by omega) v, h3.far (by omega) v, h4.setCell (by show w.heap.size ≤ p; omega) v, by simp; omega⟩
theorem frzc {W : World} {p b i j : Nat} {v : Value} (h : p ≠ b) : (W.setCell ⟨p, i, none⟩ v).cell? ⟨b, j, none⟩ = W.cell? ⟨b, j, none⟩ := World.cell?_setCell_far _ _ _ _ h
def PCut1 (T : World → Prop) (LA LB : List Nat) (s5 s6 : Value) (wx : World) : Prop :=
 ∃ (c5 c6 : Nat) (A5 A6 : Option Addr), s5 = .slice A5 LA.length c5 ∧ s6 = .slice A6 LB.length c6 ∧ T wx ∧ RdU wx wx.heap.size A5 LA ∧ RdU wx wx.heap.size A6 LB
set_option maxHeartbeats 4000000 in
set_option maxRecDepth 100000 in
theorem rtPlus (s s' : Bool) (n d n' d' : Nat) (A1 A2 A3 A4 : Option Addr) (c1 c2 c3 c4 : Nat) (w : World) (h1 : RdU w w.heap.size A1 (natL n)) (h2 : RdU w w.heap.size A2 (natL d)) (h3 : RdU w w.heap.size A3 (natL n')) (h4 : RdU w w.heap.size A4 (natL d'))
    (l1 : (natL n).length ≤ 200000) (l2 : (natL d).length ≤ 200000) (l3 : (natL n').length ≤ 200000) (l4 : (natL d').length ≤ 200000) (hd : 0 < d) (hd' : 0 < d') :
    Calls Tryz.prog 60 #[.agg #[.bool s, .slice A1 (natL n).length c1, .slice A2 (natL d).length c2], .agg #[.bool s', .slice A3 (natL n').length c3, .slice A4 (natL d').length c4]] w (RV (qv s n d + qv s' n' d') w) := by
  have HQ := Lib.hid (TF.start w s s' (.slice A1 (natL n).length c1) (.slice A2 (natL d).length c2) (.slice A3 (natL n').length c3) (.slice A4 (natL d').length c4))
  obtain ⟨T, hT⟩ : ∃ T : World → Prop, T = TF w s s' (.slice A1 (natL n).length c1) (.slice A2 (natL d).length c2) (.slice A3 (natL n').length c3) (.slice A4 (natL d').length c4) := ⟨_, rfl⟩
  have rd : ∀ {X : World} {A : Option Addr} {xs : List Nat}, RdU w w.heap.size A xs → T X → RdU X X.heap.size A xs := fun h hX => by
    rw [hT] at hX
    exact (h.below hX.2.2.2.1 (Nat.le_refl _)).more hX.2.2.2.1.size
  have TB : ∀ {X Y : World}, T X → Below X.heap.size X Y → T Y := fun hX hb => by rw [hT] at hX ⊢; exact hX.below hb
  have HN : Hid (∀ X, T X → Calls Tryz.prog 104 #[.slice A1 (natL n).length c1, .slice A4 (natL d').length c4] X fun e w' => ∃ A c, e = .returned (.slice A (natL (n * d')).length c) ∧ RdU w' w'.heap.size A (natL (n * d')) ∧ T w') := Lib.hid fun X hX => (natTimes n d' A1 A4 c1 c4 X (rd h1 hX) (rd h4 hX) (by omega) (by omega)).mono fun e w' ⟨A, c, g1, g2, g3⟩ => ⟨A, c, g1, g2, TB hX g3⟩
  have HB : Hid (∀ X A0 xs, T X → RdU X X.heap.size A0 xs → Calls Tryz.prog 104 #[.slice A3 (natL n').length c3, .slice A2 (natL d).length c2] X fun e w' => ∃ A c, e = .returned (.slice A (natL (n' * d)).length c) ∧ RdU w' w'.heap.size A (natL (n' * d)) ∧ RdU w' w'.heap.size A0 xs ∧ T w') := Lib.hid fun X A0 xs hX hr => (natTimes n' d A3 A2 c3 c2 X (rd h3 hX) (rd h2 hX) (by omega) (by omega)).mono fun e w' ⟨A, c, g1, g2, g3⟩ => ⟨A, c, g1, g2, (hr.below g3 (Nat.le_refl _)).more g3.size, TB hX g3⟩
  have HD : Hid (∀ X A0 xs A9 ys, T X → RdU X X.heap.size A0 xs → RdU X X.heap.size A9 ys → Calls Tryz.prog 104 #[.slice A2 (natL d).length c2, .slice A4 (natL d').length c4] X fun e w' => ∃ A c, e = .returned (.slice A (natL (d * d')).length c) ∧ RdU w' w'.heap.size A (natL (d * d')) ∧ RdU w' w'.heap.size A0 xs ∧ RdU w' w'.heap.size A9 ys ∧ T w' ∧ Below X.heap.size X w') := Lib.hid fun X A0 xs A9 ys hX hr hr9 => (natTimes d d' A2 A4 c2 c4 X (rd h2 hX) (rd h4 hX) (by omega) (by omega)).mono fun e w' ⟨A, c, g1, g2, g3⟩ => ⟨A, c, g1, g2, (hr.below g3 (Nat.le_refl _)).more g3.size, (hr9.below g3 (Nat.le_refl _)).more g3.size, TB hX g3, g3⟩
  rw [← hT] at HQ
  have HT : Hid (∀ X, T X → TF w s s' (.slice A1 (natL n).length c1) (.slice A2 (natL d).length c2) (.slice A3 (natL n').length c3) (.slice A4 (natL d').length c4) X) := Lib.hid fun X h => by rw [← hT]; exact h
  have HTB : Hid (∀ X Y, T X → Below X.heap.size X Y → T Y) := Lib.hid fun X Y h hb => TB h hb
  have HTS : Hid (∀ X p i v, T X → w.heap.size + 3 ≤ p → T (X.setCell ⟨p, i, none⟩ v)) := Lib.hid fun X p i v h hp => by rw [hT] at h ⊢; exact h.set hp i v
  clear rd h1 h2 h3 h4 TB hT
  obtain ⟨LA, hLA⟩ : ∃ LA, LA = natL (n * d') := ⟨_, rfl⟩
  obtain ⟨LB, hLB⟩ : ∃ LB, LB = natL (n' * d) := ⟨_, rfl⟩
  obtain ⟨LD, hLD⟩ : ∃ LD, LD = natL (d * d') := ⟨_, rfl⟩
  have m1 := natL_mul_len n d'
  have m2 := natL_mul_len n' d
  have m3 := natL_mul_len d d'
  have la : LA.length ≤ 400000 := by rw [hLA]; omega
  have lb : LB.length ≤ 400000 := by rw [hLB]; omega
  have ld : LD.length ≤ 400000 := by rw [hLD]; omega
  have HL := Lib.hid (And.intro hLA (And.intro hLB hLD))
  obtain ⟨q, hq⟩ : ∃ q, q = qv s n d + qv s' n' d' := ⟨_, rfl⟩
  have HPl : Hid (∀ X A5 A6 A8 c5 c6, T X → RdU X X.heap.size A5 LA → RdU X X.heap.size A6 LB → RdU X X.heap.size A8 LD → Calls Tryz.prog 105 #[.slice A5 LA.length c5, .slice A6 LB.length c6] X fun e w' => ∃ A9 c9, e = .returned (.slice A9 (natL (n * d' + n' * d)).length c9) ∧ RdU w' w'.heap.size A9 (natL (n * d' + n' * d)) ∧ RdU w' w'.heap.size A8 LD ∧ T w' ∧ Below X.heap.size X w') := Lib.hid fun X A5 A6 A8 c5 c6 hX g5 g6 g8 => by
    rw [hLA] at g5 la ⊢
    rw [hLB] at g6 lb ⊢
    refine (natPlus _ _ A5 A6 c5 c6 X g5 g6 (by omega) (by omega)).mono ?_
    rintro e w' ⟨A9, c9, rfl, r9, b9⟩
    exact ⟨A9, c9, rfl, r9, (g8.below b9 (Nat.le_refl _)).more b9.size, HTB.out _ _ hX b9, b9⟩
  have HMi : Hid (∀ X A5 A6 A8 c5 c6, n' * d ≤ n * d' → T X → RdU X X.heap.size A5 LA → RdU X X.heap.size A6 LB → RdU X X.heap.size A8 LD → Calls Tryz.prog 107 #[.slice A5 LA.length c5, .slice A6 LB.length c6] X fun e w' => ∃ A9 c9, e = .returned (.slice A9 (natL (n * d' - n' * d)).length c9) ∧ RdU w' w'.heap.size A9 (natL (n * d' - n' * d)) ∧ RdU w' w'.heap.size A8 LD ∧ T w' ∧ Below X.heap.size X w') := Lib.hid fun X A5 A6 A8 c5 c6 hle hX g5 g6 g8 => by
    rw [hLA] at g5 la ⊢
    rw [hLB] at g6 lb ⊢
    refine (natMinus _ _ A5 A6 c5 c6 X g5 g6 (by omega) hle).mono ?_
    rintro e w' ⟨A9, c9, rfl, r9, b9⟩
    exact ⟨A9, c9, rfl, r9, (g8.below b9 (Nat.le_refl _)).more b9.size, HTB.out _ _ hX b9, b9⟩
  have HMj : Hid (∀ X A5 A6 A8 c5 c6, n * d' ≤ n' * d → T X → RdU X X.heap.size A5 LA → RdU X X.heap.size A6 LB → RdU X X.heap.size A8 LD → Calls Tryz.prog 107 #[.slice A6 LB.length c6, .slice A5 LA.length c5] X fun e w' => ∃ A9 c9, e = .returned (.slice A9 (natL (n' * d - n * d')).length c9) ∧ RdU w' w'.heap.size A9 (natL (n' * d - n * d')) ∧ RdU w' w'.heap.size A8 LD ∧ T w' ∧ Below X.heap.size X w') := Lib.hid fun X A5 A6 A8 c5 c6 hle hX g5 g6 g8 => by
    rw [hLA] at g5 la ⊢
    rw [hLB] at g6 lb ⊢
    refine (natMinus _ _ A6 A5 c6 c5 X g6 g5 (by omega) hle).mono ?_
    rintro e w' ⟨A9, c9, rfl, r9, b9⟩
    exact ⟨A9, c9, rfl, r9, (g8.below b9 (Nat.le_refl _)).more b9.size, HTB.out _ _ hX b9, b9⟩
  have HCm : Hid (∀ X A5 A6 c5 c6, RdU X X.heap.size A5 LA → RdU X X.heap.size A6 LB → Calls Tryz.prog 106 #[.slice A5 LA.length c5, .slice A6 LB.length c6] X (CmpRet (n * d') (n' * d) X)) := Lib.hid fun X A5 A6 c5 c6 g5 g6 => by
    rw [hLA] at g5 la ⊢
    rw [hLB] at g6 lb ⊢
    exact compare_any _ _ A5 A6 c5 c6 X.heap.size X.heap.size X g5 g6 (by omega) (by omega)
  have HLw : Hid (∀ X S v A9 A8 c9 c8, qv S v (d * d') = q → (natL v).length ≤ 1000000 → T X → RdU X X.heap.size A9 (natL v) → RdU X X.heap.size A8 LD → Calls Tryz.prog 108 #[.agg #[.bool S, .slice A9 (natL v).length c9, .slice A8 LD.length c8]] X fun e w' => RV q X e w' ∧ T w') := Lib.hid fun X S v A9 A8 c9 c8 hqv hv hX g9 g8 => by
    rw [hLD] at g8 ld ⊢
    have e := lowestG S v (d * d') A9 A8 c9 c8 X g9 g8 hv (by omega) (Nat.mul_pos hd hd')
    rw [hqv] at e
    refine e.mono fun e w' h => ⟨h, ?_⟩
    obtain ⟨_, _, _, _, _, _, _, hb⟩ := h
    exact HTB.out _ _ hX hb
  have HV1 : Hid ((natL (n * d' + n' * d)).length ≤ 1000000 ∧ (natL (n * d' - n' * d)).length ≤ 1000000 ∧ (natL (n' * d - n * d')).length ≤ 1000000) := Lib.hid (by
    rw [hLA] at la
    rw [hLB] at lb
    exact ⟨Nat.le_trans (natL_add_len _ _) (by omega), Nat.le_trans (natL_mono (Nat.sub_le _ _)) (by omega), Nat.le_trans (natL_mono (Nat.sub_le _ _)) (by omega)⟩)
  have HE1 : Hid (s = s' → qv s (n * d' + n' * d) (d * d') = q) := Lib.hid fun h => by
    subst h
    rw [hq]; exact qv_add_same s (by omega) (by omega)
  have HE2 : Hid (s ≠ s' → n' * d ≤ n * d' → qv s (n * d' - n' * d) (d * d') = q) := Lib.hid fun h hle => by
    have h2 : s' = !s := by cases s <;> cases s' <;> simp_all
    rw [hq, h2]; exact qv_add_diff s (by omega) (by omega) hle
  have HE3 : Hid (s ≠ s' → n * d' ≤ n' * d → qv s' (n' * d - n * d') (d * d') = q) := Lib.hid fun h hle => by
    have h2 : s = !s' := by cases s <;> cases s' <;> simp_all
    have h3 := qv_add_diff s' (n := n') (d := d') (n' := n) (d' := d) (by omega) (by omega) hle
    rw [hq, h2, Nat.mul_comm d d', h3, Rat.add_comm]
  rw [← hq]
  rw [← hLA] at HN
  rw [← hLB] at HB
  rw [← hLD] at HD
  clear hLA hLB hLD m1 m2 m3 l1 l2 l3 l4 hq
  obtain ⟨va, hva⟩ : ∃ va, va = n * d' + n' * d := ⟨_, rfl⟩
  obtain ⟨vb, hvb⟩ : ∃ vb, vb = n * d' - n' * d := ⟨_, rfl⟩
  obtain ⟨vc, hvc⟩ : ∃ vc, vc = n' * d - n * d' := ⟨_, rfl⟩
  rw [← hva] at HPl HV1 HE1
  rw [← hvb] at HMi HV1 HE2
  rw [← hvc] at HMj HV1 HE3
  clear hva hvb hvc
  generalize n * d' = x at *
  generalize n' * d = y at *
  generalize (natL n).length = k1 at *
  generalize (natL d).length = k2 at *
  generalize (natL n').length = k3 at *
  generalize (natL d').length = k4 at *
  go_enter Tryz.func60, Tryz.ntmps60
  go_wp2_with fail
  have hq0 := HT.out _ HQ.out
  have a0 := (hq0).1.c0; have a1 := (hq0).1.c1; have a2 := (hq0).1.c2; have b0 := (hq0).2.1.c0; have b1 := (hq0).2.1.c1; have b2 := (hq0).2.1.c2; have p0 := (hq0).2.2.1.c0; have p1 := (hq0).2.2.1.c1; have p2 := (hq0).2.2.1.c2; have pf0 := (hq0).2.2.1.f0; have pf1 := (hq0).2.2.1.f1; have pf2 := (hq0).2.2.1.f2
  clear hq0
  go_cut [5, 6] from 8 to 17 (fun s5 s6 wx => PCut1 T LA LB s5 s6 wx)
  case first =>
    go_region_held3 (fun w' => w'.cell? ⟨w.heap.size, 0, none⟩ = some (.bool s) ∧ w'.cell? ⟨w.heap.size, 1, none⟩ = some (.slice A1 k1 c1) ∧ w'.cell? ⟨w.heap.size, 2, none⟩ = some (.slice A2 k2 c2) ∧ w'.cell? ⟨w.heap.size + 1, 0, none⟩ = some (.bool s') ∧ w'.cell? ⟨w.heap.size + 1, 1, none⟩ = some (.slice A3 k3 c3) ∧ w'.cell? ⟨w.heap.size + 1, 2, none⟩ = some (.slice A4 k4 c4))
      (first | exact ⟨a0, a1, a2, b0, b1, b2⟩ | go_keep)
      (first
        | (go_at_call 104; refine (HB.out _ _ _ HQ1.out Hr1.out).mono ?_; rintro e w2 ⟨A6, c6, rfl, hr2, hr1b, hq2⟩; have Hr1b := Lib.hid hr1b; have Hr2 := Lib.hid hr2; have HQ2 := Lib.hid hq2; have hq2 := HT.out _ hq2; clear hr2 hr1b a0 a1 a2 b0 b1 b2 p0 p1 p2 pf0 pf1 pf2; have a0 := (hq2).1.c0; have a1 := (hq2).1.c1; have a2 := (hq2).1.c2; have b0 := (hq2).2.1.c0; have b1 := (hq2).2.1.c1; have b2 := (hq2).2.1.c2; have p0 := (hq2).2.2.1.c0; have p1 := (hq2).2.2.1.c1; have p2 := (hq2).2.2.1.c2; have pf0 := (hq2).2.2.1.f0; have pf1 := (hq2).2.2.1.f1; have pf2 := (hq2).2.2.1.f2; clear hq2)
        | (go_at_call 104; refine (HN.out _ HQ.out).mono ?_; rintro e w1 ⟨A5, c5, rfl, hr1, hq1⟩; have Hr1 := Lib.hid hr1; have HQ1 := Lib.hid hq1; have hq1 := HT.out _ hq1; clear hr1 a0 a1 a2 b0 b1 b2 p0 p1 p2 pf0 pf1 pf2; have a0 := (hq1).1.c0; have a1 := (hq1).1.c1; have a2 := (hq1).1.c2; have b0 := (hq1).2.1.c0; have b1 := (hq1).2.1.c1; have b2 := (hq1).2.1.c2; have p0 := (hq1).2.2.1.c0; have p1 := (hq1).2.2.1.c1; have p2 := (hq1).2.2.1.c2; have pf0 := (hq1).2.2.1.f0; have pf1 := (hq1).2.2.1.f1; have pf2 := (hq1).2.2.1.f2; clear hq1))
    all_goals
      have HC : Hid (PCut1 T LA LB (.slice A5 LA.length c5) (.slice A6 LB.length c6) w2) := Lib.hid ⟨c5, c6, A5, A6, rfl, rfl, HQ2.out, Hr1b.out, Hr2.out⟩
      go_wp2_with fail
      go_meet
      exact HC.out
  case rest =>
    obtain ⟨c5, c6, A5, A6, rfl, rfl, hTc, hr5, hr6⟩ := hcut
    clear a0 a1 a2 b0 b1 b2 p0 p1 p2 pf0 pf1 pf2
    have HTc := Lib.hid hTc
    have HR5 := Lib.hid hr5
    have HR6 := Lib.hid hr6
    have hq0 := HT.out _ hTc
    have hsz := hq0.2.2.2.2
    have a0 := (hq0).1.c0; have a1 := (hq0).1.c1; have a2 := (hq0).1.c2; have b0 := (hq0).2.1.c0; have b1 := (hq0).2.1.c1; have b2 := (hq0).2.1.c2; have p0 := (hq0).2.2.1.c0; have p1 := (hq0).2.2.1.c1; have p2 := (hq0).2.2.1.c2; have pf0 := (hq0).2.2.1.f0; have pf1 := (hq0).2.2.1.f1; have pf2 := (hq0).2.2.1.f2
    clear hq0 hTc hr5 hr6 HN HB
    have HTD : Hid (∀ Y, Below wc.heap.size wc Y → T Y ∧ RdU Y Y.heap.size A5 LA ∧ RdU Y Y.heap.size A6 LB) := Lib.hid fun Y hb => ⟨HTB.out _ _ HTc.out hb, (HR5.out.below hb (Nat.le_refl _)).more hb.size, (HR6.out.below hb (Nat.le_refl _)).more hb.size⟩
    go_wp2
    go_cut [7] from 18 to 25 (fun s7 wx => PCut T w s LA LB LD (.slice A5 LA.length c5) (.slice A6 LB.length c6) s7 wx)
    case first =>
      go_region_held3 (fun w' => w'.cell? ⟨w.heap.size, 0, none⟩ = some (.bool s) ∧ w'.cell? ⟨w.heap.size, 2, none⟩ = some (.slice A2 k2 c2) ∧ w'.cell? ⟨w.heap.size + 1, 2, none⟩ = some (.slice A4 k4 c4))
        (first | exact ⟨a0, a2, b2⟩ | go_keep | exact ⟨(by rw [frzc hnp, frzc hnp, frzc hnp]; exact a0), (by rw [frzc hnp, frzc hnp, frzc hnp]; exact a2), (by rw [frzc hnp1, frzc hnp1, frzc hnp1]; exact b2)⟩)
        (first
          | (go_at_call 104; refine (HD.out wc.drew _ _ _ _ (HTD.out _ ((Below.refl _ _).drew)).1 (HTD.out _ ((Below.refl _ _).drew)).2.1 (HTD.out _ ((Below.refl _ _).drew)).2.2).mono ?_; rintro e w3 ⟨A8, c8, rfl, g8, g5, g6, gT, gb⟩; have G8 := Lib.hid g8; have G5 := Lib.hid g5; have G6 := Lib.hid g6; have GT := Lib.hid gT; have hq3 := HT.out _ gT; clear a0 a1 a2 b0 b1 b2 p0 p1 p2 pf0 pf1 pf2; have a0 := (hq3).1.c0; have a1 := (hq3).1.c1; have a2 := (hq3).1.c2; have b0 := (hq3).2.1.c0; have b1 := (hq3).2.1.c1; have b2 := (hq3).2.1.c2; have p0 := (hq3).2.2.1.c0; have p1 := (hq3).2.2.1.c1; have p2 := (hq3).2.2.1.c2; have pf0 := (hq3).2.2.1.f0; have pf1 := (hq3).2.2.1.f1; have pf2 := (hq3).2.2.1.f2; clear hq3 g8 g5 g6 gT gb)
          | (go_at_call 104; refine (HD.out ((wc.alloc (.cells #[.bool false, .slice none 0 0, .slice none 0 0] 82)).drew) _ _ _ _ (HTD.out _ (((Below.refl _ _).alloc (Nat.le_refl _) _).drew)).1 (HTD.out _ (((Below.refl _ _).alloc (Nat.le_refl _) _).drew)).2.1 (HTD.out _ (((Below.refl _ _).alloc (Nat.le_refl _) _).drew)).2.2).mono ?_; rintro e w3 ⟨A8, c8, rfl, g8, g5, g6, gT, gb⟩; have RB := (Inv.Rat3.newd wc (.bool false) (.slice none 0 0) (.slice none 0 0) 82).below gb (by simp); have hnp : wc.heap.size ≠ w.heap.size := (by omega); have hnp1 : wc.heap.size ≠ w.heap.size + 1 := (by omega); have G8 := Lib.hid g8; have G5 := Lib.hid g5; have G6 := Lib.hid g6; have GT := Lib.hid gT; have HRB := Lib.hid RB; have r0 := RB.c0; have r1 := RB.c1; have r2 := RB.c2; have rf0 := RB.f0; have rf1 := RB.f1; have rf2 := RB.f2; have hlt3 : wc.heap.size < w3.heap.size := (by have := gb.size; simp at this; omega); have hq3 := HT.out _ gT; clear RB a0 a1 a2 b0 b1 b2 p0 p1 p2 pf0 pf1 pf2; have a0 := (hq3).1.c0; have a1 := (hq3).1.c1; have a2 := (hq3).1.c2; have b0 := (hq3).2.1.c0; have b1 := (hq3).2.1.c1; have b2 := (hq3).2.1.c2; have p0 := (hq3).2.2.1.c0; have p1 := (hq3).2.2.1.c1; have p2 := (hq3).2.2.1.c2; have pf0 := (hq3).2.2.1.f0; have pf1 := (hq3).2.2.1.f1; have pf2 := (hq3).2.2.1.f2; clear hq3 g8 g5 g6 gT gb))
      all_goals
        first
          | (have HC : Hid (PCut T w s LA LB LD (.slice A5 LA.length c5) (.slice A6 LB.length c6) (.pointer (some ⟨wc.heap.size, 0, none⟩)) (((w3.setCell ⟨wc.heap.size, 0, none⟩ (.bool s)).setCell ⟨wc.heap.size, 1, none⟩ (.slice none 0 0)).setCell ⟨wc.heap.size, 2, none⟩ (.slice A8 LD.length c8))) := Lib.hid (by
              have m6 := HRB.out.set0 (.bool s)
              have m7 := m6.set1 (.slice none 0 0)
              have m8 := m7.set2 (.slice A8 LD.length c8)
              have nn : ∀ {A : Option Addr} {L : List Nat}, RdU w3 w3.heap.size A L → RdU (((w3.setCell ⟨wc.heap.size, 0, none⟩ (.bool s)).setCell ⟨wc.heap.size, 1, none⟩ (.slice none 0 0)).setCell ⟨wc.heap.size, 2, none⟩ (.slice A8 LD.length c8)) w3.heap.size A L := fun h => ((h.non HRB.out.c0 (not_bool _) _).non m6.c1 (not_slice _ _ _) _).non m7.c2 (not_slice _ _ _) _
              refine ⟨wc.heap.size, c5, c6, c8, A5, A6, A8, rfl, rfl, rfl, HTS.out _ _ _ _ (HTS.out _ _ _ _ (HTS.out _ _ _ _ GT.out hsz) hsz) hsz, hsz, by simp only [World.size_setCell]; exact hlt3, m8, ?_, ?_, ?_⟩
              all_goals simp only [World.size_setCell]
              · exact nn G5.out
              · exact nn G6.out
              · exact nn G8.out)
             go_wp2_with fail
             go_meet
             exact HC.out)
          | (have HC : Hid (PCut T w s LA LB LD (.slice A5 LA.length c5) (.slice A6 LB.length c6) (.pointer (some ⟨w3.heap.size, 0, none⟩)) (w3.alloc (.cells #[.bool s, .slice none 0 0, .slice A8 LD.length c8] 82))) := Lib.hid (by
              have bA : Below w3.heap.size w3 (w3.alloc (.cells #[.bool s, .slice none 0 0, .slice A8 LD.length c8] 82)) := (Below.refl _ _).alloc (Nat.le_refl _) _
              have hz3 := (HT.out _ GT.out).2.2.2.2
              exact ⟨w3.heap.size, c5, c6, c8, A5, A6, A8, rfl, rfl, rfl, HTB.out _ _ GT.out bA, hz3, by simp, Rat3.new w3 _ _ _ _, (G5.out.below bA (Nat.le_refl _)).more bA.size, (G6.out.below bA (Nat.le_refl _)).more bA.size, (G8.out.below bA (Nat.le_refl _)).more bA.size⟩)
             go_wp2_with fail
             go_meet
             exact HC.out)
    case rest =>
      obtain ⟨p, c5', c6', c8, A5', A6', A8, e5, e6, rfl, hTp, hp1, hp2, hR, g5, g6, g8⟩ := hcut
      cases e5
      cases e6
      clear a0 a1 a2 b0 b1 b2 p0 p1 p2 pf0 pf1 pf2 HTD HR5 HR6 HTc hsz HD
      have HTp := Lib.hid hTp
      have HRx := Lib.hid hR
      have G5 := Lib.hid g5
      have G6 := Lib.hid g6
      have G8 := Lib.hid g8
      have hq0 := HT.out _ hTp
      have a0 := (hq0).1.c0; have a1 := (hq0).1.c1; have a2 := (hq0).1.c2; have b0 := (hq0).2.1.c0; have b1 := (hq0).2.1.c1; have b2 := (hq0).2.1.c2; have p0 := (hq0).2.2.1.c0; have p1 := (hq0).2.2.1.c1; have p2 := (hq0).2.2.1.c2; have pf0 := (hq0).2.2.1.f0; have pf1 := (hq0).2.2.1.f1; have pf2 := (hq0).2.2.1.f2
      have r0 := hR.c0
      have r1 := hR.c1
      have r2 := hR.c2
      have rf0 := hR.f0
      have rf1 := hR.f1
      have rf2 := hR.f2
      clear hq0 hTp hR g5 g6 g8
      by_cases hss : s = s'
      · have hsb : (s == s') = true := by simp [hss]
        have HQ1 := Lib.hid (HE1.out hss)
        have HC := Lib.hid (HPl.out _ A5 A6 A8 c5 c6 HTp.out G5.out G6.out G8.out)
        clear hss HE1 HE2 HE3 HMi HMj HCm
        go_wp2_with fail
        refine HC.out.mono ?_
        rintro e w9 ⟨A9, c9, rfl, k9, k8, t9, bb9⟩
        clear a0 a1 a2 b0 b1 b2 p0 p1 p2 pf0 pf1 pf2 r0 r1 r2 rf0 rf1 rf2
        have R9 := HRx.out.below bb9 hp2
        have hp9 : p < w9.heap.size := Nat.lt_of_lt_of_le hp2 bb9.size
        obtain ⟨W9, hW9⟩ : ∃ W9, W9 = w9.setCell ⟨p, 1, none⟩ (.slice A9 (natL va).length c9) := ⟨_, rfl⟩
        have R10 := R9.set1 (.slice A9 (natL va).length c9)
        have T10 := HTS.out _ _ 1 (.slice A9 (natL va).length c9) t9 hp1
        have k9' := k9.non R9.c1 (not_slice _ _ _) (.slice A9 (natL va).length c9)
        have k8' := k8.non R9.c1 (not_slice _ _ _) (.slice A9 (natL va).length c9)
        have z9 : (w9.setCell ⟨p, 1, none⟩ (.slice A9 (natL va).length c9)).heap.size = w9.heap.size := by simp
        rw [← z9] at k9' k8'
        have q9 := HT.out _ t9
        have a0 := (q9).1.c0; have a1 := (q9).1.c1; have a2 := (q9).1.c2; have b0 := (q9).2.1.c0; have b1 := (q9).2.1.c1; have b2 := (q9).2.1.c2; have p0 := (q9).2.2.1.c0; have p1 := (q9).2.2.1.c1; have p2 := (q9).2.2.1.c2; have pf0 := (q9).2.2.1.f0; have pf1 := (q9).2.2.1.f1; have pf2 := (q9).2.2.1.f2
        have r0 := R9.c0
        have r1 := R9.c1
        have r2 := R9.c2
        have rf0 := R9.f0
        have rf1 := R9.f1
        have rf2 := R9.f2
        have x0 := R10.c0
        have x1 := R10.c1
        have x2 := R10.c2
        have HL2 := Lib.hid (HLw.out _ s va A9 A8 c9 c8 HQ1.out HV1.out.1 T10 k9' k8')
        clear q9 R9 k9 k8 z9 k9' k8' R10
        have HT10 := Lib.hid T10
        clear T10 t9 bb9 hW9
        go_wp2_with fail
        refine HL2.out.mono ?_
        rintro e w10 ⟨⟨A10, c10, A11, c11, rfl, hr10, hr11, hb10⟩, hT10⟩
        have hq10 := HT.out _ hT10
        obtain ⟨m6, m7, m8, HR⟩ := rt_store (c1 := c10) (c2 := c11) (decide (q < 0)) hq10.2.2.1 hr10 hr11 hq10.2.2.2.1 (by omega)
        have HRH := Lib.hid HR
        have m80 := m8.c0
        have m81 := m8.c1
        have m82 := m8.c2
        clear a0 a1 a2 b0 b1 b2 p0 p1 p2 pf0 pf1 pf2 r0 r1 r2 rf0 rf1 rf2 x0 x1 x2
        have a0 := (hq10).1.c0; have a1 := (hq10).1.c1; have a2 := (hq10).1.c2; have b0 := (hq10).2.1.c0; have b1 := (hq10).2.1.c1; have b2 := (hq10).2.1.c2; have p0 := (hq10).2.2.1.c0; have p1 := (hq10).2.2.1.c1; have p2 := (hq10).2.2.1.c2; have pf0 := (hq10).2.2.1.f0; have pf1 := (hq10).2.2.1.f1; have pf2 := (hq10).2.2.1.f2
        clear HR m6 m7 m8 hr10 hr11 hb10 hT10 hq10
        go_wp2
        refine bodyPost_ret (v := .agg #[.bool (decide (q < 0)), .slice A10 (natL q.num.natAbs).length c10, .slice A11 (natL q.den).length c11]) (by simp [results, Tryz.results60, go_sem, m80, m81, m82]) rfl HRH.out
      · have hsb : (s == s') = false := by simp [hss]
        have HC := Lib.hid (HCm.out _ A5 A6 c5 c6 G5.out G6.out)
        clear HPl HE1 HCm
        go_wp2_with fail
        refine HC.out.mono ?_
        rintro e w8 ⟨r, rfl, hcr, hD⟩
        have HTD : Hid (T w8 ∧ RdU w8 w8.heap.size A5 LA ∧ RdU w8 w8.heap.size A6 LB ∧ RdU w8 w8.heap.size A8 LD ∧ Rat3 w8 p (.bool s) (.slice none 0 0) (.slice A8 LD.length c8) ∧ p < w8.heap.size) := Lib.hid (by
          obtain ⟨mD, rfl⟩ := hD
          have bD := below_drewN (Below.refl wc.heap.size wc) mD
          exact ⟨HTB.out _ _ HTp.out bD, (G5.out.below bD (Nat.le_refl _)).more bD.size, (G6.out.below bD (Nat.le_refl _)).more bD.size, (G8.out.below bD (Nat.le_refl _)).more bD.size, HRx.out.below bD hp2, Nat.lt_of_lt_of_le hp2 bD.size⟩)
        clear hD HC a0 a1 a2 b0 b1 b2 p0 p1 p2 pf0 pf1 pf2 r0 r1 r2 rf0 rf1 rf2 HRx hp2 HTp G5 G6 G8
        have HRx := Lib.hid HTD.out.2.2.2.2.1
        have hp2 := HTD.out.2.2.2.2.2
        have hq0 := HT.out _ HTD.out.1
        have a0 := (hq0).1.c0; have a1 := (hq0).1.c1; have a2 := (hq0).1.c2; have b0 := (hq0).2.1.c0; have b1 := (hq0).2.1.c1; have b2 := (hq0).2.1.c2; have p0 := (hq0).2.2.1.c0; have p1 := (hq0).2.2.1.c1; have p2 := (hq0).2.2.1.c2; have pf0 := (hq0).2.2.1.f0; have pf1 := (hq0).2.2.1.f1; have pf2 := (hq0).2.2.1.f2
        have r0 := HRx.out.c0
        have r1 := HRx.out.c1
        have r2 := HRx.out.c2
        have rf0 := HRx.out.f0
        have rf1 := HRx.out.f1
        have rf2 := HRx.out.f2
        clear hq0
        by_cases hle : y ≤ x
        · have hr0 : 0 ≤ r := by
            rcases Nat.lt_or_ge y x with h | h
            · have := hcr.2.2 h; omega
            · have := hcr.2.1 (by omega); omega
          have HQ1 := Lib.hid (HE2.out hss hle)
          have HC := Lib.hid (HMi.out _ A5 A6 A8 c5 c6 hle HTD.out.1 HTD.out.2.1 HTD.out.2.2.1 HTD.out.2.2.2.1)
          clear hss HE2 HE3 HMi HMj hcr hle
          go_wp2_with fail
          refine HC.out.mono ?_
          rintro e w9 ⟨A9, c9, rfl, k9, k8, t9, bb9⟩
          clear a0 a1 a2 b0 b1 b2 p0 p1 p2 pf0 pf1 pf2 r0 r1 r2 rf0 rf1 rf2
          have R9 := HRx.out.below bb9 hp2
          have hp9 : p < w9.heap.size := Nat.lt_of_lt_of_le hp2 bb9.size
          obtain ⟨W9, hW9⟩ : ∃ W9, W9 = w9.setCell ⟨p, 1, none⟩ (.slice A9 (natL vb).length c9) := ⟨_, rfl⟩
          have R10 := R9.set1 (.slice A9 (natL vb).length c9)
          have T10 := HTS.out _ _ 1 (.slice A9 (natL vb).length c9) t9 hp1
          have k9' := k9.non R9.c1 (not_slice _ _ _) (.slice A9 (natL vb).length c9)
          have k8' := k8.non R9.c1 (not_slice _ _ _) (.slice A9 (natL vb).length c9)
          have z9 : (w9.setCell ⟨p, 1, none⟩ (.slice A9 (natL vb).length c9)).heap.size = w9.heap.size := by simp
          rw [← z9] at k9' k8'
          have q9 := HT.out _ t9
          have a0 := (q9).1.c0; have a1 := (q9).1.c1; have a2 := (q9).1.c2; have b0 := (q9).2.1.c0; have b1 := (q9).2.1.c1; have b2 := (q9).2.1.c2; have p0 := (q9).2.2.1.c0; have p1 := (q9).2.2.1.c1; have p2 := (q9).2.2.1.c2; have pf0 := (q9).2.2.1.f0; have pf1 := (q9).2.2.1.f1; have pf2 := (q9).2.2.1.f2
          have r0 := R9.c0
          have r1 := R9.c1
          have r2 := R9.c2
          have rf0 := R9.f0
          have rf1 := R9.f1
          have rf2 := R9.f2
          have x0 := R10.c0
          have x1 := R10.c1
          have x2 := R10.c2
          have HL2 := Lib.hid (HLw.out _ s vb A9 A8 c9 c8 HQ1.out HV1.out.2.1 T10 k9' k8')
          clear q9 R9 k9 k8 z9 k9' k8' R10
          have HT10 := Lib.hid T10
          clear T10 t9 bb9 hW9
          go_wp2_with fail
          refine HL2.out.mono ?_
          rintro e w10 ⟨⟨A10, c10, A11, c11, rfl, hr10, hr11, hb10⟩, hT10⟩
          have hq10 := HT.out _ hT10
          obtain ⟨m6, m7, m8, HR⟩ := rt_store (c1 := c10) (c2 := c11) (decide (q < 0)) hq10.2.2.1 hr10 hr11 hq10.2.2.2.1 (by omega)
          have HRH := Lib.hid HR
          have m80 := m8.c0
          have m81 := m8.c1
          have m82 := m8.c2
          clear a0 a1 a2 b0 b1 b2 p0 p1 p2 pf0 pf1 pf2 r0 r1 r2 rf0 rf1 rf2 x0 x1 x2
          have a0 := (hq10).1.c0; have a1 := (hq10).1.c1; have a2 := (hq10).1.c2; have b0 := (hq10).2.1.c0; have b1 := (hq10).2.1.c1; have b2 := (hq10).2.1.c2; have p0 := (hq10).2.2.1.c0; have p1 := (hq10).2.2.1.c1; have p2 := (hq10).2.2.1.c2; have pf0 := (hq10).2.2.1.f0; have pf1 := (hq10).2.2.1.f1; have pf2 := (hq10).2.2.1.f2
          clear HR m6 m7 m8 hr10 hr11 hb10 hT10 hq10
          go_wp2
          refine bodyPost_ret (v := .agg #[.bool (decide (q < 0)), .slice A10 (natL q.num.natAbs).length c10, .slice A11 (natL q.den).length c11]) (by simp [results, Tryz.results60, go_sem, m80, m81, m82]) rfl HRH.out
        · have hr0 : r < 0 := hcr.1 (by omega)
          have HQ1 := Lib.hid (HE3.out hss (by omega))
          have bW : Below w8.heap.size w8 w8.drew := (Below.refl _ _).drew
          have HC := Lib.hid (HMj.out w8.drew A5 A6 A8 c5 c6 (by omega) (HTB.out _ _ HTD.out.1 bW) ((HTD.out.2.1.below bW (Nat.le_refl _)).more bW.size) ((HTD.out.2.2.1.below bW (Nat.le_refl _)).more bW.size) ((HTD.out.2.2.2.1.below bW (Nat.le_refl _)).more bW.size))
          have HRd := Lib.hid (HRx.out.below bW hp2)
          have hpd : p < w8.drew.heap.size := Nat.lt_of_lt_of_le hp2 bW.size
          have hnp1 : p ≠ w.heap.size + 1 := by omega
          clear hss HE2 HE3 HMi HMj hcr hle bW
          go_wp2
          go_region_held3 (fun w' => w'.cell? ⟨w.heap.size + 1, 0, none⟩ = some (.bool s'))
            (first | exact b0 | go_keep | (rw [frzc hnp1]; exact b0) | (rw [frzc hnp1, frzc hnp1]; exact b0))
            (first
              | (go_at_call 107; refine HC.out.mono ?_; rintro e w9 ⟨A9, c9, rfl, k9, k8, t9, bb9⟩; have K9 := Lib.hid k9; have K8 := Lib.hid k8; have T9 := Lib.hid t9; have R9 := Lib.hid (HRd.out.below bb9 hpd); have hq9 := HT.out _ t9; have z9 := bb9.size; have m1 := R9.out.set1 (.slice A9 (natL vc).length c9); clear a0 a1 a2 b0 b1 b2 p0 p1 p2 pf0 pf1 pf2 r0 r1 r2 rf0 rf1 rf2 k9 k8 t9; have a0 := (hq9).1.c0; have a1 := (hq9).1.c1; have a2 := (hq9).1.c2; have b0 := (hq9).2.1.c0; have b1 := (hq9).2.1.c1; have b2 := (hq9).2.1.c2; have p0 := (hq9).2.2.1.c0; have p1 := (hq9).2.2.1.c1; have p2 := (hq9).2.2.1.c2; have pf0 := (hq9).2.2.1.f0; have pf1 := (hq9).2.2.1.f1; have pf2 := (hq9).2.2.1.f2; have r0 := R9.out.c0; have r1 := R9.out.c1; have r2 := R9.out.c2; have rf0 := R9.out.f0; have rf1 := R9.out.f1; have rf2 := R9.out.f2; have n0 := m1.c0; have nf0 := m1.f0; clear hq9 bb9 m1))
          all_goals
            have R10 := (R9.out.set1 (.slice A9 (natL vc).length c9)).set0 (.bool s')
            have R9b := R9.out.set1 (.slice A9 (natL vc).length c9)
            have T10 := HTS.out _ _ 0 (.bool s') (HTS.out _ _ 1 (.slice A9 (natL vc).length c9) T9.out hp1) hp1
            have k9' := (K9.out.non R9.out.c1 (not_slice _ _ _) (.slice A9 (natL vc).length c9)).non R9b.c0 (not_bool _) (.bool s')
            have k8' := (K8.out.non R9.out.c1 (not_slice _ _ _) (.slice A9 (natL vc).length c9)).non R9b.c0 (not_bool _) (.bool s')
            have z10 : ((w9.setCell ⟨p, 1, none⟩ (.slice A9 (natL vc).length c9)).setCell ⟨p, 0, none⟩ (.bool s')).heap.size = w9.heap.size := by simp
            rw [← z10] at k9' k8'
            have x0 := R10.c0
            have x1 := R10.c1
            have x2 := R10.c2
            have HL2 := Lib.hid (HLw.out _ s' vc A9 A8 c9 c8 HQ1.out HV1.out.2.2 T10 k9' k8')
            clear R10 R9b T10 k9' k8' z10
            go_wp2_with fail
            refine HL2.out.mono ?_
            rintro e w10 ⟨⟨A10, c10, A11, c11, rfl, hr10, hr11, hb10⟩, hT10⟩
            have hq10 := HT.out _ hT10
            obtain ⟨m6, m7, m8, HR⟩ := rt_store (c1 := c10) (c2 := c11) (decide (q < 0)) hq10.2.2.1 hr10 hr11 hq10.2.2.2.1 (by omega)
            have HRH := Lib.hid HR
            have m80 := m8.c0
            have m81 := m8.c1
            have m82 := m8.c2
            clear a0 a1 a2 b0 b1 b2 p0 p1 p2 pf0 pf1 pf2 r0 r1 r2 rf0 rf1 rf2 x0 x1 x2
            have a0 := (hq10).1.c0; have a1 := (hq10).1.c1; have a2 := (hq10).1.c2; have b0 := (hq10).2.1.c0; have b1 := (hq10).2.1.c1; have b2 := (hq10).2.1.c2; have p0 := (hq10).2.2.1.c0; have p1 := (hq10).2.2.1.c1; have p2 := (hq10).2.2.1.c2; have pf0 := (hq10).2.2.1.f0; have pf1 := (hq10).2.2.1.f1; have pf2 := (hq10).2.2.1.f2
            clear HR m6 m7 m8 hr10 hr11 hb10 hT10 hq10
            go_wp2
            refine bodyPost_ret (v := .agg #[.bool (decide (q < 0)), .slice A10 (natL q.num.natAbs).length c10, .slice A11 (natL q.den).length c11]) (by simp [results, Tryz.results60, go_sem, m80, m81, m82]) rfl HRH.out
end Go.Proofs.YthagenodiofgnaaGreat.Ratio
namespace Go.Proofs.YthagenodiofgnaaGreat.Ratio
open Go.RowKit Go.Proofs.YthagenodiofgnaaGreat Go.Proofs.YthagenodiofgnaaGreat.Base Go.Proofs.YthagenodiofgnaaGreat.Mem Go.Proofs.YthagenodiofgnaaGreat.NatM Go.Proofs.YthagenodiofgnaaGreat.Nat32 Go.Proofs.YthagenodiofgnaaGreat.RatM
open Go.Proofs.YthagenodiofgnaaGreat.Inv (natOf natOf_eq len_pos Rat3 not_slice not_bool frz)
set_option linter.unusedVariables false
def IsRt (w : World) (q : Rat) (v : Value) : Prop := ∃ A c A' c', v = .agg #[.bool (decide (q < 0)), .slice A (natL q.num.natAbs).length c, .slice A' (natL q.den).length c'] ∧ RdU w w.heap.size A (natL q.num.natAbs) ∧ RdU w w.heap.size A' (natL q.den)
theorem IsRt.below {w w' : World} {q : Rat} {v : Value} (h : IsRt w q v) (hb : Below w.heap.size w w') : IsRt w' q v := by
 obtain ⟨A, c, A', c', e, h1, h2⟩ := h
 exact ⟨A, c, A', c', e, (h1.below hb (Nat.le_refl _)).more hb.size, (h2.below hb (Nat.le_refl _)).more hb.size⟩
theorem RV.is {q : Rat} {w w' : World} {e : Ending} (h : RV q w e w') : ∃ v, e = .returned v ∧ IsRt w' q v ∧ Below w.heap.size w w' := by
 obtain ⟨A, c, A', c', e1, h1, h2, h3⟩ := h
 exact ⟨_, e1, ⟨A, c, A', c', rfl, h1, h2⟩, h3⟩
theorem IsRt.ret {q : Rat} {w w' : World} {v : Value} (h : IsRt w' q v) (hb : Below w.heap.size w w') : RV q w (.returned v) w' := by
 obtain ⟨A, c, A', c', rfl, h1, h2⟩ := h
 exact ⟨A, c, A', c', rfl, h1, h2, hb⟩
theorem szR_parts {q : Rat} {m : Nat} (h : szR q ≤ m) : (natL q.num.natAbs).length ≤ m ∧ (natL q.den).length ≤ m := by
 unfold szR at h; omega
theorem ratPlus {q r : Rat} {v u : Value} (w : World) (hv : IsRt w q v) (hu : IsRt w r u) (hq : szR q ≤ 200000) (hr : szR r ≤ 200000) : Calls Tryz.prog 60 #[v, u] w (RV (q + r) w) := by
 obtain ⟨A1, c1, A2, c2, rfl, h1, h2⟩ := hv
 obtain ⟨A3, c3, A4, c4, rfl, h3, h4⟩ := hu
 have := rtPlus (decide (q < 0)) (decide (r < 0)) q.num.natAbs q.den r.num.natAbs r.den A1 A2 A3 A4 c1 c2 c3 c4 w h1 h2 h3 h4 (szR_parts hq).1 (szR_parts hq).2 (szR_parts hr).1 (szR_parts hr).2 q.den_pos r.den_pos
 rw [qv_self, qv_self] at this
 exact this
theorem ratTimes {q r : Rat} {v u : Value} (w : World) (hv : IsRt w q v) (hu : IsRt w r u) (hq : szR q ≤ 200000) (hr : szR r ≤ 200000) : Calls Tryz.prog 69 #[v, u] w (RV (q * r) w) := by
 obtain ⟨A1, c1, A2, c2, rfl, h1, h2⟩ := hv
 obtain ⟨A3, c3, A4, c4, rfl, h3, h4⟩ := hu
 have g1 := szR_parts hq
 have g2 := szR_parts hr
 have := rtTimes (decide (q < 0)) (decide (r < 0)) q.num.natAbs q.den r.num.natAbs r.den A1 A2 A3 A4 c1 c2 c3 c4 w h1 h2 h3 h4 (by omega) (by omega) (by omega) (by omega) q.den_pos r.den_pos
 rw [qv_self, qv_self] at this
 exact this
theorem rtOpp (s : Bool) (k1 k2 c1 c2 : Nat) (A1 A2 : Option Addr) (w : World) : Calls Tryz.prog 59 #[.agg #[.bool s, .slice A1 k1 c1, .slice A2 k2 c2]] w fun e w' => e = .returned (.agg #[.bool (!s && decide (0 < k1)), .slice A1 k1 c1, .slice A2 k2 c2]) ∧ Below w.heap.size w w' := by
 rcases Nat.eq_zero_or_pos k1 with rfl | hk
 ·cases s with
  | false =>
   go_enter Tryz.func59, Tryz.ntmps59
   go_wp2
   refine bodyPost_ret (v := .agg #[.bool false, .slice A1 0 c1, .slice A2 k2 c2]) (by simp [results, Tryz.results59, go_sem]) rfl ⟨(by simp [*]), ?_⟩
   exact ((Below.refl _ _).alloc (Nat.le_refl _) _).alloc (by simp) _
  | true =>
   go_enter Tryz.func59, Tryz.ntmps59
   go_wp2
   refine bodyPost_ret (v := .agg #[.bool false, .slice A1 0 c1, .slice A2 k2 c2]) (by simp [results, Tryz.results59, go_sem]) rfl ⟨(by simp [*]), ?_⟩
   exact ((Below.refl _ _).alloc (Nat.le_refl _) _).alloc (by simp) _
 ·cases s with
  | false =>
   go_enter Tryz.func59, Tryz.ntmps59
   go_wp2
   refine bodyPost_ret (v := .agg #[.bool true, .slice A1 k1 c1, .slice A2 k2 c2]) (by simp [results, Tryz.results59, go_sem]) rfl ⟨(by simp [*]), ?_⟩
   exact ((Below.refl _ _).alloc (Nat.le_refl _) _).alloc (by simp) _
  | true =>
   go_enter Tryz.func59, Tryz.ntmps59
   go_wp2
   refine bodyPost_ret (v := .agg #[.bool false, .slice A1 k1 c1, .slice A2 k2 c2]) (by simp [results, Tryz.results59, go_sem]) rfl ⟨(by simp [*]), ?_⟩
   exact ((Below.refl _ _).alloc (Nat.le_refl _) _).alloc (by simp) _
theorem neg_sign (q : Rat) : (!decide (q < 0) && decide (0 < (natL q.num.natAbs).length)) = decide (-q < 0) := by
 have h1 : 0 < (natL q.num.natAbs).length ↔ q ≠ 0 := by
  constructor
  ·intro h e
   rw [e] at h
   have : (natL (0 : Rat).num.natAbs).length = 0 := by rw [show (0 : Rat).num.natAbs = 0 from rfl, natL_zero]; rfl
   omega
  ·intro h
   refine len_pos (Nat.pos_of_ne_zero fun e => h ((zero_iff q).2 e))
 rw [Bool.eq_iff_iff]
 simp only [Bool.and_eq_true, Bool.not_eq_true', decide_eq_false_iff_not, decide_eq_true_eq, h1]
 constructor
 ·rintro ⟨g1, g2⟩; grind
 ·intro g; exact ⟨by grind, by grind⟩
theorem ratOpp {q : Rat} {v : Value} (w : World) (hv : IsRt w q v) : Calls Tryz.prog 59 #[v] w (RV (-q) w) := by
 obtain ⟨A1, c1, A2, c2, rfl, h1, h2⟩ := hv
 refine (rtOpp (decide (q < 0)) (natL q.num.natAbs).length (natL q.den).length c1 c2 A1 A2 w).mono ?_
 rintro e w' ⟨rfl, hb⟩
 rw [neg_sign]
 refine ⟨A1, c1, A2, c2, ?_, ?_, ?_, hb⟩
 ·rw [Rat.neg_num, Int.natAbs_neg, Rat.neg_den]
 ·rw [Rat.neg_num, Int.natAbs_neg]
  exact (h1.below hb (Nat.le_refl _)).more hb.size
 ·rw [Rat.neg_den]
  exact (h2.below hb (Nat.le_refl _)).more hb.size
end Go.Proofs.YthagenodiofgnaaGreat.Ratio
namespace Go.Proofs.YthagenodiofgnaaGreat.Ratio
open Go.RowKit Go.Proofs.YthagenodiofgnaaGreat Go.Proofs.YthagenodiofgnaaGreat.Base Go.Proofs.YthagenodiofgnaaGreat.Mem Go.Proofs.YthagenodiofgnaaGreat.NatM Go.Proofs.YthagenodiofgnaaGreat.Nat32 Go.Proofs.YthagenodiofgnaaGreat.RatM
open Go.Proofs.YthagenodiofgnaaGreat.Inv (natOf natOf_eq len_pos Rat3 not_slice not_bool frz)
set_option linter.unusedVariables false
theorem szR_neg (q : Rat) : szR (-q) = szR q := by
 unfold szR
 rw [Rat.neg_num, Int.natAbs_neg, Rat.neg_den]
set_option maxHeartbeats 4000000 in
set_option maxRecDepth 100000 in
theorem ratMinus {q0 r : Rat} {v u : Value} (w : World) (hv : IsRt w q0 v) (hu : IsRt w r u) (hq : szR q0 ≤ 200000) (hr : szR r ≤ 200000) : Calls Tryz.prog 90 #[v, u] w (RV (q0 - r) w) := by
 obtain ⟨q, hqq⟩ : ∃ q, q = q0 + -r := ⟨_, rfl⟩
 rw [Rat.sub_eq_add_neg, ← hqq]
 obtain ⟨A1, c1, A2, c2, rfl, h1, h2⟩ := hv
 obtain ⟨A3, c3, A4, c4, rfl, h3, h4⟩ := hu
 have HQ := Lib.hid (TF.start w (decide (q0 < 0)) (decide (r < 0)) (.slice A1 (natL q0.num.natAbs).length c1) (.slice A2 (natL q0.den).length c2) (.slice A3 (natL r.num.natAbs).length c3) (.slice A4 (natL r.den).length c4))
 obtain ⟨T, hT⟩ : ∃ T : World → Prop, T = TF w (decide (q0 < 0)) (decide (r < 0)) (.slice A1 (natL q0.num.natAbs).length c1) (.slice A2 (natL q0.den).length c2) (.slice A3 (natL r.num.natAbs).length c3) (.slice A4 (natL r.den).length c4) := ⟨_, rfl⟩
 have rd : ∀ {X : World} {A : Option Addr} {xs : List Nat}, RdU w w.heap.size A xs → T X → RdU X X.heap.size A xs := fun h hX => by
  rw [hT] at hX
  exact (h.below hX.2.2.2.1 (Nat.le_refl _)).more hX.2.2.2.1.size
 have TB : ∀ {X Y : World}, T X → Below X.heap.size X Y → T Y := fun hX hb => by rw [hT] at hX ⊢; exact hX.below hb
 have HO : Hid (∀ X, T X → Calls Tryz.prog 59 #[.agg #[.bool (decide (r < 0)), .slice A3 (natL r.num.natAbs).length c3, .slice A4 (natL r.den).length c4]] X fun e w' => ∃ A c A' c', e = .returned (.agg #[.bool (decide (-r < 0)), .slice A (natL (-r).num.natAbs).length c, .slice A' (natL (-r).den).length c']) ∧ IsRt w' (-r) (.agg #[.bool (decide (-r < 0)), .slice A (natL (-r).num.natAbs).length c, .slice A' (natL (-r).den).length c']) ∧ T w') := Lib.hid fun X hX => by
  refine (ratOpp X ⟨A3, c3, A4, c4, rfl, rd h3 hX, rd h4 hX⟩).mono ?_
  rintro e w' ⟨A, c, A', c', rfl, g1, g2, g3⟩
  exact ⟨A, c, A', c', rfl, ⟨A, c, A', c', rfl, g1, g2⟩, TB hX g3⟩
 have HP : Hid (∀ X v2, T X → IsRt X (-r) v2 → Calls Tryz.prog 60 #[.agg #[.bool (decide (q0 < 0)), .slice A1 (natL q0.num.natAbs).length c1, .slice A2 (natL q0.den).length c2], v2] X fun e w' => RV q X e w' ∧ T w') := Lib.hid fun X v2 hX hv2 => by
  have e := ratPlus X ⟨A1, c1, A2, c2, rfl, rd h1 hX, rd h2 hX⟩ hv2 hq (by rw [szR_neg]; exact hr)
  rw [← hqq] at e
  refine e.mono fun e w' h => ⟨h, ?_⟩
  obtain ⟨_, _, _, _, _, _, _, hb⟩ := h
  exact TB hX hb
 rw [← hT] at HQ
 have HT : Hid (∀ X, T X → TF w (decide (q0 < 0)) (decide (r < 0)) (.slice A1 (natL q0.num.natAbs).length c1) (.slice A2 (natL q0.den).length c2) (.slice A3 (natL r.num.natAbs).length c3) (.slice A4 (natL r.den).length c4) X) := Lib.hid fun X h => by rw [← hT]; exact h
 clear rd h1 h2 h3 h4 hT TB hqq hq hr
 generalize decide (q0 < 0) = s at *
 generalize decide (r < 0) = s' at *
 obtain ⟨nr, hnr⟩ : ∃ nr, nr = -r := ⟨_, rfl⟩
 rw [← hnr] at HO HP
 clear hnr
 generalize decide (nr < 0) = s2 at *
 generalize (natL nr.num.natAbs).length = k5 at *
 generalize (natL nr.den).length = k6 at *
 generalize (natL q0.num.natAbs).length = k1 at *
 generalize (natL q0.den).length = k2 at *
 generalize (natL r.num.natAbs).length = k3 at *
 generalize (natL r.den).length = k4 at *
 go_enter Tryz.func90, Tryz.ntmps90
 go_wp2_with fail
 have hq0 := HT.out _ HQ.out
 have a0 := (hq0).1.c0; have a1 := (hq0).1.c1; have a2 := (hq0).1.c2; have b0 := (hq0).2.1.c0; have b1 := (hq0).2.1.c1; have b2 := (hq0).2.1.c2; have p0 := (hq0).2.2.1.c0; have p1 := (hq0).2.2.1.c1; have p2 := (hq0).2.2.1.c2; have pf0 := (hq0).2.2.1.f0; have pf1 := (hq0).2.2.1.f1; have pf2 := (hq0).2.2.1.f2
 clear hq0
 go_region_held3 (fun w' => w'.cell? ⟨w.heap.size, 0, none⟩ = some (.bool s) ∧ w'.cell? ⟨w.heap.size, 1, none⟩ = some (.slice A1 k1 c1) ∧ w'.cell? ⟨w.heap.size, 2, none⟩ = some (.slice A2 k2 c2) ∧ w'.cell? ⟨w.heap.size + 1, 0, none⟩ = some (.bool s') ∧ w'.cell? ⟨w.heap.size + 1, 1, none⟩ = some (.slice A3 k3 c3) ∧ w'.cell? ⟨w.heap.size + 1, 2, none⟩ = some (.slice A4 k4 c4))
  (first | exact ⟨a0, a1, a2, b0, b1, b2⟩ | exact ⟨(((HQ3.out.1.far (by omega) _).far (by omega) _).far (by omega) _).c0, (((HQ3.out.1.far (by omega) _).far (by omega) _).far (by omega) _).c1, (((HQ3.out.1.far (by omega) _).far (by omega) _).far (by omega) _).c2, (((HQ3.out.2.1.far (by omega) _).far (by omega) _).far (by omega) _).c0, (((HQ3.out.2.1.far (by omega) _).far (by omega) _).far (by omega) _).c1, (((HQ3.out.2.1.far (by omega) _).far (by omega) _).far (by omega) _).c2⟩ | go_keep | exact ⟨a0, a1, a2, b0, b1, b2⟩ | exact ⟨(((HQ3.out.1.far (by omega) _).far (by omega) _).far (by omega) _).c0, (((HQ3.out.1.far (by omega) _).far (by omega) _).far (by omega) _).c1, (((HQ3.out.1.far (by omega) _).far (by omega) _).far (by omega) _).c2, (((HQ3.out.2.1.far (by omega) _).far (by omega) _).far (by omega) _).c0, (((HQ3.out.2.1.far (by omega) _).far (by omega) _).far (by omega) _).c1, (((HQ3.out.2.1.far (by omega) _).far (by omega) _).far (by omega) _).c2⟩)
  (first
   | (go_at_call 60; refine (HP.out _ _ HQ1.out HR1.out).mono ?_; rintro e w3 ⟨⟨A7, c7, A8, c8, rfl, hr7, hr8, hb3⟩, hq3⟩; have HQ3 := Lib.hid (HT.out _ hq3); have Hr7 := Lib.hid hr7; have Hr8 := Lib.hid hr8; clear hr7 hr8 hb3 a0 a1 a2 b0 b1 b2 p0 p1 p2 pf0 pf1 pf2; have a0 := (HQ3.out).1.c0; have a1 := (HQ3.out).1.c1; have a2 := (HQ3.out).1.c2; have b0 := (HQ3.out).2.1.c0; have b1 := (HQ3.out).2.1.c1; have b2 := (HQ3.out).2.1.c2; have p0 := (HQ3.out).2.2.1.c0; have p1 := (HQ3.out).2.2.1.c1; have p2 := (HQ3.out).2.2.1.c2; have pf0 := (HQ3.out).2.2.1.f0; have pf1 := (HQ3.out).2.2.1.f1; have pf2 := (HQ3.out).2.2.1.f2)
   | (go_at_call 59; refine (HO.out _ HQ.out).mono ?_; rintro e w1 ⟨A5, c5, A6, c6, rfl, hr1, hq1⟩; have HR1 := Lib.hid hr1; have HQ1 := Lib.hid hq1; have hq1 := HT.out _ hq1; clear hr1 a0 a1 a2 b0 b1 b2 p0 p1 p2 pf0 pf1 pf2; have a0 := (hq1).1.c0; have a1 := (hq1).1.c1; have a2 := (hq1).1.c2; have b0 := (hq1).2.1.c0; have b1 := (hq1).2.1.c1; have b2 := (hq1).2.1.c2; have p0 := (hq1).2.2.1.c0; have p1 := (hq1).2.2.1.c1; have p2 := (hq1).2.2.1.c2; have pf0 := (hq1).2.2.1.f0; have pf1 := (hq1).2.2.1.f1; have pf2 := (hq1).2.2.1.f2; clear hq1))
 all_goals
  obtain ⟨m6, m7, m8, HR⟩ := rt_store (c1 := c7) (c2 := c8) (decide (q < 0)) HQ3.out.2.2.1 Hr7.out Hr8.out HQ3.out.2.2.2.1 (by omega)
  have HRH := Lib.hid HR
  have m80 := m8.c0
  have m81 := m8.c1
  have m82 := m8.c2
  clear HR m6 m7 m8
  go_wp2
  refine bodyPost_ret (v := .agg #[.bool (decide (q < 0)), .slice A7 (natL q.num.natAbs).length c7, .slice A8 (natL q.den).length c8]) (by simp [results, Tryz.results90, go_sem, m80, m81, m82]) rfl HRH.out
end Go.Proofs.YthagenodiofgnaaGreat.Ratio
namespace Go.Proofs.YthagenodiofgnaaGreat.Ratio
open Go.RowKit Go.Proofs.YthagenodiofgnaaGreat Go.Proofs.YthagenodiofgnaaGreat.Base Go.Proofs.YthagenodiofgnaaGreat.Mem Go.Proofs.YthagenodiofgnaaGreat.NatM Go.Proofs.YthagenodiofgnaaGreat.Nat32 Go.Proofs.YthagenodiofgnaaGreat.RatM
open Go.Proofs.YthagenodiofgnaaGreat.Inv (natOf natOf_eq len_pos Rat3 not_slice not_bool frz)
set_option linter.unusedVariables false
theorem inv_parts {r : Rat} (h : r ≠ 0) : (r⁻¹).num.natAbs = r.den ∧ (r⁻¹).den = r.num.natAbs ∧ decide (r⁻¹ < 0) = decide (r < 0) := by
 have hn : r.num ≠ 0 := fun e => h (Rat.num_eq_zero.1 e)
 have h1 : (r⁻¹).num = r.num.sign * r.den := Rat.num_inv r
 refine ⟨?_, ?_, ?_⟩
 ·rw [h1, Int.natAbs_mul, Int.natAbs_sign, if_neg hn, Nat.one_mul]
  exact Int.natAbs_natCast _
 ·rw [Rat.den_inv, if_neg hn]
 ·have hd : (0 : Int) < (r.den : Int) := by have := r.den_pos; omega
  have h2 : r⁻¹ < 0 ↔ r < 0 := by
   rw [neg_iff, neg_iff, h1]
   constructor
   ·intro g
    refine Classical.byContradiction fun hc => ?_
    have hp : 0 < r.num := by omega
    rw [Int.sign_eq_one_of_pos hp, Int.one_mul] at g
    omega
   ·intro g
    rw [Int.sign_eq_neg_one_of_neg g]
    omega
  by_cases g : r < 0
  ·rw [decide_eq_true g, decide_eq_true (h2.2 g)]
  ·rw [decide_eq_false g, decide_eq_false fun e => g (h2.1 e)]
theorem TF.start0 (w : World) (s s' : Bool) (v1 v2 v3 v4 : Value) :
  TF w s s' v1 v2 v3 v4 (((w.alloc (.cells #[.bool s, v1, v2] 82)).alloc (.cells #[.bool s', v3, v4] 82)).alloc (.cells #[.bool false, .slice none 0 0, .slice none 0 0] 82)) := by
 have r1 := Rat3.new w (.bool s) v1 v2 82
 have r2 := Rat3.new (w.alloc (.cells #[.bool s, v1, v2] 82)) (.bool s') v3 v4 82
 have r3 := Rat3.new ((w.alloc (.cells #[.bool s, v1, v2] 82)).alloc (.cells #[.bool s', v3, v4] 82)) (.bool false) (.slice none 0 0) (.slice none 0 0) 82
 simp only [World.size_alloc] at r2 r3
 have b2 : Below (w.heap.size + 1) (w.alloc (.cells #[.bool s, v1, v2] 82)) (((w.alloc (.cells #[.bool s, v1, v2] 82)).alloc (.cells #[.bool s', v3, v4] 82)).alloc (.cells #[.bool false, .slice none 0 0, .slice none 0 0] 82)) := ((Below.refl _ _).alloc (by simp) _).alloc (by simp) _
 have b3 : Below (w.heap.size + 1 + 1) ((w.alloc (.cells #[.bool s, v1, v2] 82)).alloc (.cells #[.bool s', v3, v4] 82)) (((w.alloc (.cells #[.bool s, v1, v2] 82)).alloc (.cells #[.bool s', v3, v4] 82)).alloc (.cells #[.bool false, .slice none 0 0, .slice none 0 0] 82)) := (Below.refl _ _).alloc (by simp) _
 refine ⟨r1.below b2 (Nat.lt_succ_self _), r2.below b3 (Nat.lt_succ_self _), r3, ?_, by simp⟩
 exact (((Below.refl _ _).alloc (Nat.le_refl _) _).alloc (by simp) _).alloc (by simp; omega) _
set_option maxHeartbeats 4000000 in
set_option maxRecDepth 100000 in
theorem ratOver {q0 r : Rat} {v u : Value} (w : World) (hv : IsRt w q0 v) (hu : IsRt w r u) (hq : szR q0 ≤ 200000) (hr : szR r ≤ 200000) (hr0 : r ≠ 0) : Calls Tryz.prog 92 #[v, u] w (RV (q0 * r⁻¹) w) := by
 obtain ⟨q, hqq⟩ : ∃ q, q = q0 * r⁻¹ := ⟨_, rfl⟩
 rw [← hqq]
 obtain ⟨A1, c1, A2, c2, rfl, h1, h2⟩ := hv
 obtain ⟨A3, c3, A4, c4, rfl, h3, h4⟩ := hu
 have hq0 := TF.start0 w (decide (q0 < 0)) (decide (r < 0)) (.slice A1 (natL q0.num.natAbs).length c1) (.slice A2 (natL q0.den).length c2) (.slice A3 (natL r.num.natAbs).length c3) (.slice A4 (natL r.den).length c4)
 obtain ⟨W3, hW3⟩ : ∃ W3, W3 = (((w.alloc (.cells #[.bool (decide (q0 < 0)), .slice A1 (natL q0.num.natAbs).length c1, .slice A2 (natL q0.den).length c2] 82)).alloc (.cells #[.bool (decide (r < 0)), .slice A3 (natL r.num.natAbs).length c3, .slice A4 (natL r.den).length c4] 82)).alloc (.cells #[.bool false, .slice none 0 0, .slice none 0 0] 82)) := ⟨_, rfl⟩
 rw [← hW3] at hq0
 have rd : ∀ {A : Option Addr} {xs : List Nat}, RdU w w.heap.size A xs → RdU W3 W3.heap.size A xs := fun h => (h.below hq0.2.2.2.1 (Nat.le_refl _)).more hq0.2.2.2.1.size
 obtain ⟨i1, i2, i3⟩ := inv_parts hr0
 have HC := ratTimes W3 (q := q0) (r := r⁻¹) (v := .agg #[.bool (decide (q0 < 0)), .slice A1 (natL q0.num.natAbs).length c1, .slice A2 (natL q0.den).length c2]) (u := .agg #[.bool (decide (r < 0)), .slice A4 (natL r.den).length c4, .slice A3 (natL r.num.natAbs).length c3]) ⟨A1, c1, A2, c2, rfl, rd h1, rd h2⟩ ⟨A4, c4, A3, c3, by rw [i1, i2, i3], by rw [i1]; exact rd h4, by rw [i2]; exact rd h3⟩ hq (by unfold szR at hr ⊢; rw [i1, i2]; omega)
 rw [← hqq] at HC
 have HC := Lib.hid HC
 have HT := Lib.hid hq0
 have HW3 := Lib.hid hW3
 clear rd h1 h2 h3 h4 hqq hq hr hr0 i1 i2 i3 hq0 hW3
 generalize decide (q0 < 0) = s at *
 generalize decide (r < 0) = s' at *
 generalize (natL q0.num.natAbs).length = k1 at *
 generalize (natL q0.den).length = k2 at *
 generalize (natL r.num.natAbs).length = k3 at *
 generalize (natL r.den).length = k4 at *
 go_enter Tryz.func92, Tryz.ntmps92
 go_wp2_with fail
 rw [← HW3.out]
 refine HC.out.mono ?_
 rintro e w3 ⟨A7, c7, A8, c8, rfl, hr7, hr8, hb3⟩
 have HQ3 := Lib.hid (HT.out.below hb3)
 have Hr7 := Lib.hid hr7
 have Hr8 := Lib.hid hr8
 clear hr7 hr8 hb3
 have a0 := (HQ3.out).1.c0; have a1 := (HQ3.out).1.c1; have a2 := (HQ3.out).1.c2; have b0 := (HQ3.out).2.1.c0; have b1 := (HQ3.out).2.1.c1; have b2 := (HQ3.out).2.1.c2; have p0 := (HQ3.out).2.2.1.c0; have p1 := (HQ3.out).2.2.1.c1; have p2 := (HQ3.out).2.2.1.c2; have pf0 := (HQ3.out).2.2.1.f0; have pf1 := (HQ3.out).2.2.1.f1; have pf2 := (HQ3.out).2.2.1.f2
 obtain ⟨m6, m7, m8, HR⟩ := rt_store (c1 := c7) (c2 := c8) (decide (q < 0)) HQ3.out.2.2.1 Hr7.out Hr8.out HQ3.out.2.2.2.1 (by omega)
 have HRH := Lib.hid HR
 have m80 := m8.c0
 have m81 := m8.c1
 have m82 := m8.c2
 clear HR m6 m7 m8
 go_wp2
 refine bodyPost_ret (v := .agg #[.bool (decide (q < 0)), .slice A7 (natL q.num.natAbs).length c7, .slice A8 (natL q.den).length c8]) (by simp [results, Tryz.results92, go_sem, m80, m81, m82]) rfl HRH.out
end Go.Proofs.YthagenodiofgnaaGreat.Ratio
namespace Go.Proofs.YthagenodiofgnaaGreat.Ratio
open Go.RowKit Go.Proofs.YthagenodiofgnaaGreat Go.Proofs.YthagenodiofgnaaGreat.Base Go.Proofs.YthagenodiofgnaaGreat.Mem Go.Proofs.YthagenodiofgnaaGreat.NatM Go.Proofs.YthagenodiofgnaaGreat.Nat32 Go.Proofs.YthagenodiofgnaaGreat.RatM
open Go.Proofs.YthagenodiofgnaaGreat.Inv (natOf natOf_eq len_pos Rat3 not_slice not_bool frz)
set_option linter.unusedVariables false
theorem rtZero (s : Bool) (k1 k2 c1 c2 : Nat) (A1 A2 : Option Addr) (w : World) : Calls Tryz.prog 93 #[.agg #[.bool s, .slice A1 k1 c1, .slice A2 k2 c2]] w fun e w' => e = .returned (.bool (decide (k1 = 0))) ∧ Below w.heap.size w w' := by
 have hb := (Below.refl w.heap.size w).alloc (Nat.le_refl _) (.cells #[.bool s, .slice A1 k1 c1, .slice A2 k2 c2] 82)
 have HB := Lib.hid hb
 clear hb
 rcases Nat.eq_zero_or_pos k1 with rfl | hk
 ·go_enter Tryz.func93, Tryz.ntmps93
  go_wp2
  go_ret
  exact ⟨ret_bool (by simp), HB.out⟩
 ·have hk0 : ((k1 : Int) == 0) = false := by simp only [beq_eq_false_iff_ne]; omega
  have hk1 : decide (k1 = 0) = false := decide_eq_false (by omega)
  go_enter Tryz.func93, Tryz.ntmps93
  go_wp2
  go_ret
  exact ⟨ret_bool (by first | exact hk1.symm | (simp; omega)), HB.out⟩
theorem zero_len (q : Rat) : (natL q.num.natAbs).length = 0 ↔ q = 0 := by
 constructor
 ·intro h
  refine Classical.byContradiction fun hq => ?_
  have := len_pos (Nat.pos_of_ne_zero fun e => hq ((zero_iff q).2 e))
  omega
 ·intro h
  rw [h, show (0 : Rat).num.natAbs = 0 from rfl, natL_zero]; rfl
theorem ratZero {q : Rat} {v : Value} (w : World) (hv : IsRt w q v) : Calls Tryz.prog 93 #[v] w fun e w' => e = .returned (.bool (decide (q = 0))) ∧ Below w.heap.size w w' := by
 obtain ⟨A1, c1, A2, c2, rfl, _, _⟩ := hv
 have := rtZero (decide (q < 0)) (natL q.num.natAbs).length (natL q.den).length c1 c2 A1 A2 w
 rw [show decide ((natL q.num.natAbs).length = 0) = decide (q = 0) by simp only [zero_len]] at this
 exact this
def cmpQ (q r : Rat) : Int := if q = r then 0 else if q < r then -1 else 1
set_option maxHeartbeats 2000000 in
set_option maxRecDepth 100000 in
theorem ratCompare {q r : Rat} {v u : Value} (w : World) (hv : IsRt w q v) (hu : IsRt w r u) (hq : szR q ≤ 200000) (hr : szR r ≤ 200000) : Calls Tryz.prog 46 #[v, u] w fun e w' => e = .returned (.int .i64 (cmpQ q r)) ∧ Below w.heap.size w w' := by
 have hb0 : ∀ v1 v2 v3 u1 u2 u3 : Value, Below w.heap.size w ((w.alloc (.cells #[v1, v2, v3] 82)).alloc (.cells #[u1, u2, u3] 82)) := fun _ _ _ _ _ _ => ((Below.refl _ _).alloc (Nat.le_refl _) _).alloc (by simp) _
 obtain ⟨W2, hW2, bW⟩ : ∃ W2, (∃ A1 c1 A2 c2 A3 c3 A4 c4, v = .agg #[.bool (decide (q < 0)), .slice A1 (natL q.num.natAbs).length c1, .slice A2 (natL q.den).length c2] ∧ u = .agg #[.bool (decide (r < 0)), .slice A3 (natL r.num.natAbs).length c3, .slice A4 (natL r.den).length c4] ∧ W2 = (w.alloc (.cells #[.bool (decide (q < 0)), .slice A1 (natL q.num.natAbs).length c1, .slice A2 (natL q.den).length c2] 82)).alloc (.cells #[.bool (decide (r < 0)), .slice A3 (natL r.num.natAbs).length c3, .slice A4 (natL r.den).length c4] 82)) ∧ Below w.heap.size w W2 := by
  obtain ⟨A1, c1, A2, c2, e1, _, _⟩ := hv
  obtain ⟨A3, c3, A4, c4, e2, _, _⟩ := hu
  exact ⟨_, ⟨A1, c1, A2, c2, A3, c3, A4, c4, e1, e2, rfl⟩, hb0 _ _ _ _ _ _⟩
 have HM := Lib.hid (ratMinus W2 (hv.below bW) (hu.below bW) hq hr)
 obtain ⟨A1, c1, A2, c2, A3, c3, A4, c4, rfl, rfl, hW⟩ := hW2
 have HW := Lib.hid hW
 have HB := Lib.hid bW
 have hc : cmpQ q r = if q - r = 0 then 0 else if q - r < 0 then -1 else 1 := by
  unfold cmpQ
  have h1 : q - r = 0 ↔ q = r := by constructor <;> intro h <;> grind
  have h2 : q - r < 0 ↔ q < r := by constructor <;> intro h <;> grind
  simp only [h1, h2]
 have HC := Lib.hid hc
 clear hW bW hv hu hq hr hb0 hc
 generalize cmpQ q r = cv at *
 generalize q - r = d at *
 generalize decide (q < 0) = s at *
 generalize decide (r < 0) = s' at *
 generalize (natL q.num.natAbs).length = k1 at *
 generalize (natL q.den).length = k2 at *
 generalize (natL r.num.natAbs).length = k3 at *
 generalize (natL r.den).length = k4 at *
 go_enter Tryz.func46, Tryz.ntmps46
 go_wp2_with fail
 rw [← HW.out]
 refine HM.out.mono ?_
 rintro e w3 ⟨A5, c5, A6, c6, rfl, h5, h6, hb3⟩
 have HB3 := Lib.hid (HB.out.trans (hb3.mono HB.out.size))
 have HZ := Lib.hid (fun W => rtZero (decide (d < 0)) (natL d.num.natAbs).length (natL d.den).length c5 c6 A5 A6 W)
 have HZL : Hid (decide ((natL d.num.natAbs).length = 0) = decide (d = 0)) := Lib.hid (by simp only [zero_len])
 rw [HZL.out] at HZ
 clear h5 h6 hb3
 go_wp2_with fail
 refine (HZ.out _).mono ?_
 rintro e w4 ⟨rfl, hb4⟩
 have HB4 := Lib.hid ((HB3.out.alloc HB3.out.size (.cells #[.bool (decide (d < 0)), .slice A5 (natL d.num.natAbs).length c5, .slice A6 (natL d.den).length c6] 82)).trans (hb4.mono (by have := HB3.out.size; simp; omega)))
 have d0 : w4.cell? ⟨w3.heap.size, 0, none⟩ = some (.bool (decide (d < 0))) := box_cells hb4 0
 clear hb4
 by_cases hz : d = 0
 ·have hzb : decide (d = 0) = true := decide_eq_true hz
  have hcv : cv = 0 := by rw [HC.out, if_pos hz]
  subst hcv
  generalize decide (d < 0) = sd at *
  clear hz
  go_wp2
  go_ret
  exact ⟨rfl, HB4.out⟩
 ·have hzb : decide (d = 0) = false := decide_eq_false hz
  by_cases hl : d < 0
  ·have hlb : decide (d < 0) = true := decide_eq_true hl
   have hcv : cv = -1 := by rw [HC.out, if_neg hz, if_pos hl]
   subst hcv
   clear hz hl
   go_wp2
   go_ret
   exact ⟨rfl, HB4.out⟩
  ·have hlb : decide (d < 0) = false := decide_eq_false hl
   have hcv : cv = 1 := by rw [HC.out, if_neg hz, if_neg hl]
   subst hcv
   clear hz hl
   go_wp2
   go_ret
   exact ⟨rfl, HB4.out⟩
end Go.Proofs.YthagenodiofgnaaGreat.Ratio
namespace Go.Proofs.YthagenodiofgnaaGreat.Src
open Go.RowKit Go.Proofs.YthagenodiofgnaaGreat Go.Proofs.YthagenodiofgnaaGreat.Base Go.Proofs.YthagenodiofgnaaGreat.Mem
set_option linter.unusedVariables false
structure Src (w : World) (p K : Nat) : Prop where
 ex : ∃ (A : Option Addr) (c : Nat) (zs : List Int) (at_ : Nat) (sd : Int), w.cell? ⟨p, 0, none⟩ = some (.slice A zs.length c) ∧ w.cell? ⟨p, 1, none⟩ = some (.int .i64 (at_ : Int)) ∧ w.cell? ⟨p, 2, none⟩ = some (.int .u64 sd) ∧
  (∀ i, w.frozen? ⟨p, i, none⟩ = false) ∧ at_ ≤ K ∧ 0 ≤ sd ∧ sd ≤ 18446744073709551615 ∧ zs.length ≤ 9223372036854775807 ∧ (∀ z ∈ zs, 0 ≤ z ∧ z ≤ 255) ∧ RdB w p A zs
theorem Src.lt {w : World} {p K : Nat} (h : Src w p K) : p < w.heap.size := by
 obtain ⟨A, c, zs, a, sd, h0, _⟩ := h.ex
 exact block_lt_of_cell h0
theorem RdB.keep {w w' : World} {B p : Nat} {A : Option Addr} {zs : List Int} (h : RdB w B A zs) (hB : B ≤ p) (hw : ∀ g, g < B → w'.heap[g]? = w.heap[g]?) : RdB w' B A zs := fun h0 => by
 obtain ⟨b, off, e, hlt, hc⟩ := h h0
 exact ⟨b, off, e, hlt, fun i hi => (World.cell?_of_block (a := ⟨b, off + i, none⟩) (hw b hlt)).trans (hc i hi)⟩
theorem Src.below {w w' : World} {p K : Nat} (h : Src w p K) (hb : Below w.heap.size w w') : Src w' p K := by
 have hp := h.lt
 obtain ⟨A, c, zs, a, sd, h0, h1, h2, hf, h3, h4, h5, h6, h7, h8⟩ := h.ex
 exact ⟨A, c, zs, a, sd, (hb.cell (p := ⟨p, 0, none⟩) hp).trans h0, (hb.cell (p := ⟨p, 1, none⟩) hp).trans h1, (hb.cell (p := ⟨p, 2, none⟩) hp).trans h2, fun i => (hb.frozen (p := ⟨p, i, none⟩) hp).trans (hf i), h3, h4, h5, h6, h7, h8.below hb (by omega)⟩
theorem Src.kept {w w' : World} {p K : Nat} {row : Option Nat} (h : Src w p K) (hg : w.grownBy w' row) (hr : ∀ g, row = some g → p < g) : Src w' p K := by
 have hp := h.lt
 have hk : ∀ g, g ≤ p → w'.heap[g]? = w.heap[g]? := fun g hgp => hg.block g (by omega) fun e => by have := hr g e.symm; omega
 obtain ⟨A, c, zs, a, sd, h0, h1, h2, hf, h3, h4, h5, h6, h7, h8⟩ := h.ex
 have hc : ∀ i, w'.cell? ⟨p, i, none⟩ = w.cell? ⟨p, i, none⟩ := fun i => World.cell?_of_block (a := ⟨p, i, none⟩) (hk p (Nat.le_refl _))
 exact ⟨A, c, zs, a, sd, (hc 0).trans h0, (hc 1).trans h1, (hc 2).trans h2, fun i => (World.frozen?_of_block (a := ⟨p, i, none⟩) (hk p (Nat.le_refl _))).trans (hf i), h3, h4, h5, h6, h7, RdB.keep h8 (Nat.le_refl _) fun g hg => hk g (by omega)⟩
theorem Src.more {w : World} {p K L : Nat} (h : Src w p K) (hKL : K ≤ L) : Src w p L := by
 obtain ⟨A, c, zs, a, sd, h0, h1, h2, hf, h3, h4⟩ := h.ex
 exact ⟨A, c, zs, a, sd, h0, h1, h2, hf, by omega, h4⟩
theorem grown_setCell (w : World) (a : Addr) (v : Value) : w.grownBy (w.setCell a v) (some a.block) := by
 refine ⟨rfl, rfl, rfl, by simp, fun k hk hne => ?_⟩
 have : k ≠ a.block := fun e => hne (by rw [e])
 simp [World.setCell, Array.getElem?_modify, Ne.symm this]
theorem grown_drewN (w : World) (n : Nat) (row : Option Nat) : w.grownBy (w.drewN n) row := ⟨rfl, rfl, rfl, Nat.le_refl _, fun _ _ _ => rfl⟩
theorem Src.set {w : World} {p K L a2 : Nat} {sd2 : Int} (h : Src w p K) (hL : a2 ≤ L) (hs : 0 ≤ sd2 ∧ sd2 ≤ 18446744073709551615) : Src ((w.setCell ⟨p, 1, none⟩ (.int .i64 (a2 : Int))).setCell ⟨p, 2, none⟩ (.int .u64 sd2)) p L ∧
  w.grownBy ((w.setCell ⟨p, 1, none⟩ (.int .i64 (a2 : Int))).setCell ⟨p, 2, none⟩ (.int .u64 sd2)) (some p) := by
 have hg := grown_trans (grown_setCell w ⟨p, 1, none⟩ (.int .i64 (a2 : Int))) (grown_setCell _ ⟨p, 2, none⟩ (.int .u64 sd2))
 refine ⟨?_, hg⟩
 obtain ⟨A, c, zs, a, sd, h0, h1, h2, hf, h3, h4, h5, h6, h7, h8⟩ := h.ex
 refine ⟨A, c, zs, a2, sd2, ?_, ?_, ?_, fun i => by simpa using hf i, hL, hs.1, hs.2, h6, h7, ?_⟩
 ·rw [World.cell?_setCell_other _ _ _ _ (by simp), World.cell?_setCell_other _ _ _ _ (by simp)]; exact h0
 ·rw [World.cell?_setCell_other _ _ _ _ (by simp)]; exact World.cell?_setCell_same _ _ _ h1
 ·refine World.cell?_setCell_same (u := .int .u64 sd) _ _ _ ?_
  rw [World.cell?_setCell_other _ _ _ _ (by simp)]; exact h2
 ·exact RdB.keep h8 (Nat.le_refl _) fun g hgp => hg.block g (by have := h.lt; omega) fun e => by
   have : g = p := Option.some.inj e
   omega
theorem Src.put {w : World} {p K L a a2 n : Nat} {sd2 : Int} {v : Value} (h : Src w p K) (hv : w.cell? ⟨p, 0, none⟩ = some v) (hL : a2 ≤ L) (hs : 0 ≤ sd2 ∧ sd2 ≤ 18446744073709551615) (w2 : World) (h2 : ((w.drewN n).setCell ⟨p, 1, none⟩ (.int .i64 (a2 : Int))).setCell ⟨p, 2, none⟩ (.int .u64 sd2) = w2) :
  Src w2 p L ∧ w.grownBy w2 (some p) ∧ w2.cell? ⟨p, 0, none⟩ = some v ∧ w2.cell? ⟨p, 1, none⟩ = some (.int .i64 (a2 : Int)) ∧ w2.cell? ⟨p, 2, none⟩ = some (.int .u64 sd2) := by
 have hd : Src (w.drewN n) p K := h.below (below_drewN (Below.refl _ _) n)
 obtain ⟨g1, g2⟩ := hd.set hL hs
 rw [h2] at g1 g2
 refine ⟨g1, grown_trans (grown_drewN w n _) g2, ?_, ?_, ?_⟩
 all_goals subst h2
 ·rw [World.cell?_setCell_other _ _ _ _ (by simp), World.cell?_setCell_other _ _ _ _ (by simp)]; simpa using hv
 ·obtain ⟨A, c, zs, a', sd, _, h1, _⟩ := hd.ex
  rw [World.cell?_setCell_other _ _ _ _ (by simp)]; exact World.cell?_setCell_same _ _ _ h1
 ·obtain ⟨A, c, zs, a', sd, _, _, h1, _⟩ := hd.ex
  refine World.cell?_setCell_same (u := .int .u64 sd) _ _ _ ?_
  rw [World.cell?_setCell_other _ _ _ _ (by simp)]; exact h1
end Go.Proofs.YthagenodiofgnaaGreat.Src
namespace Go.Proofs.YthagenodiofgnaaGreat.Blk
open Go.RowKit Go.Proofs.YthagenodiofgnaaGreat Go.Proofs.YthagenodiofgnaaGreat.Base Go.Proofs.YthagenodiofgnaaGreat.Mem
set_option linter.unusedVariables false
def Blk (w : World) (b : Nat) (t : TypeId) (cs : Array Value) : Prop := w.heap[b]? = some (.cells cs t (0, 0))
section
variable {w w' : World} {b : Nat} {t : TypeId} {cs : Array Value}
theorem Blk.new (w : World) (t : TypeId) (cs : Array Value) : Blk (w.alloc (.cells cs t)) w.heap.size t cs := by
 unfold Blk
 show (w.heap.push _)[w.heap.size]? = _
 simp
theorem Blk.newAt {n : Nat} (t : TypeId) (cs : Array Value) (h : n = w.heap.size) : Blk (w.alloc (.cells cs t)) n t cs := h ▸ Blk.new w t cs
theorem Blk.lt (h : Blk w b t cs) : b < w.heap.size := by
 rcases Nat.lt_or_ge b w.heap.size with hlt | hge
 ·exact hlt
 ·unfold Blk at h; rw [Array.getElem?_eq_none hge] at h; cases h
theorem Blk.cell (h : Blk w b t cs) (i : Nat) : w.cell? ⟨b, i, none⟩ = cs[i]? := Lib.cell_of_heap h i
theorem Blk.at (h : Blk w b t cs) (i : Nat) {v : Value} (hv : cs[i]? = some v) : w.cell? ⟨b, i, none⟩ = some v := (h.cell i).trans hv
theorem Blk.frz (h : Blk w b t cs) (i : Nat) : w.frozen? ⟨b, i, none⟩ = false := Lib.frozen_of_heap h i
theorem Blk.below {B : Nat} (h : Blk w b t cs) (hb : Below B w w') (hB : b < B) : Blk w' b t cs := (hb.block b hB).trans h
theorem Blk.belowS (h : Blk w b t cs) (hb : Below w.heap.size w w') : Blk w' b t cs := h.below hb h.lt
theorem Blk.kept {row : Option Nat} (h : Blk w b t cs) (hg : w.grownBy w' row) (hne : row ≠ some b) : Blk w' b t cs := (hg.block b h.lt fun e => hne e.symm).trans h
theorem Blk.alloc (h : Blk w b t cs) (o : Obj) : Blk (w.alloc o) b t cs := h.belowS ((Below.refl _ _).alloc (Nat.le_refl _) _)
theorem Blk.drewN (h : Blk w b t cs) (n : Nat) : Blk (w.drewN n) b t cs := h
theorem Blk.drew (h : Blk w b t cs) : Blk w.drew b t cs := h
theorem Blk.set (h : Blk w b t cs) (i : Nat) (v : Value) : Blk (w.setCell ⟨b, i, none⟩ v) b t (cs.setIfInBounds i v) := by
 unfold Blk at *
 simp [World.setCell, Array.getElem?_modify, h]
theorem Blk.other (h : Blk w b t cs) {a : Addr} (v : Value) (hne : a.block ≠ b) : Blk (w.setCell a v) b t cs :=
 h.kept (Src.grown_setCell w a v) fun e => hne (Option.some.inj e)
theorem Blk.setTo {cs' : Array Value} (h : Blk w b t cs) (i : Nat) (v : Value) (hc : cs.setIfInBounds i v = cs') : Blk (w.setCell ⟨b, i, none⟩ v) b t cs' := hc ▸ h.set i v
def put3 (w : World) (b : Nat) (v0 v1 v2 : Value) : World := ((w.setCell ⟨b, 0, none⟩ v0).setCell ⟨b, 1, none⟩ v1).setCell ⟨b, 2, none⟩ v2
end
structure Beside (p : Nat) (w w' : World) : Prop where
 os : w'.os = w.os
 tape : w'.tape = w.tape
 output : w'.output = w.output
 size : w.heap.size ≤ w'.heap.size
 same : ∀ q, q < w.heap.size → q ≠ p → w'.heap[q]? = w.heap[q]?
theorem Beside.refl (p : Nat) (w : World) : Beside p w w := ⟨rfl, rfl, rfl, Nat.le_refl _, fun _ _ _ => rfl⟩
theorem Beside.trans {p : Nat} {a b c : World} (h : Beside p a b) (k : Beside p b c) : Beside p a c :=
 ⟨k.os.trans h.os, k.tape.trans h.tape, k.output.trans h.output, Nat.le_trans h.size k.size, fun q h1 h2 => (k.same q (Nat.lt_of_lt_of_le h1 h.size) h2).trans (h.same q h1 h2)⟩
theorem Beside.grown {p : Nat} {w w' : World} (h : w.grownBy w' (some p)) : Beside p w w' := ⟨h.os, h.tape, h.output, h.size, fun q h1 h2 => h.block q h1 fun e => h2 (Option.some.inj e)⟩
theorem Beside.ofBelow {p : Nat} {w w' : World} (h : Below w.heap.size w w') : Beside p w w' := ⟨h.os, h.tape, h.output, h.size, fun q h1 _ => h.block q h1⟩
theorem Beside.below {p B : Nat} {w w' : World} (h : Beside p w w') (hp : B ≤ p) (hB : B ≤ w.heap.size) : Below B w w' := ⟨h.os, h.tape, h.output, h.size, fun q hq => h.same q (by omega) (by omega)⟩
theorem Beside.alloc {p : Nat} {w w' : World} (h : Beside p w w') (o : Obj) : Beside p w (w'.alloc o) := h.trans (Beside.ofBelow ((Below.refl _ _).alloc (Nat.le_refl _) o))
theorem Beside.drewN {p : Nat} {w w' : World} (h : Beside p w w') (n : Nat) : Beside p w (w'.drewN n) := h.trans (Beside.ofBelow (below_drewN (Below.refl _ _) n))
theorem Beside.drew {p : Nat} {w w' : World} (h : Beside p w w') : Beside p w w'.drew := h.drewN 1
theorem Beside.set {p : Nat} {w w' : World} (h : Beside p w w') {a : Addr} (ha : w.heap.size ≤ a.block) (v : Value) : Beside p w (w'.setCell a v) := by
 have g := Src.grown_setCell w' a v
 exact ⟨g.os.trans h.os, g.tape.trans h.tape, g.output.trans h.output, Nat.le_trans h.size g.size, fun q h1 h2 => (g.block q (Nat.lt_of_lt_of_le h1 h.size) fun e => by have := Option.some.inj e; omega).trans (h.same q h1 h2)⟩
theorem Blk.beside {p b : Nat} {t : TypeId} {cs : Array Value} {w w' : World} (h : Blk w b t cs) (hb : Beside p w w') (hne : b ≠ p) : Blk w' b t cs := (hb.same b h.lt hne).trans h
end Go.Proofs.YthagenodiofgnaaGreat.Blk
