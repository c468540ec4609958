/- The program's ratios: differences. -/
import Derived.Test.YtcimmgpmkfbpdaaGreatDoorMgStr06
import Derived.Test.YtcimmgpmkfbpdaaGreatDoorMgStr02
import Derived.Test.YtcimmgpmkfbpdaaGreatDoorMgStr05
namespace Go.Proofs.YtcimmgpmkfbpdaaGreatDoor.Ratio
open Go.RowKit Go.Proofs.YtcimmgpmkfbpdaaGreatDoor Go.Proofs.YtcimmgpmkfbpdaaGreatDoor.Base Go.Proofs.YtcimmgpmkfbpdaaGreatDoor.Mem Go.Proofs.YtcimmgpmkfbpdaaGreatDoor.NatM Go.Proofs.YtcimmgpmkfbpdaaGreatDoor.Nat32 Go.Proofs.YtcimmgpmkfbpdaaGreatDoor.RatM
open Go.Proofs.YtcimmgpmkfbpdaaGreatDoor.Inv (natOf natOf_eq len_pos Rat3 not_slice not_bool frz)
set_option linter.unusedVariables false
theorem szR_neg (q : Rat) : szR (-q) = szR q := by
 unfold szR
 rw [Rat.neg_num, Int.natAbs_neg, Rat.neg_den]
set_option maxHeartbeats 4000000 in
set_option maxRecDepth 100000 in
theorem ratMinus {q0 r : Rat} {v u : Value} (w : World) (hv : IsRt w q0 v) (hu : IsRt w r u) (hq : szR q0 ≤ 200000) (hr : szR r ≤ 200000) : Calls Tryz.prog 107 #[v, u] w (RV (q0 - r) w) := by
 obtain ⟨q, hqq⟩ : ∃ q, q = q0 + -r := ⟨_, rfl⟩
 rw [Rat.sub_eq_add_neg, ← hqq]
 obtain ⟨A1, c1, A2, c2, rfl, h1, h2⟩ := hv
 obtain ⟨A3, c3, A4, c4, rfl, h3, h4⟩ := hu
 have HQ := Lib.hid (TF.start w (decide (q0 < 0)) (decide (r < 0)) (.slice A1 (natL q0.num.natAbs).length c1) (.slice A2 (natL q0.den).length c2) (.slice A3 (natL r.num.natAbs).length c3) (.slice A4 (natL r.den).length c4))
 obtain ⟨T, hT⟩ : ∃ T : World → Prop, T = TF w (decide (q0 < 0)) (decide (r < 0)) (.slice A1 (natL q0.num.natAbs).length c1) (.slice A2 (natL q0.den).length c2) (.slice A3 (natL r.num.natAbs).length c3) (.slice A4 (natL r.den).length c4) := ⟨_, rfl⟩
 have rd : ∀ {X : World} {A : Option Addr} {xs : List Nat}, RdU w w.heap.size A xs → T X → RdU X X.heap.size A xs := fun h hX => by
  rw [hT] at hX
  exact (h.below hX.2.2.2.1 (Nat.le_refl _)).more hX.2.2.2.1.size
 have TB : ∀ {X Y : World}, T X → Below X.heap.size X Y → T Y := fun hX hb => by rw [hT] at hX ⊢; exact hX.below hb
 have HO : Hid (∀ X, T X → Calls Tryz.prog 134 #[.agg #[.bool (decide (r < 0)), .slice A3 (natL r.num.natAbs).length c3, .slice A4 (natL r.den).length c4]] X fun e w' => ∃ A c A' c', e = .returned (.agg #[.bool (decide (-r < 0)), .slice A (natL (-r).num.natAbs).length c, .slice A' (natL (-r).den).length c']) ∧ IsRt w' (-r) (.agg #[.bool (decide (-r < 0)), .slice A (natL (-r).num.natAbs).length c, .slice A' (natL (-r).den).length c']) ∧ T w') := Lib.hid fun X hX => by
  refine (ratOpp X ⟨A3, c3, A4, c4, rfl, rd h3 hX, rd h4 hX⟩).mono ?_
  rintro e w' ⟨A, c, A', c', rfl, g1, g2, g3⟩
  exact ⟨A, c, A', c', rfl, ⟨A, c, A', c', rfl, g1, g2⟩, TB hX g3⟩
 have HP : Hid (∀ X v2, T X → IsRt X (-r) v2 → Calls Tryz.prog 106 #[.agg #[.bool (decide (q0 < 0)), .slice A1 (natL q0.num.natAbs).length c1, .slice A2 (natL q0.den).length c2], v2] X fun e w' => RV q X e w' ∧ T w') := Lib.hid fun X v2 hX hv2 => by
  have e := ratPlus X ⟨A1, c1, A2, c2, rfl, rd h1 hX, rd h2 hX⟩ hv2 hq (by rw [szR_neg]; exact hr)
  rw [← hqq] at e
  refine e.mono fun e w' h => ⟨h, ?_⟩
  obtain ⟨_, _, _, _, _, _, _, hb⟩ := h
  exact TB hX hb
 rw [← hT] at HQ
 have HT : Hid (∀ X, T X → TF w (decide (q0 < 0)) (decide (r < 0)) (.slice A1 (natL q0.num.natAbs).length c1) (.slice A2 (natL q0.den).length c2) (.slice A3 (natL r.num.natAbs).length c3) (.slice A4 (natL r.den).length c4) X) := Lib.hid fun X h => by rw [← hT]; exact h
 clear rd h1 h2 h3 h4 hT TB hqq hq hr
 generalize decide (q0 < 0) = s at *
 generalize decide (r < 0) = s' at *
 obtain ⟨nr, hnr⟩ : ∃ nr, nr = -r := ⟨_, rfl⟩
 rw [← hnr] at HO HP
 clear hnr
 generalize decide (nr < 0) = s2 at *
 generalize (natL nr.num.natAbs).length = k5 at *
 generalize (natL nr.den).length = k6 at *
 generalize (natL q0.num.natAbs).length = k1 at *
 generalize (natL q0.den).length = k2 at *
 generalize (natL r.num.natAbs).length = k3 at *
 generalize (natL r.den).length = k4 at *
 go_enter Tryz.func107, Tryz.ntmps107
 go_wp2_with fail
 have hq0 := HT.out _ HQ.out
 have a0 := (hq0).1.c0; have a1 := (hq0).1.c1; have a2 := (hq0).1.c2; have b0 := (hq0).2.1.c0; have b1 := (hq0).2.1.c1; have b2 := (hq0).2.1.c2; have p0 := (hq0).2.2.1.c0; have p1 := (hq0).2.2.1.c1; have p2 := (hq0).2.2.1.c2; have pf0 := (hq0).2.2.1.f0; have pf1 := (hq0).2.2.1.f1; have pf2 := (hq0).2.2.1.f2
 clear hq0
 go_region_held3 (fun w' => w'.cell? ⟨w.heap.size, 0, none⟩ = some (.bool s) ∧ w'.cell? ⟨w.heap.size, 1, none⟩ = some (.slice A1 k1 c1) ∧ w'.cell? ⟨w.heap.size, 2, none⟩ = some (.slice A2 k2 c2) ∧ w'.cell? ⟨w.heap.size + 1, 0, none⟩ = some (.bool s') ∧ w'.cell? ⟨w.heap.size + 1, 1, none⟩ = some (.slice A3 k3 c3) ∧ w'.cell? ⟨w.heap.size + 1, 2, none⟩ = some (.slice A4 k4 c4))
  (first | exact ⟨a0, a1, a2, b0, b1, b2⟩ | exact ⟨(((HQ3.out.1.far (by omega) _).far (by omega) _).far (by omega) _).c0, (((HQ3.out.1.far (by omega) _).far (by omega) _).far (by omega) _).c1, (((HQ3.out.1.far (by omega) _).far (by omega) _).far (by omega) _).c2, (((HQ3.out.2.1.far (by omega) _).far (by omega) _).far (by omega) _).c0, (((HQ3.out.2.1.far (by omega) _).far (by omega) _).far (by omega) _).c1, (((HQ3.out.2.1.far (by omega) _).far (by omega) _).far (by omega) _).c2⟩ | go_keep | exact ⟨a0, a1, a2, b0, b1, b2⟩ | exact ⟨(((HQ3.out.1.far (by omega) _).far (by omega) _).far (by omega) _).c0, (((HQ3.out.1.far (by omega) _).far (by omega) _).far (by omega) _).c1, (((HQ3.out.1.far (by omega) _).far (by omega) _).far (by omega) _).c2, (((HQ3.out.2.1.far (by omega) _).far (by omega) _).far (by omega) _).c0, (((HQ3.out.2.1.far (by omega) _).far (by omega) _).far (by omega) _).c1, (((HQ3.out.2.1.far (by omega) _).far (by omega) _).far (by omega) _).c2⟩)
  (first
   | (go_at_call 106; refine (HP.out _ _ HQ1.out HR1.out).mono ?_; rintro e w3 ⟨⟨A7, c7, A8, c8, rfl, hr7, hr8, hb3⟩, hq3⟩; have HQ3 := Lib.hid (HT.out _ hq3); have Hr7 := Lib.hid hr7; have Hr8 := Lib.hid hr8; clear hr7 hr8 hb3 a0 a1 a2 b0 b1 b2 p0 p1 p2 pf0 pf1 pf2; have a0 := (HQ3.out).1.c0; have a1 := (HQ3.out).1.c1; have a2 := (HQ3.out).1.c2; have b0 := (HQ3.out).2.1.c0; have b1 := (HQ3.out).2.1.c1; have b2 := (HQ3.out).2.1.c2; have p0 := (HQ3.out).2.2.1.c0; have p1 := (HQ3.out).2.2.1.c1; have p2 := (HQ3.out).2.2.1.c2; have pf0 := (HQ3.out).2.2.1.f0; have pf1 := (HQ3.out).2.2.1.f1; have pf2 := (HQ3.out).2.2.1.f2)
   | (go_at_call 134; refine (HO.out _ HQ.out).mono ?_; rintro e w1 ⟨A5, c5, A6, c6, rfl, hr1, hq1⟩; have HR1 := Lib.hid hr1; have HQ1 := Lib.hid hq1; have hq1 := HT.out _ hq1; clear hr1 a0 a1 a2 b0 b1 b2 p0 p1 p2 pf0 pf1 pf2; have a0 := (hq1).1.c0; have a1 := (hq1).1.c1; have a2 := (hq1).1.c2; have b0 := (hq1).2.1.c0; have b1 := (hq1).2.1.c1; have b2 := (hq1).2.1.c2; have p0 := (hq1).2.2.1.c0; have p1 := (hq1).2.2.1.c1; have p2 := (hq1).2.2.1.c2; have pf0 := (hq1).2.2.1.f0; have pf1 := (hq1).2.2.1.f1; have pf2 := (hq1).2.2.1.f2; clear hq1))
 all_goals
  obtain ⟨m6, m7, m8, HR⟩ := rt_store (c1 := c7) (c2 := c8) (decide (q < 0)) HQ3.out.2.2.1 Hr7.out Hr8.out HQ3.out.2.2.2.1 (by omega)
  have HRH := Lib.hid HR
  have m80 := m8.c0
  have m81 := m8.c1
  have m82 := m8.c2
  clear HR m6 m7 m8
  go_wp2
  refine bodyPost_ret (v := .agg #[.bool (decide (q < 0)), .slice A7 (natL q.num.natAbs).length c7, .slice A8 (natL q.den).length c8]) (by simp [results, Tryz.results107, go_sem, m80, m81, m82]) rfl HRH.out
end Go.Proofs.YtcimmgpmkfbpdaaGreatDoor.Ratio
namespace Go.Proofs.YtcimmgpmkfbpdaaGreatDoor.Ratio
open Go.RowKit Go.Proofs.YtcimmgpmkfbpdaaGreatDoor Go.Proofs.YtcimmgpmkfbpdaaGreatDoor.Base Go.Proofs.YtcimmgpmkfbpdaaGreatDoor.Mem Go.Proofs.YtcimmgpmkfbpdaaGreatDoor.NatM Go.Proofs.YtcimmgpmkfbpdaaGreatDoor.Nat32 Go.Proofs.YtcimmgpmkfbpdaaGreatDoor.RatM
open Go.Proofs.YtcimmgpmkfbpdaaGreatDoor.Inv (natOf natOf_eq len_pos Rat3 not_slice not_bool frz)
set_option linter.unusedVariables false
end Go.Proofs.YtcimmgpmkfbpdaaGreatDoor.Ratio
namespace Go.Proofs.YtcimmgpmkfbpdaaGreatDoor.Ratio
open Go.RowKit Go.Proofs.YtcimmgpmkfbpdaaGreatDoor Go.Proofs.YtcimmgpmkfbpdaaGreatDoor.Base Go.Proofs.YtcimmgpmkfbpdaaGreatDoor.Mem Go.Proofs.YtcimmgpmkfbpdaaGreatDoor.NatM Go.Proofs.YtcimmgpmkfbpdaaGreatDoor.Nat32 Go.Proofs.YtcimmgpmkfbpdaaGreatDoor.RatM
open Go.Proofs.YtcimmgpmkfbpdaaGreatDoor.Inv (natOf natOf_eq len_pos Rat3 not_slice not_bool frz)
set_option linter.unusedVariables false
theorem rtZero (s : Bool) (k1 k2 c1 c2 : Nat) (A1 A2 : Option Addr) (w : World) : Calls Tryz.prog 108 #[.agg #[.bool s, .slice A1 k1 c1, .slice A2 k2 c2]] w fun e w' => e = .returned (.bool (decide (k1 = 0))) ∧ Below w.heap.size w w' := by
 have hb := (Below.refl w.heap.size w).alloc (Nat.le_refl _) (.cells #[.bool s, .slice A1 k1 c1, .slice A2 k2 c2] 114)
 have HB := Lib.hid hb
 clear hb
 rcases Nat.eq_zero_or_pos k1 with rfl | hk
 ·go_enter Tryz.func108, Tryz.ntmps108
  go_wp2
  go_ret
  exact ⟨ret_bool (by simp), HB.out⟩
 ·have hk0 : ((k1 : Int) == 0) = false := by simp only [beq_eq_false_iff_ne]; omega
  have hk1 : decide (k1 = 0) = false := decide_eq_false (by omega)
  go_enter Tryz.func108, Tryz.ntmps108
  go_wp2
  go_ret
  exact ⟨ret_bool (by first | exact hk1.symm | (simp; omega)), HB.out⟩
theorem zero_len (q : Rat) : (natL q.num.natAbs).length = 0 ↔ q = 0 := by
 constructor
 ·intro h
  refine Classical.byContradiction fun hq => ?_
  have := len_pos (Nat.pos_of_ne_zero fun e => hq ((zero_iff q).2 e))
  omega
 ·intro h
  rw [h, show (0 : Rat).num.natAbs = 0 from rfl, natL_zero]; rfl
def cmpQ (q r : Rat) : Int := if q = r then 0 else if q < r then -1 else 1
set_option maxHeartbeats 2000000 in
set_option maxRecDepth 100000 in
theorem ratCompare {q r : Rat} {v u : Value} (w : World) (hv : IsRt w q v) (hu : IsRt w r u) (hq : szR q ≤ 200000) (hr : szR r ≤ 200000) : Calls Tryz.prog 74 #[v, u] w fun e w' => e = .returned (.int .i64 (cmpQ q r)) ∧ Below w.heap.size w w' := by
 have hb0 : ∀ v1 v2 v3 u1 u2 u3 : Value, Below w.heap.size w ((w.alloc (.cells #[v1, v2, v3] 114)).alloc (.cells #[u1, u2, u3] 114)) := fun _ _ _ _ _ _ => ((Below.refl _ _).alloc (Nat.le_refl _) _).alloc (by simp) _
 obtain ⟨W2, hW2, bW⟩ : ∃ W2, (∃ A1 c1 A2 c2 A3 c3 A4 c4, v = .agg #[.bool (decide (q < 0)), .slice A1 (natL q.num.natAbs).length c1, .slice A2 (natL q.den).length c2] ∧ u = .agg #[.bool (decide (r < 0)), .slice A3 (natL r.num.natAbs).length c3, .slice A4 (natL r.den).length c4] ∧ W2 = (w.alloc (.cells #[.bool (decide (q < 0)), .slice A1 (natL q.num.natAbs).length c1, .slice A2 (natL q.den).length c2] 114)).alloc (.cells #[.bool (decide (r < 0)), .slice A3 (natL r.num.natAbs).length c3, .slice A4 (natL r.den).length c4] 114)) ∧ Below w.heap.size w W2 := by
  obtain ⟨A1, c1, A2, c2, e1, _, _⟩ := hv
  obtain ⟨A3, c3, A4, c4, e2, _, _⟩ := hu
  exact ⟨_, ⟨A1, c1, A2, c2, A3, c3, A4, c4, e1, e2, rfl⟩, hb0 _ _ _ _ _ _⟩
 have HM := Lib.hid (ratMinus W2 (hv.below bW) (hu.below bW) hq hr)
 obtain ⟨A1, c1, A2, c2, A3, c3, A4, c4, rfl, rfl, hW⟩ := hW2
 have HW := Lib.hid hW
 have HB := Lib.hid bW
 have hc : cmpQ q r = if q - r = 0 then 0 else if q - r < 0 then -1 else 1 := by
  unfold cmpQ
  have h1 : q - r = 0 ↔ q = r := by constructor <;> intro h <;> grind
  have h2 : q - r < 0 ↔ q < r := by constructor <;> intro h <;> grind
  simp only [h1, h2]
 have HC := Lib.hid hc
 clear hW bW hv hu hq hr hb0 hc
 generalize cmpQ q r = cv at *
 generalize q - r = d at *
 generalize decide (q < 0) = s at *
 generalize decide (r < 0) = s' at *
 generalize (natL q.num.natAbs).length = k1 at *
 generalize (natL q.den).length = k2 at *
 generalize (natL r.num.natAbs).length = k3 at *
 generalize (natL r.den).length = k4 at *
 go_enter Tryz.func74, Tryz.ntmps74
 go_wp2_with fail
 rw [← HW.out]
 refine HM.out.mono ?_
 rintro e w3 ⟨A5, c5, A6, c6, rfl, h5, h6, hb3⟩
 have HB3 := Lib.hid (HB.out.trans (hb3.mono HB.out.size))
 have HZ := Lib.hid (fun W => rtZero (decide (d < 0)) (natL d.num.natAbs).length (natL d.den).length c5 c6 A5 A6 W)
 have HZL : Hid (decide ((natL d.num.natAbs).length = 0) = decide (d = 0)) := Lib.hid (by simp only [zero_len])
 rw [HZL.out] at HZ
 clear h5 h6 hb3
 go_wp2_with fail
 refine (HZ.out _).mono ?_
 rintro e w4 ⟨rfl, hb4⟩
 have HB4 := Lib.hid ((HB3.out.alloc HB3.out.size (.cells #[.bool (decide (d < 0)), .slice A5 (natL d.num.natAbs).length c5, .slice A6 (natL d.den).length c6] 114)).trans (hb4.mono (by have := HB3.out.size; simp; omega)))
 have d0 : w4.cell? ⟨w3.heap.size, 0, none⟩ = some (.bool (decide (d < 0))) := box_cells hb4 0
 clear hb4
 by_cases hz : d = 0
 ·have hzb : decide (d = 0) = true := decide_eq_true hz
  have hcv : cv = 0 := by rw [HC.out, if_pos hz]
  subst hcv
  generalize decide (d < 0) = sd at *
  clear hz
  go_wp2
  go_ret
  exact ⟨rfl, HB4.out⟩
 ·have hzb : decide (d = 0) = false := decide_eq_false hz
  by_cases hl : d < 0
  ·have hlb : decide (d < 0) = true := decide_eq_true hl
   have hcv : cv = -1 := by rw [HC.out, if_neg hz, if_pos hl]
   subst hcv
   clear hz hl
   go_wp2
   go_ret
   exact ⟨rfl, HB4.out⟩
  ·have hlb : decide (d < 0) = false := decide_eq_false hl
   have hcv : cv = 1 := by rw [HC.out, if_neg hz, if_neg hl]
   subst hcv
   clear hz hl
   go_wp2
   go_ret
   exact ⟨rfl, HB4.out⟩
end Go.Proofs.YtcimmgpmkfbpdaaGreatDoor.Ratio
namespace Go.Proofs.YtcimmgpmkfbpdaaGreatDoor.Nat32
open Go.RowKit Go.Proofs.YtcimmgpmkfbpdaaGreatDoor Go.Proofs.YtcimmgpmkfbpdaaGreatDoor.Base Go.Proofs.YtcimmgpmkfbpdaaGreatDoor.Mem Go.Proofs.YtcimmgpmkfbpdaaGreatDoor.NatM
set_option linter.unusedVariables false
set_option maxHeartbeats 1000000 in
theorem small_no (x : Nat) (A : Option Addr) (c B : Nat) (w : World) (hx : RdU w B A (natL x)) (h : 1000000000000000000 < x) :
  Calls Tryz.prog 126 #[.slice A (natL x).length c] w fun e w' => ∃ i : Int, e = .returned (.tuple #[.int .i64 i, .bool false]) ∧ w = w' := by
 by_cases hlen : (natL x).length ≤ 2
 case neg =>
  generalize (natL x).length = k at *
  have hd : decide ((2 : Int) < (k : Int)) = true := decide_eq_true (by omega)
  clear hx
  go_enter Tryz.func126, Tryz.ntmps126
  go_wp2
  go_ret2
  exact ⟨0, rfl, rfl⟩
 have ok := natL_ok x
 have hv := natL_val x
 have HX := Lib.hid hx
 generalize hxs : natL x = xs at *
 have HV := Lib.hid hv
 have HO := Lib.hid ok
 clear hx hv ok hxs
 go_enter Tryz.func126, Tryz.ntmps126
 go_wp2
 go_loop [12, 4] (fun iv nv => ∃ k : Nat, k ≤ xs.length ∧ iv = .int .i64 (k : Int) ∧ nv = .int .u64 ((val (xs.take k) : Nat) : Int)) (fun iv _ => xs.length - (intOf iv).toNat)
 case atStart => exact ⟨0, Nat.zero_le _, rfl, rfl⟩
 case round =>
  obtain ⟨k, hk, rfl, rfl⟩ := hrel
  by_cases hlt : k < xs.length
  ·have hx1 : xs.getD k 0 < B32 := HO.out _ (by simp [List.getD, hlt])
   obtain ⟨b, off, rfl, _, hc⟩ := HX.out (by omega)
   have g := hc k hlt
   clear hc
   have HS := Lib.hid (val_take_succ xs k hlt)
   have hk2 : k = 0 ∨ k = 1 := by omega
   rcases hk2 with rfl | rfl
   ·rw [List.take_zero, show val ([] : List Nat) = 0 from rfl] at HS ⊢
    rw [Nat.add_zero] at g
    unfold B32 at hx1
    generalize xs.getD 0 0 = y at *
    have HO2 := Lib.hid (or_digit 0 y (by decide) hx1)
    have HO1 := Lib.hid (u64_or 0 y (by decide) (by omega))
    go_wp2
    go_round
    case rel => exact ⟨1, by omega, rfl, by rw [HS.out]; have := HO1.out; rw [Nat.zero_or] at this; rw [show ((0 : Nat) : Int) = 0 from rfl] at this; rw [this]; simp⟩
    case measure => simp [intOf]; omega
   ·unfold B32 at hx1
    have hz1 : val (xs.take 1) < B32 := by
     have := val_lt _ (okN_take HO.out 1)
     rw [List.length_take, Nat.min_eq_left (by omega)] at this
     simpa using this
    unfold B32 at hz1
    generalize xs.getD 1 0 = y at *
    generalize val (xs.take 1) = z at *
    have HO2 := Lib.hid (or_digit z y hz1 hx1)
    go_wp2
    go_round
    case rel => exact ⟨2, by omega, rfl, by rw [HS.out, HO2.out]; rfl⟩
    case measure => simp [intOf]; omega
  ·obtain rfl : k = xs.length := by omega
   have hvx : val (xs.take xs.length) = x := by rw [List.take_of_length_le (Nat.le_refl _)]; exact HV.out
   rw [hvx]
   have hlt2 : x < 18446744073709551616 := by
    have := val_lt xs HO.out
    have e : B32 ^ xs.length ≤ B32 ^ 2 := Nat.pow_le_pow_right (by decide) hlen
    rw [HV.out] at this
    exact Nat.lt_of_lt_of_le this (Nat.le_trans e (by decide))
   have hle : decide ((x : Int) ≤ 1000000000000000000) = false := decide_eq_false (by omega)
   clear hvx
   go_wp2
   go_ret2
   exact ⟨⟨wrap64 (bits BinOp.and IntKind.u64 (x : Int) 9223372036854775807), rfl⟩, rfl⟩
end Go.Proofs.YtcimmgpmkfbpdaaGreatDoor.Nat32
set_option linter.unusedVariables false
namespace Go.Proofs.YtcimmgpmkfbpdaaGreatDoor.RatM
theorem cop_mul {a b c : Nat} (h1 : Nat.gcd a c = 1) (h2 : Nat.gcd b c = 1) : Nat.gcd (a * b) c = 1 :=
 Nat.Coprime.mul_left (k := c) h1 h2
theorem cop_mul_r {a b c : Nat} (h1 : Nat.gcd a b = 1) (h2 : Nat.gcd a c = 1) : Nat.gcd a (b * c) = 1 := by
 rw [Nat.gcd_comm]; exact cop_mul (by rw [Nat.gcd_comm]; exact h1) (by rw [Nat.gcd_comm]; exact h2)
theorem cop_dvd {a b c : Nat} (h : Nat.gcd a b = 1) (hc : c ∣ b) : Nat.gcd a c = 1 :=
 Nat.Coprime.coprime_dvd_right hc h
theorem cop_dvd_l {a b c : Nat} (h : Nat.gcd a b = 1) (hc : c ∣ a) : Nat.gcd c b = 1 :=
 Nat.Coprime.coprime_dvd_left hc h
theorem qv_scale (s : Bool) {n d k : Nat} (hd : d ≠ 0) (hk : k ≠ 0) : qv s (n * k) (d * k) = qv s n d := by
 have g := natCast_ne hd
 have g' := natCast_ne hk
 unfold qv
 simp only [Rat.natCast_mul]
 cases s <;> simp only [Bool.false_eq_true, if_false, if_true] <;> grind
theorem cop_of_sum {t u v b : Nat} (h : t = u + v ∨ t + v = u ∨ t + u = v) (hv : b ∣ v) (hu : Nat.gcd u b = 1) : Nat.gcd t b = 1 := by
 obtain ⟨k, rfl⟩ := hv
 have key : Nat.gcd t b ∣ u := by
  have h1 := Nat.gcd_dvd_left t b
  have h2 : Nat.gcd t b ∣ b * k := Nat.dvd_trans (Nat.gcd_dvd_right t b) (Nat.dvd_mul_right b k)
  rcases h with h | h | h
  ·rw [h] at h1
   rw [h]
   exact (Nat.dvd_add_left (by rw [h] at h2; exact h2)).1 h1
  ·rw [← h]; exact Nat.dvd_add h1 h2
  ·rw [← h] at h2
   exact (Nat.dvd_add_right h1).1 h2
 have h3 := Nat.dvd_gcd key (Nat.gcd_dvd_right t b)
 rw [hu] at h3
 exact Nat.dvd_one.1 h3
theorem sum_cop {n1 d1 n2 d2 D t : Nat} (hd1 : 0 < d1) (hd2 : 0 < d2) (h1 : Nat.gcd n1 d1 = 1) (h2 : Nat.gcd n2 d2 = 1) (hD : D = Nat.gcd d1 d2)
  (ht : t = n1 * (d2 / D) + n2 * (d1 / D) ∨ t + n2 * (d1 / D) = n1 * (d2 / D) ∨ t + n1 * (d2 / D) = n2 * (d1 / D)) :
  Nat.gcd (t / Nat.gcd D (t % D)) ((d1 / D) * (d2 / Nat.gcd D (t % D))) = 1 := by
 have hD0 : 0 < D := by rw [hD]; exact Nat.gcd_pos_of_pos_left _ hd1
 have e1 : D ∣ d1 := by rw [hD]; exact Nat.gcd_dvd_left _ _
 have e2 : D ∣ d2 := by rw [hD]; exact Nat.gcd_dvd_right _ _
 have hcop : Nat.gcd (d1 / D) (d2 / D) = 1 := by rw [hD]; exact Nat.coprime_div_gcd_div_gcd (Nat.gcd_pos_of_pos_left _ hd1)
 have eg : Nat.gcd D (t % D) = Nat.gcd D t := by rw [Nat.gcd_comm D (t % D), ← Nat.gcd_rec]
 rw [eg]
 have hG0 : 0 < Nat.gcd D t := Nat.gcd_pos_of_pos_left _ hD0
 obtain ⟨b, rfl⟩ := e1
 obtain ⟨c, rfl⟩ := e2
 rw [Nat.mul_div_cancel_left _ hD0] at *
 rw [Nat.mul_div_cancel_left _ hD0] at *
 have hb : Nat.gcd t b = 1 := by
  refine cop_of_sum (u := n1 * c) (v := n2 * b) (by omega) (Nat.dvd_mul_left b n2) ?_
  exact cop_mul (cop_dvd h1 (Nat.dvd_mul_left b D)) (by rw [Nat.gcd_comm]; exact hcop)
 have hc : Nat.gcd t c = 1 := by
  refine cop_of_sum (u := n2 * b) (v := n1 * c) (by omega) (Nat.dvd_mul_left c n1) ?_
  exact cop_mul (cop_dvd h2 (Nat.dvd_mul_left c D)) hcop
 have hGD := Nat.gcd_dvd_left D t
 have hGt := Nat.gcd_dvd_right D t
 have hq : Nat.gcd (t / Nat.gcd D t) (D / Nat.gcd D t) = 1 := by
  rw [Nat.gcd_comm]; exact Nat.coprime_div_gcd_div_gcd hG0
 have hl : t / Nat.gcd D t ∣ t := Nat.div_dvd_of_dvd hGt
 have e3 : D * c / Nat.gcd D t = c * (D / Nat.gcd D t) := by
  rw [Nat.mul_comm D c, Nat.mul_div_assoc c hGD]
 rw [e3]
 exact cop_mul_r (cop_dvd_l hb hl) (cop_mul_r (cop_dvd_l hc hl) hq)
theorem sum_val (s : Bool) {d1 d2 D t : Nat} (hd1 : 0 < d1) (hd2 : 0 < d2) (hD : D = Nat.gcd d1 d2) :
  qv s (t / Nat.gcd D (t % D)) ((d1 / D) * (d2 / Nat.gcd D (t % D))) = qv s (t * D) (d1 * d2) := by
 have hD0 : 0 < D := by rw [hD]; exact Nat.gcd_pos_of_pos_left _ hd1
 have e1 : D ∣ d1 := by rw [hD]; exact Nat.gcd_dvd_left _ _
 have e2 : D ∣ d2 := by rw [hD]; exact Nat.gcd_dvd_right _ _
 have eg : Nat.gcd D (t % D) = Nat.gcd D t := by rw [Nat.gcd_comm D (t % D), ← Nat.gcd_rec]
 rw [eg]
 have hG0 : 0 < Nat.gcd D t := Nat.gcd_pos_of_pos_left _ hD0
 have hGD := Nat.gcd_dvd_left D t
 have hGt := Nat.gcd_dvd_right D t
 have hG2 := Nat.dvd_trans hGD e2
 generalize Nat.gcd D t = G at *
 obtain ⟨b, rfl⟩ := e1
 obtain ⟨c, rfl⟩ := hG2
 obtain ⟨k, rfl⟩ := hGt
 rw [Nat.mul_div_cancel_left _ hD0, Nat.mul_div_cancel_left _ hG0, Nat.mul_div_cancel_left _ hG0]
 have h1 : b ≠ 0 := by rintro rfl; simp at hd1
 have h2 : c ≠ 0 := by rintro rfl; simp at hd2
 have := qv_scale s (n := k) (d := b * c) (k := G * D) (Nat.mul_ne_zero h1 h2) (Nat.mul_ne_zero (by omega) (by omega))
 rw [← this]
 congr 1
 ·simp only [Nat.mul_left_comm, Nat.mul_comm]
 ·simp only [Nat.mul_left_comm, Nat.mul_comm]
theorem sum_t {n1 d1 n2 d2 D : Nat} (hd1 : 0 < d1) (hD : D = Nat.gcd d1 d2) : (n1 * (d2 / D)) * D = n1 * d2 ∧ (n2 * (d1 / D)) * D = n2 * d1 := by
 have e1 : D ∣ d1 := by rw [hD]; exact Nat.gcd_dvd_left _ _
 have e2 : D ∣ d2 := by rw [hD]; exact Nat.gcd_dvd_right _ _
 rw [Nat.mul_assoc, Nat.mul_assoc, Nat.div_mul_cancel e1, Nat.div_mul_cancel e2]
 exact ⟨rfl, rfl⟩
theorem prod_cop {n1 d1 n2 d2 : Nat} (hd1 : 0 < d1) (hd2 : 0 < d2) (h1 : Nat.gcd n1 d1 = 1) (h2 : Nat.gcd n2 d2 = 1) :
  Nat.gcd ((n1 / Nat.gcd n1 d2) * (n2 / Nat.gcd n2 d1)) ((d2 / Nat.gcd n1 d2) * (d1 / Nat.gcd n2 d1)) = 1 := by
 have a1 : Nat.gcd (n1 / Nat.gcd n1 d2) (d2 / Nat.gcd n1 d2) = 1 := Nat.coprime_div_gcd_div_gcd (Nat.gcd_pos_of_pos_right _ hd2)
 have a2 : Nat.gcd (n2 / Nat.gcd n2 d1) (d1 / Nat.gcd n2 d1) = 1 := Nat.coprime_div_gcd_div_gcd (Nat.gcd_pos_of_pos_right _ hd1)
 have l1 : n1 / Nat.gcd n1 d2 ∣ n1 := Nat.div_dvd_of_dvd (Nat.gcd_dvd_left _ _)
 have l2 : n2 / Nat.gcd n2 d1 ∣ n2 := Nat.div_dvd_of_dvd (Nat.gcd_dvd_left _ _)
 have r1 : d2 / Nat.gcd n1 d2 ∣ d2 := Nat.div_dvd_of_dvd (Nat.gcd_dvd_right _ _)
 have r2 : d1 / Nat.gcd n2 d1 ∣ d1 := Nat.div_dvd_of_dvd (Nat.gcd_dvd_right _ _)
 refine cop_mul (cop_mul_r a1 ?_) (cop_mul_r ?_ a2)
 ·exact cop_dvd (cop_dvd_l h1 l1) r2
 ·exact cop_dvd (cop_dvd_l h2 l2) r1
theorem prod_val (s : Bool) {n1 d1 n2 d2 : Nat} (hd1 : 0 < d1) (hd2 : 0 < d2) :
  qv s ((n1 / Nat.gcd n1 d2) * (n2 / Nat.gcd n2 d1)) ((d2 / Nat.gcd n1 d2) * (d1 / Nat.gcd n2 d1)) = qv s (n1 * n2) (d1 * d2) := by
 have p1 : 0 < Nat.gcd n1 d2 := Nat.gcd_pos_of_pos_right _ hd2
 have p2 : 0 < Nat.gcd n2 d1 := Nat.gcd_pos_of_pos_right _ hd1
 have l1 := Nat.gcd_dvd_left n1 d2
 have l2 := Nat.gcd_dvd_left n2 d1
 have r1 := Nat.gcd_dvd_right n1 d2
 have r2 := Nat.gcd_dvd_right n2 d1
 generalize Nat.gcd n1 d2 = G at *
 generalize Nat.gcd n2 d1 = H at *
 obtain ⟨a, rfl⟩ := l1
 obtain ⟨b, rfl⟩ := l2
 obtain ⟨c, rfl⟩ := r1
 obtain ⟨d, rfl⟩ := r2
 rw [Nat.mul_div_cancel_left _ p1, Nat.mul_div_cancel_left _ p2, Nat.mul_div_cancel_left _ p1, Nat.mul_div_cancel_left _ p2]
 have h1 : c ≠ 0 := by rintro rfl; simp at hd2
 have h2 : d ≠ 0 := by rintro rfl; simp at hd1
 have := qv_scale s (n := a * b) (d := c * d) (k := G * H) (Nat.mul_ne_zero h1 h2) (Nat.mul_ne_zero (by omega) (by omega))
 rw [← this]
 congr 1
 ·simp only [Nat.mul_left_comm, Nat.mul_comm]
 ·simp only [Nat.mul_left_comm, Nat.mul_comm]
theorem low_of {s : Bool} {n d : Nat} (hd : d ≠ 0) (hg : Nat.gcd n d = 1) : (qv s n d).num = (if s then -(n : Int) else (n : Int)) ∧ (qv s n d).den = d := by
 obtain ⟨h1, h2⟩ := own_num (s := s) hd hg
 refine ⟨?_, h2⟩
 by_cases hn : n = 0
 ·subst hn
  rw [qv_zero]
  cases s <;> rfl
 ·have h3 := qv_neg (s := s) hn hd
  have h4 := neg_iff (qv s n d)
  cases s
  ·have : ¬ (qv false n d).num < 0 := fun h => by
    have := h4.2 h
    simp [this] at h3
   simp only [Bool.false_eq_true, if_false]; omega
  ·have : (qv true n d).num < 0 := h4.1 (of_decide_eq_true h3)
   simp only [if_true]; omega
theorem qv_add {s s' : Bool} {n d n' d' : Nat} (h : d ≠ 0) (h' : d' ≠ 0) :
  qv s n d + qv s' n' d' = if s = s' then qv s (n * d' + n' * d) (d * d') else if n * d' < n' * d then qv s' (n' * d - n * d') (d * d') else qv s (n * d' - n' * d) (d * d') := by
 split
 ·rename_i e
  subst e
  exact (qv_add_same s h h').symm
 ·rename_i e
  split
  ·rename_i hlt
   have := qv_add_diff s' (n := n') (d := d') (n' := n) (d' := d) h' h (by omega)
   rw [Nat.mul_comm d d', this, show (!s') = s by cases s <;> cases s' <;> simp_all, Rat.add_comm]
  ·rename_i hlt
   have := qv_add_diff s (n := n) (d := d) (n' := n') (d' := d') h h' (by omega)
   rw [this, show (!s) = s' by cases s <;> cases s' <;> simp_all]
def smallQ (q : Rat) : Bool := decide (q.num.natAbs ≤ 1000000000000000000) && decide (q.den ≤ 1000000000000000000)
def numQ (q : Rat) : Int := if smallQ q then q.num else 0
def denQ (q : Rat) : Int := if smallQ q then (q.den : Int) else 0
theorem small_yes {q : Rat} (h1 : q.num.natAbs ≤ 1000000000000000000) (h2 : q.den ≤ 1000000000000000000) : smallQ q = true ∧ numQ q = q.num ∧ denQ q = (q.den : Int) := by
 have hs : smallQ q = true := by unfold smallQ; rw [decide_eq_true h1, decide_eq_true h2]; rfl
 exact ⟨hs, by unfold numQ; rw [hs]; rfl, by unfold denQ; rw [hs]; rfl⟩
theorem small_no {q : Rat} (h : ¬ q.num.natAbs ≤ 1000000000000000000 ∨ ¬ q.den ≤ 1000000000000000000) : smallQ q = false ∧ numQ q = 0 ∧ denQ q = 0 := by
 have hs : smallQ q = false := by
  unfold smallQ
  rcases h with h | h
  ·rw [decide_eq_false h]; rfl
  ·rw [decide_eq_false h, Bool.and_false]
 exact ⟨hs, by unfold numQ; rw [hs]; rfl, by unfold denQ; rw [hs]; rfl⟩
theorem small_true {q : Rat} (h : smallQ q = true) : q.num.natAbs ≤ 1000000000000000000 ∧ q.den ≤ 1000000000000000000 := by
 unfold smallQ at h
 rw [Bool.and_eq_true, decide_eq_true_eq, decide_eq_true_eq] at h
 exact h
def VF (n d : Int) : Prop := 1 ≤ d ∧ d ≤ 1000000000000000000 ∧ -1000000000000000000 ≤ n ∧ n ≤ 1000000000000000000 ∧ Nat.gcd n.natAbs d.toNat = 1
theorem VF.num {n d : Int} (h : VF n d) : (qf n d).num = n ∧ ((qf n d).den : Int) = d ∧ (decide (qf n d < 0) = decide (n < 0)) := qf_num (by have := h.1; omega) h.2.2.2.2
theorem VF.of (q : Rat) (h : smallQ q = true) : VF q.num (q.den : Int) := by
 obtain ⟨h1, h2⟩ := small_true h
 have := q.den_pos
 exact ⟨by omega, by omega, by omega, by omega, by rw [Int.toNat_natCast]; exact q.reduced⟩
theorem qf_self (q : Rat) : qf q.num (q.den : Int) = q := by
 have h := qv_self q
 unfold qf
 rw [Int.toNat_natCast]
 have e : decide (q.num < 0) = decide (q < 0) := by rw [Bool.eq_iff_iff, decide_eq_true_eq, decide_eq_true_eq]; exact (neg_iff q).symm
 rw [e]; exact h
end Go.Proofs.YtcimmgpmkfbpdaaGreatDoor.RatM
namespace Go.Proofs.YtcimmgpmkfbpdaaGreatDoor.Ratio
open Go.RowKit Go.Proofs.YtcimmgpmkfbpdaaGreatDoor Go.Proofs.YtcimmgpmkfbpdaaGreatDoor.Base Go.Proofs.YtcimmgpmkfbpdaaGreatDoor.Mem Go.Proofs.YtcimmgpmkfbpdaaGreatDoor.NatM Go.Proofs.YtcimmgpmkfbpdaaGreatDoor.Nat32 Go.Proofs.YtcimmgpmkfbpdaaGreatDoor.RatM
open Go.Proofs.YtcimmgpmkfbpdaaGreatDoor.Inv (natOf natOf_eq len_pos Rat3 not_slice not_bool frz)
set_option linter.unusedVariables false
theorem smallAny (x : Nat) (A : Option Addr) (c B : Nat) (w : World) (hx : RdU w B A (natL x)) :
  Calls Tryz.prog 126 #[.slice A (natL x).length c] w fun e w' => (∃ i : Int, e = .returned (.tuple #[.int .i64 i, .bool (decide (x ≤ 1000000000000000000))]) ∧ (x ≤ 1000000000000000000 → i = x)) ∧ w = w' := by
 rcases Nat.lt_or_ge 1000000000000000000 x with h | h
 ·rw [decide_eq_false (by omega)]
  refine (small_no x A c B w hx h).mono ?_
  rintro e w' ⟨i, rfl, rfl⟩
  exact ⟨⟨i, rfl, fun h' => absurd h' (by omega)⟩, rfl⟩
 ·rw [decide_eq_true (by omega)]
  refine (small_yes x A c B w hx h).mono ?_
  rintro e w' ⟨rfl, rfl⟩
  exact ⟨⟨x, rfl, fun _ => rfl⟩, rfl⟩
theorem ratFraction {q : Rat} {v : Value} (w : World) (hv : IsRt w q v) :
  Calls Tryz.prog 101 #[v] w fun e w' => e = .returned (.tuple #[.agg #[.int .i64 (numQ q), .int .i64 (denQ q)], .bool (smallQ q)]) ∧ Below w.heap.size w w' := by
 obtain ⟨A, c, A', c', rfl, hx, hy⟩ := hv
 have HB : Hid (Below w.heap.size w ((w.alloc (.cells #[.bool (decide (q < 0)), .slice A (natL q.num.natAbs).length c, .slice A' (natL q.den).length c'] 114)).alloc (.cells #[.int .i64 0, .int .i64 0] 52))) := Lib.hid (((Below.refl _ _).alloc (Nat.le_refl _) _).alloc (by simp) _)
 have H1 := Lib.hid (fun W (h : Below w.heap.size w W) => smallAny q.num.natAbs A c w.heap.size W (hx.below h (Nat.le_refl _)))
 have H2 := Lib.hid (fun W (h : Below w.heap.size w W) => smallAny q.den A' c' w.heap.size W (hy.below h (Nat.le_refl _)))
 have HF : ∀ i j : Int, (q.num.natAbs ≤ 1000000000000000000 → i = q.num.natAbs) → (q.den ≤ 1000000000000000000 → j = q.den) → decide (q.num.natAbs ≤ 1000000000000000000) = true → decide (q.den ≤ 1000000000000000000) = true → smallQ q = true ∧ denQ q = j ∧ ((q.num.natAbs : Int) = i ∧ (q.den : Int) = j) ∧ (decide (q < 0) = true → numQ q = -i ∧ 0 ≤ i ∧ i ≤ 1000000000000000000) ∧ (decide (q < 0) = false → numQ q = i) := by
  intro i j hi hj h1 h2
  have hs : smallQ q = true := by unfold smallQ; rw [h1, h2]; rfl
  have hn := hi (of_decide_eq_true h1)
  have hle := of_decide_eq_true h1
  refine ⟨hs, by unfold denQ; rw [hs, hj (of_decide_eq_true h2)]; rfl, ⟨hn.symm, (hj (of_decide_eq_true h2)).symm⟩, fun hq => ?_, fun hq => ?_⟩
  ·have : q.num < 0 := Int.not_le.1 fun h => Rat.not_le.2 (of_decide_eq_true hq) (Rat.num_nonneg.1 h)
   exact ⟨by unfold numQ; rw [hs]; simp; omega, by omega, by omega⟩
  ·have : 0 ≤ q.num := Rat.num_nonneg.2 (Rat.not_lt.1 (of_decide_eq_false hq))
   unfold numQ; rw [hs]; simp; omega
 have HG : (decide (q.num.natAbs ≤ 1000000000000000000) = false ∨ decide (q.den ≤ 1000000000000000000) = false) → smallQ q = false ∧ numQ q = 0 ∧ denQ q = 0 := by
  intro h
  have hs : smallQ q = false := by unfold smallQ; rcases h with h | h <;> rw [h] <;> simp
  exact ⟨hs, by unfold numQ; rw [hs]; rfl, by unfold denQ; rw [hs]; rfl⟩
 have HF := Lib.hid HF
 have HG := Lib.hid HG
 clear hx hy
 generalize decide (q < 0) = s at *
 generalize (natL q.num.natAbs).length = n at *
 generalize (natL q.den).length = n' at *
 generalize hb1 : decide (q.num.natAbs ≤ 1000000000000000000) = b1 at *
 generalize hb2 : decide (q.den ≤ 1000000000000000000) = b2 at *
 clear hb1 hb2
 generalize numQ q = vn at *
 generalize denQ q = vd at *
 generalize smallQ q = sm at *
 go_enter Tryz.func101, Tryz.ntmps101
 go_wp2_with fail
 refine (H1.out _ HB.out).mono ?_
 rintro e w1 ⟨⟨i, rfl, hi⟩, rfl⟩
 have HI := Lib.hid hi
 clear hi
 go_wp2_with fail
 refine (H2.out _ HB.out).mono ?_
 rintro e w1 ⟨⟨j, rfl, hj⟩, rfl⟩
 have HF2 := Lib.hid (HF.out i j HI.out hj)
 clear hj
 clear HF
 cases b1 with
 | false =>
  obtain ⟨rfl, rfl, rfl⟩ := HG.out (Or.inl rfl)
  cases b2 <;>
  ·go_wp2
   refine bodyPost_ret (v := .tuple #[.agg #[.int .i64 0, .int .i64 0], .bool false]) (by simp [results, Tryz.results101, go_sem]) rfl ⟨rfl, ?_⟩
   exact ((Below.refl _ _).alloc (Nat.le_refl _) _).alloc (by simp) _
 | true =>
  cases b2 with
  | false =>
   obtain ⟨rfl, rfl, rfl⟩ := HG.out (Or.inr rfl)
   go_wp2
   refine bodyPost_ret (v := .tuple #[.agg #[.int .i64 0, .int .i64 0], .bool false]) (by simp [results, Tryz.results101, go_sem]) rfl ⟨rfl, ?_⟩
   exact ((Below.refl _ _).alloc (Nat.le_refl _) _).alloc (by simp) _
  | true =>
   obtain ⟨rfl, rfl, ⟨e1, e2⟩, hn, hp⟩ := HF2.out rfl rfl
   have E1 := Lib.hid e1
   have E2 := Lib.hid e2
   clear e1 e2
   cases s with
   | true =>
    obtain ⟨rfl, h0, hle⟩ := hn rfl
    clear hn hp
    have hw : wrap64 (-i) = -i := by first | (unfold wrap64; omega) | (simp [wrap64]; omega)
    go_wp2
    refine bodyPost_ret (v := .tuple #[.agg #[.int .i64 (-i), .int .i64 vd], .bool true]) (by simp [results, Tryz.results101, go_sem]; first | done | (rw [E1.out, E2.out]; first | exact ⟨hw, rfl⟩ | exact ⟨rfl, rfl⟩)) rfl ⟨rfl, ?_⟩
    exact ((Below.refl _ _).alloc (Nat.le_refl _) _).alloc (by simp) _
   | false =>
    obtain rfl := hp rfl
    clear hn hp
    go_wp2
    refine bodyPost_ret (v := .tuple #[.agg #[.int .i64 vn, .int .i64 vd], .bool true]) (by simp [results, Tryz.results101, go_sem]; first | done | (rw [E1.out, E2.out]; first | exact ⟨hw, rfl⟩ | exact ⟨rfl, rfl⟩)) rfl ⟨rfl, ?_⟩
    exact ((Below.refl _ _).alloc (Nat.le_refl _) _).alloc (by simp) _
end Go.Proofs.YtcimmgpmkfbpdaaGreatDoor.Ratio
namespace Go.Proofs.YtcimmgpmkfbpdaaGreatDoor.LvM
set_option linter.unusedVariables false
def sm : Nat → (Nat → Nat) → Nat
 | 0, _ => 0
 | n + 1, f => sm n f + f n
theorem sm_congr : ∀ {n : Nat} {f g : Nat → Nat}, (∀ i, i < n → f i = g i) → sm n f = sm n g
 | 0, _, _, _ => rfl
 | n + 1, f, g, h => by rw [sm, sm, sm_congr (fun i hi => h i (by omega)), h n (by omega)]
theorem sm_le : ∀ {n : Nat} {f g : Nat → Nat}, (∀ i, i < n → f i ≤ g i) → sm n f ≤ sm n g
 | 0, _, _, _ => Nat.le_refl _
 | n + 1, f, g, h => by
  have h1 := sm_le (n := n) (f := f) (g := g) (fun i hi => h i (by omega))
  have h2 := h n (by omega)
  rw [sm, sm]; omega
theorem sm_mono {f : Nat → Nat} : ∀ {n m : Nat}, n ≤ m → sm n f ≤ sm m f := by
 intro n m h
 induction m with
 | zero => rw [Nat.le_zero.1 h]; exact Nat.le_refl _
 | succ m ih =>
  rcases Nat.lt_or_ge n (m + 1) with h1 | h1
  ·rw [sm]; have := ih (by omega); omega
  ·rw [show n = m + 1 by omega]; exact Nat.le_refl _
theorem sm_mul (c : Nat) (f : Nat → Nat) : ∀ n, sm n (fun i => c * f i) = c * sm n f
 | 0 => rfl
 | n + 1 => by rw [sm, sm, sm_mul c f n, Nat.mul_add]
theorem sm_add (f g : Nat → Nat) : ∀ n, sm n (fun i => f i + g i) = sm n f + sm n g
 | 0 => rfl
 | n + 1 => by rw [sm, sm, sm, sm_add f g n]; omega
theorem sm_first (f : Nat → Nat) : ∀ n, sm (n + 1) f = f 0 + sm n (fun i => f (i + 1))
 | 0 => by simp [sm]
 | n + 1 => by rw [sm, sm_first f n, sm]; omega
theorem sm_one {f : Nat → Nat} {n i : Nat} (hi : i < n) : f i ≤ sm n f := by
 have h1 : sm (i + 1) f ≤ sm n f := sm_mono hi
 rw [sm] at h1; omega
def W (m : Nat) : Nat → Nat
 | 0 => 1
 | k + 1 => sm (min m (k + 1)) fun r => W m (k - r)
termination_by k => k
decreasing_by omega
theorem W_zero (m : Nat) : W m 0 = 1 := by rw [W]
theorem W_succ (m k : Nat) : W m (k + 1) = sm (min m (k + 1)) fun r => W m (k - r) := by rw [W]
theorem W_none (k : Nat) : W 0 (k + 1) = 0 := by rw [W_succ]; simp [sm]
theorem W_mono (m : Nat) : ∀ k, W m k ≤ W (m + 1) k := by
 intro k
 induction k using Nat.strongRecOn with
 | _ k ih =>
  cases k with
  | zero => rw [W_zero, W_zero]; exact Nat.le_refl _
  | succ k =>
   rw [W_succ, W_succ]
   refine Nat.le_trans (sm_le fun i hi => ih (k - i) (by omega)) (sm_mono ?_)
   omega
theorem W_le {m m' : Nat} (h : m ≤ m') (k : Nat) : W m k ≤ W m' k := by
 induction m' with
 | zero => rw [Nat.le_zero.1 h]; exact Nat.le_refl _
 | succ m' ih =>
  rcases Nat.lt_or_ge m (m' + 1) with h1 | h1
  ·exact Nat.le_trans (ih (by omega)) (W_mono m' k)
  ·rw [show m = m' + 1 by omega]; exact Nat.le_refl _
theorem sm_rev (f : Nat → Nat) : ∀ n, sm (n + 1) (fun r => f (n - r)) = sm (n + 1) f
 | 0 => rfl
 | n + 1 => by
  have h : sm (n + 1) (fun i => f (n + 1 - (i + 1))) = sm (n + 1) f := by
   rw [← sm_rev f n]; exact sm_congr fun i hi => by congr 1; omega
  rw [sm_first, h, Nat.sub_zero, sm]
  show _ = sm (n + 1) f + f (n + 1)
  rw [Nat.add_comm]; rfl
theorem W_all {m : Nat} : ∀ k, k + 1 ≤ m → W m (k + 1) = 2 ^ k := by
 intro k
 induction k using Nat.strongRecOn with
 | _ k ih =>
  intro hk
  rw [W_succ, show min m (k + 1) = k + 1 by omega, sm_rev (W m) k]
  have key : ∀ j, j ≤ k → sm (j + 1) (W m) = 2 ^ j := by
   intro j
   induction j with
   | zero => intro _; simp [sm, W_zero]
   | succ j ihj =>
    intro hj
    rw [sm, ihj (by omega), ih j (by omega) (by omega), Nat.pow_succ]; omega
  exact key k (Nat.le_refl _)
theorem W_bound (m k : Nat) : W m k ≤ 2 ^ k := by
 rcases Nat.lt_or_ge m k with h | h
 ·have h1 := W_le (Nat.le_of_lt h) k
  cases k with
  | zero => omega
  | succ k =>
   rw [W_all k (Nat.le_refl _)] at h1
   have : (2 : Nat) ^ k ≤ 2 ^ (k + 1) := Nat.pow_le_pow_right (by decide) (by omega)
   omega
 ·cases k with
  | zero => rw [W_zero]; decide
  | succ k =>
   rw [W_all k h]
   exact Nat.pow_le_pow_right (by decide) (by omega)
def U (m i j : Nat) : Nat := if 1 ≤ j ∧ j ≤ m ∧ j ≤ i then 2 * W m (i - j) else 0
theorem U_sum {m i : Nat} (hi : 1 ≤ i) : sm m (fun k => U m i (k + 1)) = 2 * W m i := by
 obtain ⟨i, rfl⟩ : ∃ k, i = k + 1 := ⟨i - 1, by omega⟩
 rw [W_succ, ← sm_mul]
 have hsplit : ∀ n, n ≤ m → sm n (fun k => U m (i + 1) (k + 1)) = sm (min n (i + 1)) fun r => 2 * W m (i - r) := by
  intro n
  induction n with
  | zero => intro _; simp [sm]
  | succ n ih =>
   intro hn
   rw [sm, ih (by omega)]
   unfold U
   by_cases h : n + 1 ≤ i + 1
   ·rw [if_pos ⟨by omega, hn, h⟩, show min (n + 1) (i + 1) = n + 1 by omega, show min n (i + 1) = n by omega, sm]
    congr 2
    congr 1
    omega
   ·rw [if_neg (by omega), show min (n + 1) (i + 1) = i + 1 by omega, show min n (i + 1) = i + 1 by omega, Nat.add_zero]
 have h := hsplit m (Nat.le_refl m)
 rw [h]
theorem U_one {m : Nat} (hm : 1 ≤ m) (j : Nat) : U m 1 j = if j = 1 then 2 else 0 := by
 unfold U
 by_cases h : j = 1
 ·subst h; rw [if_pos ⟨Nat.le_refl _, hm, Nat.le_refl _⟩, if_pos rfl, W_zero]
 ·rw [if_neg (by omega), if_neg h]
theorem U_first {m i : Nat} (hm : 1 ≤ m) (hi : 1 ≤ i) : U m (i + 1) 1 = sm m (fun k => U m i (k + 1)) := by
 rw [U_sum hi]
 unfold U
 rw [if_pos ⟨Nat.le_refl _, hm, by omega⟩, Nat.add_sub_cancel]
theorem U_next {m i j : Nat} (hj : j < m) (hj1 : 1 ≤ j) : U m (i + 1) (j + 1) = U m i j := by
 unfold U
 by_cases h : j ≤ i
 ·rw [if_pos ⟨by omega, by omega, by omega⟩, if_pos ⟨hj1, by omega, h⟩, show i + 1 - (j + 1) = i - j by omega]
 ·rw [if_neg (by omega), if_neg (by omega)]
def cL (n k : Nat) : Nat := 2 * W k n - 2 * W (k - 1) n
theorem cL_sum {n : Nat} (hn : 1 ≤ n) : ∀ k, sm k (fun i => cL n (i + 1)) = 2 * W k n
 | 0 => by obtain ⟨n, rfl⟩ : ∃ k, n = k + 1 := ⟨n - 1, by omega⟩; rw [W_none]; rfl
 | k + 1 => by
  rw [sm, cL_sum hn k]
  unfold cL
  have := W_mono k n
  rw [Nat.add_sub_cancel]; omega
theorem cL_all {n : Nat} (hn : 1 ≤ n) : sm n (fun i => cL n (i + 1)) = 2 ^ n := by
 rw [cL_sum hn]
 obtain ⟨n, rfl⟩ : ∃ k, n = k + 1 := ⟨n - 1, by omega⟩
 rw [W_all n (Nat.le_refl _), Nat.pow_succ]; omega
end Go.Proofs.YtcimmgpmkfbpdaaGreatDoor.LvM
