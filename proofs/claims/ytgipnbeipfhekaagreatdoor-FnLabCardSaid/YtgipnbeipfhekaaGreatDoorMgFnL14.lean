/- The program's ratios: zero, and which of two is less. -/
import Derived.Test.YtgipnbeipfhekaaGreatDoorMgFnL13
import Derived.Test.YtgipnbeipfhekaaGreatDoorMgFnL08
import Derived.Test.YtgipnbeipfhekaaGreatDoorMgFnL07
import Derived.Test.YtgipnbeipfhekaaGreatDoorMgFnL11
import Derived.Test.YtgipnbeipfhekaaGreatDoorMgFnL00
set_option linter.unusedVariables false
set_option linter.unusedSimpArgs false
namespace Go.Proofs.YtgipnbeipfhekaaGreatDoor
namespace Ratio
open Go.RowKit Base Mem NatM Nat32 RatM
open YtgipnbeipfhekaaGreatDoor.Inv (natOf natOf_eq len_pos Rat3 not_slice not_bool frz)
theorem rtZero (s : Bool) (k1 k2 c1 c2 : Nat) (A1 A2 : Option Addr) (w : World) : Calls Tryz.prog 162 #[.agg #[.bool s, .slice A1 k1 c1, .slice A2 k2 c2]] w fun e w' => e = .returned (.bool (decide (k1 = 0))) ∧ Below w.heap.size w w' := by
 have hb := (Below.refl w.heap.size w).alloc (Nat.le_refl _) (.cells #[.bool s, .slice A1 k1 c1, .slice A2 k2 c2] 147)
 have HB := J hb
 clear hb
 rcases Nat.eq_zero_or_pos k1 with rfl | hk
 ·go_enter Tryz.func162, Tryz.ntmps162
  go_wp2
  go_ret
  exact ⟨ret_bool (by simp), HB.out⟩
 ·have hk0 : ((k1 : Int) == 0) = false := by simp only [beq_eq_false_iff_ne]; omega
  have hk1 : decide (k1 = 0) = false := decide_eq_false (by omega)
  go_enter Tryz.func162, Tryz.ntmps162
  go_wp2
  go_ret
  exact ⟨ret_bool (by first | exact hk1.symm | (simp; omega)), HB.out⟩
theorem zero_len (q : Rat) : (natL q.num.natAbs).length = 0 ↔ q = 0 := by
 constructor
 ·intro h
  refine Classical.byContradiction fun hq => ?_
  have := len_pos (Nat.pos_of_ne_zero fun e => hq ((zero_iff q).2 e))
  omega
 ·intro h
  rw [h, show (0 : Rat).num.natAbs = 0 from rfl, natL_zero]; rfl
def cmpQ (q r : Rat) : Int := if q = r then 0 else if q < r then -1 else 1
set_option maxHeartbeats 2000000 in
set_option maxRecDepth 100000 in
theorem ratCompare {q r : Rat} {v u : Value} (w : World) (hv : IsRt w q v) (hu : IsRt w r u) (hq : szR q ≤ 200000) (hr : szR r ≤ 200000) : Calls Tryz.prog 100 #[v, u] w fun e w' => e = .returned (.int .i64 (cmpQ q r)) ∧ Below w.heap.size w w' := by
 have hb0 : ∀ v1 v2 v3 u1 u2 u3 : Value, Below w.heap.size w ((w.alloc (.cells #[v1, v2, v3] 147)).alloc (.cells #[u1, u2, u3] 147)) := fun _ _ _ _ _ _ => ((Below.refl _ _).alloc (Nat.le_refl _) _).alloc (by simp) _
 obtain ⟨W2, hW2, bW⟩ : ∃ W2, (∃ A1 c1 A2 c2 A3 c3 A4 c4, v = .agg #[.bool (decide (q < 0)), .slice A1 (natL q.num.natAbs).length c1, .slice A2 (natL q.den).length c2] ∧ u = .agg #[.bool (decide (r < 0)), .slice A3 (natL r.num.natAbs).length c3, .slice A4 (natL r.den).length c4] ∧ W2 = (w.alloc (.cells #[.bool (decide (q < 0)), .slice A1 (natL q.num.natAbs).length c1, .slice A2 (natL q.den).length c2] 147)).alloc (.cells #[.bool (decide (r < 0)), .slice A3 (natL r.num.natAbs).length c3, .slice A4 (natL r.den).length c4] 147)) ∧ Below w.heap.size w W2 := by
  obtain ⟨A1, c1, A2, c2, e1, _, _⟩ := hv
  obtain ⟨A3, c3, A4, c4, e2, _, _⟩ := hu
  exact ⟨_, ⟨A1, c1, A2, c2, A3, c3, A4, c4, e1, e2, rfl⟩, hb0 _ _ _ _ _ _⟩
 have HM := J (ratMinus W2 (hv.below bW) (hu.below bW) hq hr)
 obtain ⟨A1, c1, A2, c2, A3, c3, A4, c4, rfl, rfl, hW⟩ := hW2
 have HW := J hW
 have HB := J bW
 have hc : cmpQ q r = if q - r = 0 then 0 else if q - r < 0 then -1 else 1 := by
  unfold cmpQ
  have h1 : q - r = 0 ↔ q = r := by constructor <;> intro h <;> grind
  have h2 : q - r < 0 ↔ q < r := by constructor <;> intro h <;> grind
  simp only [h1, h2]
 have HC := J hc
 clear hW bW hv hu hq hr hb0 hc
 generalize cmpQ q r = cv at *
 generalize q - r = d at *
 generalize decide (q < 0) = s at *
 generalize decide (r < 0) = s' at *
 generalize (natL q.num.natAbs).length = k1 at *
 generalize (natL q.den).length = k2 at *
 generalize (natL r.num.natAbs).length = k3 at *
 generalize (natL r.den).length = k4 at *
 go_enter Tryz.func100, Tryz.ntmps100
 go_wp2_with fail
 rw [← HW.out]
 refine HM.out.mono ?_
 rintro e w3 ⟨A5, c5, A6, c6, rfl, h5, h6, hb3⟩
 have HB3 := J (HB.out.trans (hb3.mono HB.out.size))
 have HZ := J (fun W => rtZero (decide (d < 0)) (natL d.num.natAbs).length (natL d.den).length c5 c6 A5 A6 W)
 have HZL : Hid (decide ((natL d.num.natAbs).length = 0) = decide (d = 0)) := J (by simp only [zero_len])
 rw [HZL.out] at HZ
 clear h5 h6 hb3
 go_wp2_with fail
 refine (HZ.out _).mono ?_
 rintro e w4 ⟨rfl, hb4⟩
 have HB4 := J ((HB3.out.alloc HB3.out.size (.cells #[.bool (decide (d < 0)), .slice A5 (natL d.num.natAbs).length c5, .slice A6 (natL d.den).length c6] 147)).trans (hb4.mono (by have := HB3.out.size; simp; omega)))
 have d0 : w4.cell? ⟨w3.heap.size, 0, none⟩ = some (.bool (decide (d < 0))) := box_cells hb4 0
 clear hb4
 by_cases hz : d = 0
 ·have hzb : decide (d = 0) = true := decide_eq_true hz
  have hcv : cv = 0 := by rw [HC.out, if_pos hz]
  subst hcv
  generalize decide (d < 0) = sd at *
  clear hz
  go_wp2
  go_ret
  exact ⟨rfl, HB4.out⟩
 ·have hzb : decide (d = 0) = false := decide_eq_false hz
  by_cases hl : d < 0
  ·have hlb : decide (d < 0) = true := decide_eq_true hl
   have hcv : cv = -1 := by rw [HC.out, if_neg hz, if_pos hl]
   subst hcv
   clear hz hl
   go_wp2
   go_ret
   exact ⟨rfl, HB4.out⟩
  ·have hlb : decide (d < 0) = false := decide_eq_false hl
   have hcv : cv = 1 := by rw [HC.out, if_neg hz, if_neg hl]
   subst hcv
   clear hz hl
   go_wp2
   go_ret
   exact ⟨rfl, HB4.out⟩
end Ratio
namespace Nat32
open Go.RowKit Base Mem NatM
set_option maxHeartbeats 1000000 in
theorem small_no (x : Nat) (A : Option Addr) (c B : Nat) (w : World) (hx : RdU w B A (natL x)) (h : 1000000000000000000 < x) :
  Calls Tryz.prog 198 #[.slice A (natL x).length c] w fun e w' => ∃ i : Int, e = .returned (.tuple #[.int .i64 i, .bool false]) ∧ w = w' := by
 by_cases hlen : (natL x).length ≤ 2
 case neg =>
  generalize (natL x).length = k at *
  have hd : decide ((2 : Int) < (k : Int)) = true := decide_eq_true (by omega)
  clear hx
  go_enter Tryz.func198, Tryz.ntmps198
  go_wp2
  go_ret2
  exact ⟨0, rfl, rfl⟩
 have ok := natL_ok x
 have hv := natL_val x
 have HX := J hx
 generalize hxs : natL x = xs at *
 have HV := J hv
 have HO := J ok
 clear hx hv ok hxs
 go_enter Tryz.func198, Tryz.ntmps198
 go_wp2
 go_loop [12, 4] (fun iv nv => ∃ k : Nat, k ≤ xs.length ∧ iv = .int .i64 (k : Int) ∧ nv = .int .u64 ((val (xs.take k) : Nat) : Int)) (fun iv _ => xs.length - (intOf iv).toNat)
 case atStart => exact ⟨0, Nat.zero_le _, rfl, rfl⟩
 case round =>
  obtain ⟨k, hk, rfl, rfl⟩ := hrel
  by_cases hlt : k < xs.length
  ·have hx1 : xs.getD k 0 < B32 := HO.out _ (by simp [List.getD, hlt])
   obtain ⟨b, off, rfl, _, hc⟩ := HX.out (by omega)
   have g := hc k hlt
   clear hc
   have HS := J (val_take_succ xs k hlt)
   have hk2 : k = 0 ∨ k = 1 := by omega
   rcases hk2 with rfl | rfl
   ·rw [List.take_zero, show val ([] : List Nat) = 0 from rfl] at HS ⊢
    rw [Nat.add_zero] at g
    unfold B32 at hx1
    generalize xs.getD 0 0 = y at *
    have HO2 := J (or_digit 0 y (by decide) hx1)
    have HO1 := J (u64_or 0 y (by decide) (by omega))
    go_wp2
    go_round
    case rel => exact ⟨1, by omega, rfl, by rw [HS.out]; have := HO1.out; rw [Nat.zero_or] at this; rw [show ((0 : Nat) : Int) = 0 from rfl] at this; rw [this]; simp⟩
    case measure => simp [intOf]; omega
   ·unfold B32 at hx1
    have hz1 : val (xs.take 1) < B32 := by
     have := val_lt _ (okN_take HO.out 1)
     rw [List.length_take, Nat.min_eq_left (by omega)] at this
     simpa using this
    unfold B32 at hz1
    generalize xs.getD 1 0 = y at *
    generalize val (xs.take 1) = z at *
    have HO2 := J (or_digit z y hz1 hx1)
    go_wp2
    go_round
    case rel => exact ⟨2, by omega, rfl, by rw [HS.out, HO2.out]; rfl⟩
    case measure => simp [intOf]; omega
  ·obtain rfl : k = xs.length := by omega
   have hvx : val (xs.take xs.length) = x := by rw [List.take_of_length_le (Nat.le_refl _)]; exact HV.out
   rw [hvx]
   have hlt2 : x < 18446744073709551616 := by
    have := val_lt xs HO.out
    have e : B32 ^ xs.length ≤ B32 ^ 2 := Nat.pow_le_pow_right (by decide) hlen
    rw [HV.out] at this
    exact Nat.lt_of_lt_of_le this (Nat.le_trans e (by decide))
   have hle : decide ((x : Int) ≤ 1000000000000000000) = false := decide_eq_false (by omega)
   clear hvx
   go_wp2
   go_ret2
   exact ⟨⟨wrap64 (bits BinOp.and IntKind.u64 (x : Int) 9223372036854775807), rfl⟩, rfl⟩
end Nat32
namespace Ratio
open Go.RowKit Base Mem NatM Nat32 RatM
open YtgipnbeipfhekaaGreatDoor.Inv (natOf natOf_eq len_pos Rat3 not_slice not_bool frz)
theorem smallAny (x : Nat) (A : Option Addr) (c B : Nat) (w : World) (hx : RdU w B A (natL x)) :
  Calls Tryz.prog 198 #[.slice A (natL x).length c] w fun e w' => (∃ i : Int, e = .returned (.tuple #[.int .i64 i, .bool (decide (x ≤ 1000000000000000000))]) ∧ (x ≤ 1000000000000000000 → i = x)) ∧ w = w' := by
 rcases Nat.lt_or_ge 1000000000000000000 x with h | h
 ·rw [decide_eq_false (by omega)]
  refine (small_no x A c B w hx h).mono ?_
  rintro e w' ⟨i, rfl, rfl⟩
  exact ⟨⟨i, rfl, fun h' => absurd h' (by omega)⟩, rfl⟩
 ·rw [decide_eq_true (by omega)]
  refine (small_yes x A c B w hx h).mono ?_
  rintro e w' ⟨rfl, rfl⟩
  exact ⟨⟨x, rfl, fun _ => rfl⟩, rfl⟩
theorem ratFraction {q : Rat} {v : Value} (w : World) (hv : IsRt w q v) :
  Calls Tryz.prog 156 #[v] w fun e w' => e = .returned (.tuple #[.agg #[.int .i64 (numQ q), .int .i64 (denQ q)], .bool (smallQ q)]) ∧ Below w.heap.size w w' := by
 obtain ⟨A, c, A', c', rfl, hx, hy⟩ := hv
 have HB : Hid (Below w.heap.size w ((w.alloc (.cells #[.bool (decide (q < 0)), .slice A (natL q.num.natAbs).length c, .slice A' (natL q.den).length c'] 147)).alloc (.cells #[.int .i64 0, .int .i64 0] 49))) := J (((Below.refl _ _).alloc (Nat.le_refl _) _).alloc (by simp) _)
 have H1 := J (fun W (h : Below w.heap.size w W) => smallAny q.num.natAbs A c w.heap.size W (hx.below h (Nat.le_refl _)))
 have H2 := J (fun W (h : Below w.heap.size w W) => smallAny q.den A' c' w.heap.size W (hy.below h (Nat.le_refl _)))
 have HF : ∀ i j : Int, (q.num.natAbs ≤ 1000000000000000000 → i = q.num.natAbs) → (q.den ≤ 1000000000000000000 → j = q.den) → decide (q.num.natAbs ≤ 1000000000000000000) = true → decide (q.den ≤ 1000000000000000000) = true → smallQ q = true ∧ denQ q = j ∧ ((q.num.natAbs : Int) = i ∧ (q.den : Int) = j) ∧ (decide (q < 0) = true → numQ q = -i ∧ 0 ≤ i ∧ i ≤ 1000000000000000000) ∧ (decide (q < 0) = false → numQ q = i) := by
  intro i j hi hj h1 h2
  have hs : smallQ q = true := by unfold smallQ; rw [h1, h2]; rfl
  have hn := hi (of_decide_eq_true h1)
  have hle := of_decide_eq_true h1
  refine ⟨hs, by unfold denQ; rw [hs, hj (of_decide_eq_true h2)]; rfl, ⟨hn.symm, (hj (of_decide_eq_true h2)).symm⟩, fun hq => ?_, fun hq => ?_⟩
  ·have : q.num < 0 := Int.not_le.1 fun h => Rat.not_le.2 (of_decide_eq_true hq) (Rat.num_nonneg.1 h)
   exact ⟨by unfold numQ; rw [hs]; simp; omega, by omega, by omega⟩
  ·have : 0 ≤ q.num := Rat.num_nonneg.2 (Rat.not_lt.1 (of_decide_eq_false hq))
   unfold numQ; rw [hs]; simp; omega
 have HG : (decide (q.num.natAbs ≤ 1000000000000000000) = false ∨ decide (q.den ≤ 1000000000000000000) = false) → smallQ q = false ∧ numQ q = 0 ∧ denQ q = 0 := by
  intro h
  have hs : smallQ q = false := by unfold smallQ; rcases h with h | h <;> rw [h] <;> simp
  exact ⟨hs, by unfold numQ; rw [hs]; rfl, by unfold denQ; rw [hs]; rfl⟩
 have HF := J HF
 have HG := J HG
 clear hx hy
 generalize decide (q < 0) = s at *
 generalize (natL q.num.natAbs).length = n at *
 generalize (natL q.den).length = n' at *
 generalize hb1 : decide (q.num.natAbs ≤ 1000000000000000000) = b1 at *
 generalize hb2 : decide (q.den ≤ 1000000000000000000) = b2 at *
 clear hb1 hb2
 generalize numQ q = vn at *
 generalize denQ q = vd at *
 generalize smallQ q = sm at *
 go_enter Tryz.func156, Tryz.ntmps156
 go_wp2_with fail
 refine (H1.out _ HB.out).mono ?_
 rintro e w1 ⟨⟨i, rfl, hi⟩, rfl⟩
 have HI := J hi
 clear hi
 go_wp2_with fail
 refine (H2.out _ HB.out).mono ?_
 rintro e w1 ⟨⟨j, rfl, hj⟩, rfl⟩
 have HF2 := J (HF.out i j HI.out hj)
 clear hj
 clear HF
 cases b1 with
 | false =>
  obtain ⟨rfl, rfl, rfl⟩ := HG.out (Or.inl rfl)
  cases b2 <;>
  ·go_wp2
   refine bodyPost_ret (v := .tuple #[.agg #[.int .i64 0, .int .i64 0], .bool false]) (by simp [results, Tryz.results156, go_sem]) rfl ⟨rfl, ?_⟩
   exact ((Below.refl _ _).alloc (Nat.le_refl _) _).alloc (by simp) _
 | true =>
  cases b2 with
  | false =>
   obtain ⟨rfl, rfl, rfl⟩ := HG.out (Or.inr rfl)
   go_wp2
   refine bodyPost_ret (v := .tuple #[.agg #[.int .i64 0, .int .i64 0], .bool false]) (by simp [results, Tryz.results156, go_sem]) rfl ⟨rfl, ?_⟩
   exact ((Below.refl _ _).alloc (Nat.le_refl _) _).alloc (by simp) _
  | true =>
   obtain ⟨rfl, rfl, ⟨e1, e2⟩, hn, hp⟩ := HF2.out rfl rfl
   have E1 := J e1
   have E2 := J e2
   clear e1 e2
   cases s with
   | true =>
    obtain ⟨rfl, h0, hle⟩ := hn rfl
    clear hn hp
    have hw : wrap64 (-i) = -i := by first | (unfold wrap64; omega) | (simp [wrap64]; omega)
    go_wp2
    refine bodyPost_ret (v := .tuple #[.agg #[.int .i64 (-i), .int .i64 vd], .bool true]) (by simp [results, Tryz.results156, go_sem]; first | done | (rw [E1.out, E2.out]; first | exact ⟨hw, rfl⟩ | exact ⟨rfl, rfl⟩)) rfl ⟨rfl, ?_⟩
    exact ((Below.refl _ _).alloc (Nat.le_refl _) _).alloc (by simp) _
   | false =>
    obtain rfl := hp rfl
    clear hn hp
    go_wp2
    refine bodyPost_ret (v := .tuple #[.agg #[.int .i64 vn, .int .i64 vd], .bool true]) (by simp [results, Tryz.results156, go_sem]; first | done | (rw [E1.out, E2.out]; first | exact ⟨hw, rfl⟩ | exact ⟨rfl, rfl⟩)) rfl ⟨rfl, ?_⟩
    exact ((Below.refl _ _).alloc (Nat.le_refl _) _).alloc (by simp) _
end Ratio
namespace LpQ
open Go.RowKit Base Mem MemF GiveM NatM Nat32 RatM Ratio Blk LvQ LvO LvT
open YtgipnbeipfhekaaGreatDoor.Inv (Rat3)
theorem len2 {v : Nat} (h : v ≤ 1000000000000000000) : (natL v).length ≤ 1000000 :=
 Nat.le_trans (natL_len_le (k := 2) (Nat.lt_of_le_of_lt h (by decide))) (by decide)
set_option maxHeartbeats 1000000 in
theorem quo_d {v n M : Nat} (hv0 : 0 < v) (hv : v ≤ 2 ^ n) (hn : n ≤ 50) (hM : M = 2 ^ n) (w : World) : Calls Tryz.prog 155 #[.int .i64 (v : Int), .int .i64 (M : Int)] w (RV (dy n v) w) := by
 have hp : (2 : Nat) ^ n ≤ 2 ^ 50 := Nat.pow_le_pow_right (by decide) hn
 have hp0 := Nat.two_pow_pos n
 rw [show dy n v = qv false v M by rw [hM]; rfl]
 rw [← hM] at hv hp hp0
 clear hM
 have hpos : ∀ e w', RtRet false (v / Nat.gcd v M) (M / Nat.gcd v M) w e w' → RV (qv false v M) w e w' := fun e w' h => RV.of_pos hv0 hp0 h
 obtain ⟨W0, hW0⟩ : ∃ W0, W0 = w.alloc (.cells #[.bool false, .slice none 0 0, .slice none 0 0] 147) := ⟨_, rfl⟩
 have hB0 : Below w.heap.size w W0 := by rw [hW0]; exact (Below.refl _ _).alloc (Nat.le_refl _) _
 have r1 : Rat3 W0 w.heap.size (.bool false) (.slice none 0 0) (.slice none 0 0) := by rw [hW0]; exact Rat3.new w _ _ _ _
 have hz0 : w.heap.size < W0.heap.size := by rw [hW0]; simp
 have HS := J (fun W => size_int (v : Int) (by omega) W)
 rw [Int.natAbs_natCast] at HS
 have HN1 := J (naturalOf_any v (by omega) W0)
 have HN2 := J (fun W => naturalOf_any M (by omega) W)
 have HL := J (fun A A' c c' W hx hy => lowestG_pos false v M A A' c c' W hx hy (len2 (by omega)) (len2 (by omega)) hv0 hp0)
 have HPos := J hpos
 have hvn : ¬ ((v : Int) < 0) := by omega
 clear hpos
 generalize v / Nat.gcd v M = P at *
 generalize M / Nat.gcd v M = Q at *
 refine Calls.mono ?_ HPos.out
 go_enter Tryz.func155, Tryz.ntmps155
 go_wp2_with (go_at_call 83; refine (HS.out _).mono ?_; rintro e w1 ⟨rfl, rfl⟩)
 rw [← hW0]
 refine HN1.out.mono ?_
 rintro e w1 ⟨A3, c3, rfl, h3, hb1⟩
 have H3 := J h3
 have HB1 := J hb1
 clear h3 hb1 hW0
 go_wp2_with fail
 refine (HN2.out _).mono ?_
 rintro e w2 ⟨A4, c4, rfl, h4, hb2⟩
 have HLL := J (HL.out A3 A4 c3 c4 w2 ((H3.out.below hb2 (Nat.le_refl _)).more hb2.size) h4)
 have HB2 := J (HB1.out.trans (hb2.mono HB1.out.size))
 clear h4 hb2
 go_wp2_with fail
 refine HLL.out.mono ?_
 rintro e w3 ⟨A1, c1, A2, c2, rfl, h1, h2, hb3⟩
 have hb03 := HB2.out.trans (hb3.mono HB2.out.size)
 have q1 := r1.below hb03 hz0
 have hb := hB0.trans (hb03.mono hB0.size)
 clear r1 hb03 hb3 hB0 hz0 HLL HL HN1 HN2 HS H3 HB1 HB2 HPos
 obtain ⟨m6, m7, m8, HR⟩ := rt_store false (c1 := c1) (c2 := c2) q1 h1 h2 hb (Nat.le_refl _)
 have HRH := J HR
 clear HR
 obtain ⟨d0, d1, d2, df0, df1, df2⟩ := q1
 obtain ⟨m60, m61, m62, mf60, mf61, mf62⟩ := m6
 obtain ⟨m70, m71, m72, mf70, mf71, mf72⟩ := m7
 obtain ⟨m80, m81, m82, mf80, mf81, mf82⟩ := m8
 go_wp2
 refine bodyPost_ret (v := .agg #[.bool false, .slice A1 (natL P).length c1, .slice A2 (natL Q).length c2]) (by simp [results, Tryz.results155, go_sem, m80, m81, m82]) rfl HRH.out
end LpQ
namespace LpW
open Go.RowKit Base Mem MemF GiveM RatM Ratio LvM LvQ LvO LvT Blk
theorem blkKept {w w' : World} {B' n' size' b : Nat} {e' t : TypeId} {cs : Array Value} {v' : Value} {xs' : List Value} (h : Blk w b t cs) (h' : w.ownsRow B' e' size' v' n' xs') (he : t ≠ e') (hg : w.grownBy w' v'.ownBlock) : Blk w' b t cs := by
 refine h.kept hg fun hh => ?_
 obtain ⟨cur', h2, _⟩ := ownsRow_block h' hh
 unfold Blk at h
 rw [h] at h2
 injection h2 with h2
 injection h2 with _ h3
 exact he h3
def LoRel (C : Cnt) (n : Nat) (w : World) (iv : Value) (wr : World) : Prop :=
 ∃ k v1 v2, k ≤ C.many ∧ iv = .int .i64 (k : Int) ∧ Hid (Blk wr w.heap.size 60 #[.slice none 0 0, .slice none 0 0]) ∧ Hid (Blk wr (w.heap.size + 1) 60 #[v1, v2]) ∧ Hid (OwnI wr (w.heap.size + 2) v1 (fl k (vD C))) ∧ Hid (OwnF wr (w.heap.size + 2) v2 k (outF (fD C n) k)) ∧ Hid (Below w.heap.size w wr)
theorem lo_first {C : Cnt} {n k b0 c1 c2 : Nat} {A1 A2 : Option Addr} {v' : Value} {W Wx w3 : World} (hO : OwnI W (b0 + 2) (.slice A1 k c1) (fl k (vD C))) (hF : OwnF W (b0 + 2) (.slice A2 k c2) k (outF (fD C n) k)) (hz : b0 + 2 ≤ W.heap.size) (hx : Below W.heap.size W Wx)
  (hown : w3.ownsRow (b0 + 2) 2 1 v' (k + 1) (ints (fl k (vD C)) ++ [.int .i64 ((vD C k : Nat) : Int)])) (hg : Wx.grownBy w3 (Value.slice A1 k c1).ownBlock) :
  OwnI w3 (b0 + 2) v' (fl (k + 1) (vD C)) ∧ OwnF w3 (b0 + 2) (.slice A2 k c2) k (outF (fD C n) k) ∧ Below (b0 + 2) W w3 ∧ ∀ b cs, Blk Wx b 49 cs → Blk w3 b 49 cs := by
 obtain ⟨p1, p2⟩ := nextI hz hO (Below.refl (b0 + 2) W) hx hown hg
 exact ⟨p1, rowKept (ownsRow_below hF hx) (OwnI.below hO hx) (by decide) hg, p2, fun b cs h => blkKept h (OwnI.below hO hx) (by decide) hg⟩
theorem lo_second {C : Cnt} {n k b0 c2 bf : Nat} {A2 : Option Addr} {u1 va vb : Value} {w W5 Wy w6 : World} {cf : Array Value} (hK : Blk W5 (b0 + 1) 60 #[u1, .slice A2 k c2]) (hR : Blk W5 b0 60 #[.slice none 0 0, .slice none 0 0]) (hO : OwnI W5 (b0 + 2) va (fl (k + 1) (vD C))) (hF : OwnF W5 (b0 + 2) (.slice A2 k c2) k (outF (fD C n) k)) (hB : Below b0 w W5) (hz : b0 + 2 ≤ W5.heap.size) (h4 : Below W5.heap.size W5 Wy)
  (hown : w6.ownsRow (b0 + 2) 49 2 vb (k + 1) (ints (outF (fD C n) k) ++ [.int .i64 (numQ (fD C n k)), .int .i64 (denQ (fD C n k))])) (hg : Wy.grownBy w6 (Value.slice A2 k c2).ownBlock) (hkf : Blk W5 bf 49 cf) (hne : (Value.slice A2 k c2).ownBlock ≠ some bf) :
  (Blk w6 (b0 + 1) 60 #[u1, .slice A2 k c2] ∧ Blk w6 bf 49 cf) ∧ (w6.cell? ⟨b0 + 1, 0, none⟩ = some u1 ∧ w6.frozen? ⟨b0 + 1, 0, none⟩ = false ∧ w6.cell? ⟨b0 + 1, 1, none⟩ = some (.slice A2 k c2) ∧ w6.frozen? ⟨b0 + 1, 1, none⟩ = false) ∧
  Hid (Blk ((w6.setCell ⟨b0 + 1, 0, none⟩ va).setCell ⟨b0 + 1, 1, none⟩ vb) b0 60 #[.slice none 0 0, .slice none 0 0] ∧ Blk ((w6.setCell ⟨b0 + 1, 0, none⟩ va).setCell ⟨b0 + 1, 1, none⟩ vb) (b0 + 1) 60 #[va, vb] ∧ OwnI ((w6.setCell ⟨b0 + 1, 0, none⟩ va).setCell ⟨b0 + 1, 1, none⟩ vb) (b0 + 2) va (fl (k + 1) (vD C)) ∧ OwnF ((w6.setCell ⟨b0 + 1, 0, none⟩ va).setCell ⟨b0 + 1, 1, none⟩ vb) (b0 + 2) vb (k + 1) (outF (fD C n) (k + 1)) ∧ Below b0 w ((w6.setCell ⟨b0 + 1, 0, none⟩ va).setCell ⟨b0 + 1, 1, none⟩ vb)) := by
 have P2 : Below (b0 + 2) W5 w6 := pushB hF hz h4 hg
 have P3 := rowKept (OwnI.below hO h4) (ownsRow_below hF h4) (by decide) hg
 have K6 := hK.below P2 (by omega)
 exact ⟨⟨K6, (hkf.belowS h4).kept hg hne⟩, ⟨K6.at 0 (v := u1) rfl, K6.frz 0, K6.at 1 (v := .slice A2 k c2) rfl, K6.frz 1⟩, J ⟨((hR.below P2 (by omega)).other _ (by simp)).other _ (by simp), (K6.setTo 0 va rfl).setTo 1 vb rfl,
  ownsRow_setCell_below (ownsRow_setCell_below P3 (a := ⟨b0 + 1, 0, none⟩) (by simp) va) (a := ⟨b0 + 1, 1, none⟩) (by simp) vb, ownsRow_setCell_below (ownsRow_setCell_below (pushFr hown) (a := ⟨b0 + 1, 0, none⟩) (by simp) va) (a := ⟨b0 + 1, 1, none⟩) (by simp) vb,
  ((hB.trans (P2.mono (by omega))).setCell (p := ⟨b0 + 1, 0, none⟩) (Nat.le_succ _) va).setCell (p := ⟨b0 + 1, 1, none⟩) (Nat.le_succ _) vb⟩⟩
theorem nw2 (w : World) (E X : Obj) : ((w.alloc X).alloc E).heap[w.heap.size]? = some X := (Below.heap_alloc (w.alloc X) E _ (by simp)).trans (heap_alloc_new w X)
set_option maxHeartbeats 4000000 in
set_option maxRecDepth 100000 in
theorem lawOf_d {A : Option Addr} {c B n M : Nat} {C : Cnt} (hC : C.ok n) (hn : n ≤ 50) (hM : M = 2 ^ n) (w : World) (hx : RdI w B A (fl C.many C.c)) (hB : B ≤ w.heap.size) :
  Calls Tryz.prog 95 #[.int .i64 (C.first : Int), .slice A C.many c, .int .i64 (M : Int)] w (LawRet C n w) := by
 obtain ⟨i0, hi, hz0, hz1, hz2⟩ := info_parts infoI
 obtain ⟨i2, ki, kz0, kz1, kz2⟩ := info_parts infoFr
 have HC := J hC
 have hN60 : C.many ≤ 51 := by have := hC.2.1; omega
 have hf1 := hC.1
 have HQ := J (fun k (hk : k < C.many) W => LpQ.quo_d (hC.2.2.1 k hk) (Cnt.one_le hC hk) hn hM W)
 have HX := J hx
 obtain ⟨W2, hW2⟩ : ∃ W2, W2 = (w.alloc (.cells #[.slice none 0 0, .slice none 0 0] 60)).alloc (.cells #[.slice none 0 0, .slice none 0 0] 60) := ⟨_, rfl⟩
 have H0 : Hid (LoRel C n w (.int .i64 0) W2) := J (by
  rw [hW2]
  exact ⟨0, .slice none 0 0, .slice none 0 0, Nat.zero_le _, rfl, J ((Blk.new w _ _).alloc _), J (Blk.newAt _ _ (by simp)), J (World.ownsRow_nil _ _ _ _), J (World.ownsRow_nil _ _ _ _), J (((Below.refl _ _).alloc (Nat.le_refl _) _).alloc (by simp) _)⟩)
 have HW := J hW2
 clear hx hW2 hM hC
 go_enter Tryz.func95, Tryz.ntmps95
 go_wp2
 rw [← HW.out]
 go_loopw [15] (fun iv wr => LoRel C n w iv wr) (fun iv _ => C.many - (intOf iv).toNat)
 case atStart => exact H0.out
 case round =>
  obtain ⟨k, v1, v2, hkN, rfl, KR, KB, HO, HF, HBr⟩ := hrel
  obtain ⟨wp, rfl⟩ : ∃ x, x = wr := ⟨_, rfl⟩
  clear H0
  obtain ⟨A1, c1, e5, _⟩ := HO.out.form
  rw [fl_len] at e5
  obtain ⟨A2, c2, e6, _⟩ := HF.out.form
  subst e5
  subst e6
  have HA2 : Hid (∀ g, (Value.slice A2 k c2).ownBlock = some g → g < wp.heap.size) := J (fun g hg => by obtain ⟨_, _, _, h4⟩ := ownsRow_block HF.out hg; exact h4)
  by_cases hlt : k < C.many
  ·obtain ⟨b, off, rfl, hb2, hcc⟩ := (HX.out.below HBr.out hB) (by rw [fl_len]; omega)
   have g1 := hcc k (by rw [fl_len]; exact hlt)
   rw [fl_at _ hlt] at g1
   clear hcc
   have hpos := HC.out.2.2.1 k hlt
   have hle := Cnt.one_le HC.out hlt
   have HQk := J (HQ.out k hlt)
   have HSm := J (dy_small hle hn)
   have hfd : dy n (C.c k) = fD C n k := rfl
   rw [hfd] at HQk HSm
   have hx50 : (2 : Nat) ^ n ≤ 2 ^ 50 := Nat.pow_le_pow_right (by decide) hn
   have hc50 : C.c k ≤ 1125899906842624 := by omega
   obtain ⟨x, hx⟩ : ∃ x, x = C.c k := ⟨_, rfl⟩
   rw [← hx] at g1 hpos HQk hc50
   clear hx hfd hle hx50
   go_wp2_with fail
   refine (HQk.out _).mono ?_
   rintro e w3 h
   obtain ⟨v, rfl, hv, hb3⟩ := h.is
   have HFr := J (ratFraction w3 hv)
   have HB3 := J hb3
   clear h hv hb3 HQk
   rw [HSm.out] at HFr
   go_wp2_with fail
   refine HFr.out.mono ?_
   rintro e w4 ⟨rfl, hb4⟩
   have hb5 := Base.Below.nextA HB3.out hb4
   obtain ⟨W, hW⟩ : ∃ W, W = w4.alloc (.cells #[.int .i64 (numQ (fD C n k)), .int .i64 (denQ (fD C n k))] 49) := ⟨_, rfl⟩
   have hb6 : Below wp.heap.size wp W := by rw [hW]; exact hb5.alloc hb5.size _
   have KF : Hid (Blk W w4.heap.size 49 #[.int .i64 (numQ (fD C n k)), .int .i64 (denQ (fD C n k))]) := J (by rw [hW]; exact Blk.new w4 _ _)
   have hwz0 : w.heap.size + 1 < wp.heap.size := KB.out.lt
   have hwz : w.heap.size + 2 ≤ W.heap.size := by have := hb6.size; omega
   have HB6 := J (Base.Below.nextA HBr.out hb6)
   replace KR := J (KR.out.belowS hb6)
   replace KB := J (KB.out.belowS hb6)
   replace HO := J (OwnI.below HO.out hb6)
   replace HF := J (OwnF.below HF.out hb6)
   have HW6 := J hW
   have HNE : Hid ((Value.slice A2 k c2).ownBlock ≠ some w4.heap.size) := J (fun h => by have h1 := HA2.out _ h; have := hb5.size; omega)
   clear HA2
   clear hb4 hb5 hb6 hW HFr HB3 HBr g1 hwz0
   go_wp2_with fail
   rw [← HW6.out]
   clear HW6
   obtain ⟨x1, hx1⟩ : ∃ x, x = numQ (fD C n k) := ⟨_, rfl⟩
   obtain ⟨x2, hx2⟩ : ∃ x, x = denQ (fD C n k) := ⟨_, rfl⟩
   rw [← hx1, ← hx2] at KF
   have HXE := J (And.intro hx1 hx2)
   obtain ⟨z, hz⟩ : ∃ z, z = ((vD C k : Nat) : Int) := ⟨_, rfl⟩
   have HZ := J hz
   have hw1 : IntKind.i64.wrap ((C.first : Int) + (k : Int)) = z := by rw [hz, IntKind.wrap_i64]; unfold vD; omega
   have hk60 : k ≤ 60 := by omega
   have d0 := KB.out.at 0 (v := .slice A1 k c1) rfl
   have d1 := KB.out.at 1 (v := .slice A2 k c2) rfl
   have f0 := KF.out.at 0 (v := .int .i64 x1) rfl
   have f1 := KF.out.at 1 (v := .int .i64 x2) rfl
   have lF := KF.out.lt
   have lB := KB.out.lt
   have lB2 : w.heap.size < W.heap.size := by omega
   have lF2 : w4.heap.size < W.heap.size + 1 := by omega
   have lB3 : w.heap.size + 1 < W.heap.size + 1 := by omega
   have hra := World.ownsRow.alloc HO.out (.cells #[.int .i64 z] 2)
   have hrb := World.ownsRow.alloc (World.ownsRow.alloc HO.out (.cells #[.int .i64 x1, .int .i64 x2] 49)) (.cells #[.int .i64 z] 2)
   have hrc := World.ownsRow.alloc (World.ownsRow.alloc HO.out (.cells #[.int .i64 z] 2)) (.cells #[.int .i64 x1, .int .i64 x2] 49)
   rw [fl_len] at hra hrb hrc
   have HWa := J hra
   have HWb := J hrb
   have HWc := J hrc
   have HN : Hid (∀ u1 u2 w8, (Blk w8 w.heap.size 60 #[.slice none 0 0, .slice none 0 0] ∧ Blk w8 (w.heap.size + 1) 60 #[u1, u2] ∧ OwnI w8 (w.heap.size + 2) u1 (fl (k + 1) (vD C)) ∧ OwnF w8 (w.heap.size + 2) u2 (k + 1) (outF (fD C n) (k + 1)) ∧ Below w.heap.size w w8) → LoRel C n w (.int .i64 ((k : Int) + 1)) w8) := J fun u1 u2 w8 h => ⟨k + 1, u1, u2, hlt, by simp, J h.1, J h.2.1, J h.2.2.1, J h.2.2.2.1, J h.2.2.2.2⟩
   clear hx1 hx2 hz hra hrb hrc HSm hpos hc50
   obtain ⟨S, hSE⟩ : ∃ S : World → Prop, S = fun w' => w'.cell? ⟨w.heap.size + 1, 0, none⟩ = some (.slice A1 k c1) ∧ w'.cell? ⟨w.heap.size + 1, 1, none⟩ = some (.slice A2 k c2) ∧ w'.cell? ⟨w4.heap.size, 0, none⟩ = some (.int .i64 x1) ∧ w'.cell? ⟨w4.heap.size, 1, none⟩ = some (.int .i64 x2) := ⟨_, rfl⟩
   have HSE := J hSE
   have HSA : Hid (∀ V, Blk V (w.heap.size + 1) 60 #[.slice A1 k c1, .slice A2 k c2] → Blk V w4.heap.size 49 #[.int .i64 x1, .int .i64 x2] → S V) := J (fun V h1 h2 => by rw [hSE]; exact ⟨h1.at 0 rfl, h1.at 1 rfl, h2.at 0 rfl, h2.at 1 rfl⟩)
   clear hSE
   refine Late.start S [13, 14, 15] 16 (by kernel_rfl) (HSA.out _ KB.out KF.out) rfl (fun hS => ?_)
   clear d0 d1 f0 f1
   refine Late.take (i := 0) (v := ?_) (by rfl) (by kernel_rfl) (by kernel_rfl) (by kernel_rfl) (by intro _ _ _ h; exact h) (by kernel_rfl) (by kernel_rfl) (Or.inl ⟨by rfl, ?_⟩) hS ?_
   rotate_left
   ·(intro W' hW'; rw [HSE.out] at hW'; obtain ⟨q0, q1, q2, q3⟩ := hW'; go_simp; (try with_reducible rfl))
   try simp only [Act.put, List.setIfInBounds_toArray, List.set_cons_zero, List.set_cons_succ]
   refine Late.take (i := 1) (v := ?_) (by rfl) (by kernel_rfl) (by kernel_rfl) (by kernel_rfl) (by intro _ _ _ h; exact h) (by kernel_rfl) (by kernel_rfl) (Or.inl ⟨by rfl, ?_⟩) hS ?_
   rotate_left
   ·(intro W' hW'; rw [HSE.out] at hW'; obtain ⟨q0, q1, q2, q3⟩ := hW'; go_simp; (try with_reducible rfl))
   try simp only [Act.put, List.setIfInBounds_toArray, List.set_cons_zero, List.set_cons_succ]
   refine Late.take (i := 2) (v := ?_) (by rfl) (by kernel_rfl) (by kernel_rfl) (by kernel_rfl) (by intro _ _ _ h; exact h) (by kernel_rfl) (by kernel_rfl) (Or.inl ⟨by rfl, ?_⟩) hS ?_
   rotate_left
   ·(intro W' hW'; rw [HSE.out] at hW'; obtain ⟨q0, q1, q2, q3⟩ := hW'; go_simp; (try with_reducible rfl))
   try simp only [Act.put, List.setIfInBounds_toArray, List.set_cons_zero, List.set_cons_succ]
   refine Late.take (i := 3) (v := ?_) (by rfl) (by kernel_rfl) (by kernel_rfl) (by kernel_rfl) (by intro _ _ _ h; exact h) (by kernel_rfl) (by kernel_rfl) (Or.inl ⟨by rfl, ?_⟩) hS ?_
   rotate_left
   ·(intro W' hW'; rw [HSE.out] at hW'; obtain ⟨q0, q1, q2, q3⟩ := hW'; go_simp; (try with_reducible rfl))
   try simp only [Act.put, List.setIfInBounds_toArray, List.set_cons_zero, List.set_cons_succ]
   refine Late.take (i := 4) (v := ?_) (by rfl) (by kernel_rfl) (by kernel_rfl) (by kernel_rfl) (by intro _ _ _ h; exact h) (by kernel_rfl) (by kernel_rfl) (Or.inl ⟨by rfl, ?_⟩) hS ?_
   rotate_left
   ·(intro W' hW'; rw [HSE.out] at hW'; obtain ⟨q0, q1, q2, q3⟩ := hW'; go_simp; (try with_reducible rfl))
   try simp only [Act.put, List.setIfInBounds_toArray, List.set_cons_zero, List.set_cons_succ]
   refine Late.take (i := 7) (v := ?_) (by rfl) (by kernel_rfl) (by kernel_rfl) (by kernel_rfl) (by intro _ _ _ h; exact h) (by kernel_rfl) (by kernel_rfl) (Or.inl ⟨by rfl, ?_⟩) hS ?_
   rotate_left
   ·(intro W' hW'; rw [HSE.out] at hW'; obtain ⟨q0, q1, q2, q3⟩ := hW'; go_simp; (try with_reducible rfl))
   try simp only [Act.put, List.setIfInBounds_toArray, List.set_cons_zero, List.set_cons_succ]
   refine Late.take (i := 8) (v := ?_) (by rfl) (by kernel_rfl) (by kernel_rfl) (by kernel_rfl) (by intro _ _ _ h; exact h) (by kernel_rfl) (by kernel_rfl) (Or.inl ⟨by rfl, ?_⟩) hS ?_
   rotate_left
   ·(intro W' hW'; rw [HSE.out] at hW'; obtain ⟨q0, q1, q2, q3⟩ := hW'; go_simp; (try with_reducible rfl))
   try simp only [Act.put, List.setIfInBounds_toArray, List.set_cons_zero, List.set_cons_succ]
   refine Late.take (i := 9) (v := ?_) (by rfl) (by kernel_rfl) (by kernel_rfl) (by kernel_rfl) (by intro _ _ _ h; exact h) (by kernel_rfl) (by kernel_rfl) (Or.inl ⟨by rfl, ?_⟩) hS ?_
   rotate_left
   ·(intro W' hW'; rw [HSE.out] at hW'; obtain ⟨q0, q1, q2, q3⟩ := hW'; go_simp; (try with_reducible rfl))
   try simp only [Act.put, List.setIfInBounds_toArray, List.set_cons_zero, List.set_cons_succ]
   refine Late.two (i := 5) (i' := 10) (by kernel_rfl) (by rfl) (by rfl) (fun K hK => ?_) (fun K hK => ?_)
   ·go_simp
    refine hK.out _ _ (fun _ => HSA.out _ (KB.out.alloc _) (KF.out.alloc _)) (fun hS' => ?_)
    have hS := hS' (by decide)
    clear hS' hK
    clear K
    try simp only [Act.put, List.setIfInBounds_toArray, List.set_cons_zero, List.set_cons_succ]
    refine Late.two (i := 6) (i' := 10) (by kernel_rfl) (by rfl) (by rfl) (fun K hK => ?_) (fun K hK => ?_)
    ·(refine step_append_lies _ (by rfl) _ _ _ (by rfl) (w.heap.size + 2) 2 i0 _ 1 8 Tryz.underlying43 hi hz0 hz1 hz2 rfl (by omega) (.slice A1 k c1) k _ (by rfl) ((HWa.out).drew) ⟨W.heap.size, 0, none⟩ 1 1 [.int .i64 z] (by rfl) (by rfl) (World.news_of_block (cs := #[.int .i64 z]) (t := 2) (fr := (0, 0)) (heap_alloc_new W _)) one_int (by omega) (by simp only [maxLen]; omega) (by omega) (by first | omega | (simp; omega)) (W.heap.size + 1) (by simp) ?_; intro gg cap w5 hown1 hg1 hat1 hlt1; have q3 : Below W.heap.size W ((W.alloc (.cells #[.int .i64 z] 2)).drew) := (((Below.refl _ _).alloc (Nat.le_refl _) _).drew); obtain ⟨p1, p2, p3, p4⟩ := lo_first HO.out HF.out hwz q3 (by rw [← HZ.out]; exact hown1) hg1; have KB5 := J (KB.out.below p3 (by omega)); have KR5 := J (KR.out.below p3 (by omega)); have KF5 := J (p4 _ _ (KF.out.belowS q3)); have t0 := KB5.out.at 0 (v := .slice A1 k c1) rfl; have t1 := KB5.out.at 1 (v := .slice A2 k c2) rfl; have y0 := KF5.out.at 0 (v := .int .i64 x1) rfl; have y1 := KF5.out.at 1 (v := .int .i64 x2) rfl; have l0 := KB5.out.lt; have l1 := KF5.out.lt; have HO5 := J p1; have HF5 := J p2; have HB5 := J (HB6.out.trans (p3.mono (by omega : w.heap.size ≤ w.heap.size + 2))); have hs5 := p3.size; have hz5 : w.heap.size + 2 ≤ w5.heap.size := Nat.le_trans hwz hs5; skip; clear hown1 hg1 hat1 p1 p2 p3 p4 q3)
     refine hK.out _ _ (fun _ => HSA.out _ (KB5.out) (KF5.out)) (fun hS' => ?_)
     have hS := hS' (by decide)
     clear hS' hK
     clear K
     try simp only [Act.put, List.setIfInBounds_toArray, List.set_cons_zero, List.set_cons_succ]
     refine Late.take (i := 12) (v := ?_) (by rfl) (by kernel_rfl) (by kernel_rfl) (by kernel_rfl) (by intro _ _ _ h; exact h) (by kernel_rfl) (by kernel_rfl) (Or.inl ⟨by rfl, ?_⟩) hS ?_
     rotate_left
     ·(intro W' hW'; rw [HSE.out] at hW'; obtain ⟨q0, q1, q2, q3⟩ := hW'; go_simp; (try with_reducible rfl))
     try simp only [Act.put, List.setIfInBounds_toArray, List.set_cons_zero, List.set_cons_succ]
     refine Late.one (i := 10) (by kernel_rfl) (by rfl) (fun K hK => ?_)
     go_simp
     refine hK.out _ _ (fun _ => HSA.out _ (KB5.out.alloc _) (KF5.out.alloc _)) (fun hS' => ?_)
     have hS := hS' (by decide)
     clear hS' hK
     clear K
     try simp only [Act.put, List.setIfInBounds_toArray, List.set_cons_zero, List.set_cons_succ]
     refine Late.one (i := 11) (by kernel_rfl) (by rfl) (fun K hK => ?_)
     (refine step_append_lies _ (by rfl) _ _ _ (by rfl) (w.heap.size + 2) 49 i2 _ 2 16 Tryz.underlying38 ki kz0 kz1 kz2 rfl (by omega) (.slice A2 k c2) k _ (by rfl) (World.ownsRow.alloc HF5.out _) ⟨w5.heap.size, 0, none⟩ 1 1 [.int .i64 x1, .int .i64 x2] (by rfl) (by rfl) (World.news_of_block (cs := #[.int .i64 x1, .int .i64 x2]) (t := 49) (fr := (0, 0)) (heap_alloc_new w5 _)) ones_two (by omega) (by simp only [maxLen]; omega) (by omega) (by first | omega | (simp only [World.size_alloc]; omega)) (w5.heap.size + 1) (by simp) ?_; intro gg2 cap2 w6 hown2 hg2 hat2 hlt2; rw [HXE.out.1, HXE.out.2] at hown2; obtain ⟨⟨KB6, KF6⟩, ⟨s0, s1, s2, s3⟩, HFN⟩ := lo_second KB5.out KR5.out HO5.out HF5.out HB5.out hz5 ((Below.refl _ _).alloc (Nat.le_refl _) _) hown2 hg2 KF5.out HNE.out; clear hown2 hg2 hat2 t0 t1 y0 y1)
     refine hK.out _ _ (fun _ => HSA.out _ (KB6) (KF6)) (fun hS' => ?_)
     have hS := hS' (by decide)
     clear hS' hK
     clear K
     try simp only [Act.put, List.setIfInBounds_toArray, List.set_cons_zero, List.set_cons_succ]
     refine Late.one (i := 13) (by kernel_rfl) (by rfl) (fun K hK => ?_)
     go_simp
     refine hK.out _ _ (fun h => absurd h (by decide)) (fun _ => ?_)
     clear hK
     clear K
     try simp only [Act.put, List.setIfInBounds_toArray, List.set_cons_zero, List.set_cons_succ]
     refine Late.one (i := 14) (by kernel_rfl) (by rfl) (fun K hK => ?_)
     go_simp
     refine hK.out _ _ (fun h => absurd h (by decide)) (fun _ => ?_)
     clear hK
     clear K
     try simp only [Act.put, List.setIfInBounds_toArray, List.set_cons_zero, List.set_cons_succ]
     refine Late.one (i := 15) (by kernel_rfl) (by rfl) (fun K hK => ?_)
     go_simp
     refine hK.out _ _ (fun h => absurd h (by decide)) (fun _ => ?_)
     clear hK
     clear K
     try simp only [Act.put, List.setIfInBounds_toArray, List.set_cons_zero, List.set_cons_succ]
     refine Late.done (by kernel_rfl) ?_ _
     clear s0 s1 s2 s3 hS
     go_wp2
     go_roundw
     case rel => exact HN.out _ _ _ HFN.out
     case measure => simp [intOf]; omega
    ·go_simp
     refine hK.out _ _ (fun _ => HSA.out _ ((KB.out.alloc _).alloc _) ((KF.out.alloc _).alloc _)) (fun hS' => ?_)
     have hS := hS' (by decide)
     clear hS' hK
     clear K
     try simp only [Act.put, List.setIfInBounds_toArray, List.set_cons_zero, List.set_cons_succ]
     refine Late.one (i := 6) (by kernel_rfl) (by rfl) (fun K hK => ?_)
     (refine step_append_lies _ (by rfl) _ _ _ (by rfl) (w.heap.size + 2) 2 i0 _ 1 8 Tryz.underlying43 hi hz0 hz1 hz2 rfl (by omega) (.slice A1 k c1) k _ (by rfl) ((HWc.out).drew) ⟨W.heap.size, 0, none⟩ 1 1 [.int .i64 z] (by rfl) (by rfl) (World.news_of_block (cs := #[.int .i64 z]) (t := 2) (fr := (0, 0)) (nw2 W _ _)) one_int (by omega) (by simp only [maxLen]; omega) (by omega) (by first | omega | (simp; omega)) (W.heap.size + 2) (by simp) ?_; intro gg cap w5 hown1 hg1 hat1 hlt1; have q3 : Below W.heap.size W (((W.alloc (.cells #[.int .i64 z] 2)).alloc (.cells #[.int .i64 x1, .int .i64 x2] 49)).drew) := ((((Below.refl _ _).alloc (Nat.le_refl _) _).alloc (by simp) _).drew); obtain ⟨p1, p2, p3, p4⟩ := lo_first HO.out HF.out hwz q3 (by rw [← HZ.out]; exact hown1) hg1; have KB5 := J (KB.out.below p3 (by omega)); have KR5 := J (KR.out.below p3 (by omega)); have KF5 := J (p4 _ _ (KF.out.belowS q3)); have t0 := KB5.out.at 0 (v := .slice A1 k c1) rfl; have t1 := KB5.out.at 1 (v := .slice A2 k c2) rfl; have y0 := KF5.out.at 0 (v := .int .i64 x1) rfl; have y1 := KF5.out.at 1 (v := .int .i64 x2) rfl; have l0 := KB5.out.lt; have l1 := KF5.out.lt; have HO5 := J p1; have HF5 := J p2; have HB5 := J (HB6.out.trans (p3.mono (by omega : w.heap.size ≤ w.heap.size + 2))); have hs5 := p3.size; have hz5 : w.heap.size + 2 ≤ w5.heap.size := Nat.le_trans hwz hs5; (have KN := J (p4 (W.heap.size + 1) #[.int .i64 x1, .int .i64 x2] (by have := heap_alloc_new (W.alloc (.cells #[.int .i64 z] 2)) (.cells #[.int .i64 x1, .int .i64 x2] 49); rwa [World.size_alloc] at this))); clear hown1 hg1 hat1 p1 p2 p3 p4 q3)
     refine hK.out _ _ (fun _ => HSA.out _ (KB5.out) (KF5.out)) (fun hS' => ?_)
     have hS := hS' (by decide)
     clear hS' hK
     clear K
     try simp only [Act.put, List.setIfInBounds_toArray, List.set_cons_zero, List.set_cons_succ]
     refine Late.take (i := 12) (v := ?_) (by rfl) (by kernel_rfl) (by kernel_rfl) (by kernel_rfl) (by intro _ _ _ h; exact h) (by kernel_rfl) (by kernel_rfl) (Or.inl ⟨by rfl, ?_⟩) hS ?_
     rotate_left
     ·(intro W' hW'; rw [HSE.out] at hW'; obtain ⟨q0, q1, q2, q3⟩ := hW'; go_simp; (try with_reducible rfl))
     try simp only [Act.put, List.setIfInBounds_toArray, List.set_cons_zero, List.set_cons_succ]
     refine Late.one (i := 11) (by kernel_rfl) (by rfl) (fun K hK => ?_)
     (refine step_append_lies _ (by rfl) _ _ _ (by rfl) (w.heap.size + 2) 49 i2 _ 2 16 Tryz.underlying38 ki kz0 kz1 kz2 rfl (by omega) (.slice A2 k c2) k _ (by rfl) (HF5.out) ⟨(W.heap.size + 1), 0, none⟩ 1 1 [.int .i64 x1, .int .i64 x2] (by rfl) (by rfl) (World.news_of_block (cs := #[.int .i64 x1, .int .i64 x2]) (t := 49) (fr := (0, 0)) (KN.out)) ones_two (by omega) (by simp only [maxLen]; omega) (by omega) (by first | omega | (simp only [World.size_alloc]; omega)) (w5.heap.size) (by simp) ?_; intro gg2 cap2 w6 hown2 hg2 hat2 hlt2; rw [HXE.out.1, HXE.out.2] at hown2; obtain ⟨⟨KB6, KF6⟩, ⟨s0, s1, s2, s3⟩, HFN⟩ := lo_second KB5.out KR5.out HO5.out HF5.out HB5.out hz5 (Below.refl _ _) hown2 hg2 KF5.out HNE.out; clear hown2 hg2 hat2 t0 t1 y0 y1)
     refine hK.out _ _ (fun _ => HSA.out _ (KB6) (KF6)) (fun hS' => ?_)
     have hS := hS' (by decide)
     clear hS' hK
     clear K
     try simp only [Act.put, List.setIfInBounds_toArray, List.set_cons_zero, List.set_cons_succ]
     refine Late.one (i := 13) (by kernel_rfl) (by rfl) (fun K hK => ?_)
     go_simp
     refine hK.out _ _ (fun h => absurd h (by decide)) (fun _ => ?_)
     clear hK
     clear K
     try simp only [Act.put, List.setIfInBounds_toArray, List.set_cons_zero, List.set_cons_succ]
     refine Late.one (i := 14) (by kernel_rfl) (by rfl) (fun K hK => ?_)
     go_simp
     refine hK.out _ _ (fun h => absurd h (by decide)) (fun _ => ?_)
     clear hK
     clear K
     try simp only [Act.put, List.setIfInBounds_toArray, List.set_cons_zero, List.set_cons_succ]
     refine Late.one (i := 15) (by kernel_rfl) (by rfl) (fun K hK => ?_)
     go_simp
     refine hK.out _ _ (fun h => absurd h (by decide)) (fun _ => ?_)
     clear hK
     clear K
     try simp only [Act.put, List.setIfInBounds_toArray, List.set_cons_zero, List.set_cons_succ]
     refine Late.done (by kernel_rfl) ?_ _
     clear s0 s1 s2 s3 hS
     go_wp2
     go_roundw
     case rel => exact HN.out _ _ _ HFN.out
     case measure => simp [intOf]; omega
   ·go_simp
    refine hK.out _ _ (fun _ => HSA.out _ (KB.out.alloc _) (KF.out.alloc _)) (fun hS' => ?_)
    have hS := hS' (by decide)
    clear hS' hK
    clear K
    try simp only [Act.put, List.setIfInBounds_toArray, List.set_cons_zero, List.set_cons_succ]
    refine Late.one (i := 5) (by kernel_rfl) (by rfl) (fun K hK => ?_)
    go_simp
    refine hK.out _ _ (fun _ => HSA.out _ ((KB.out.alloc _).alloc _) ((KF.out.alloc _).alloc _)) (fun hS' => ?_)
    have hS := hS' (by decide)
    clear hS' hK
    clear K
    try simp only [Act.put, List.setIfInBounds_toArray, List.set_cons_zero, List.set_cons_succ]
    refine Late.one (i := 6) (by kernel_rfl) (by rfl) (fun K hK => ?_)
    (refine step_append_lies _ (by rfl) _ _ _ (by rfl) (w.heap.size + 2) 2 i0 _ 1 8 Tryz.underlying43 hi hz0 hz1 hz2 rfl (by omega) (.slice A1 k c1) k _ (by rfl) ((HWb.out).drew) ⟨(W.heap.size + 1), 0, none⟩ 1 1 [.int .i64 z] (by rfl) (by rfl) (World.news_of_block (cs := #[.int .i64 z]) (t := 2) (fr := (0, 0)) ((by have := heap_alloc_new (W.alloc (.cells #[.int .i64 x1, .int .i64 x2] 49)) (.cells #[.int .i64 z] 2); rwa [World.size_alloc] at this))) one_int (by omega) (by simp only [maxLen]; omega) (by omega) (by first | omega | (simp; omega)) (W.heap.size + 2) (by simp) ?_; intro gg cap w5 hown1 hg1 hat1 hlt1; have q3 : Below W.heap.size W (((W.alloc (.cells #[.int .i64 x1, .int .i64 x2] 49)).alloc (.cells #[.int .i64 z] 2)).drew) := ((((Below.refl _ _).alloc (Nat.le_refl _) _).alloc (by simp) _).drew); obtain ⟨p1, p2, p3, p4⟩ := lo_first HO.out HF.out hwz q3 (by rw [← HZ.out]; exact hown1) hg1; have KB5 := J (KB.out.below p3 (by omega)); have KR5 := J (KR.out.below p3 (by omega)); have KF5 := J (p4 _ _ (KF.out.belowS q3)); have t0 := KB5.out.at 0 (v := .slice A1 k c1) rfl; have t1 := KB5.out.at 1 (v := .slice A2 k c2) rfl; have y0 := KF5.out.at 0 (v := .int .i64 x1) rfl; have y1 := KF5.out.at 1 (v := .int .i64 x2) rfl; have l0 := KB5.out.lt; have l1 := KF5.out.lt; have HO5 := J p1; have HF5 := J p2; have HB5 := J (HB6.out.trans (p3.mono (by omega : w.heap.size ≤ w.heap.size + 2))); have hs5 := p3.size; have hz5 : w.heap.size + 2 ≤ w5.heap.size := Nat.le_trans hwz hs5; (have KN := J (p4 W.heap.size #[.int .i64 x1, .int .i64 x2] (nw2 W _ _))); clear hown1 hg1 hat1 p1 p2 p3 p4 q3)
    refine hK.out _ _ (fun _ => HSA.out _ (KB5.out) (KF5.out)) (fun hS' => ?_)
    have hS := hS' (by decide)
    clear hS' hK
    clear K
    try simp only [Act.put, List.setIfInBounds_toArray, List.set_cons_zero, List.set_cons_succ]
    refine Late.take (i := 12) (v := ?_) (by rfl) (by kernel_rfl) (by kernel_rfl) (by kernel_rfl) (by intro _ _ _ h; exact h) (by kernel_rfl) (by kernel_rfl) (Or.inl ⟨by rfl, ?_⟩) hS ?_
    rotate_left
    ·(intro W' hW'; rw [HSE.out] at hW'; obtain ⟨q0, q1, q2, q3⟩ := hW'; go_simp; (try with_reducible rfl))
    try simp only [Act.put, List.setIfInBounds_toArray, List.set_cons_zero, List.set_cons_succ]
    refine Late.one (i := 11) (by kernel_rfl) (by rfl) (fun K hK => ?_)
    (refine step_append_lies _ (by rfl) _ _ _ (by rfl) (w.heap.size + 2) 49 i2 _ 2 16 Tryz.underlying38 ki kz0 kz1 kz2 rfl (by omega) (.slice A2 k c2) k _ (by rfl) (HF5.out) ⟨W.heap.size, 0, none⟩ 1 1 [.int .i64 x1, .int .i64 x2] (by rfl) (by rfl) (World.news_of_block (cs := #[.int .i64 x1, .int .i64 x2]) (t := 49) (fr := (0, 0)) (KN.out)) ones_two (by omega) (by simp only [maxLen]; omega) (by omega) (by first | omega | (simp only [World.size_alloc]; omega)) (w5.heap.size) (by simp) ?_; intro gg2 cap2 w6 hown2 hg2 hat2 hlt2; rw [HXE.out.1, HXE.out.2] at hown2; obtain ⟨⟨KB6, KF6⟩, ⟨s0, s1, s2, s3⟩, HFN⟩ := lo_second KB5.out KR5.out HO5.out HF5.out HB5.out hz5 (Below.refl _ _) hown2 hg2 KF5.out HNE.out; clear hown2 hg2 hat2 t0 t1 y0 y1)
    refine hK.out _ _ (fun _ => HSA.out _ (KB6) (KF6)) (fun hS' => ?_)
    have hS := hS' (by decide)
    clear hS' hK
    clear K
    try simp only [Act.put, List.setIfInBounds_toArray, List.set_cons_zero, List.set_cons_succ]
    refine Late.one (i := 13) (by kernel_rfl) (by rfl) (fun K hK => ?_)
    go_simp
    refine hK.out _ _ (fun h => absurd h (by decide)) (fun _ => ?_)
    clear hK
    clear K
    try simp only [Act.put, List.setIfInBounds_toArray, List.set_cons_zero, List.set_cons_succ]
    refine Late.one (i := 14) (by kernel_rfl) (by rfl) (fun K hK => ?_)
    go_simp
    refine hK.out _ _ (fun h => absurd h (by decide)) (fun _ => ?_)
    clear hK
    clear K
    try simp only [Act.put, List.setIfInBounds_toArray, List.set_cons_zero, List.set_cons_succ]
    refine Late.one (i := 15) (by kernel_rfl) (by rfl) (fun K hK => ?_)
    go_simp
    refine hK.out _ _ (fun h => absurd h (by decide)) (fun _ => ?_)
    clear hK
    clear K
    try simp only [Act.put, List.setIfInBounds_toArray, List.set_cons_zero, List.set_cons_succ]
    refine Late.done (by kernel_rfl) ?_ _
    clear s0 s1 s2 s3 hS
    go_wp2
    go_roundw
    case rel => exact HN.out _ _ _ HFN.out
    case measure => simp [intOf]; omega
  ·obtain rfl : k = C.many := by omega
   have s0 := KB.out.at 0 (v := .slice A1 C.many c1) rfl
   have s1 := KB.out.at 1 (v := .slice A2 C.many c2) rfl
   have r0 := KR.out.at 0 (v := .slice none 0 0) rfl
   have r1 := KR.out.at 1 (v := .slice none 0 0) rfl
   have f0 := KR.out.frz 0
   have f1 := KR.out.frz 1
   have KK := (KR.out.setTo 0 (.slice A1 C.many c1) rfl).setTo 1 (.slice A2 C.many c2) rfl
   have k0 := KK.at 0 (v := .slice A1 C.many c1) rfl
   have k1 := KK.at 1 (v := .slice A2 C.many c2) rfl
   have HFIN := J (LawRet.put HO.out HF.out (by omega) HBr.out)
   clear KK HO HF KB KR HBr HX HQ HC
   go_wp2
   refine bodyPost_ret (v := .agg #[.slice A1 C.many c1, .slice A2 C.many c2]) (by simp [results, Tryz.results95, go_sem, k0, k1]) rfl ?_
   exact HFIN.out
end LpW
namespace LpX
open Go.RowKit Base Mem MemF GiveM RatM LvM LvQ LvO LvT Blk Choose
open LvL (pw_int)
def LpRel (C : Cnt) (w : World) (ov : Value) (k : Nat) (wr : World) : Prop :=
 Hid (OwnI wr (w.heap.size + 1) ov (fl k C.c)) ∧ Hid (Blk wr w.heap.size 60 #[.slice none 0 0, .slice none 0 0]) ∧ Hid (Below w.heap.size w wr)
theorem LpRel.lit {C : Cnt} {w : World} {x : Int} (hx : x = ((C.c 0 : Nat) : Int)) : LpRel C w (.slice (some ⟨w.heap.size + 1, 0, none⟩) 1 1) 1 ((w.alloc (.cells #[.slice none 0 0, .slice none 0 0] 60)).alloc (.cells #[.int .i64 x] 2)) := by
 refine ⟨J ?_, J ((Blk.new w _ _).alloc _), J (((Below.refl _ _).alloc (Nat.le_refl _) _).alloc (by simp) _)⟩
 have := lit1 (w.alloc (.cells #[.slice none 0 0, .slice none 0 0] 60)) (B := w.heap.size + 1) (by simp) C.c hx
 simpa using this
theorem LpRel.nil (C : Cnt) (w : World) : LpRel C w (.slice (some ⟨w.heap.size + 1, 0, none⟩) 0 0) 0 ((w.alloc (.cells #[.slice none 0 0, .slice none 0 0] 60)).alloc (.cells #[] 2)) := by
 refine ⟨J ?_, J ((Blk.new w _ _).alloc _), J (((Below.refl _ _).alloc (Nat.le_refl _) _).alloc (by simp) _)⟩
 have := lit0 (w.alloc (.cells #[.slice none 0 0, .slice none 0 0] 60)) (B := w.heap.size + 1) (by simp) C.c
 simpa using this
theorem LpRel.next {C : Cnt} {w wr w1 w2 : World} {k : Nat} {v v' : Value} (h : LpRel C w v k wr) (h1 : Below wr.heap.size wr w1)
  (hown : w2.ownsRow (w.heap.size + 1) 2 1 v' (k + 1) (ints (fl k C.c) ++ [.int .i64 ((C.c k : Nat) : Int)])) (hg : w1.grownBy w2 v.ownBlock) : LpRel C w v' (k + 1) w2 := by
 obtain ⟨hO, hK, hB⟩ := h
 obtain ⟨p1, p2⟩ := nextI (w0 := wr) hK.out.lt hO.out (Below.refl _ _) h1 hown hg
 exact ⟨J p1, J (hK.out.below p2 (Nat.lt_succ_self _)), J (hB.out.trans (p2.mono (Nat.le_succ _)))⟩
theorem LpRel.row {C : Cnt} {w wr w2 : World} {k : Nat} {v : Value} (h : LpRel C w v k wr) (hb : Below wr.heap.size wr w2) (x : Int) : (w2.alloc (.cells #[.int .i64 x] 2)).ownsRow (w.heap.size + 1) 2 1 v k (ints (fl k C.c)) := by
 have := World.ownsRow.alloc (OwnI.below h.1.out hb) (.cells #[.int .i64 x] 2)
 rw [fl_len] at this
 exact this
theorem lawOf_k {A : Option Addr} {c B n M K : Nat} {F : Int} {C : Cnt} (hK : K = C.many ∧ F = (C.first : Int)) (hC : C.ok n) (hn : n ≤ 50) (hM : M = 2 ^ n) (w : World) (hx : RdI w B A (fl K C.c)) (hB : B ≤ w.heap.size) :
  Calls Tryz.prog 95 #[.int .i64 F, .slice A K c, .int .i64 (M : Int)] w (LawRet C n w) := by
 obtain ⟨rfl, rfl⟩ := hK
 exact LpW.lawOf_d hC hn hM w hx hB
set_option maxHeartbeats 4000000 in
set_option maxRecDepth 100000 in
theorem onesI_d (n : Nat) (hn50 : n ≤ 50) (w : World) : Calls Tryz.prog 50 #[.int .i64 (n : Int)] w (LawRet (onesC n) n w) := by
 obtain ⟨i0, hi, hz0, hz1, hz2⟩ := info_parts infoI
 have H0 := J (LpRel.nil (onesC n) w)
 go_enter Tryz.func50, Tryz.ntmps50
 go_wp2
 go_loopw [3, 8] (fun ov kv wr => ∃ k : Nat, k ≤ n + 1 ∧ kv = .int .i64 (k : Int) ∧ LpRel (onesC n) w ov k wr) (fun _ kv _ => n + 1 - (intOf kv).toNat)
 case atStart => exact ⟨0, Nat.zero_le _, rfl, H0.out⟩
 case round =>
  obtain ⟨k, hk, rfl, HR⟩ := hrel
  obtain ⟨wo, rfl⟩ : ∃ x, x = wr := ⟨_, rfl⟩
  by_cases hlt : k < n + 1
  ·have HCh := J (choose_any n k wo hn50 (by omega))
   have HRR := J HR
   have hw := HR.2.1.out.lt
   have hkn : (k : Int) < (n : Int) + 1 := by omega
   clear H0 HR
   go_wp2_with fail
   refine HCh.out.mono ?_
   rintro e w2 ⟨rfl, nd, rfl⟩
   have hb2 := below_drewN (Below.refl wo.heap.size wo) nd
   rw [show ch n k = (onesC n).c k from rfl]
   have HW := J (HRR.out.row hb2 (((onesC n).c k : Nat) : Int))
   have HB2 := J hb2
   have hs2 := hb2.size
   clear hb2
   generalize wo.drewN nd = w2 at *
   go_wp2_with (at_builtin; refine wpList_append_own_at _ rfl (.tmp 11) (.tmp 15) 43 rfl (w.heap.size + 1) 2 i0 (.int .i64 0) 1 8 Tryz.underlying43 hi hz0 hz1 hz2 rfl (by decide) _ _ _ rfl HW.out ⟨w2.heap.size, 0, none⟩ 1 1 [.int .i64 (((onesC n).c k : Nat) : Int)] rfl rfl ?p1a ?p2a ?p3a ?p4a ?p5a ?_)
   try case p1a => exact news_one _ _ _ (by simp)
   try case p2a => first | exact one_int | rfl | simp
   try case p3a => first | (simp only [maxLen]; omega) | omega
   try case p4a => omega
   try case p5a => first | (simp only [World.size_alloc]; omega) | omega
   intro v' w3 hown' hg' _ he
   have HN := J (HRR.out.next (HB2.out.alloc HB2.out.size _) hown' hg')
   clear hown' hg' he
   go_wp2
   go_roundw
   case rel => exact ⟨k + 1, by omega, by simp, HN.out⟩
   case measure => simp [intOf]; omega
  ·obtain rfl : k = n + 1 := by omega
   obtain ⟨A1, c1, e5, _⟩ := HR.1.out.form
   rw [fl_len] at e5
   subst e5
   have HCt := J (lawOf_k (C := onesC n) (K := (n + 1)) (F := 0) (c := c1) ⟨rfl, rfl⟩ (onesC_ok n) hn50 rfl wo (OwnI.rd HR.1.out) (Nat.le_refl _))
   have hpw := pw_int hn50 rfl
   have HR2 := J HR
   clear HR
   go_wp2_with fail
   rw [hpw]
   refine HCt.out.mono ?_
   rintro e w3 ⟨v, rfl, ⟨A3, c3, A4, c4, rfl, o3, o4⟩, b3⟩
   have K3 := HR2.out.2.1.out.belowS b3
   have r0 := K3.at 0 (v := .slice none 0 0) rfl
   have r1 := K3.at 1 (v := .slice none 0 0) rfl
   have f0 := K3.frz 0
   have f1 := K3.frz 1
   have KK := (K3.setTo 0 (.slice A3 (onesC n).many c3) rfl).setTo 1 (.slice A4 (onesC n).many c4) rfl
   have k0 := KK.at 0 (v := .slice A3 (onesC n).many c3) rfl
   have k1 := KK.at 1 (v := .slice A4 (onesC n).many c4) rfl
   have HFIN := J (LawRet.put (w := w) o3 o4 (Nat.lt_of_lt_of_le (Nat.lt_succ_self _) (Nat.le_trans HR2.out.2.1.out.lt (Nat.le_refl _))) (Base.Below.nextA HR2.out.2.2.out b3))
   clear KK K3 o3 o4 b3 HCt hpw
   generalize (onesC n).many = mm at *
   go_wp2
   refine bodyPost_ret (v := .agg #[.slice A3 mm c3, .slice A4 mm c4]) (by simp [results, Tryz.results50, go_sem, k0, k1]) rfl ?_
   exact HFIN.out
set_option maxHeartbeats 4000000 in
set_option maxRecDepth 100000 in
theorem runsL_d (n : Nat) (hn1 : 1 ≤ n) (hn50 : n ≤ 50) (w : World) : Calls Tryz.prog 53 #[.int .i64 (n : Int)] w (LawRet (runsC n) n w) := by
 obtain ⟨i0, hi, hz0, hz1, hz2⟩ := info_parts infoI
 have H0 := J (LpRel.nil (runsC n) w)
 have HCZ : Hid (∀ k, (runsC n).c k = 2 * ch (n - 1) k) := J (fun k => rfl)
 go_enter Tryz.func53, Tryz.ntmps53
 go_wp2
 go_loopw [3, 7] (fun ov kv wr => ∃ k : Nat, k ≤ n ∧ kv = .int .i64 (k : Int) ∧ LpRel (runsC n) w ov k wr) (fun _ kv _ => n - (intOf kv).toNat)
 case atStart => exact ⟨0, Nat.zero_le _, rfl, H0.out⟩
 case round =>
  obtain ⟨k, hk, rfl, HR⟩ := hrel
  obtain ⟨wo, rfl⟩ : ∃ x, x = wr := ⟨_, rfl⟩
  by_cases hlt : k < n
  ·obtain ⟨n1, hn⟩ : ∃ m, m = n - 1 := ⟨_, rfl⟩
   have hnn : (n : Int) - 1 = (n1 : Int) := by omega
   have HCh := J (choose_any n1 k wo (by omega) (by omega))
   have hle := ch_le2 n1 k
   have hp : (2 : Nat) ^ n1 ≤ 2 ^ 49 := Nat.pow_le_pow_right (by decide) (by omega)
   have HRR := J HR
   have hw := HR.2.1.out.lt
   have hcz := HCZ.out k
   rw [← hn] at hcz
   have HNN := J hnn
   clear H0 HR hn hnn
   have h2x : (((runsC n).c k : Nat) : Int) = 2 * ((ch n1 k : Nat) : Int) := by rw [hcz]; simp
   have H2X := J h2x
   clear hcz h2x
   obtain ⟨x, hx⟩ : ∃ x, x = ch n1 k := ⟨_, rfl⟩
   rw [← hx] at HCh H2X hle
   clear hx
   go_wp2_with fail
   rw [HNN.out]
   refine HCh.out.mono ?_
   rintro e w2 ⟨rfl, nd, rfl⟩
   have hb2 := below_drewN (Below.refl wo.heap.size wo) nd
   have hx49 : x ≤ 562949953421312 := by omega
   have HW := J (HRR.out.row hb2 (2 * (x : Int)))
   have HB2 := J hb2
   have hs2 := hb2.size
   clear hb2 hle
   generalize wo.drewN nd = w2 at *
   go_wp2_with (at_builtin; refine wpList_append_own_at _ rfl (.tmp 10) (.tmp 16) 43 rfl (w.heap.size + 1) 2 i0 (.int .i64 0) 1 8 Tryz.underlying43 hi hz0 hz1 hz2 rfl (by decide) _ _ _ rfl HW.out ⟨w2.heap.size, 0, none⟩ 1 1 [.int .i64 (2 * (x : Int))] rfl rfl ?p1a ?p2a ?p3a ?p4a ?p5a ?_)
   try case p1a => exact news_one _ _ _ (by simp)
   try case p2a => first | exact one_int | rfl | simp
   try case p3a => first | (simp only [maxLen]; omega) | omega
   try case p4a => omega
   try case p5a => first | (simp only [World.size_alloc]; omega) | omega
   intro v' w3 hown' hg' _ he
   rw [← H2X.out] at hown'
   have HN := J (HRR.out.next (HB2.out.alloc HB2.out.size _) hown' hg')
   clear hown' hg' he
   go_wp2
   go_roundw
   case rel => exact ⟨k + 1, by omega, by simp, HN.out⟩
   case measure => simp [intOf]; omega
  ·obtain rfl : k = n := by omega
   obtain ⟨A1, c1, e5, _⟩ := HR.1.out.form
   rw [fl_len] at e5
   subst e5
   have HCt := J (lawOf_k (C := runsC k) (K := k) (F := 1) (c := c1) ⟨rfl, rfl⟩ (runsC_ok hn1) hn50 rfl wo (OwnI.rd HR.1.out) (Nat.le_refl _))
   have hpw := pw_int hn50 rfl
   have HR2 := J HR
   clear HR
   go_wp2_with fail
   rw [hpw]
   refine HCt.out.mono ?_
   rintro e w3 ⟨v, rfl, ⟨A3, c3, A4, c4, rfl, o3, o4⟩, b3⟩
   have K3 := HR2.out.2.1.out.belowS b3
   have r0 := K3.at 0 (v := .slice none 0 0) rfl
   have r1 := K3.at 1 (v := .slice none 0 0) rfl
   have f0 := K3.frz 0
   have f1 := K3.frz 1
   have KK := (K3.setTo 0 (.slice A3 (runsC k).many c3) rfl).setTo 1 (.slice A4 (runsC k).many c4) rfl
   have k0 := KK.at 0 (v := .slice A3 (runsC k).many c3) rfl
   have k1 := KK.at 1 (v := .slice A4 (runsC k).many c4) rfl
   have HFIN := J (LawRet.put (w := w) o3 o4 (Nat.lt_of_lt_of_le (Nat.lt_succ_self _) (Nat.le_trans HR2.out.2.1.out.lt (Nat.le_refl _))) (Base.Below.nextA HR2.out.2.2.out b3))
   clear KK K3 o3 o4 b3 HCt hpw
   generalize (runsC k).many = mm at *
   go_wp2
   refine bodyPost_ret (v := .agg #[.slice A3 mm c3, .slice A4 mm c4]) (by simp [results, Tryz.results53, go_sem, k0, k1]) rfl ?_
   exact HFIN.out
end LpX
namespace LpX
open Go.RowKit Base Mem MemF GiveM RatM LvM LvQ LvO LvT Blk
open LvL (pw_int)
def WyRel (m n : Nat) (w : World) (ov kv : Value) (wr : World) : Prop := ∃ k : Nat, 1 ≤ k ∧ k ≤ n + 1 ∧ kv = .int .i64 (k : Int) ∧ Hid (OwnI wr w.heap.size ov (fl k (W m))) ∧ Hid (Below w.heap.size w wr)
set_option maxHeartbeats 4000000 in
set_option maxRecDepth 100000 in
theorem longL_d (n : Nat) (hn1 : 1 ≤ n) (hn50 : n ≤ 50) (w : World) : Calls Tryz.prog 56 #[.int .i64 (n : Int)] w (LawRet (lenC n) n w) := by
 obtain ⟨i0, hi, hz0, hz1, hz2⟩ := info_parts infoI
 have H0 := J (LpRel.nil (lenC n) w)
 have HCZ : Hid (∀ k, (lenC n).c k = 2 * W (k + 1) n - 2 * W k n) := J (fun k => by unfold lenC cL; simp)
 have HW0 : Hid (2 * W 0 n = 0) := J (by obtain ⟨m, rfl⟩ : ∃ m, n = m + 1 := ⟨n - 1, by omega⟩; rw [W_none])
 go_enter Tryz.func56, Tryz.ntmps56
 go_wp2
 go_loopw [3, 4, 5] (fun ov bv kv wr => ∃ j : Nat, j ≤ n ∧ kv = .int .i64 ((j : Int) + 1) ∧ bv = .int .i64 ((2 * W j n : Nat) : Int) ∧ LpRel (lenC n) w ov j wr) (fun _ _ kv _ => n + 1 - (intOf kv).toNat)
 case atStart => exact ⟨0, Nat.zero_le _, rfl, by rw [HW0.out]; rfl, H0.out⟩
 case round =>
  obtain ⟨j, hj, rfl, rfl, HR⟩ := hrel
  obtain ⟨wo, rfl⟩ : ∃ x, x = wr := ⟨_, rfl⟩
  by_cases hlt : j < n
  ·have HRR := J HR
   have hw := HR.2.1.out.lt
   have hcz := HCZ.out j
   have h1 := W_mono j n
   have h2 := W_bound (j + 1) n
   have hp : (2 : Nat) ^ n ≤ 2 ^ 50 := Nat.pow_le_pow_right (by decide) hn50
   obtain ⟨y, hy⟩ : ∃ y, y = 2 * W j n := ⟨_, rfl⟩
   have hyx : y ≤ 2 * W (j + 1) n := by omega
   have h2x : (((lenC n).c j : Nat) : Int) = 2 * ((W (j + 1) n : Nat) : Int) - (y : Int) := by rw [hcz, ← hy]; omega
   have H2X := J h2x
   rw [← hy]
   have hWn : W (j + 1) n ≤ 1125899906842624 := by omega
   have HWN := J (And.intro hWn hyx)
   have HM : Hid (WyRel (j + 1) n wo (.slice (some ⟨wo.heap.size, 0, none⟩) 1 1) (.int .i64 1) (wo.alloc (.cells #[.int .i64 1] 2))) := J ⟨1, Nat.le_refl _, by omega, rfl, J (lit1 wo (Nat.le_refl _) (W (j + 1)) (by rw [W_zero]; rfl)), J ((Below.refl _ _).alloc (Nat.le_refl _) _)⟩
   have HJ : Hid (1 ≤ j + 1) := J (by omega)
   obtain ⟨m, hm⟩ : ∃ m, m = j + 1 := ⟨_, rfl⟩
   have hmj : (j : Int) + 1 = (m : Int) := by omega
   have hm50 : m ≤ 50 := by omega
   have hm1 : 1 ≤ m := by omega
   rw [← hm] at HM H2X HWN
   have HMJ := J (And.intro hmj hm)
   clear H0 HR hcz h2x h1 h2 hy hyx hWn hm hmj hp
   go_wp2
   rw [HMJ.out.1, show decide ((m : Int) ≤ (n : Int)) = true from decide_eq_true (by have := HMJ.out.2; omega)]
   go_loopw [6, 7] (fun ov kv wr => WyRel m n wo ov kv wr) (fun _ kv _ => n + 1 - (intOf kv).toNat)
   case atStart => exact HM.out
   case round =>
    obtain ⟨k, hk1, hk2, rfl, HO, HB2⟩ := hrel
    obtain ⟨wp, rfl⟩ : ∃ x, x = wr := ⟨_, rfl⟩
    clear HM
    obtain ⟨A2, c2, e2, _⟩ := HO.out.form
    rw [fl_len] at e2
    subst e2
    have hzp := HB2.out.size
    by_cases hkn : k ≤ n
    ·obtain ⟨mk, hmk⟩ : ∃ mk, mk = min m k := ⟨_, rfl⟩
     have hms : sm mk (fun t => W m (k - 1 - t)) = W m k := by
      obtain ⟨k', rfl⟩ : ∃ q, k = q + 1 := ⟨k - 1, by omega⟩
      rw [W_succ, hmk, Nat.add_sub_cancel]
     have hWk : W m k ≤ 1125899906842624 := by
      have := W_bound m k
      have h3 : (2 : Nat) ^ k ≤ 2 ^ 50 := Nat.pow_le_pow_right (by decide) (by omega)
      omega
     have hmin : (if (k : Int) < (m : Int) then (k : Int) else (m : Int)) = (mk : Int) := by split <;> omega
     have hmin2 : (if (m : Int) < (k : Int) then (m : Int) else (k : Int)) = (mk : Int) := by split <;> omega
     have hmkk : mk ≤ k := by omega
     have HMS := J hms
     clear hms hmk
     have hown := World.ownsRow.alloc HO.out (.cells #[.int .i64 ((W m k : Nat) : Int)] 2)
     rw [fl_len] at hown
     have HWn := J hown
     have HMIN := J (And.intro hmin hmin2)
     clear hown hmin hmin2
     go_wp2
     go_loop [8, 9] (fun sv rv => ∃ r : Nat, r ≤ mk ∧ rv = .int .i64 ((r : Int) + 1) ∧ sv = .int .i64 ((sm r (fun t => W m (k - 1 - t)) : Nat) : Int)) (fun _ rv => mk + 1 - (intOf rv).toNat)
     case atStart => exact ⟨0, Nat.zero_le _, rfl, rfl⟩
     case round =>
      obtain ⟨r, hr, rfl, rfl⟩ := hrel
      have e1 := HMIN.out.1
      have e2 := HMIN.out.2
      by_cases hrm : r < mk
      ·obtain ⟨b, off, rfl, _, hcc⟩ := (OwnI.rd HO.out) (by rw [fl_len]; omega)
       have g1 := hcc (k - 1 - r) (by rw [fl_len]; omega)
       rw [fl_at _ (by omega)] at g1
       have hs1 : sm (r + 1) (fun t => W m (k - 1 - t)) ≤ sm mk (fun t => W m (k - 1 - t)) := sm_mono (by omega)
       rw [HMS.out] at hs1
       have hs2 : sm (r + 1) (fun t => W m (k - 1 - t)) = sm r (fun t => W m (k - 1 - t)) + W m (k - 1 - r) := rfl
       rw [hs2] at hs1
       have HS2 := J hs2
       have hqi : (k : Int) - ((r : Int) + 1) = ((k - 1 - r : Nat) : Int) := by omega
       have hqk : ((k - 1 - r : Nat) : Int) < (k : Int) := by omega
       clear hcc hs2
       generalize sm r (fun t => W m (k - 1 - t)) = S at *
       generalize W m (k - 1 - r) = y2 at *
       generalize k - 1 - r = q at *
       have hrm2 : (r : Int) + 1 ≤ (mk : Int) := by omega
       go_wp2
       go_round
       case rel => exact ⟨r + 1, hrm, by go_num, by rw [HS2.out]; go_num⟩
       case measure => simp [intOf]; omega
      ·obtain rfl : r = mk := by omega
       rw [HMS.out]
       have hrm2 : ¬ ((r : Int) + 1 ≤ (r : Int)) := by omega
       obtain ⟨z, hz⟩ : ∃ z, z = W m k := ⟨_, rfl⟩
       rw [← hz] at HWn hWk ⊢
       have HZ := J hz
       clear hz
       go_wp2_with (at_builtin; refine wpList_append_own_at _ rfl (.tmp 37) (.tmp 39) 43 rfl wo.heap.size 2 i0 (.int .i64 0) 1 8 Tryz.underlying43 hi hz0 hz1 hz2 rfl (by decide) _ _ _ rfl HWn.out ⟨wp.heap.size, 0, none⟩ 1 1 [.int .i64 (z : Int)] rfl rfl ?p1a ?p2a ?p3a ?p4a ?p5a ?_)
       try case p1a => exact news_one _ _ _ (by simp)
       try case p2a => first | exact one_int | rfl | simp
       try case p3a => first | (simp only [maxLen]; omega) | omega
       try case p4a => omega
       try case p5a => first | (simp only [World.size_alloc]; omega) | omega
       intro v' w3 hown' hg' _ he
       rw [HZ.out] at hown'
       obtain ⟨p1, p2⟩ := nextI (f := W m) hzp HO.out HB2.out ((Below.refl _ _).alloc (Nat.le_refl _) _) hown' hg'
       have HN : Hid (WyRel m n wo v' (.int .i64 ((k : Int) + 1)) w3) := J ⟨k + 1, by omega, by omega, by simp, J p1, J p2⟩
       clear hown' hg' he p1 p2 e1 e2
       go_wp2
       go_roundw
       case rel => exact HN.out
       case measure => simp [intOf]; omega
    ·obtain rfl : k = n + 1 := by omega
     obtain ⟨b, off, rfl, _, hcc⟩ := (OwnI.rd HO.out) (by rw [fl_len]; omega)
     have g1 := hcc n (by rw [fl_len]; omega)
     rw [fl_at _ (by omega)] at g1
     obtain ⟨z, hz⟩ : ∃ z, z = W m n := ⟨_, rfl⟩
     obtain ⟨hz50, hyz⟩ := HWN.out
     rw [← hz] at g1 hz50 hyz
     have h2x := H2X.out
     rw [← hz] at h2x
     have HZ := J hz
     have HX2 := J h2x
     have hnn : (n : Int) < (n : Int) + 1 := by omega
     have hrow := HRR.out.row HB2.out (2 * (z : Int) - (y : Int))
     have HW := J hrow
     clear hcc hz h2x hrow
     go_wp2_with (at_builtin; refine wpList_append_own_at _ rfl (.tmp 41) (.tmp 49) 43 rfl (w.heap.size + 1) 2 i0 (.int .i64 0) 1 8 Tryz.underlying43 hi hz0 hz1 hz2 rfl (by decide) _ _ _ rfl HW.out ⟨wp.heap.size, 0, none⟩ 1 1 [.int .i64 (2 * (z : Int) - (y : Int))] rfl rfl ?p1b ?p2b ?p3b ?p4b ?p5b ?_)
     try case p1b => exact news_one _ _ _ (by simp)
     try case p2b => first | exact one_int | rfl | simp
     try case p3b => first | (simp only [maxLen]; omega) | omega
     try case p4b => omega
     try case p5b => first | (simp only [World.size_alloc]; omega) | omega
     intro v' w3 hown' hg' _ he
     rw [← HX2.out] at hown'
     have HN := J (HRR.out.next (HB2.out.alloc hzp _) hown' hg')
     have g2 : w3.cell? ⟨b, off + n, none⟩ = some (.int .i64 (z : Int)) := by
      have hk : OwnI w3 wo.heap.size (.slice (some ⟨b, off, none⟩) (n + 1) c2) (fl (n + 1) (W m)) := World.ownsRow.kept (World.ownsRow.alloc HO.out _) hg' (.inr fun e => by
       obtain ⟨_, _, q1, _⟩ := ownsRow_block HO.out (g := b) rfl
       obtain ⟨_, _, _, q2⟩ := ownsRow_block HRR.out.1.out (g := b) e.symm
       omega)
      obtain ⟨b', off', e', _, hc'⟩ := (OwnI.rd hk) (by rw [fl_len]; omega)
      injection e' with e'
      injection e' with e1 e2 _
      subst e1 e2
      have := hc' n (by rw [fl_len]; omega)
      rw [fl_at _ (by omega), ← HZ.out] at this
      exact this
     clear hown' hg' he
     go_wp2
     go_roundw
     case rel => exact ⟨j + 1, hlt, by rw [← HMJ.out.1]; simp, by rw [HZ.out, HMJ.out.2]; simp, HN.out⟩
     case measure => have := HMJ.out.1; simp [intOf]; omega
  ·obtain rfl : j = n := by omega
   obtain ⟨A1, c1, e5, _⟩ := HR.1.out.form
   rw [fl_len] at e5
   subst e5
   have HCt := J (lawOf_k (C := lenC j) (K := j) (F := 1) (c := c1) ⟨rfl, rfl⟩ (lenC_ok hn1) hn50 rfl wo (OwnI.rd HR.1.out) (Nat.le_refl _))
   have hpw := pw_int hn50 rfl
   have HR2 := J HR
   clear HR
   go_wp2_with fail
   rw [hpw]
   refine HCt.out.mono ?_
   rintro e w3 ⟨v, rfl, ⟨A3, c3, A4, c4, rfl, o3, o4⟩, b3⟩
   have K3 := HR2.out.2.1.out.belowS b3
   have r0 := K3.at 0 (v := .slice none 0 0) rfl
   have r1 := K3.at 1 (v := .slice none 0 0) rfl
   have f0 := K3.frz 0
   have f1 := K3.frz 1
   have KK := (K3.setTo 0 (.slice A3 (lenC j).many c3) rfl).setTo 1 (.slice A4 (lenC j).many c4) rfl
   have k0 := KK.at 0 (v := .slice A3 (lenC j).many c3) rfl
   have k1 := KK.at 1 (v := .slice A4 (lenC j).many c4) rfl
   have HFIN := J (LawRet.put (w := w) o3 o4 (Nat.lt_of_lt_of_le (Nat.lt_succ_self _) (Nat.le_trans HR2.out.2.1.out.lt (Nat.le_refl _))) (Base.Below.nextA HR2.out.2.2.out b3))
   clear KK K3 o3 o4 b3 HCt hpw
   generalize (lenC j).many = mm at *
   go_wp2
   refine bodyPost_ret (v := .agg #[.slice A3 mm c3, .slice A4 mm c4]) (by simp [results, Tryz.results56, go_sem, k0, k1]) rfl ?_
   exact HFIN.out
end LpX
end Go.Proofs.YtgipnbeipfhekaaGreatDoor
