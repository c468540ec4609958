/- The reference's small fractions: divisors, lowest terms. -/
import Derived.Test.YtcimmgpmkfbpdaaGreatDoorMgStr07
import Derived.Test.YtcimmgpmkfbpdaaGreatDoorMgStr09
import Derived.Test.YtcimmgpmkfbpdaaGreatDoorMgStr08
import Derived.Test.YtcimmgpmkfbpdaaGreatDoorMgStr00
import Derived.StillTail
import Derived.Deep.RegionHeld
namespace Go.Proofs.YtcimmgpmkfbpdaaGreatDoor.Fine
open Go.RowKit Go.Proofs.YtcimmgpmkfbpdaaGreatDoor Go.Proofs.YtcimmgpmkfbpdaaGreatDoor.Base Go.Proofs.YtcimmgpmkfbpdaaGreatDoor.Mem Go.Proofs.YtcimmgpmkfbpdaaGreatDoor.RatM Go.Proofs.YtcimmgpmkfbpdaaGreatDoor.Two Go.Proofs.YtcimmgpmkfbpdaaGreatDoor.Blk
set_option linter.unusedVariables false
theorem maxG (n : Int) (h1 : -1000000000000000000 ≤ n) (h2 : n ≤ 1000000000000000000) (w : World) : Calls Tryz.prog 61 #[.int .i64 n, .int .i64 (-n)] w fun e w' => e = .returned (.int .i64 ((n.natAbs : Nat) : Int)) ∧ w = w' := by
 by_cases h : -n < n
 ·have e : ((n.natAbs : Nat) : Int) = n := by omega
  rw [e]
  clear e
  go_enter Tryz.func61, Tryz.ntmps61
  go_wp2
  go_ret
  exact ⟨rfl, rfl⟩
 ·have e : ((n.natAbs : Nat) : Int) = -n := by omega
  have h' : n ≤ -n := by omega
  rw [e]
  clear e
  go_enter Tryz.func61, Tryz.ntmps61
  go_wp2
  go_ret
  exact ⟨rfl, rfl⟩
theorem gcdG (x y : Nat) (hx : x ≤ 1000000000000000000) (hy : y ≤ 1000000000000000000) (w : World) : Calls Tryz.prog 117 #[.int .i64 (x : Int), .int .i64 (y : Int)] w fun e w' => e = .returned (.int .i64 ((Nat.gcd x y : Nat) : Int)) ∧ w = w' := by
 go_enter Tryz.func117, Tryz.ntmps117
 go_wp2
 go_loop [0, 1] (fun av bv => ∃ p q : Nat, av = .int .i64 (p : Int) ∧ bv = .int .i64 (q : Int) ∧ p ≤ 1000000000000000000 ∧ q ≤ 1000000000000000000 ∧ Hid (Nat.gcd p q = Nat.gcd x y)) (fun _ bv => (intOf bv).toNat)
 case atStart => exact ⟨x, y, rfl, rfl, hx, hy, Lib.hid rfl⟩
 case round =>
  obtain ⟨p, q, rfl, rfl, hp, hq, hg⟩ := hrel
  by_cases hpos : 0 < q
  ·have hlt := Nat.mod_lt p hpos
   have hG : Hid (Nat.gcd q (p % q) = Nat.gcd x y) := Lib.hid (by rw [← hg.out, Nat.gcd_comm q, ← Nat.gcd_rec, Nat.gcd_comm])
   have e1 : (p : Int) % (q : Int) = ((p % q : Nat) : Int) := by simp
   clear hg
   generalize p % q = m at *
   go_wp2
   go_round
   case rel => exact ⟨q, m, rfl, by rw [e1], hq, by omega, hG⟩
   case measure => simp [intOf]; omega
  ·obtain rfl : q = 0 := by omega
   have hG := hg.out
   rw [Nat.gcd_zero_right] at hG
   go_wp2
   go_ret
   exact ⟨by rw [← hG]; rfl, rfl⟩
theorem exact_div {n : Int} {g : Nat} (h : g ∣ n.natAbs) (hg : 0 < g) : n.tdiv (g : Int) = n / (g : Int) ∧ (n / (g : Int)).natAbs = n.natAbs / g ∧ (n / (g : Int) < 0 ↔ n < 0) := by
 obtain ⟨k, hk⟩ := h
 rcases Int.natAbs_eq n with e | e
 ·rw [e, hk]
  have e1 : ((g * k : Nat) : Int) / (g : Int) = (k : Int) := by rw [Int.natCast_mul, Int.mul_ediv_cancel_left _ (by omega)]
  refine ⟨?_, ?_, ?_⟩
  ·rw [Int.tdiv_eq_ediv_of_nonneg (by omega)]
  ·rw [e1, Int.natAbs_natCast, Int.natAbs_natCast, Nat.mul_div_cancel_left _ hg]
  ·rw [e1]; omega
 ·rw [e, hk]
  have e1 : -((g * k : Nat) : Int) / (g : Int) = -(k : Int) := by
   rw [Int.natCast_mul, ← Int.mul_neg, Int.mul_ediv_cancel_left _ (by omega)]
  refine ⟨?_, ?_, ?_⟩
  ·rw [Int.neg_tdiv, Int.tdiv_eq_ediv_of_nonneg (by omega), Int.natCast_mul, Int.mul_ediv_cancel_left _ (by omega), e1.symm, Int.natCast_mul]
  ·rw [e1, Int.natAbs_neg, Int.natAbs_natCast, Int.natAbs_neg, Int.natAbs_natCast, Nat.mul_div_cancel_left _ hg]
  ·rw [e1]
   have : 0 < k ↔ 0 < g * k := by constructor <;> intro h <;> first | exact Nat.mul_pos hg h | exact Nat.pos_of_mul_pos_left h
   omega
def lowV (n : Int) (d : Nat) : Value := .agg #[.int .i64 (n / ((Nat.gcd n.natAbs d : Nat) : Int)), .int .i64 ((d / Nat.gcd n.natAbs d : Nat) : Int)]
set_option maxHeartbeats 1000000 in
theorem fMakeG (n : Int) (d : Nat) (h1 : -1000000000000000000 ≤ n) (h2 : n ≤ 1000000000000000000) (hd : 0 < d) (hd2 : d ≤ 1000000000000000000) (w : World) : Calls Tryz.prog 88 #[.int .i64 n, .int .i64 (d : Int)] w fun e w' => e = .returned (lowV n d) ∧ Below w.heap.size w w' := by
 have hg0 : 0 < Nat.gcd n.natAbs d := Nat.gcd_pos_of_pos_right _ hd
 have hg1 : Nat.gcd n.natAbs d ≤ d := Nat.gcd_le_right _ hd
 have hdv := Nat.gcd_dvd_left n.natAbs d
 obtain ⟨e1, _, _⟩ := exact_div hdv hg0
 have e2 : (d : Int) / ((Nat.gcd n.natAbs d : Nat) : Int) = ((d / Nat.gcd n.natAbs d : Nat) : Int) := by simp
 have b2 : d / Nat.gcd n.natAbs d ≤ d := Nat.div_le_self _ _
 have b3 : (n / ((Nat.gcd n.natAbs d : Nat) : Int)).natAbs ≤ 1000000000000000000 := by
  obtain ⟨_, q2, _⟩ := exact_div hdv hg0
  rw [q2]; exact Nat.le_trans (Nat.div_le_self _ _) (by omega)
 have HM := Lib.hid (fun W => maxG n h1 h2 W)
 have HG := Lib.hid (fun W => gcdG n.natAbs d (by omega) hd2 W)
 unfold lowV
 clear hdv
 generalize n / ((Nat.gcd n.natAbs d : Nat) : Int) = N at *
 generalize d / Nat.gcd n.natAbs d = D at *
 generalize Nat.gcd n.natAbs d = G at *
 go_enter Tryz.func88, Tryz.ntmps88
 go_wp2_with fail
 refine (HM.out _).mono ?_
 rintro e w1 ⟨rfl, rfl⟩
 go_wp2_with fail
 refine (HG.out _).mono ?_
 rintro e w1 ⟨rfl, rfl⟩
 go_wp2
 go_region
 go_wp2
 refine bodyPost_ret (v := .agg #[.int .i64 N, .int .i64 (D : Int)]) (by simp [results, Tryz.results88, go_sem]) rfl ⟨rfl, ?_⟩
 exact ((Below.refl _ _).alloc (Nat.le_refl _) _).drew
end Go.Proofs.YtcimmgpmkfbpdaaGreatDoor.Fine
namespace Go.Proofs.YtcimmgpmkfbpdaaGreatDoor.LvT
open Go.RowKit Go.Proofs.YtcimmgpmkfbpdaaGreatDoor Go.Proofs.YtcimmgpmkfbpdaaGreatDoor.Base Go.Proofs.YtcimmgpmkfbpdaaGreatDoor.Mem Go.Proofs.YtcimmgpmkfbpdaaGreatDoor.MemF Go.Proofs.YtcimmgpmkfbpdaaGreatDoor.GiveM Go.Proofs.YtcimmgpmkfbpdaaGreatDoor.RatM Go.Proofs.YtcimmgpmkfbpdaaGreatDoor.LvM Go.Proofs.YtcimmgpmkfbpdaaGreatDoor.LvQ Go.Proofs.YtcimmgpmkfbpdaaGreatDoor.LvO Go.Proofs.YtcimmgpmkfbpdaaGreatDoor.Blk
set_option linter.unusedVariables false
def cz (C : Cnt) (i : Nat) : Nat := if i < C.first then 0 else C.c (i - C.first)
def fD (C : Cnt) (n : Nat) (i : Nat) : Rat := dy n (C.c i)
def vD (C : Cnt) (i : Nat) : Nat := C.first + i
def LawIs (C : Cnt) (n : Nat) (w : World) (v : Value) : Prop := ∃ A c A' c', v = .agg #[.slice A C.many c, .slice A' C.many c'] ∧ RdI w w.heap.size A (fl C.many (vD C)) ∧ RdF w w.heap.size A' C.many (outF (fD C n) C.many)
def LawOwn (C : Cnt) (n B : Nat) (w : World) (v : Value) : Prop := ∃ A c A' c', v = .agg #[.slice A C.many c, .slice A' C.many c'] ∧ OwnI w B (.slice A C.many c) (fl C.many (vD C)) ∧ OwnF w B (.slice A' C.many c') C.many (outF (fD C n) C.many)
theorem LawOwn.is {C : Cnt} {n B : Nat} {w : World} {v : Value} (h : LawOwn C n B w v) : LawIs C n w v := by
 obtain ⟨A, c, A', c', e, h1, h2⟩ := h
 exact ⟨A, c, A', c', e, h1.rd, h2.rd⟩
def LawRet (C : Cnt) (n : Nat) (w : World) (e : Ending) (w' : World) : Prop := ∃ v, e = .returned v ∧ LawOwn C n w.heap.size w' v ∧ Below w.heap.size w w'
theorem LawRet.put {C : Cnt} {n B : Nat} {w wp : World} {A1 A2 : Option Addr} {c1 c2 : Nat} (h1 : OwnI wp B (.slice A1 C.many c1) (fl C.many (vD C))) (h2 : OwnF wp B (.slice A2 C.many c2) C.many (outF (fD C n) C.many)) (hB : w.heap.size < B) (hb : Below w.heap.size w wp) :
  LawRet C n w (.returned (.agg #[.slice A1 C.many c1, .slice A2 C.many c2])) ((wp.setCell ⟨w.heap.size, 0, none⟩ (.slice A1 C.many c1)).setCell ⟨w.heap.size, 1, none⟩ (.slice A2 C.many c2)) := by
 refine ⟨_, rfl, ⟨A1, c1, A2, c2, rfl, ?_, ?_⟩, (hb.setCell (p := ⟨w.heap.size, 0, none⟩) (Nat.le_refl _) _).setCell (p := ⟨w.heap.size, 1, none⟩) (Nat.le_refl _) _⟩
 ·exact ownsRow_base (ownsRow_setCell_below (ownsRow_setCell_below h1 (a := ⟨w.heap.size, 0, none⟩) hB (.slice A1 C.many c1)) (a := ⟨w.heap.size, 1, none⟩) hB (.slice A2 C.many c2)) (by omega)
 ·exact ownsRow_base (ownsRow_setCell_below (ownsRow_setCell_below h2 (a := ⟨w.heap.size, 0, none⟩) hB (.slice A1 C.many c1)) (a := ⟨w.heap.size, 1, none⟩) hB (.slice A2 C.many c2)) (by omega)
theorem LawIs.below {C : Cnt} {n : Nat} {w w' : World} {v : Value} (h : LawIs C n w v) (hb : Below w.heap.size w w') : LawIs C n w' v := by
 obtain ⟨A, c, A', c', e, h1, h2⟩ := h
 exact ⟨A, c, A', c', e, (h1.below hb (Nat.le_refl _)).more hb.size, (h2.below hb (Nat.le_refl _)).more hb.size⟩
theorem fMake_dy {n x M : Nat} (hx : x ≤ 2 ^ n) (hn : n ≤ 50) (hM : M = 2 ^ n) (w : World) : Calls Tryz.prog 88 #[.int .i64 (x : Int), .int .i64 (M : Int)] w fun e w' => e = .returned (.agg #[.int .i64 (numQ (dy n x)), .int .i64 (denQ (dy n x))]) ∧ Below w.heap.size w w' := by
 have h3 : (2 : Nat) ^ n ≤ 2 ^ 50 := Nat.pow_le_pow_right (by decide) hn
 have h0 := Nat.two_pow_pos n
 obtain ⟨e1, e2⟩ := dy_numQ hx hn
 obtain ⟨p1, p2⟩ := dy_parts n x
 rw [e1, e2, p1, p2, hM]
 refine (Fine.fMakeG (x : Int) (2 ^ n) (by omega) (by omega) h0 (by omega) w).mono fun e w' ⟨he, hb⟩ => ⟨?_, hb⟩
 rw [he]
 unfold Fine.lowV
 rw [Int.natAbs_natCast, Int.natCast_ediv, Int.natCast_ediv]
theorem rowKept {w w' : World} {B B' n n' size size' : Nat} {e e' : TypeId} {v v' : Value} {xs xs' : List Value} (h : w.ownsRow B e size v n xs) (h' : w.ownsRow B' e' size' v' n' xs') (he : e ≠ e') (hg : w.grownBy w' v'.ownBlock) : w'.ownsRow B e size v n xs := by
 refine World.ownsRow.kept h hg ?_
 cases hb : v.ownBlock with
 | none => exact .inl rfl
 | some g =>
  refine .inr fun hh => ?_
  obtain ⟨cur, h1, _⟩ := ownsRow_block h hb
  obtain ⟨cur', h2, _⟩ := ownsRow_block h' hh.symm
  rw [h1] at h2
  injection h2 with h2
  injection h2 with _ h3
  exact he h3
def CtRel (C : Cnt) (n : Nat) (w : World) (iv : Value) (wr : World) : Prop :=
 ∃ i v1 v2, i ≤ C.first + C.many ∧ iv = .int .i64 (i : Int) ∧ Hid (Blk wr w.heap.size 65 #[.slice none 0 0, .slice none 0 0]) ∧ Hid (Blk wr (w.heap.size + 1) 65 #[v1, v2]) ∧ Hid (OwnI wr (w.heap.size + 2) v1 (fl (i - C.first) (vD C))) ∧ Hid (OwnF wr (w.heap.size + 2) v2 (i - C.first) (outF (fD C n) (i - C.first))) ∧ Hid (Below w.heap.size w wr)
theorem pushFr {w2 : World} {B k : Nat} {v' : Value} {f : Nat → Rat} (hown : w2.ownsRow B 52 2 v' (k + 1) (ints (outF f k) ++ [.int .i64 (numQ (f k)), .int .i64 (denQ (f k))])) : OwnF w2 B v' (k + 1) (outF f (k + 1)) := by
 show w2.ownsRow B 52 2 v' (k + 1) (ints (outF f (k + 1)))
 rw [outF, show ints (outF f k ++ [numQ (f k), denQ (f k)]) = ints (outF f k) ++ [.int .i64 (numQ (f k)), .int .i64 (denQ (f k))] by simp [ints]]
 exact hown
theorem ct_store {C : Cnt} {n k b0 c2 : Nat} {A2 : Option Addr} {v' v5 : Value} {w W3 w4 w5 : World} {o : Obj} (hK : Blk W3 (b0 + 1) 65 #[v', .slice A2 k c2]) (hR : Blk W3 b0 65 #[.slice none 0 0, .slice none 0 0]) (hO : W3.ownsRow (b0 + 2) 2 1 v' (fl (k + 1) (vD C)).length (ints (fl (k + 1) (vD C))))
  (hF : W3.ownsRow (b0 + 2) 52 2 (.slice A2 k c2) k (ints (outF (fD C n) k))) (hB : Below b0 w W3) (hz : b0 + 2 ≤ W3.heap.size) (h4 : Below W3.heap.size W3 w4)
  (hown : w5.ownsRow (b0 + 2) 52 2 v5 (k + 1) (ints (outF (fD C n) k) ++ [.int .i64 (numQ (fD C n k)), .int .i64 (denQ (fD C n k))])) (hg : (w4.alloc o).grownBy w5 (Value.slice A2 k c2).ownBlock) :
  (w5.cell? ⟨b0 + 1, 1, none⟩ = some (.slice A2 k c2) ∧ w5.frozen? ⟨b0 + 1, 1, none⟩ = false) ∧ Hid (Blk (w5.setCell ⟨b0 + 1, 1, none⟩ v5) b0 65 #[.slice none 0 0, .slice none 0 0] ∧ Blk (w5.setCell ⟨b0 + 1, 1, none⟩ v5) (b0 + 1) 65 #[v', v5] ∧ OwnI (w5.setCell ⟨b0 + 1, 1, none⟩ v5) (b0 + 2) v' (fl (k + 1) (vD C)) ∧ OwnF (w5.setCell ⟨b0 + 1, 1, none⟩ v5) (b0 + 2) v5 (k + 1) (outF (fD C n) (k + 1)) ∧ Below b0 w (w5.setCell ⟨b0 + 1, 1, none⟩ v5)) := by
 have q4 : Below W3.heap.size W3 (w4.alloc o) := h4.alloc h4.size o
 have P2 : Below (b0 + 2) W3 w5 := pushB hF hz q4 hg
 have P3 := rowKept (ownsRow_below hO q4) (ownsRow_below hF q4) (by decide) hg
 have K5 := hK.below P2 (by omega)
 refine ⟨⟨K5.at 1 (v := .slice A2 k c2) rfl, K5.frz 1⟩, Lib.hid ⟨(hR.below P2 (by omega)).other (a := ⟨b0 + 1, 1, none⟩) v5 (by simp), K5.setTo 1 v5 rfl, ownsRow_setCell_below P3 (a := ⟨b0 + 1, 1, none⟩) (by simp) v5, ownsRow_setCell_below (pushFr hown) (a := ⟨b0 + 1, 1, none⟩) (by simp) v5, (hB.trans (P2.mono (by omega))).setCell (p := ⟨b0 + 1, 1, none⟩) (Nat.le_succ _) v5⟩⟩
set_option maxHeartbeats 4000000 in
set_option maxRecDepth 100000 in
theorem counted_any {A : Option Addr} {c B n M : Nat} {C : Cnt} (hC : C.ok n) (hn : n ≤ 50) (hM : M = 2 ^ n) (w : World) (hx : RdI w B A (fl (C.first + C.many) (cz C))) (hB : B ≤ w.heap.size) :
  Calls Tryz.prog 59 #[.slice A (C.first + C.many) c, .int .i64 (M : Int)] w (LawRet C n w) := by
 obtain ⟨i0, hi, hz0, hz1, hz2⟩ := info_parts infoI
 obtain ⟨i2, ki, kz0, kz1, kz2⟩ := info_parts infoFr
 have HC := Lib.hid hC
 have HFM := Lib.hid (fun x (hx : x ≤ 2 ^ n) w => fMake_dy hx hn hM w)
 have hK : C.first + C.many ≤ 52 := by have := hC.1; have := hC.2.1; omega
 obtain ⟨K, hKe⟩ : ∃ K, K = C.first + C.many := ⟨_, rfl⟩
 rw [← hKe] at hx hK ⊢
 have HK := Lib.hid hKe
 have HX := Lib.hid hx
 obtain ⟨W2, hW2⟩ : ∃ W2, W2 = (w.alloc (.cells #[.slice none 0 0, .slice none 0 0] 65)).alloc (.cells #[.slice none 0 0, .slice none 0 0] 65) := ⟨_, rfl⟩
 have H0 : Hid (CtRel C n w (.int .i64 0) W2) := Lib.hid (by
  rw [hW2]
  refine ⟨0, .slice none 0 0, .slice none 0 0, Nat.zero_le _, rfl, Lib.hid ((Blk.new w _ _).alloc _), Lib.hid (Blk.newAt _ _ (by simp)), Lib.hid ?_, Lib.hid ?_, Lib.hid (((Below.refl _ _).alloc (Nat.le_refl _) _).alloc (by simp) _)⟩
  ·rw [Nat.zero_sub]; exact World.ownsRow_nil _ _ _ _
  ·rw [Nat.zero_sub]; exact World.ownsRow_nil _ _ _ _)
 have HW := Lib.hid hW2
 clear hx hKe hW2 hC hM
 go_enter Tryz.func59, Tryz.ntmps59
 go_wp2
 rw [← HW.out]
 go_loopw [6] (fun iv wr => CtRel C n w iv wr) (fun iv _ => K - (intOf iv).toNat)
 case atStart => exact H0.out
 case round =>
  obtain ⟨i, v1, v2, hiK, rfl, HR, HBx, HO1, HO2, HB⟩ := hrel
  obtain ⟨wp, rfl⟩ : ∃ x, x = wr := ⟨_, rfl⟩
  clear H0
  rw [← HK.out] at hiK
  have hsz := HB.out.size
  by_cases hlt : i < K
  ·obtain ⟨b, off, rfl, hb2, hcc⟩ := (HX.out.below HB.out hB) (by rw [fl_len]; omega)
   have g1 := hcc i (by rw [fl_len]; exact hlt)
   rw [fl_at _ hlt] at g1
   clear hcc
   by_cases hf : i < C.first
   ·have e1 : cz C i = 0 := if_pos hf
    rw [e1] at g1
    have e2 : i + 1 - C.first = i - C.first := by omega
    have HN : Hid (CtRel C n w (.int .i64 ((i : Int) + 1)) wp) := Lib.hid ⟨i + 1, v1, v2, by rw [← HK.out]; omega, by simp, HR, HBx, by rw [e2]; exact HO1, by rw [e2]; exact HO2, HB⟩
    clear e1 e2
    go_wp2
    go_roundw
    case rel => exact HN.out
    case measure => simp [intOf]; omega
   ·obtain ⟨k, hk⟩ : ∃ k, k = i - C.first := ⟨_, rfl⟩
    have e1 : cz C i = C.c k := by rw [hk]; exact if_neg hf
    rw [e1] at g1
    have hkm : k < C.many := by have := HK.out; omega
    have hpos := HC.out.2.2.1 k hkm
    have hle := Cnt.one_le HC.out hkm
    have hvd : vD C k = i := by unfold vD; omega
    have e2 : i + 1 - C.first = k + 1 := by omega
    rw [← hk] at HO1 HO2
    have HN : Hid (∀ u1 u2 w4, Blk w4 w.heap.size 65 #[.slice none 0 0, .slice none 0 0] → Blk w4 (w.heap.size + 1) 65 #[u1, u2] → OwnI w4 (w.heap.size + 2) u1 (fl (k + 1) (vD C)) → OwnF w4 (w.heap.size + 2) u2 (k + 1) (outF (fD C n) (k + 1)) → Below w.heap.size w w4 → CtRel C n w (.int .i64 ((i : Int) + 1)) w4) :=
     Lib.hid fun u1 u2 w4 h1 h2 h3 h4 h5 => ⟨i + 1, u1, u2, by rw [← HK.out]; omega, by simp, Lib.hid h1, Lib.hid h2, Lib.hid (by rw [e2]; exact h3), Lib.hid (by rw [e2]; exact h4), Lib.hid h5⟩
    have hx50 : (2 : Nat) ^ n ≤ 2 ^ 50 := Nat.pow_le_pow_right (by decide) hn
    have HFM1 := Lib.hid (HFM.out (C.c k) hle)
    have hfd : fD C n k = dy n (C.c k) := rfl
    rw [← hfd] at HFM1
    have hl1 := HO1.out
    obtain ⟨A1, c1, e5, _⟩ := HO1.out.form
    rw [fl_len] at e5
    obtain ⟨A2, c2, e6, _⟩ := HO2.out.form
    subst e5
    subst e6
    have hown := World.ownsRow.alloc HO1.out (.cells #[.int .i64 (i : Int)] 2)
    rw [fl_len] at hown
    have HWn := Lib.hid hown
    have HVD := Lib.hid hvd
    have d0 := HBx.out.at 0 (v := .slice A1 k c1) rfl
    have d1 := HBx.out.at 1 (v := .slice A2 k c2) rfl
    have hkk : k ≤ 60 := by omega
    have hx51 : C.c k ≤ 1125899906842624 := by omega
    have hpos2 : (0 : Int) < (C.c k : Int) := by omega
    have hwz : w.heap.size + 2 ≤ wp.heap.size := by
     have := HBx.out.lt
     omega
    generalize C.c k = x at *
    clear hk e1 e2 hvd hown hl1 hx50 hfd hpos2 hle hf
    go_wp2_with (at_builtin; refine wpList_append_own_at _ rfl (.tmp 20) (.tmp 22) 63 rfl (w.heap.size + 2) 2 i0 (.int .i64 0) 1 8 Tryz.underlying63 hi hz0 hz1 hz2 rfl (by decide) _ _ _ rfl HWn.out ⟨wp.heap.size, 0, none⟩ 1 1 [.int .i64 (i : Int)] rfl rfl ?p1a ?p2a ?p3a ?p4a ?p5a ?_)
    try case p1a => exact news_one _ _ _ (by simp)
    try case p2a => first | exact one_int | rfl | simp
    try case p3a => first | (simp only [maxLen]; omega) | omega
    try case p4a => omega
    try case p5a => first | (simp only [World.size_alloc]; omega) | omega
    intro v' w2 hown' hg' _ he
    obtain ⟨P1, P2⟩ := nextI (f := vD C) hwz HO1.out (Below.refl (w.heap.size + 2) wp) ((Below.refl _ _).alloc (Nat.le_refl _) _) (by rw [HVD.out]; exact hown') hg'
    obtain ⟨A3, c3, e7, _⟩ := P1.form
    rw [fl_len] at e7
    subst e7
    have P3 := rowKept (World.ownsRow.alloc HO2.out (.cells #[.int .i64 (i : Int)] 2)) HWn.out (by decide) hg'
    have K2 := HBx.out.below P2 (by omega)
    have s0 := K2.at 0 (v := .slice A1 k c1) rfl
    have f0 := K2.frz 0
    have HK3 := Lib.hid (K2.setTo 0 (.slice A3 (k + 1) c3) rfl)
    have HR3 := Lib.hid ((HR.out.below P2 (by omega)).other (a := ⟨w.heap.size + 1, 0, none⟩) (.slice A3 (k + 1) c3) (by simp))
    have HO3 := Lib.hid (ownsRow_setCell_below P1 (a := ⟨w.heap.size + 1, 0, none⟩) (by simp) (.slice A3 (k + 1) c3))
    have HF3 := Lib.hid (ownsRow_setCell_below P3 (a := ⟨w.heap.size + 1, 0, none⟩) (by simp) (.slice A3 (k + 1) c3))
    have HB4 := (P2.mono (by omega : w.heap.size ≤ w.heap.size + 2)).setCell (p := ⟨w.heap.size + 1, 0, none⟩) (Nat.le_succ _) (.slice A3 (k + 1) c3)
    have g3 := (HB4.cell (p := ⟨b, off + i, none⟩) (by show b < _; omega)).trans g1
    have HB3 := Lib.hid (HB.out.trans HB4)
    have hwz2 : w.heap.size + 2 ≤ w2.heap.size := Nat.le_trans hwz P2.size
    clear P1 P2 P3 K2 HB4 hown' hg' he g1 d0 d1 HWn HO1 HO2 HBx HR HB hwz HVD
    obtain ⟨W3, hW3⟩ : ∃ W3, W3 = w2.setCell ⟨w.heap.size + 1, 0, none⟩ (.slice A3 (k + 1) c3) := ⟨_, rfl⟩
    have hwz3 : w.heap.size + 2 ≤ W3.heap.size := by rw [hW3]; simpa using hwz2
    rw [← hW3] at HK3 HR3 HO3 HF3 HB3 g3
    have HW3 := Lib.hid hW3
    clear hW3
    go_wp2_with fail
    rw [← HW3.out]
    clear HW3 hwz2 s0 f0
    have HST := Lib.hid (fun w4 w5 v5 c5 (h4 : Below W3.heap.size W3 w4) (hown : w5.ownsRow (w.heap.size + 2) 52 2 v5 (k + 1) (ints (outF (fD C n) k) ++ [.int .i64 (numQ (fD C n k)), .int .i64 (denQ (fD C n k))])) (hg : (w4.alloc c5).grownBy w5 (Value.slice A2 k c2).ownBlock) =>
     ct_store HK3.out HR3.out HO3.out HF3.out HB3.out hwz3 h4 hown hg)
    have t1 := HK3.out.at 1 (v := .slice A2 k c2) rfl
    have t2 := HK3.out.frz 1
    have hib : (i : Int) < (K : Int) := by omega
    have hbl : w.heap.size + 1 < W3.heap.size := by omega
    generalize numQ (fD C n k) = x1 at *
    generalize denQ (fD C n k) = x2 at *
    go_wp2_with fail
    go_region_law (first
     | (go_simp; go_at_call 88; refine (HFM1.out _).mono ?_; rintro e w4 ⟨rfl, hb4⟩; have hb5 : Below W3.heap.size W3 w4 := (by first | exact hb4 | exact Base.Below.nextA ((Below.refl W3.heap.size W3).drew) hb4); have t3 := (hb5.cell (p := ⟨w.heap.size + 1, 1, none⟩) hbl).trans t1; have HOO := Lib.hid (World.ownsRow.alloc (ownsRow_below HF3.out hb5) (.cells #[.int .i64 x1, .int .i64 x2] 52)); have HSS := Lib.hid (fun w5 v5 c5 hown hg => HST.out w4 w5 v5 c5 hb5 hown hg); have hs4 := hb5.size; have hs6 : w.heap.size + 1 < w4.heap.size := Nat.lt_of_lt_of_le hbl hs4; clear hb4 hb5)
     | (refine step_append_lies _ (by rfl) _ _ _ (by rfl) (w.heap.size + 2) 52 i2 _ 2 16 Tryz.underlying28 ki kz0 kz1 kz2 rfl (by omega) (.slice A2 k c2) k _ (by rfl) HOO.out ⟨w4.heap.size, 0, none⟩ 1 1 [.int .i64 x1, .int .i64 x2] (by rfl) (by rfl) (World.news_of_block (cs := #[.int .i64 x1, .int .i64 x2]) (t := 52) (fr := (0, 0)) (heap_alloc_new w4 _)) ones_two (by omega) (by simp only [maxLen]; omega) (by omega) (by first | omega | (simp only [World.size_alloc]; omega)) (w4.heap.size + 1) (by simp) ?_; intro gg cap w5 hown5 hg5 hat hlt2; obtain ⟨⟨y1, y2⟩, HFN⟩ := HSS.out w5 _ _ hown5 hg5; clear hown5 hg5 hat t3))
    all_goals
     go_wp2
     go_roundw
     case rel => exact HN.out _ _ _ HFN.out.1 HFN.out.2.1 HFN.out.2.2.1 HFN.out.2.2.2.1 HFN.out.2.2.2.2
     case measure => simp [intOf]; omega
  ·obtain rfl : i = K := by omega
   have e0 : i - C.first = C.many := by have := HK.out; omega
   rw [e0] at HO1 HO2
   obtain ⟨A1, c1, e5, _⟩ := HO1.out.form
   rw [fl_len] at e5
   obtain ⟨A2, c2, e6, _⟩ := HO2.out.form
   subst e5
   subst e6
   have s0 := HBx.out.at 0 (v := .slice A1 C.many c1) rfl
   have s1 := HBx.out.at 1 (v := .slice A2 C.many c2) rfl
   have r0 := HR.out.at 0 (v := .slice none 0 0) rfl
   have r1 := HR.out.at 1 (v := .slice none 0 0) rfl
   have f0 := HR.out.frz 0
   have f1 := HR.out.frz 1
   have KK := (HR.out.setTo 0 (.slice A1 C.many c1) rfl).setTo 1 (.slice A2 C.many c2) rfl
   have k0 := KK.at 0 (v := .slice A1 C.many c1) rfl
   have k1 := KK.at 1 (v := .slice A2 C.many c2) rfl
   have HFIN := Lib.hid (LawRet.put HO1.out HO2.out (by omega) HB.out)
   clear KK HO1 HO2 HBx HR HB HX HFM HC
   go_wp2
   refine bodyPost_ret (v := .agg #[.slice A1 C.many c1, .slice A2 C.many c2]) (by simp [results, Tryz.results59, go_sem, k0, k1]) rfl ?_
   exact HFIN.out
end Go.Proofs.YtcimmgpmkfbpdaaGreatDoor.LvT
namespace Go.Proofs.YtcimmgpmkfbpdaaGreatDoor.LpQ
open Go.RowKit Go.Proofs.YtcimmgpmkfbpdaaGreatDoor Go.Proofs.YtcimmgpmkfbpdaaGreatDoor.Base Go.Proofs.YtcimmgpmkfbpdaaGreatDoor.Mem Go.Proofs.YtcimmgpmkfbpdaaGreatDoor.MemF Go.Proofs.YtcimmgpmkfbpdaaGreatDoor.GiveM Go.Proofs.YtcimmgpmkfbpdaaGreatDoor.NatM Go.Proofs.YtcimmgpmkfbpdaaGreatDoor.Nat32 Go.Proofs.YtcimmgpmkfbpdaaGreatDoor.RatM Go.Proofs.YtcimmgpmkfbpdaaGreatDoor.Ratio Go.Proofs.YtcimmgpmkfbpdaaGreatDoor.Blk Go.Proofs.YtcimmgpmkfbpdaaGreatDoor.LvQ Go.Proofs.YtcimmgpmkfbpdaaGreatDoor.LvO Go.Proofs.YtcimmgpmkfbpdaaGreatDoor.LvT
open Go.Proofs.YtcimmgpmkfbpdaaGreatDoor.Inv (Rat3)
set_option linter.unusedVariables false
theorem len2 {v : Nat} (h : v ≤ 1000000000000000000) : (natL v).length ≤ 1000000 :=
 Nat.le_trans (natL_len_le (k := 2) (Nat.lt_of_le_of_lt h (by decide))) (by decide)
set_option maxHeartbeats 1000000 in
theorem quo_d {v n M : Nat} (hv0 : 0 < v) (hv : v ≤ 2 ^ n) (hn : n ≤ 50) (hM : M = 2 ^ n) (w : World) : Calls Tryz.prog 100 #[.int .i64 (v : Int), .int .i64 (M : Int)] w (RV (dy n v) w) := by
 have hp : (2 : Nat) ^ n ≤ 2 ^ 50 := Nat.pow_le_pow_right (by decide) hn
 have hp0 := Nat.two_pow_pos n
 rw [show dy n v = qv false v M by rw [hM]; rfl]
 rw [← hM] at hv hp hp0
 clear hM
 have hpos : ∀ e w', RtRet false (v / Nat.gcd v M) (M / Nat.gcd v M) w e w' → RV (qv false v M) w e w' := fun e w' h => RV.of_pos hv0 hp0 h
 obtain ⟨W0, hW0⟩ : ∃ W0, W0 = w.alloc (.cells #[.bool false, .slice none 0 0, .slice none 0 0] 114) := ⟨_, rfl⟩
 have hB0 : Below w.heap.size w W0 := by rw [hW0]; exact (Below.refl _ _).alloc (Nat.le_refl _) _
 have r1 : Rat3 W0 w.heap.size (.bool false) (.slice none 0 0) (.slice none 0 0) := by rw [hW0]; exact Rat3.new w _ _ _ _
 have hz0 : w.heap.size < W0.heap.size := by rw [hW0]; simp
 have HS := Lib.hid (fun W => size_int (v : Int) (by omega) W)
 rw [Int.natAbs_natCast] at HS
 have HN1 := Lib.hid (naturalOf_any v (by omega) W0)
 have HN2 := Lib.hid (fun W => naturalOf_any M (by omega) W)
 have HL := Lib.hid (fun A A' c c' W hx hy => lowestG_pos false v M A A' c c' W hx hy (len2 (by omega)) (len2 (by omega)) hv0 hp0)
 have HPos := Lib.hid hpos
 have hvn : ¬ ((v : Int) < 0) := by omega
 clear hpos
 generalize v / Nat.gcd v M = P at *
 generalize M / Nat.gcd v M = Q at *
 refine Calls.mono ?_ HPos.out
 go_enter Tryz.func100, Tryz.ntmps100
 go_wp2_with (go_at_call 103; refine (HS.out _).mono ?_; rintro e w1 ⟨rfl, rfl⟩)
 rw [← hW0]
 refine HN1.out.mono ?_
 rintro e w1 ⟨A3, c3, rfl, h3, hb1⟩
 have H3 := Lib.hid h3
 have HB1 := Lib.hid hb1
 clear h3 hb1 hW0
 go_wp2_with fail
 refine (HN2.out _).mono ?_
 rintro e w2 ⟨A4, c4, rfl, h4, hb2⟩
 have HLL := Lib.hid (HL.out A3 A4 c3 c4 w2 ((H3.out.below hb2 (Nat.le_refl _)).more hb2.size) h4)
 have HB2 := Lib.hid (HB1.out.trans (hb2.mono HB1.out.size))
 clear h4 hb2
 go_wp2_with fail
 refine HLL.out.mono ?_
 rintro e w3 ⟨A1, c1, A2, c2, rfl, h1, h2, hb3⟩
 have hb03 := HB2.out.trans (hb3.mono HB2.out.size)
 have q1 := r1.below hb03 hz0
 have hb := hB0.trans (hb03.mono hB0.size)
 clear r1 hb03 hb3 hB0 hz0 HLL HL HN1 HN2 HS H3 HB1 HB2 HPos
 obtain ⟨m6, m7, m8, HR⟩ := rt_store false (c1 := c1) (c2 := c2) q1 h1 h2 hb (Nat.le_refl _)
 have HRH := Lib.hid HR
 clear HR
 obtain ⟨d0, d1, d2, df0, df1, df2⟩ := q1
 obtain ⟨m60, m61, m62, mf60, mf61, mf62⟩ := m6
 obtain ⟨m70, m71, m72, mf70, mf71, mf72⟩ := m7
 obtain ⟨m80, m81, m82, mf80, mf81, mf82⟩ := m8
 go_wp2
 refine bodyPost_ret (v := .agg #[.bool false, .slice A1 (natL P).length c1, .slice A2 (natL Q).length c2]) (by simp [results, Tryz.results100, go_sem, m80, m81, m82]) rfl HRH.out
end Go.Proofs.YtcimmgpmkfbpdaaGreatDoor.LpQ
namespace Go.Proofs.YtcimmgpmkfbpdaaGreatDoor.Late
open Go.RowKit Go.Proofs.YtcimmgpmkfbpdaaGreatDoor Go.Proofs.YtcimmgpmkfbpdaaGreatDoor.Base
set_option linter.unusedVariables false
section
variable {P : Program} {ops : Array Oper} {Q : Exit → Act → World → Prop} {md : Region.Mode} {S : World → Prop} {late : List Nat}
def wpT (P : Program) (md : Region.Mode) (ops : Array Oper) (Q : Exit → Act → World → Prop) (S : World → Prop) (late : List Nat) : Nat → Array Bool → Act → World → Prop
 | 0, listed, a, w => Region.ready md ops listed = [] ∧ Q .normal a w
 | fuel + 1, listed, a, w =>
  (Region.ready md ops listed = [] → Q .normal a w) ∧
  ∀ i ∈ Region.ready md ops listed, wpOp P ops Q i (fun a' w' => (late.contains i = false → S w') ∧ wpT P md ops Q S late fuel (listed.setIfInBounds i true) a' w') a w
theorem wpAny_of : ∀ (fuel : Nat) (listed : Array Bool) (a : Act) (w : World), wpT P md ops Q S late fuel listed a w → wpAny P md ops Q fuel listed a w
 | 0, _, _, _, h => h
 | fuel + 1, _, _, _, h => ⟨h.1, fun i hi => wpOp_mono (fun a' w' h' => wpAny_of fuel _ a' w' h'.2) (h.2 i hi)⟩
def reach (md : Region.Mode) (ops : Array Oper) (i : Nat) : Nat → Nat → Bool
 | 0, _ => false
 | f + 1, j => Region.waitsFor md ops j i || (List.range ops.size).any fun m => Region.waitsFor md ops j m && reach md ops i f m
def waitB (md : Region.Mode) (ops : Array Oper) (late : List Nat) (i : Nat) : Bool := late.all fun j => reach md ops i 4 j
def Closed (md : Region.Mode) (ops : Array Oper) (listed : Array Bool) : Prop := ∀ j oj, ops[j]? = some oj → listed.getD j false = true → ∀ e ∈ oj.after, Region.binds md e = true → listed.getD e.on false = true
def closedB (md : Region.Mode) (ops : Array Oper) (listed : Array Bool) : Bool := (List.range ops.size).all fun j => !listed.getD j false || match ops[j]? with
 | some oj => oj.after.all fun e => !Region.binds md e || listed.getD e.on false
 | none => true
theorem closed_spec {listed : Array Bool} (h : closedB md ops listed = true) : Closed md ops listed := fun j oj hj hl e he hb => by
 have h1 := List.all_eq_true.1 h j (List.mem_range.2 (Array.getElem?_eq_some_iff.1 hj).1)
 simp only [hj, hl, Bool.not_true, Bool.false_or] at h1
 have h2 := Array.all_eq_true_iff_forall_mem.1 h1 e he
 simpa [hb] using h2
theorem Closed.set {listed : Array Bool} {i : Nat} (h : Closed md ops listed) (hi : i ∈ Region.ready md ops listed) : Closed md ops (listed.setIfInBounds i true) := fun j oj hj hl e he hb => by
 obtain ⟨_, oi, hoi, hall⟩ := mem_ready.1 hi
 by_cases hij : i = j
 ·subst hij
  obtain rfl : oj = oi := Option.some.inj (hj.symm.trans hoi)
  exact getD_set_true (hall e he hb)
 ·rw [getD_set_ne false hij] at hl
  exact getD_set_true (h j oj hj hl e he hb)
theorem reach_listed {listed : Array Bool} {i : Nat} (hc : Closed md ops listed) : ∀ (f j : Nat) (oj : Oper), ops[j]? = some oj → reach md ops i f j = true → (∀ e ∈ oj.after, Region.binds md e = true → listed.getD e.on false = true) → listed.getD i false = true
 | 0, _, _, _, h, _ => by cases h
 | f + 1, j, oj, hj, h, hall => by
  have use : ∀ m, Region.waitsFor md ops j m = true → listed.getD m false = true := fun m hm => by
   obtain ⟨oj', hoj', e, he, hb, hon⟩ := Region.waitsFor_spec hm
   obtain rfl : oj' = oj := Option.some.inj (hoj'.symm.trans hj)
   rw [← hon]; exact hall e he hb
  simp only [reach, Bool.or_eq_true] at h
  rcases h with h | h
  ·exact use i h
  ·obtain ⟨m, hm, h2⟩ := List.any_eq_true.1 h
   simp only [Bool.and_eq_true] at h2
   have hlt := List.mem_range.1 hm
   have hmo : ops[m]? = some ops[m] := by simp [hlt]
   exact reach_listed hc f m _ hmo h2.2 (hc m _ hmo (use m h2.1))
theorem first {i : Nat} {oi : Oper} {v : Value} (hi : ops[i]? = some oi) (hsel : ∀ (j : Nat) (o : Oper) cs b, ops[j]? = some o → o.op ≠ .select cs b)
  (hQ : ∀ c a w, Q (.panic c) (a.put oi.dst v) w → Q (.panic c) a w) (hl : waitB md ops late i = true) :
  ∀ (fuel : Nat) (listed : Array Bool) (a : Act) (w : World),
   (∀ j oj, ops[j]? = some oj → j ≠ i → listed.getD j true = false → (∀ e ∈ oj.after, Region.binds md e = true → e.on ≠ i) → oi.apart ops oj = true) →
   i ∈ Region.ready md ops listed → Closed md ops listed → YieldsIf P ops S oi v a → S w →
   wpT P md ops Q S late fuel (listed.setIfInBounds i true) (a.put oi.dst v) w → wpT P md ops Q S late (fuel + 1) listed a w := by
 intro fuel
 induction fuel with
 | zero =>
  intro listed a w _ hr _ hy hS H
  refine ⟨fun h => (by rw [h] at hr; cases hr), fun j hj => ?_⟩
  by_cases hji : j = i
  ·subst hji; exact hy.wpOp hi hS ⟨fun _ => hS, H⟩
  ·have := ready_mono hj hji
   rw [H.1] at this
   cases this
 | succ fuel ih =>
  intro listed a w hfree hr hcl hy hS H
  refine ⟨fun h => (by rw [h] at hr; cases hr), fun j hj => ?_⟩
  by_cases hji : j = i
  ·subst hji; exact hy.wpOp hi hS ⟨fun _ => hS, H⟩
  ·have h1 := H.2 j (ready_mono hj hji)
   obtain ⟨hjun, oj, hoj, hall⟩ := mem_ready.1 hj
   have hun := getD_both (mem_ready.1 hr).1
   have hnot : ∀ e ∈ oj.after, Region.binds md e = true → e.on ≠ i := fun e he hb heq => by
    have h2 := hall e he hb
    rw [heq, hun] at h2
    cases h2
   have hjl : late.contains j = false := by
    cases hc : late.contains j with
    | false => rfl
    | true =>
     have h3 := List.all_eq_true.1 hl j (by simpa using hc)
     have h4 := reach_listed hcl 4 j oj hoj h3 hall
     rw [hun] at h4
     cases h4
   have h2 := wpOp_putIf hoj (hfree j oj hoj hji hjun hnot) (fun cs b => hsel i oi cs b hi) (fun cs b => hsel j oj cs b hoj) hQ hy h1
   have hfree' : ∀ k ok, ops[k]? = some ok → k ≠ i → (listed.setIfInBounds j true).getD k true = false →
     (∀ e ∈ ok.after, Region.binds md e = true → e.on ≠ i) → oi.apart ops ok = true := fun k ok hk hki hu hno => by
    refine hfree k ok hk hki ?_ hno
    by_cases hjk : j = k
    ·subst hjk; exact hjun
    ·rw [getD_set_ne true hjk] at hu; exact hu
   refine wpOp_mono (fun a' w' h3 => ⟨fun _ => h3.2.1 hjl, ih (listed.setIfInBounds j true) a' w' hfree' (ready_mono hr (Ne.symm hji)) (hcl.set hj) h3.1 (h3.2.1 hjl) ?_⟩) h2
   rw [Array.setIfInBounds_comm _ _ hji]
   exact h3.2.2
end
section
variable {P : Program} {l : List Oper} {Q : Exit → Act → World → Prop} {md : Region.Mode} {S : World → Prop} {late : List Nat}
theorem take {i : Nat} {oi : Oper} {v : Value} {fuel : Nat} {listed : Array Bool} {a : Act} {w : World} (hi : l[i]? = some oi)
  (hs : Region.noSelect l.toArray = true) (hf : Region.free md l.toArray listed i = true) (hr : (Region.ready md l.toArray listed).contains i = true)
  (hQ : ∀ c a w, Q (.panic c) (a.put oi.dst v) w → Q (.panic c) a w) (hl : waitB md l.toArray late i = true) (hc : closedB md l.toArray listed = true) (hy : YieldsIf P l.toArray S oi v a) (hS : S w)
  (h : wpT P md l.toArray Q S late fuel (listed.setIfInBounds i true) (a.put oi.dst v) w) : wpT P md l.toArray Q S late (fuel + 1) listed a w :=
 first (by simpa using hi) (Region.noSelect_spec hs) hQ hl fuel listed a w (Region.free_spec (by simpa using hi) hf) (by simpa using hr) (closed_spec hc) hy hS h
def Step (P : Program) (md : Region.Mode) (l : List Oper) (Q : Exit → Act → World → Prop) (S : World → Prop) (late : List Nat) (fuel : Nat) (listed : Array Bool) (a : Act) (w : World) (i : Nat) (o : Oper) : Prop :=
 ∀ K' : Act → World → Prop, Shut (∀ a w, (late.contains i = false → S w) → ((late.contains i = false → S w) → wpT P md l.toArray Q S late fuel (listed.setIfInBounds i true) a w) → K' a w) →
  if Region.wanted o (yielded l.toArray a.tmps) = true then Oper.wp P o a w K' Q else K' (a.put o.dst undef) w
theorem Step.op {fuel : Nat} {listed : Array Bool} {a : Act} {w : World} {i : Nat} {o : Oper} (ho : l[i]? = some o) (h : Step P md l Q S late fuel listed a w i o) :
  wpOp P l.toArray Q i (fun a' w' => (late.contains i = false → S w') ∧ wpT P md l.toArray Q S late fuel (listed.setIfInBounds i true) a' w') a w :=
 wpOp_step (by simpa using ho) fun K' hK => h K' fun a w hS hW => hK a w ⟨hS, hW hS⟩
theorem one {i : Nat} {o : Oper} {fuel : Nat} {listed : Array Bool} {a : Act} {w : World} (hr : Region.ready md l.toArray listed = [i]) (ho : l[i]? = some o)
  (h : Step P md l Q S late fuel listed a w i o) : wpT P md l.toArray Q S late (fuel + 1) listed a w :=
 ⟨fun h0 => (by rw [h0] at hr; cases hr), fun j hj => by
  rw [hr] at hj
  obtain rfl : j = i := by simpa using hj
  exact h.op ho⟩
theorem two {i i' : Nat} {o o' : Oper} {fuel : Nat} {listed : Array Bool} {a : Act} {w : World} (hr : Region.ready md l.toArray listed = [i, i']) (ho : l[i]? = some o) (ho' : l[i']? = some o')
  (h : Step P md l Q S late fuel listed a w i o) (h' : Step P md l Q S late fuel listed a w i' o') : wpT P md l.toArray Q S late (fuel + 1) listed a w :=
 ⟨fun h0 => (by rw [h0] at hr; cases hr), fun j hj => by
  rw [hr] at hj
  have hj' : j = i ∨ j = i' := by simpa using hj
  rcases hj' with rfl | rfl
  ·exact h.op ho
  ·exact h'.op ho'⟩
theorem done {listed : Array Bool} {a : Act} {w : World} (hr : Region.ready md l.toArray listed = []) (h : Q .normal a w) : ∀ fuel, wpT P md l.toArray Q S late fuel listed a w
 | 0 => ⟨hr, h⟩
 | _ + 1 => ⟨fun _ => h, by rw [hr]; simp⟩
theorem start {id : Nat} {a : Act} {w : World} (S : World → Prop) (late : List Nat) (n : Nat) (hm : P.follows .mixedOrders = true) (hS : S w.drew) (hn : l.length = n)
  (h : S w.drew → wpT P .any l.toArray Q S late n (Array.replicate n false) a w.drew) : (Code.region id l.toArray true).wp P Q a w :=
 wp_region_any hm (by
  have := wpAny_of _ _ _ _ (h hS)
  rw [List.size_toArray, hn]
  exact this)
end
end Go.Proofs.YtcimmgpmkfbpdaaGreatDoor.Late
