/- The program's laws of the ones and of the runs. -/
import Derived.Test.YtcimmgpmkfbpdaaGreatDoorMgStr11
import Derived.Test.YtcimmgpmkfbpdaaGreatDoorMgStr12
import Derived.Test.YtcimmgpmkfbpdaaGreatDoorMgStr00
namespace Go.Proofs.YtcimmgpmkfbpdaaGreatDoor.LpX
open Go.RowKit Go.Proofs.YtcimmgpmkfbpdaaGreatDoor Go.Proofs.YtcimmgpmkfbpdaaGreatDoor.Base Go.Proofs.YtcimmgpmkfbpdaaGreatDoor.Mem Go.Proofs.YtcimmgpmkfbpdaaGreatDoor.MemF Go.Proofs.YtcimmgpmkfbpdaaGreatDoor.GiveM Go.Proofs.YtcimmgpmkfbpdaaGreatDoor.RatM Go.Proofs.YtcimmgpmkfbpdaaGreatDoor.LvM Go.Proofs.YtcimmgpmkfbpdaaGreatDoor.LvQ Go.Proofs.YtcimmgpmkfbpdaaGreatDoor.LvO Go.Proofs.YtcimmgpmkfbpdaaGreatDoor.LvT Go.Proofs.YtcimmgpmkfbpdaaGreatDoor.Blk Go.Proofs.YtcimmgpmkfbpdaaGreatDoor.Choose
open Go.Proofs.YtcimmgpmkfbpdaaGreatDoor.LvL (pw_int)
set_option linter.unusedVariables false
def LpRel (C : Cnt) (w : World) (ov : Value) (k : Nat) (wr : World) : Prop :=
 Hid (OwnI wr (w.heap.size + 1) ov (fl k C.c)) ∧ Hid (Blk wr w.heap.size 65 #[.slice none 0 0, .slice none 0 0]) ∧ Hid (Below w.heap.size w wr)
theorem LpRel.lit {C : Cnt} {w : World} {x : Int} (hx : x = ((C.c 0 : Nat) : Int)) : LpRel C w (.slice (some ⟨w.heap.size + 1, 0, none⟩) 1 1) 1 ((w.alloc (.cells #[.slice none 0 0, .slice none 0 0] 65)).alloc (.cells #[.int .i64 x] 2)) := by
 refine ⟨Lib.hid ?_, Lib.hid ((Blk.new w _ _).alloc _), Lib.hid (((Below.refl _ _).alloc (Nat.le_refl _) _).alloc (by simp) _)⟩
 have := lit1 (w.alloc (.cells #[.slice none 0 0, .slice none 0 0] 65)) (B := w.heap.size + 1) (by simp) C.c hx
 simpa using this
theorem LpRel.nil (C : Cnt) (w : World) : LpRel C w (.slice (some ⟨w.heap.size + 1, 0, none⟩) 0 0) 0 ((w.alloc (.cells #[.slice none 0 0, .slice none 0 0] 65)).alloc (.cells #[] 2)) := by
 refine ⟨Lib.hid ?_, Lib.hid ((Blk.new w _ _).alloc _), Lib.hid (((Below.refl _ _).alloc (Nat.le_refl _) _).alloc (by simp) _)⟩
 have := lit0 (w.alloc (.cells #[.slice none 0 0, .slice none 0 0] 65)) (B := w.heap.size + 1) (by simp) C.c
 simpa using this
theorem LpRel.next {C : Cnt} {w wr w1 w2 : World} {k : Nat} {v v' : Value} (h : LpRel C w v k wr) (h1 : Below wr.heap.size wr w1)
  (hown : w2.ownsRow (w.heap.size + 1) 2 1 v' (k + 1) (ints (fl k C.c) ++ [.int .i64 ((C.c k : Nat) : Int)])) (hg : w1.grownBy w2 v.ownBlock) : LpRel C w v' (k + 1) w2 := by
 obtain ⟨hO, hK, hB⟩ := h
 obtain ⟨p1, p2⟩ := nextI (w0 := wr) hK.out.lt hO.out (Below.refl _ _) h1 hown hg
 exact ⟨Lib.hid p1, Lib.hid (hK.out.below p2 (Nat.lt_succ_self _)), Lib.hid (hB.out.trans (p2.mono (Nat.le_succ _)))⟩
theorem LpRel.row {C : Cnt} {w wr w2 : World} {k : Nat} {v : Value} (h : LpRel C w v k wr) (hb : Below wr.heap.size wr w2) (x : Int) : (w2.alloc (.cells #[.int .i64 x] 2)).ownsRow (w.heap.size + 1) 2 1 v k (ints (fl k C.c)) := by
 have := World.ownsRow.alloc (OwnI.below h.1.out hb) (.cells #[.int .i64 x] 2)
 rw [fl_len] at this
 exact this
theorem lawOf_k {A : Option Addr} {c B n M K : Nat} {F : Int} {C : Cnt} (hK : K = C.many ∧ F = (C.first : Int)) (hC : C.ok n) (hn : n ≤ 50) (hM : M = 2 ^ n) (w : World) (hx : RdI w B A (fl K C.c)) (hB : B ≤ w.heap.size) :
  Calls Tryz.prog 69 #[.int .i64 F, .slice A K c, .int .i64 (M : Int)] w (LawRet C n w) := by
 obtain ⟨rfl, rfl⟩ := hK
 exact LpW.lawOf_d hC hn hM w hx hB
set_option maxHeartbeats 4000000 in
set_option maxRecDepth 100000 in
theorem onesI_d (n : Nat) (hn50 : n ≤ 50) (w : World) : Calls Tryz.prog 39 #[.int .i64 (n : Int)] w (LawRet (onesC n) n w) := by
 obtain ⟨i0, hi, hz0, hz1, hz2⟩ := info_parts infoI
 have H0 := Lib.hid (LpRel.nil (onesC n) w)
 go_enter Tryz.func39, Tryz.ntmps39
 go_wp2
 go_loopw [3, 8] (fun ov kv wr => ∃ k : Nat, k ≤ n + 1 ∧ kv = .int .i64 (k : Int) ∧ LpRel (onesC n) w ov k wr) (fun _ kv _ => n + 1 - (intOf kv).toNat)
 case atStart => exact ⟨0, Nat.zero_le _, rfl, H0.out⟩
 case round =>
  obtain ⟨k, hk, rfl, HR⟩ := hrel
  obtain ⟨wo, rfl⟩ : ∃ x, x = wr := ⟨_, rfl⟩
  by_cases hlt : k < n + 1
  ·have HCh := Lib.hid (choose_any n k wo hn50 (by omega))
   have HRR := Lib.hid HR
   have hw := HR.2.1.out.lt
   have hkn : (k : Int) < (n : Int) + 1 := by omega
   clear H0 HR
   go_wp2_with fail
   refine HCh.out.mono ?_
   rintro e w2 ⟨rfl, nd, rfl⟩
   have hb2 := below_drewN (Below.refl wo.heap.size wo) nd
   rw [show ch n k = (onesC n).c k from rfl]
   have HW := Lib.hid (HRR.out.row hb2 (((onesC n).c k : Nat) : Int))
   have HB2 := Lib.hid hb2
   have hs2 := hb2.size
   clear hb2
   generalize wo.drewN nd = w2 at *
   go_wp2_with (at_builtin; refine wpList_append_own_at _ rfl (.tmp 11) (.tmp 15) 63 rfl (w.heap.size + 1) 2 i0 (.int .i64 0) 1 8 Tryz.underlying63 hi hz0 hz1 hz2 rfl (by decide) _ _ _ rfl HW.out ⟨w2.heap.size, 0, none⟩ 1 1 [.int .i64 (((onesC n).c k : Nat) : Int)] rfl rfl ?p1a ?p2a ?p3a ?p4a ?p5a ?_)
   try case p1a => exact news_one _ _ _ (by simp)
   try case p2a => first | exact one_int | rfl | simp
   try case p3a => first | (simp only [maxLen]; omega) | omega
   try case p4a => omega
   try case p5a => first | (simp only [World.size_alloc]; omega) | omega
   intro v' w3 hown' hg' _ he
   have HN := Lib.hid (HRR.out.next (HB2.out.alloc HB2.out.size _) hown' hg')
   clear hown' hg' he
   go_wp2
   go_roundw
   case rel => exact ⟨k + 1, by omega, by simp, HN.out⟩
   case measure => simp [intOf]; omega
  ·obtain rfl : k = n + 1 := by omega
   obtain ⟨A1, c1, e5, _⟩ := HR.1.out.form
   rw [fl_len] at e5
   subst e5
   have HCt := Lib.hid (lawOf_k (C := onesC n) (K := (n + 1)) (F := 0) (c := c1) ⟨rfl, rfl⟩ (onesC_ok n) hn50 rfl wo (OwnI.rd HR.1.out) (Nat.le_refl _))
   have hpw := pw_int hn50 rfl
   have HR2 := Lib.hid HR
   clear HR
   go_wp2_with fail
   rw [hpw]
   refine HCt.out.mono ?_
   rintro e w3 ⟨v, rfl, ⟨A3, c3, A4, c4, rfl, o3, o4⟩, b3⟩
   have K3 := HR2.out.2.1.out.belowS b3
   have r0 := K3.at 0 (v := .slice none 0 0) rfl
   have r1 := K3.at 1 (v := .slice none 0 0) rfl
   have f0 := K3.frz 0
   have f1 := K3.frz 1
   have KK := (K3.setTo 0 (.slice A3 (onesC n).many c3) rfl).setTo 1 (.slice A4 (onesC n).many c4) rfl
   have k0 := KK.at 0 (v := .slice A3 (onesC n).many c3) rfl
   have k1 := KK.at 1 (v := .slice A4 (onesC n).many c4) rfl
   have HFIN := Lib.hid (LawRet.put (w := w) o3 o4 (Nat.lt_of_lt_of_le (Nat.lt_succ_self _) (Nat.le_trans HR2.out.2.1.out.lt (Nat.le_refl _))) (Base.Below.nextA HR2.out.2.2.out b3))
   clear KK K3 o3 o4 b3 HCt hpw
   generalize (onesC n).many = mm at *
   go_wp2
   refine bodyPost_ret (v := .agg #[.slice A3 mm c3, .slice A4 mm c4]) (by simp [results, Tryz.results39, go_sem, k0, k1]) rfl ?_
   exact HFIN.out
set_option maxHeartbeats 4000000 in
set_option maxRecDepth 100000 in
theorem runsL_d (n : Nat) (hn1 : 1 ≤ n) (hn50 : n ≤ 50) (w : World) : Calls Tryz.prog 42 #[.int .i64 (n : Int)] w (LawRet (runsC n) n w) := by
 obtain ⟨i0, hi, hz0, hz1, hz2⟩ := info_parts infoI
 have H0 := Lib.hid (LpRel.nil (runsC n) w)
 have HCZ : Hid (∀ k, (runsC n).c k = 2 * ch (n - 1) k) := Lib.hid (fun k => rfl)
 go_enter Tryz.func42, Tryz.ntmps42
 go_wp2
 go_loopw [3, 7] (fun ov kv wr => ∃ k : Nat, k ≤ n ∧ kv = .int .i64 (k : Int) ∧ LpRel (runsC n) w ov k wr) (fun _ kv _ => n - (intOf kv).toNat)
 case atStart => exact ⟨0, Nat.zero_le _, rfl, H0.out⟩
 case round =>
  obtain ⟨k, hk, rfl, HR⟩ := hrel
  obtain ⟨wo, rfl⟩ : ∃ x, x = wr := ⟨_, rfl⟩
  by_cases hlt : k < n
  ·obtain ⟨n1, hn⟩ : ∃ m, m = n - 1 := ⟨_, rfl⟩
   have hnn : (n : Int) - 1 = (n1 : Int) := by omega
   have HCh := Lib.hid (choose_any n1 k wo (by omega) (by omega))
   have hle := ch_le2 n1 k
   have hp : (2 : Nat) ^ n1 ≤ 2 ^ 49 := Nat.pow_le_pow_right (by decide) (by omega)
   have HRR := Lib.hid HR
   have hw := HR.2.1.out.lt
   have hcz := HCZ.out k
   rw [← hn] at hcz
   have HNN := Lib.hid hnn
   clear H0 HR hn hnn
   have h2x : (((runsC n).c k : Nat) : Int) = 2 * ((ch n1 k : Nat) : Int) := by rw [hcz]; simp
   have H2X := Lib.hid h2x
   clear hcz h2x
   obtain ⟨x, hx⟩ : ∃ x, x = ch n1 k := ⟨_, rfl⟩
   rw [← hx] at HCh H2X hle
   clear hx
   go_wp2_with fail
   rw [HNN.out]
   refine HCh.out.mono ?_
   rintro e w2 ⟨rfl, nd, rfl⟩
   have hb2 := below_drewN (Below.refl wo.heap.size wo) nd
   have hx49 : x ≤ 562949953421312 := by omega
   have HW := Lib.hid (HRR.out.row hb2 (2 * (x : Int)))
   have HB2 := Lib.hid hb2
   have hs2 := hb2.size
   clear hb2 hle
   generalize wo.drewN nd = w2 at *
   go_wp2_with (at_builtin; refine wpList_append_own_at _ rfl (.tmp 10) (.tmp 16) 63 rfl (w.heap.size + 1) 2 i0 (.int .i64 0) 1 8 Tryz.underlying63 hi hz0 hz1 hz2 rfl (by decide) _ _ _ rfl HW.out ⟨w2.heap.size, 0, none⟩ 1 1 [.int .i64 (2 * (x : Int))] rfl rfl ?p1a ?p2a ?p3a ?p4a ?p5a ?_)
   try case p1a => exact news_one _ _ _ (by simp)
   try case p2a => first | exact one_int | rfl | simp
   try case p3a => first | (simp only [maxLen]; omega) | omega
   try case p4a => omega
   try case p5a => first | (simp only [World.size_alloc]; omega) | omega
   intro v' w3 hown' hg' _ he
   rw [← H2X.out] at hown'
   have HN := Lib.hid (HRR.out.next (HB2.out.alloc HB2.out.size _) hown' hg')
   clear hown' hg' he
   go_wp2
   go_roundw
   case rel => exact ⟨k + 1, by omega, by simp, HN.out⟩
   case measure => simp [intOf]; omega
  ·obtain rfl : k = n := by omega
   obtain ⟨A1, c1, e5, _⟩ := HR.1.out.form
   rw [fl_len] at e5
   subst e5
   have HCt := Lib.hid (lawOf_k (C := runsC k) (K := k) (F := 1) (c := c1) ⟨rfl, rfl⟩ (runsC_ok hn1) hn50 rfl wo (OwnI.rd HR.1.out) (Nat.le_refl _))
   have hpw := pw_int hn50 rfl
   have HR2 := Lib.hid HR
   clear HR
   go_wp2_with fail
   rw [hpw]
   refine HCt.out.mono ?_
   rintro e w3 ⟨v, rfl, ⟨A3, c3, A4, c4, rfl, o3, o4⟩, b3⟩
   have K3 := HR2.out.2.1.out.belowS b3
   have r0 := K3.at 0 (v := .slice none 0 0) rfl
   have r1 := K3.at 1 (v := .slice none 0 0) rfl
   have f0 := K3.frz 0
   have f1 := K3.frz 1
   have KK := (K3.setTo 0 (.slice A3 (runsC k).many c3) rfl).setTo 1 (.slice A4 (runsC k).many c4) rfl
   have k0 := KK.at 0 (v := .slice A3 (runsC k).many c3) rfl
   have k1 := KK.at 1 (v := .slice A4 (runsC k).many c4) rfl
   have HFIN := Lib.hid (LawRet.put (w := w) o3 o4 (Nat.lt_of_lt_of_le (Nat.lt_succ_self _) (Nat.le_trans HR2.out.2.1.out.lt (Nat.le_refl _))) (Base.Below.nextA HR2.out.2.2.out b3))
   clear KK K3 o3 o4 b3 HCt hpw
   generalize (runsC k).many = mm at *
   go_wp2
   refine bodyPost_ret (v := .agg #[.slice A3 mm c3, .slice A4 mm c4]) (by simp [results, Tryz.results42, go_sem, k0, k1]) rfl ?_
   exact HFIN.out
end Go.Proofs.YtcimmgpmkfbpdaaGreatDoor.LpX
namespace Go.Proofs.YtcimmgpmkfbpdaaGreatDoor.LpX
open Go.RowKit Go.Proofs.YtcimmgpmkfbpdaaGreatDoor Go.Proofs.YtcimmgpmkfbpdaaGreatDoor.Base Go.Proofs.YtcimmgpmkfbpdaaGreatDoor.Mem Go.Proofs.YtcimmgpmkfbpdaaGreatDoor.MemF Go.Proofs.YtcimmgpmkfbpdaaGreatDoor.GiveM Go.Proofs.YtcimmgpmkfbpdaaGreatDoor.RatM Go.Proofs.YtcimmgpmkfbpdaaGreatDoor.LvM Go.Proofs.YtcimmgpmkfbpdaaGreatDoor.LvQ Go.Proofs.YtcimmgpmkfbpdaaGreatDoor.LvO Go.Proofs.YtcimmgpmkfbpdaaGreatDoor.LvT Go.Proofs.YtcimmgpmkfbpdaaGreatDoor.Blk
open Go.Proofs.YtcimmgpmkfbpdaaGreatDoor.LvL (pw_int)
set_option linter.unusedVariables false
def WyRel (m n : Nat) (w : World) (ov kv : Value) (wr : World) : Prop := ∃ k : Nat, 1 ≤ k ∧ k ≤ n + 1 ∧ kv = .int .i64 (k : Int) ∧ Hid (OwnI wr w.heap.size ov (fl k (W m))) ∧ Hid (Below w.heap.size w wr)
set_option maxHeartbeats 4000000 in
set_option maxRecDepth 100000 in
theorem longL_d (n : Nat) (hn1 : 1 ≤ n) (hn50 : n ≤ 50) (w : World) : Calls Tryz.prog 45 #[.int .i64 (n : Int)] w (LawRet (lenC n) n w) := by
 obtain ⟨i0, hi, hz0, hz1, hz2⟩ := info_parts infoI
 have H0 := Lib.hid (LpRel.nil (lenC n) w)
 have HCZ : Hid (∀ k, (lenC n).c k = 2 * W (k + 1) n - 2 * W k n) := Lib.hid (fun k => by unfold lenC cL; simp)
 have HW0 : Hid (2 * W 0 n = 0) := Lib.hid (by obtain ⟨m, rfl⟩ : ∃ m, n = m + 1 := ⟨n - 1, by omega⟩; rw [W_none])
 go_enter Tryz.func45, Tryz.ntmps45
 go_wp2
 go_loopw [3, 4, 5] (fun ov bv kv wr => ∃ j : Nat, j ≤ n ∧ kv = .int .i64 ((j : Int) + 1) ∧ bv = .int .i64 ((2 * W j n : Nat) : Int) ∧ LpRel (lenC n) w ov j wr) (fun _ _ kv _ => n + 1 - (intOf kv).toNat)
 case atStart => exact ⟨0, Nat.zero_le _, rfl, by rw [HW0.out]; rfl, H0.out⟩
 case round =>
  obtain ⟨j, hj, rfl, rfl, HR⟩ := hrel
  obtain ⟨wo, rfl⟩ : ∃ x, x = wr := ⟨_, rfl⟩
  by_cases hlt : j < n
  ·have HRR := Lib.hid HR
   have hw := HR.2.1.out.lt
   have hcz := HCZ.out j
   have h1 := W_mono j n
   have h2 := W_bound (j + 1) n
   have hp : (2 : Nat) ^ n ≤ 2 ^ 50 := Nat.pow_le_pow_right (by decide) hn50
   obtain ⟨y, hy⟩ : ∃ y, y = 2 * W j n := ⟨_, rfl⟩
   have hyx : y ≤ 2 * W (j + 1) n := by omega
   have h2x : (((lenC n).c j : Nat) : Int) = 2 * ((W (j + 1) n : Nat) : Int) - (y : Int) := by rw [hcz, ← hy]; omega
   have H2X := Lib.hid h2x
   rw [← hy]
   have hWn : W (j + 1) n ≤ 1125899906842624 := by omega
   have HWN := Lib.hid (And.intro hWn hyx)
   have HM : Hid (WyRel (j + 1) n wo (.slice (some ⟨wo.heap.size, 0, none⟩) 1 1) (.int .i64 1) (wo.alloc (.cells #[.int .i64 1] 2))) := Lib.hid ⟨1, Nat.le_refl _, by omega, rfl, Lib.hid (lit1 wo (Nat.le_refl _) (W (j + 1)) (by rw [W_zero]; rfl)), Lib.hid ((Below.refl _ _).alloc (Nat.le_refl _) _)⟩
   have HJ : Hid (1 ≤ j + 1) := Lib.hid (by omega)
   obtain ⟨m, hm⟩ : ∃ m, m = j + 1 := ⟨_, rfl⟩
   have hmj : (j : Int) + 1 = (m : Int) := by omega
   have hm50 : m ≤ 50 := by omega
   have hm1 : 1 ≤ m := by omega
   rw [← hm] at HM H2X HWN
   have HMJ := Lib.hid (And.intro hmj hm)
   clear H0 HR hcz h2x h1 h2 hy hyx hWn hm hmj hp
   go_wp2
   rw [HMJ.out.1, show decide ((m : Int) ≤ (n : Int)) = true from decide_eq_true (by have := HMJ.out.2; omega)]
   go_loopw [6, 7] (fun ov kv wr => WyRel m n wo ov kv wr) (fun _ kv _ => n + 1 - (intOf kv).toNat)
   case atStart => exact HM.out
   case round =>
    obtain ⟨k, hk1, hk2, rfl, HO, HB2⟩ := hrel
    obtain ⟨wp, rfl⟩ : ∃ x, x = wr := ⟨_, rfl⟩
    clear HM
    obtain ⟨A2, c2, e2, _⟩ := HO.out.form
    rw [fl_len] at e2
    subst e2
    have hzp := HB2.out.size
    by_cases hkn : k ≤ n
    ·obtain ⟨mk, hmk⟩ : ∃ mk, mk = min m k := ⟨_, rfl⟩
     have hms : sm mk (fun t => W m (k - 1 - t)) = W m k := by
      obtain ⟨k', rfl⟩ : ∃ q, k = q + 1 := ⟨k - 1, by omega⟩
      rw [W_succ, hmk, Nat.add_sub_cancel]
     have hWk : W m k ≤ 1125899906842624 := by
      have := W_bound m k
      have h3 : (2 : Nat) ^ k ≤ 2 ^ 50 := Nat.pow_le_pow_right (by decide) (by omega)
      omega
     have hmin : (if (k : Int) < (m : Int) then (k : Int) else (m : Int)) = (mk : Int) := by split <;> omega
     have hmin2 : (if (m : Int) < (k : Int) then (m : Int) else (k : Int)) = (mk : Int) := by split <;> omega
     have hmkk : mk ≤ k := by omega
     have HMS := Lib.hid hms
     clear hms hmk
     have hown := World.ownsRow.alloc HO.out (.cells #[.int .i64 ((W m k : Nat) : Int)] 2)
     rw [fl_len] at hown
     have HWn := Lib.hid hown
     have HMIN := Lib.hid (And.intro hmin hmin2)
     clear hown hmin hmin2
     go_wp2
     go_loop [8, 9] (fun sv rv => ∃ r : Nat, r ≤ mk ∧ rv = .int .i64 ((r : Int) + 1) ∧ sv = .int .i64 ((sm r (fun t => W m (k - 1 - t)) : Nat) : Int)) (fun _ rv => mk + 1 - (intOf rv).toNat)
     case atStart => exact ⟨0, Nat.zero_le _, rfl, rfl⟩
     case round =>
      obtain ⟨r, hr, rfl, rfl⟩ := hrel
      have e1 := HMIN.out.1
      have e2 := HMIN.out.2
      by_cases hrm : r < mk
      ·obtain ⟨b, off, rfl, _, hcc⟩ := (OwnI.rd HO.out) (by rw [fl_len]; omega)
       have g1 := hcc (k - 1 - r) (by rw [fl_len]; omega)
       rw [fl_at _ (by omega)] at g1
       have hs1 : sm (r + 1) (fun t => W m (k - 1 - t)) ≤ sm mk (fun t => W m (k - 1 - t)) := sm_mono (by omega)
       rw [HMS.out] at hs1
       have hs2 : sm (r + 1) (fun t => W m (k - 1 - t)) = sm r (fun t => W m (k - 1 - t)) + W m (k - 1 - r) := rfl
       rw [hs2] at hs1
       have HS2 := Lib.hid hs2
       have hqi : (k : Int) - ((r : Int) + 1) = ((k - 1 - r : Nat) : Int) := by omega
       have hqk : ((k - 1 - r : Nat) : Int) < (k : Int) := by omega
       clear hcc hs2
       generalize sm r (fun t => W m (k - 1 - t)) = S at *
       generalize W m (k - 1 - r) = y2 at *
       generalize k - 1 - r = q at *
       have hrm2 : (r : Int) + 1 ≤ (mk : Int) := by omega
       go_wp2
       go_round
       case rel => exact ⟨r + 1, hrm, by go_num, by rw [HS2.out]; go_num⟩
       case measure => simp [intOf]; omega
      ·obtain rfl : r = mk := by omega
       rw [HMS.out]
       have hrm2 : ¬ ((r : Int) + 1 ≤ (r : Int)) := by omega
       obtain ⟨z, hz⟩ : ∃ z, z = W m k := ⟨_, rfl⟩
       rw [← hz] at HWn hWk ⊢
       have HZ := Lib.hid hz
       clear hz
       go_wp2_with (at_builtin; refine wpList_append_own_at _ rfl (.tmp 37) (.tmp 39) 63 rfl wo.heap.size 2 i0 (.int .i64 0) 1 8 Tryz.underlying63 hi hz0 hz1 hz2 rfl (by decide) _ _ _ rfl HWn.out ⟨wp.heap.size, 0, none⟩ 1 1 [.int .i64 (z : Int)] rfl rfl ?p1a ?p2a ?p3a ?p4a ?p5a ?_)
       try case p1a => exact news_one _ _ _ (by simp)
       try case p2a => first | exact one_int | rfl | simp
       try case p3a => first | (simp only [maxLen]; omega) | omega
       try case p4a => omega
       try case p5a => first | (simp only [World.size_alloc]; omega) | omega
       intro v' w3 hown' hg' _ he
       rw [HZ.out] at hown'
       obtain ⟨p1, p2⟩ := nextI (f := W m) hzp HO.out HB2.out ((Below.refl _ _).alloc (Nat.le_refl _) _) hown' hg'
       have HN : Hid (WyRel m n wo v' (.int .i64 ((k : Int) + 1)) w3) := Lib.hid ⟨k + 1, by omega, by omega, by simp, Lib.hid p1, Lib.hid p2⟩
       clear hown' hg' he p1 p2 e1 e2
       go_wp2
       go_roundw
       case rel => exact HN.out
       case measure => simp [intOf]; omega
    ·obtain rfl : k = n + 1 := by omega
     obtain ⟨b, off, rfl, _, hcc⟩ := (OwnI.rd HO.out) (by rw [fl_len]; omega)
     have g1 := hcc n (by rw [fl_len]; omega)
     rw [fl_at _ (by omega)] at g1
     obtain ⟨z, hz⟩ : ∃ z, z = W m n := ⟨_, rfl⟩
     obtain ⟨hz50, hyz⟩ := HWN.out
     rw [← hz] at g1 hz50 hyz
     have h2x := H2X.out
     rw [← hz] at h2x
     have HZ := Lib.hid hz
     have HX2 := Lib.hid h2x
     have hnn : (n : Int) < (n : Int) + 1 := by omega
     have hrow := HRR.out.row HB2.out (2 * (z : Int) - (y : Int))
     have HW := Lib.hid hrow
     clear hcc hz h2x hrow
     go_wp2_with (at_builtin; refine wpList_append_own_at _ rfl (.tmp 41) (.tmp 49) 63 rfl (w.heap.size + 1) 2 i0 (.int .i64 0) 1 8 Tryz.underlying63 hi hz0 hz1 hz2 rfl (by decide) _ _ _ rfl HW.out ⟨wp.heap.size, 0, none⟩ 1 1 [.int .i64 (2 * (z : Int) - (y : Int))] rfl rfl ?p1b ?p2b ?p3b ?p4b ?p5b ?_)
     try case p1b => exact news_one _ _ _ (by simp)
     try case p2b => first | exact one_int | rfl | simp
     try case p3b => first | (simp only [maxLen]; omega) | omega
     try case p4b => omega
     try case p5b => first | (simp only [World.size_alloc]; omega) | omega
     intro v' w3 hown' hg' _ he
     rw [← HX2.out] at hown'
     have HN := Lib.hid (HRR.out.next (HB2.out.alloc hzp _) hown' hg')
     have g2 : w3.cell? ⟨b, off + n, none⟩ = some (.int .i64 (z : Int)) := by
      have hk : OwnI w3 wo.heap.size (.slice (some ⟨b, off, none⟩) (n + 1) c2) (fl (n + 1) (W m)) := World.ownsRow.kept (World.ownsRow.alloc HO.out _) hg' (.inr fun e => by
       obtain ⟨_, _, q1, _⟩ := ownsRow_block HO.out (g := b) rfl
       obtain ⟨_, _, _, q2⟩ := ownsRow_block HRR.out.1.out (g := b) e.symm
       omega)
      obtain ⟨b', off', e', _, hc'⟩ := (OwnI.rd hk) (by rw [fl_len]; omega)
      injection e' with e'
      injection e' with e1 e2 _
      subst e1 e2
      have := hc' n (by rw [fl_len]; omega)
      rw [fl_at _ (by omega), ← HZ.out] at this
      exact this
     clear hown' hg' he
     go_wp2
     go_roundw
     case rel => exact ⟨j + 1, hlt, by rw [← HMJ.out.1]; simp, by rw [HZ.out, HMJ.out.2]; simp, HN.out⟩
     case measure => have := HMJ.out.1; simp [intOf]; omega
  ·obtain rfl : j = n := by omega
   obtain ⟨A1, c1, e5, _⟩ := HR.1.out.form
   rw [fl_len] at e5
   subst e5
   have HCt := Lib.hid (lawOf_k (C := lenC j) (K := j) (F := 1) (c := c1) ⟨rfl, rfl⟩ (lenC_ok hn1) hn50 rfl wo (OwnI.rd HR.1.out) (Nat.le_refl _))
   have hpw := pw_int hn50 rfl
   have HR2 := Lib.hid HR
   clear HR
   go_wp2_with fail
   rw [hpw]
   refine HCt.out.mono ?_
   rintro e w3 ⟨v, rfl, ⟨A3, c3, A4, c4, rfl, o3, o4⟩, b3⟩
   have K3 := HR2.out.2.1.out.belowS b3
   have r0 := K3.at 0 (v := .slice none 0 0) rfl
   have r1 := K3.at 1 (v := .slice none 0 0) rfl
   have f0 := K3.frz 0
   have f1 := K3.frz 1
   have KK := (K3.setTo 0 (.slice A3 (lenC j).many c3) rfl).setTo 1 (.slice A4 (lenC j).many c4) rfl
   have k0 := KK.at 0 (v := .slice A3 (lenC j).many c3) rfl
   have k1 := KK.at 1 (v := .slice A4 (lenC j).many c4) rfl
   have HFIN := Lib.hid (LawRet.put (w := w) o3 o4 (Nat.lt_of_lt_of_le (Nat.lt_succ_self _) (Nat.le_trans HR2.out.2.1.out.lt (Nat.le_refl _))) (Base.Below.nextA HR2.out.2.2.out b3))
   clear KK K3 o3 o4 b3 HCt hpw
   generalize (lenC j).many = mm at *
   go_wp2
   refine bodyPost_ret (v := .agg #[.slice A3 mm c3, .slice A4 mm c4]) (by simp [results, Tryz.results45, go_sem, k0, k1]) rfl ?_
   exact HFIN.out
end Go.Proofs.YtcimmgpmkfbpdaaGreatDoor.LpX
namespace Go.Proofs.YtcimmgpmkfbpdaaGreatDoor.BigM
set_option linter.unusedVariables false
def D30 : Nat := 1073741824
def val : List Nat → Nat
 | [] => 0
 | x :: xs => x + D30 * val xs
def okN (xs : List Nat) : Prop := ∀ x ∈ xs, x < D30
theorem val_append : ∀ (xs ys : List Nat), val (xs ++ ys) = val xs + D30 ^ xs.length * val ys
 | [], ys => by simp [val]
 | x :: xs, ys => by
  rw [List.cons_append, val, val, val_append xs ys, List.length_cons, Nat.pow_succ, Nat.mul_add, ← Nat.mul_assoc, Nat.mul_comm D30 (D30 ^ xs.length), Nat.add_assoc]
theorem val_lt : ∀ (xs : List Nat), okN xs → val xs < D30 ^ xs.length
 | [], _ => by simp [val]
 | x :: xs, h => by
  have h1 := val_lt xs fun y hy => h y (by simp [hy])
  have h2 := h x (by simp)
  rw [val, List.length_cons, Nat.pow_succ, Nat.mul_comm (D30 ^ xs.length)]
  have h3 : val xs + 1 ≤ D30 ^ xs.length := h1
  have h4 := Nat.mul_le_mul_left D30 h3
  rw [Nat.mul_add] at h4
  omega
def bigL (x : Nat) : List Nat := if h : x = 0 then [] else x % D30 :: bigL (x / D30)
termination_by x
decreasing_by exact Nat.div_lt_self (Nat.pos_of_ne_zero h) (by decide)
theorem bigL_zero : bigL 0 = [] := by rw [bigL]; simp
theorem bigL_pos {x : Nat} (h : x ≠ 0) : bigL x = x % D30 :: bigL (x / D30) := by
 conv => lhs; rw [bigL]
 simp [h]
theorem bigL_val (x : Nat) : val (bigL x) = x := by
 induction x using Nat.strongRecOn with
 | _ x ih =>
  by_cases h : x = 0
  ·subst h; rw [bigL_zero]; rfl
  ·rw [bigL_pos h, val, ih (x / D30) (Nat.div_lt_self (Nat.pos_of_ne_zero h) (by decide))]
   exact Nat.mod_add_div x D30
theorem bigL_ok (x : Nat) : okN (bigL x) := by
 induction x using Nat.strongRecOn with
 | _ x ih =>
  by_cases h : x = 0
  ·subst h; rw [bigL_zero]; intro y hy; cases hy
  ·rw [bigL_pos h]
   intro y hy
   rcases List.mem_cons.1 hy with rfl | hy
   ·exact Nat.mod_lt _ (by decide)
   ·exact ih (x / D30) (Nat.div_lt_self (Nat.pos_of_ne_zero h) (by decide)) y hy
def canon (xs : List Nat) : Prop := okN xs ∧ ∀ n, xs.length = n + 1 → xs.getD n 0 ≠ 0
theorem okN_cons {x : Nat} {xs : List Nat} (h : okN (x :: xs)) : okN xs := fun y hy => h y (by simp [hy])
theorem canon_bigL : ∀ {xs : List Nat}, canon xs → bigL (val xs) = xs
 | [], _ => bigL_zero
 | x :: xs, h => by
  have hx := h.1 x (by simp)
  have hc : canon xs := ⟨okN_cons h.1, fun n hn => by have := h.2 (n + 1) (by simp [hn]); simpa [List.getD] using this⟩
  have hne : val (x :: xs) ≠ 0 := by
   intro h0
   rw [val] at h0
   rcases xs with _ | ⟨y, ys⟩
   ·have := h.2 0 rfl
    simp [List.getD] at this
    omega
   ·have hy : val (y :: ys) = 0 := by
     have : D30 * val (y :: ys) = 0 := by omega
     rcases Nat.mul_eq_zero.1 this with h1 | h1
     ·exact absurd h1 (by decide)
     ·exact h1
    have e := canon_bigL hc
    rw [hy, bigL_zero] at e
    cases e
  rw [bigL_pos hne]
  have hm : val (x :: xs) % D30 = x := by rw [val, Nat.add_mul_mod_self_left, Nat.mod_eq_of_lt hx]
  have hd : val (x :: xs) / D30 = val xs := by rw [val, Nat.add_mul_div_left _ _ (by decide : 0 < D30), Nat.div_eq_of_lt hx, Nat.zero_add]
  rw [hm, hd, canon_bigL hc]
theorem bigL_canon (x : Nat) : canon (bigL x) := by
 refine ⟨bigL_ok x, ?_⟩
 induction x using Nat.strongRecOn with
 | _ x ih =>
  intro n hn
  by_cases h : x = 0
  ·subst h; rw [bigL_zero] at hn; cases hn
  ·rw [bigL_pos h] at hn ⊢
   have hlt := Nat.div_lt_self (Nat.pos_of_ne_zero h) (show 1 < D30 by decide)
   rcases n with _ | n
   ·simp only [List.length_cons] at hn
    have h0 : (bigL (x / D30)).length = 0 := by omega
    have h1 : bigL (x / D30) = [] := List.eq_nil_of_length_eq_zero h0
    have h2 : x / D30 = 0 := by rw [← bigL_val (x / D30), h1]; rfl
    have h3 := Nat.mod_add_div x D30
    rw [h2] at h3
    simp [List.getD]
    omega
   ·have := ih (x / D30) hlt n (by simp only [List.length_cons] at hn; omega)
    simpa [List.getD] using this
theorem okN_take {xs : List Nat} (h : okN xs) (n : Nat) : okN (xs.take n) := fun y hy => h y (List.mem_of_mem_take hy)
theorem val_snoc (xs : List Nat) (y : Nat) : val (xs ++ [y]) = val xs + D30 ^ xs.length * y := by
 rw [val_append]; simp [val]
theorem val_take_succ (xs : List Nat) (k : Nat) (h : k < xs.length) : val (xs.take (k + 1)) = val (xs.take k) + D30 ^ k * xs.getD k 0 := by
 rw [List.take_succ_eq_append_getElem h, val_snoc, List.length_take, Nat.min_eq_left (Nat.le_of_lt h)]
 simp [List.getD, h]
theorem trim_done {xs : List Nat} {n : Nat} (hok : okN xs) (hn : n ≤ xs.length) (hv : val (xs.take n) = val xs) (hl : n = 0 ∨ xs.getD (n - 1) 0 ≠ 0) : xs.take n = bigL (val xs) := by
 rw [← hv]
 refine (canon_bigL ⟨okN_take hok n, fun m hm => ?_⟩).symm
 rw [List.length_take, Nat.min_eq_left hn] at hm
 rcases hl with h0 | h0
 ·omega
 ·have e : n - 1 = m := by omega
  rw [e] at h0
  have : (xs.take n).getD m 0 = xs.getD m 0 := by simp [List.getD, show m < n by omega]
  rw [this]; exact h0
theorem trim_step {xs : List Nat} {n : Nat} (hn : n + 1 ≤ xs.length) (hv : val (xs.take (n + 1)) = val xs) (h0 : xs.getD n 0 = 0) : val (xs.take n) = val xs := by
 rw [val_take_succ xs n (by omega), h0] at hv
 omega
theorem val_cmp {xs ys : List Nat} (hl : xs.length = ys.length) (hx : okN xs) (hy : okN ys) : ∀ (n : Nat), n ≤ xs.length → (∀ j, n ≤ j → j < xs.length → xs.getD j 0 = ys.getD j 0) → (val xs < val ys ↔ val (xs.take n) < val (ys.take n)) ∧ (val xs = val ys ↔ val (xs.take n) = val (ys.take n)) := by
 intro n hn
 obtain ⟨d, hd⟩ : ∃ d, xs.length = n + d := ⟨xs.length - n, by omega⟩
 induction d generalizing n with
 | zero =>
  intro _
  rw [List.take_of_length_le (by omega), List.take_of_length_le (by omega)]
  exact ⟨Iff.rfl, Iff.rfl⟩
 | succ d ih =>
  intro he
  have h1 := ih (n + 1) (by omega) (by omega) (fun j hj hj2 => he j (by omega) hj2)
  have e := he n (Nat.le_refl _) (by omega)
  rw [val_take_succ xs n (by omega), val_take_succ ys n (by omega), e] at h1
  refine ⟨h1.1.trans ?_, h1.2.trans ?_⟩ <;> omega
theorem cmp_lt {xs ys : List Nat} (hl : xs.length = ys.length) (hx : okN xs) (hy : okN ys) {n : Nat} (hn : n < xs.length) (he : ∀ j, n + 1 ≤ j → j < xs.length → xs.getD j 0 = ys.getD j 0) (h : xs.getD n 0 < ys.getD n 0) : val xs < val ys := by
 refine (val_cmp hl hx hy (n + 1) (by omega) he).1.2 ?_
 rw [val_take_succ xs n hn, val_take_succ ys n (by omega)]
 have h1 := val_lt _ (okN_take hx n)
 rw [List.length_take, Nat.min_eq_left (by omega)] at h1
 have h2 := Nat.mul_le_mul_left (D30 ^ n) (show xs.getD n 0 + 1 ≤ ys.getD n 0 from h)
 rw [Nat.mul_add, Nat.mul_one] at h2
 omega
theorem bigL_len_le {x k : Nat} (h : x < D30 ^ k) : (bigL x).length ≤ k := by
 rcases Nat.lt_or_ge k (bigL x).length with hl | hl
 ·obtain ⟨n, hn⟩ : ∃ n, (bigL x).length = n + 1 := ⟨(bigL x).length - 1, by omega⟩
  have h2 := (bigL_canon x).2 n hn
  have h3 := val_take_succ (bigL x) n (by omega)
  rw [List.take_of_length_le (by omega), bigL_val] at h3
  have h4 : D30 ^ k ≤ D30 ^ n := Nat.pow_le_pow_right (by decide) (by omega)
  have h5 : D30 ^ n * 1 ≤ D30 ^ n * (bigL x).getD n 0 := Nat.mul_le_mul_left _ (by omega)
  omega
 ·exact hl
theorem val_take_any (ys : List Nat) (i : Nat) : val (ys.take (i + 1)) = val (ys.take i) + D30 ^ i * ys.getD i 0 := by
 rcases Nat.lt_or_ge i ys.length with h | h
 ·exact val_take_succ ys i h
 ·rw [List.take_of_length_le (by omega), List.take_of_length_le h]
  have : ys.getD i 0 = 0 := by simp [List.getD, h]
  rw [this]; simp
theorem sub_step {i vo vy vx b b' D x y : Nat} (h : vo + vy = vx + D30 ^ i * b) (hD : D + y + b = x + D30 * b') :
  (vo + D30 ^ i * D) + (vy + D30 ^ i * y) = (vx + D30 ^ i * x) + D30 ^ (i + 1) * b' := by
 have e : D30 ^ i * D + D30 ^ i * y + D30 ^ i * b = D30 ^ i * x + D30 ^ (i + 1) * b' := by
  rw [← Nat.mul_add, ← Nat.mul_add, hD, Nat.mul_add, Nat.pow_succ, Nat.mul_assoc]
 omega
theorem val_setw : ∀ (l : List Nat) (j d : Nat), j < l.length → val (l.set j d) + D30 ^ j * l.getD j 0 = val l + D30 ^ j * d
 | [], j, d, h => by simp at h
 | x :: l, 0, d, _ => by simp [val]; omega
 | x :: l, j + 1, d, h => by
  have ih := val_setw l j d (by simpa using h)
  rw [List.set_cons_succ, val, val, show (x :: l).getD (j + 1) 0 = l.getD j 0 by simp [List.getD]]
  have e : D30 ^ (j + 1) = D30 * D30 ^ j := by rw [Nat.pow_succ, Nat.mul_comm]
  rw [e, Nat.mul_assoc, Nat.mul_assoc]
  have := congrArg (D30 * ·) ih
  simp only [Nat.mul_add] at this
  omega
theorem okN_setw {l : List Nat} {j d : Nat} (h : okN l) (hd : d < D30) : okN (l.set j d) := fun y hy => by
 rcases List.mem_or_eq_of_mem_set hy with hy | rfl
 ·exact h y hy
 ·exact hd
theorem getD_set_ne {l : List Nat} {i j d : Nat} (h : i ≠ j) : (l.set i d).getD j 0 = l.getD j 0 := by
 simp [List.getD, h]
theorem okN_at {l : List Nat} (h : okN l) (j : Nat) : l.getD j 0 < D30 := by
 rcases Nat.lt_or_ge j l.length with hl | hl
 ·exact h _ (by simp [List.getD, hl])
 ·rw [show l.getD j 0 = 0 by simp [List.getD, hl]]; decide
theorem mul_step {i k vz vz' C V0 x y o vy S : Nat} (h : vz + D30 ^ (i + k) * C = V0 + x * D30 ^ i * vy) (hS : S = C + (o + x * y)) (hset : vz' + D30 ^ (i + k) * o = vz + D30 ^ (i + k) * (S % D30)) :
  vz' + D30 ^ (i + (k + 1)) * (S / D30) = V0 + x * D30 ^ i * (vy + D30 ^ k * y) := by
 have h1 := Nat.mod_add_div S D30
 have e1 : D30 ^ (i + (k + 1)) = D30 ^ (i + k) * D30 := by rw [← Nat.add_assoc, Nat.pow_succ]
 have e2 : D30 ^ (i + k) * S = D30 ^ (i + k) * (S % D30) + D30 ^ (i + k) * D30 * (S / D30) := by rw [Nat.mul_assoc, ← Nat.mul_add, h1]
 have e3 : D30 ^ (i + k) * S = D30 ^ (i + k) * C + (D30 ^ (i + k) * o + D30 ^ (i + k) * (x * y)) := by rw [hS, Nat.mul_add, Nat.mul_add]
 have e4 : x * D30 ^ i * (D30 ^ k * y) = D30 ^ (i + k) * (x * y) := by
  rw [Nat.pow_add]
  simp only [Nat.mul_assoc, Nat.mul_left_comm, Nat.mul_comm]
 rw [e1, Nat.mul_add, e4]
 omega
theorem val_set (ys : List Nat) (i x : Nat) (h : i < ys.length) : val ((ys.set i x).take (i + 1)) = val (ys.take i) + D30 ^ i * x := by
 rw [val_take_succ _ i (by rw [List.length_set]; exact h)]
 have e1 : (ys.set i x).take i = ys.take i := by rw [List.take_set, List.set_eq_of_length_le (by rw [List.length_take]; omega)]
 rw [e1]
 simp [List.getD, h]
theorem okN_set {ys : List Nat} {i x : Nat} (h : i < ys.length) (ho : okN (ys.take i)) (hx : x < D30) : okN ((ys.set i x).take (i + 1)) := by
 have e : (ys.set i x).take (i + 1) = ys.take i ++ [x] := by
  rw [List.take_succ_eq_append_getElem (by rw [List.length_set]; exact h)]
  rw [List.take_set, List.set_eq_of_length_le (by rw [List.length_take]; omega)]
  simp
 rw [e]
 intro y hy
 rcases List.mem_append.1 hy with hy | hy
 ·exact ho y hy
 ·simp only [List.mem_singleton] at hy; rw [hy]; exact hx
theorem val_zeros : ∀ n : Nat, val (List.replicate n 0) = 0
 | 0 => rfl
 | n + 1 => by rw [List.replicate_succ, val, val_zeros n]; rfl
theorem okN_drop {xs : List Nat} (h : okN xs) (k : Nat) : okN (xs.drop k) := fun y hy => h y (List.mem_of_mem_drop hy)
theorem okN_zeros (n : Nat) : okN (List.replicate n 0) := fun y hy => by rw [(List.mem_replicate.1 hy).2]; decide
theorem okN_append {xs ys : List Nat} (h : okN xs) (h' : okN ys) : okN (xs ++ ys) := fun y hy => by
 rcases List.mem_append.1 hy with hy | hy
 ·exact h y hy
 ·exact h' y hy
theorem len_pos {q : Nat} (h : 0 < q) : 0 < (bigL q).length := by
 rcases Nat.eq_zero_or_pos (bigL q).length with h0 | h0
 ·have := bigL_val q
  rw [List.length_eq_zero_iff.1 h0, val] at this
  omega
 ·exact h0
theorem of_step {x m : Nat} {zs : List Nat} (h : bigL x = zs ++ bigL m) (hm : m ≠ 0) : bigL x = (zs ++ [m % D30]) ++ bigL (m / D30) := by
 rw [h, bigL_pos hm]; simp
end Go.Proofs.YtcimmgpmkfbpdaaGreatDoor.BigM
namespace Go.Proofs.YtcimmgpmkfbpdaaGreatDoor.Big
open Go.RowKit Go.Proofs.YtcimmgpmkfbpdaaGreatDoor Go.Proofs.YtcimmgpmkfbpdaaGreatDoor.Base Go.Proofs.YtcimmgpmkfbpdaaGreatDoor.Mem Go.Proofs.YtcimmgpmkfbpdaaGreatDoor.BigM
set_option linter.unusedVariables false
def zs (xs : List Nat) : List Int := xs.map Int.ofNat
theorem zs_len (xs : List Nat) : (zs xs).length = xs.length := by simp [zs]
theorem zs_get (xs : List Nat) (i : Nat) : (zs xs).getD i 0 = ((xs.getD i 0 : Nat) : Int) := by
 simp only [zs, List.getD_eq_getElem?_getD, List.getElem?_map]
 cases xs[i]? <;> rfl
theorem zs_snoc (xs : List Nat) (d : Nat) : ints (zs xs) ++ [.int .i64 (d : Int)] = ints (zs (xs ++ [d])) := by simp [zs, ints]
def Dig (w : World) (B : Nat) (v : Value) (xs : List Nat) : Prop := w.ownsRow B 2 1 v xs.length (ints (zs xs))
def IsB (w : World) (x : Nat) (v : Value) : Prop := Dig w 0 v (bigL x)
def BRet (x : Nat) (w : World) (e : Ending) (w' : World) : Prop := ∃ v, e = .returned v ∧ IsB w' x v ∧ Below w.heap.size w w'
theorem Dig.form {w : World} {B : Nat} {v : Value} {xs : List Nat} (h : Dig w B v xs) : ∃ A c, v = .slice A xs.length c ∧ (0 < xs.length → ∃ g, A = some ⟨g, 0, none⟩ ∧ B ≤ g ∧ g < w.heap.size) := ownsRow_form h
theorem Dig.below {w w' : World} {B : Nat} {v : Value} {xs : List Nat} (h : Dig w B v xs) (hb : Below w.heap.size w w') : Dig w' B v xs := ownsRow_below h hb
theorem Dig.base {w : World} {B B' : Nat} {v : Value} {xs : List Nat} (h : Dig w B v xs) (hb : B' ≤ B) : Dig w B' v xs := ownsRow_base h hb
theorem Dig.cell {w : World} {B n c : Nat} {A : Option Addr} {xs : List Nat} (h : Dig w B (.slice A n c) xs) {i : Nat} (hi : i < xs.length) : ∃ g, A = some ⟨g, 0, none⟩ ∧ B ≤ g ∧ g < w.heap.size ∧ w.cell? ⟨g, i, none⟩ = some (.int .i64 ((xs.getD i 0 : Nat) : Int)) := by
 obtain ⟨A', c', e, hf⟩ := h.form
 injection e with e1 e2 e3
 subst e1 e2 e3
 obtain ⟨g, rfl, h1, h2⟩ := hf (by omega)
 refine ⟨g, rfl, h1, h2, ?_⟩
 rw [World.ownsRow.cellAt h i (by omega), ints_get _ i (by rw [zs_len]; exact hi), zs_get]
theorem Dig.take {w : World} {B n c : Nat} {A : Option Addr} {xs : List Nat} (h : Dig w B (.slice A n c) xs) {k : Nat} (hk : k ≤ xs.length) : Dig w B (.slice A k c) (xs.take k) := by
 obtain ⟨A', c', e, hf⟩ := h.form
 injection e with e1 e2 e3
 subst e1 e2 e3
 unfold Dig at h ⊢
 rw [List.length_take, Nat.min_eq_left hk]
 refine ⟨by rw [ints_len, zs_len, List.length_take, Nat.min_eq_left hk, Nat.mul_one], ?_⟩
 rcases h.2 with ⟨h0, h1⟩ | ⟨g, cap, cur, e, h1, hh, h2⟩
 ·injection h0 with e1 e2 e3
  subst e1 e3
  have : k = 0 := by omega
  subst this
  refine .inl ⟨rfl, ?_⟩
  first | rfl | omega
 ·injection e with e1 e2 e3
  subst e1 e3
  refine .inr ⟨g, c, cur, rfl, h1, hh, by omega, h2.2.1, h2.2.2.1, ?_⟩
  have h3 := h2.2.2.2
  simp only [Nat.mul_one] at h3 ⊢
  have h4 := congrArg (List.take k) h3
  rw [List.take_take, Nat.min_eq_left hk] at h4
  rw [h4]
  simp only [zs, ints, List.map_take]
theorem IsB.below {w w' : World} {x : Nat} {v : Value} (h : IsB w x v) (hb : Below w.heap.size w w') : IsB w' x v := Dig.below h hb
theorem BRet.of {x : Nat} {w w' : World} {v : Value} {B : Nat} {xs : List Nat} (h : Dig w' B v xs) (hx : xs = bigL x) (hb : Below w.heap.size w w') : BRet x w (.returned v) w' := by
 subst hx; exact ⟨v, rfl, h.base (Nat.zero_le _), hb⟩
theorem and30 (x : Nat) (h : x < 9223372036854775808) : bits .and .i64 (x : Int) 1073741823 = ((x % 1073741824 : Nat) : Int) := by
 have := Bits.i64_and_nat x 1073741823 h (by decide)
 rw [Nat.and_two_pow_sub_one_eq_mod x 30] at this
 exact this
def OfRel (x : Nat) (w : World) (nv ov : Value) (wr : World) : Prop :=
 ∃ (m : Nat) (ys : List Nat), nv = .int .i64 (m : Int) ∧ m ≤ x ∧ ys.length ≤ 3 ∧ Hid (bigL x = ys ++ bigL m) ∧ Hid (Dig wr w.heap.size ov ys) ∧ Hid (Below w.heap.size w wr)
theorem Dig.push {w wr w3 : World} {v v' : Value} {ys : List Nat} {d : Nat} {cs : Array Value} {t : TypeId} (hO : Dig wr w.heap.size v ys) (hb : Below w.heap.size w wr)
  (hown : w3.ownsRow w.heap.size 2 1 v' (ys.length + 1) (ints (zs ys) ++ [.int .i64 (d : Int)])) (hg : (wr.alloc (.cells cs t)).grownBy w3 v.ownBlock) : Dig w3 w.heap.size v' (ys ++ [d]) ∧ Below w.heap.size w w3 := by
 refine ⟨?_, ?_⟩
 ·unfold Dig
  rw [List.length_append, List.length_singleton, ← zs_snoc]
  exact hown
 ·exact (hb.alloc hb.size _).trans (grown_below hg (fun g e => by
   obtain ⟨_, _, h1, _⟩ := ownsRow_block hO e
   exact h1) (by simp; have := hb.size; omega))
theorem OfRel.next {x m : Nat} {w wr w3 : World} {v v' : Value} {ys : List Nat} {cs : Array Value} {t : TypeId} (hpos : 0 < m) (hm : m ≤ x) (hx : x < 9223372036854775808) (hd : bigL x = ys ++ bigL m) (hO : Dig wr w.heap.size v ys) (hb : Below w.heap.size w wr)
  (hown : w3.ownsRow w.heap.size 2 1 v' (ys.length + 1) (ints (zs ys) ++ [.int .i64 ((m % D30 : Nat) : Int)])) (hg : (wr.alloc (.cells cs t)).grownBy w3 v.ownBlock) : OfRel x w (.int .i64 ((m / D30 : Nat) : Int)) v' w3 := by
 obtain ⟨h1, h2⟩ := hO.push hb hown hg
 have h3 := of_step hd (Nat.ne_of_gt hpos)
 refine ⟨m / D30, ys ++ [m % D30], rfl, Nat.le_trans (Nat.div_le_self _ _) hm, ?_, Lib.hid h3, Lib.hid h1, Lib.hid h2⟩
 have h4 := bigL_len_le (x := x) (k := 3) (Nat.lt_of_lt_of_le hx (by decide))
 have h5 := congrArg List.length h3
 rw [List.length_append] at h5
 omega
set_option maxHeartbeats 1000000 in
set_option maxRecDepth 100000 in
theorem bigOf_any (x : Nat) (hx : x < 9223372036854775808) (w : World) : Calls Tryz.prog 84 #[.int .i64 (x : Int)] w (BRet x w) := by
 obtain ⟨i0, hi, hz0, hz1, hz2⟩ := info_parts infoI
 have H0 : Hid (OfRel x w (.int .i64 (x : Int)) (.slice (some ⟨w.heap.size, 0, none⟩) 0 0) (w.alloc (.cells #[] 2))) := Lib.hid
  ⟨x, [], rfl, Nat.le_refl _, by simp, Lib.hid rfl, Lib.hid (World.ownsRow_made w #[] 0 (Nat.le_refl _) (Nat.zero_le _) (by simp)), Lib.hid ((Below.refl _ _).alloc (Nat.le_refl _) _)⟩
 have HX := Lib.hid hx
 go_enter Tryz.func84, Tryz.ntmps84
 go_wp2
 go_loopw [0, 3] (fun nv ov wr => OfRel x w nv ov wr) (fun nv _ _ => (intOf nv).toNat)
 case atStart => exact H0.out
 case round =>
  obtain ⟨m, ys, rfl, hm, hl, hd, hO, hb⟩ := hrel
  clear H0
  by_cases hpos : 0 < m
  ·have hand := and30 m (by omega)
   have hdiv : (m : Int) / 1073741824 = ((m / D30 : Nat) : Int) := by simp [D30]
   have hlt : m / D30 < m := Nat.div_lt_self hpos (by decide)
   have HN := Lib.hid (fun w3 v' cs t hown hg => OfRel.next (w3 := w3) (v' := v') (cs := cs) (t := t) hpos hm HX.out hd.out hO.out hb.out hown hg)
   have hsz := hb.out.size
   have hown := World.ownsRow.alloc hO.out (.cells #[.int .i64 ((m % 1073741824 : Nat) : Int)] 2)
   have HW := Lib.hid hown
   clear hown hO hb hd hx
   unfold D30 at HN hdiv hlt
   generalize m % 1073741824 = d at *
   go_wp2_with (at_builtin; refine wpList_append_own_at _ rfl (.tmp 9) (.tmp 12) 90 rfl w.heap.size 2 i0 (.int .i64 0) 1 8 Tryz.underlying90 hi hz0 hz1 hz2 rfl (by decide) _ _ _ rfl HW.out ⟨wr.heap.size, 0, none⟩ 1 1 [.int .i64 (d : Int)] rfl rfl ?p1a ?p2a ?p3a ?p4a ?p5a ?_)
   try case p1a => exact news_one _ _ _ (by simp)
   try case p2a => first | exact one_int | rfl | simp
   try case p3a => first | (simp only [maxLen]; omega) | omega
   try case p4a => omega
   try case p5a => first | (simp only [World.size_alloc]; omega) | omega
   intro v' w3 hown' hg' _ he
   have HN3 := Lib.hid (HN.out w3 v' _ _ hown' hg')
   clear hown' hg' he HN HW
   generalize m / 1073741824 = q at *
   go_wp2
   go_roundw
   case rel => exact HN3.out
   case measure => simp [intOf]; omega
  ·obtain rfl : m = 0 := by omega
   have hR := hd.out
   rw [bigL_zero, List.append_nil] at hR
   have HR := Lib.hid (BRet.of hO.out hR.symm hb.out)
   clear hR hO hb hd
   go_wp2
   go_ret
   exact HR.out
end Go.Proofs.YtcimmgpmkfbpdaaGreatDoor.Big
