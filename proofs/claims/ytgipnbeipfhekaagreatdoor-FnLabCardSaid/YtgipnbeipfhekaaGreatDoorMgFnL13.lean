/- The commands of a lab: the cycle of a stream. -/
import Derived.Test.YtgipnbeipfhekaaGreatDoorMgFnL12
import Derived.Test.YtgipnbeipfhekaaGreatDoorMgFnL07
import Derived.Test.YtgipnbeipfhekaaGreatDoorMgFnL10
import Derived.Deep.CutRange
import Derived.Test.YtgipnbeipfhekaaGreatDoorMgFnL00
set_option linter.unusedVariables false
set_option linter.unusedSimpArgs false
namespace Go.Proofs.YtgipnbeipfhekaaGreatDoor
namespace LcG
open Go.RowKit Base Mem MemS LabM LabV StM Str StTx Dec Val Rd CarM LcA LcC
open Take (SBox set7)
theorem addTx (a b : List UInt8) (h : a.length + b.length ≤ 9223372036854775807) (w : World) : (Op.stringOp .add (tx a) (tx b)).run Tryz.prog w = .ok (.string (tx (a ++ b))) w := strAddS (by apply tx_ext; simp) (by rw [size_tx, size_tx]; exact h) w
theorem cyc_in {r : St} (hv : r.ok = true) : ∃ p q : Nat, preS r.K r.W r.T r.m r.f r.a r.s = (p : Int) ∧ perS r.K r.W r.T r.m r.f r.a r.s = (q : Int) ∧ p ≤ 200000 ∧ 1 ≤ q ∧ q ≤ 200000 := by
 obtain ⟨U, X, j, n, h⟩ := ApartM.way hv
 have h1 := h.cyc.1
 have h2 := h.small
 exact ⟨j, n - j, h.pre, by rw [h.per]; omega, by omega, by omega, by omega⟩
theorem dec_len {u : Nat} (h : u < 10 ^ 19) : (Lib.decDigits u).length ≤ 20 := by
 by_cases h0 : u = 0
 ·subst h0; decide +kernel
 ·rw [← rd_rev u (by omega), List.length_reverse]
  exact rd_len 20 u (by omega)
set_option maxHeartbeats 4000000 in
set_option maxRecDepth 100000 in
theorem use_cycle {L : Lb} {nm : ByteArray} {r : St} (hf : findR L nm = some r) (hv : r.ok = true) (hl : L.1.length = L.2.length) (hn : L.1.length ≤ 6) (v : Value) (w : World) (h : LabAt w v L) (ht : Tabs w) :
  Calls Tryz.prog 88 #[v, .string ⟨#[99, 121, 99, 108, 101]⟩, .string nm] w fun e w' => e = .returned (.tuple #[v, .string (tx (decI (preS r.K r.W r.T r.m r.f r.a r.s) ++ 32 :: decI (perS r.K r.W r.T r.m r.f r.a r.s))), .bool true]) ∧ Below w.heap.size w w' := by
 obtain ⟨p, q, hp1, hq1, hp2, _, hq2⟩ := cyc_in hv
 have HCy := J (fun W => implCycle_any hv W)
 rw [hp1, hq1] at HCy ⊢
 unfold decI
 rw [Int.toNat_natCast, Int.toNat_natCast]
 have hd1 := dec_len (u := p) (by omega)
 have hd2 := dec_len (u := q) (by omega)
 have HD := J (fun W (hb : Below w.heap.size w W) => And.intro (decimal_any p (by omega) W.heap.size W (ht.on hb).1 (Nat.le_refl _)) (decimal_any q (by omega) W.heap.size W (ht.on hb).1 (Nat.le_refl _)))
 have HA1 := J (addTx (Lib.decDigits p) [32] (by simp; omega))
 have HA2 := J (addTx (Lib.decDigits p ++ [32]) (Lib.decDigits q) (by simp; omega))
 rw [show Lib.decDigits p ++ [32] ++ Lib.decDigits q = Lib.decDigits p ++ 32 :: Lib.decDigits q by simp] at HA2
 have hv0 := h
 obtain ⟨A, c, A', c', rfl, hx, hy, _⟩ := h
 obtain ⟨W2, hW2⟩ : ∃ W2, W2 = (w.alloc (.cells #[.slice A L.1.length c, .slice A' L.2.length c'] 53)).alloc (.cells #[.slice none 0 0, .slice none 0 0] 53) := ⟨_, rfl⟩
 have b2 : Below w.heap.size w W2 := by rw [hW2]; exact ((Below.refl _ _).alloc (Nat.le_refl _) _).alloc (by simp) _
 have KL : Hid (Blk.Blk W2 w.heap.size 53 #[.slice A L.1.length c, .slice A' L.2.length c']) := J (by rw [hW2]; exact (Blk.Blk.new w _ _).alloc _)
 have KR : Hid (Blk.Blk W2 (w.heap.size + 1) 53 #[.slice none 0 0, .slice none 0 0]) := J (by rw [hW2]; exact Blk.Blk.newAt _ _ (by simp))
 have HF := J (find_ex L (.agg #[.slice A L.1.length c, .slice A' L.2.length c']) nm W2 (hv0.below b2) hl hn)
 have HB := J b2
 have HW := J hW2
 rw [hf] at HF
 clear hv hv0 hx hy hW2 b2 ht hl hf hp1 hq1 hd1 hd2
 generalize tx (Lib.decDigits p ++ 32 :: Lib.decDigits q) = t3 at *
 generalize tx (Lib.decDigits p ++ [32]) = t2 at *
 generalize tx (Lib.decDigits p) = t1 at *
 generalize tx (Lib.decDigits q) = t0 at *
 obtain ⟨K, W, T, m, f, a, s⟩ := r
 dsimp only at HCy HF
 go_enter Tryz.func88, Tryz.ntmps88
 go_wp2_with fail
 rw [← HW.out]
 refine HF.out.mono ?_
 rintro e w1 ⟨r0, rfl, hr0, b1⟩
 obtain rfl := hr0 _ rfl
 have KL1 := J (KL.out.belowS b1)
 have KR1 := J (KR.out.belowS b1)
 have HB1 := J (Base.Below.nextA HB.out b1)
 clear b1 KL KR HB HF HW hr0
 unfold St.val
 dsimp only
 obtain ⟨W3, hW3⟩ : ∃ W3, W3 = w1.alloc (.cells #[.int .i64 K, .int .i64 W, .int .i64 T, .int .i64 m, .int .i64 f, .int .i64 a, .int .i64 s] 29) := ⟨_, rfl⟩
 have b3 : Below w1.heap.size w1 W3 := by rw [hW3]; exact (Below.refl _ _).alloc (Nat.le_refl _) _
 have HW3 := J hW3
 have KL3 := J (KL1.out.belowS b3)
 have KR3 := J (KR1.out.belowS b3)
 have HB3 := J (Base.Below.nextA HB1.out b3)
 clear b3 hW3 KL1 KR1 HB1
 go_wp2_with fail
 rw [← HW3.out]
 refine (HCy.out W3).mono ?_
 rintro e w4 ⟨rfl, b4⟩
 have KL := J (KL3.out.belowS b4)
 have KR := J (KR3.out.belowS b4)
 have HB4 := J (Base.Below.nextA HB3.out b4)
 have HSZ : Hid (w.heap.size + 1 ≤ w4.heap.size) := J (Nat.le_of_lt KR.out.lt)
 have HEV := J (RelR.evBox_ok (w.heap.size + 1) (w.heap.size + 1) 53 #[.slice none 0 0, .slice none 0 0] #[.slice A L.1.length c, .slice A' L.2.length c'])
 clear b4 KL3 KR3 HB3 HCy HW3
 go_wp2_with fail
 refine RelR.wp_region_rel HEV.out 8 (by kernel_rfl) (by kernel_rfl) (fun F hF => ?_)
 simp only [List.take_succ_cons, List.take_zero, List.drop_succ_cons, List.drop_zero, Rel.putL] at hF ⊢
 have HF := J hF
 clear hF
 have uv := @Rel.upon_value Tryz.prog
 have ue := @Rel.upon_enter Tryz.prog
 have us := @RelR.upon_skip Tryz.prog
 apply RelR.rel_pure HEV.out
 apply Exists.intro
 refine ⟨fun vs wq hq hdp R hR => ?_, ?_⟩
 ·(rw [HF.out, Rel.stepAt_eq]; clear hdp; have x0 := (KL.out.below hq.1 (Nat.lt_succ_self _)).at 0 (v := .slice A L.1.length c) rfl; have x1 := (KL.out.below hq.1 (Nat.lt_succ_self _)).at 1 (v := .slice A' L.2.length c') rfl; go_simp; exact hR)
 apply RelR.rel_pure HEV.out
 apply Exists.intro
 refine ⟨fun vs wq hq hdp R hR => ?_, ?_⟩
 ·(rw [HF.out, Rel.stepAt_eq]; clear hdp; skip; go_simp; exact hR)
 apply RelR.rel_same
 apply Exists.intro
 refine ⟨fun vs wq hq hdp => ?_, ?_⟩
 ·(rw [HF.out, Rel.stepAt_eq]; have qd1 : vs 1 = _ := Rel.dep hdp 1 (by kernel_rfl); clear hdp; skip; go_simp; refine (HD.out wq (HB4.out.trans (hq.1.mono (Nat.le_succ _)))).1.mono ?_; rintro e w7 ⟨rfl, hb⟩; exact ⟨_, rfl, rfl, RelR.evBox_of (Nat.le_trans HSZ.out hq.1.size) hb⟩)
 apply RelR.rel_pure HEV.out
 apply Exists.intro
 refine ⟨fun vs wq hq hdp R hR => ?_, ?_⟩
 ·(rw [HF.out, Rel.stepAt_eq]; have qd2 : vs 2 = _ := Rel.dep hdp 2 (by kernel_rfl); clear hdp; have ha := HA1.out; go_simp; exact hR)
 apply RelR.rel_pure HEV.out
 apply Exists.intro
 refine ⟨fun vs wq hq hdp R hR => ?_, ?_⟩
 ·(rw [HF.out, Rel.stepAt_eq]; clear hdp; skip; go_simp; exact hR)
 apply RelR.rel_same
 apply Exists.intro
 refine ⟨fun vs wq hq hdp => ?_, ?_⟩
 ·(rw [HF.out, Rel.stepAt_eq]; have qd4 : vs 4 = _ := Rel.dep hdp 4 (by kernel_rfl); clear hdp; skip; go_simp; refine (HD.out wq (HB4.out.trans (hq.1.mono (Nat.le_succ _)))).2.mono ?_; rintro e w7 ⟨rfl, hb⟩; exact ⟨_, rfl, rfl, RelR.evBox_of (Nat.le_trans HSZ.out hq.1.size) hb⟩)
 apply RelR.rel_pure HEV.out
 apply Exists.intro
 refine ⟨fun vs wq hq hdp R hR => ?_, ?_⟩
 ·(rw [HF.out, Rel.stepAt_eq]; have qd3 : vs 3 = _ := Rel.dep hdp 3 (by kernel_rfl); have qd5 : vs 5 = _ := Rel.dep hdp 5 (by kernel_rfl); clear hdp; have ha := HA2.out; go_simp; exact hR)
 refine RelR.rel_law (S := fun _ w' => Blk.Blk w' (w.heap.size + 1) 53 #[.slice A L.1.length c, .slice A' L.2.length c']) (RelR.evBox_mono _ _ _ _ _) (fun vs wq hq hdp => ?_) ?_
 ·(rw [HF.out, Rel.stepAt_eq]; have qd0 : vs 0 = _ := Rel.dep hdp 0 (by kernel_rfl); clear hdp; obtain ⟨u0, u1, p0, p1, p2, p3, p4, p5⟩ := RelR.evBox_put hq KR.out (Nat.le_refl _); have HPP := J (And.intro p4 p5); clear p4 p5; go_simp; exact HPP.out)
 refine RelR.rel_end (fun vs wq hq hall => ?_)
 rw [HF.out]
 have qe0 : vs 0 = _ := Rel.fin hall 0 (by decide)
 have qe1 : vs 1 = _ := Rel.fin hall 1 (by decide)
 have qe2 : vs 2 = _ := Rel.fin hall 2 (by decide)
 have qe3 : vs 3 = _ := Rel.fin hall 3 (by decide)
 have qe4 : vs 4 = _ := Rel.fin hall 4 (by decide)
 have qe5 : vs 5 = _ := Rel.fin hall 5 (by decide)
 have qe6 : vs 6 = _ := Rel.fin hall 6 (by decide)
 have qe7 : Blk.Blk wq _ _ _ := Rel.fin hall 7 (by decide)
 clear hall HF uv ue us
 have k0 := qe7.at 0 (v := .slice A L.1.length c) rfl
 have k1 := qe7.at 1 (v := .slice A' L.2.length c') rfl
 have HFIN := J (HB4.out.trans (hq.1.mono (Nat.le_succ _)))
 clear hq qe0 qe1 qe2 qe3 qe4 qe5 qe7
 go_wp2
 refine bodyPost_ret (v := .tuple #[.agg #[.slice A L.1.length c, .slice A' L.2.length c'], .string t3, .bool true]) (by simp [results, Tryz.results88, go_sem, k0, k1]) rfl ?_
 exact ⟨rfl, HFIN.out⟩
end LcG
namespace Face
open Go.RowKit Base Mem Reg Str Take Skip Dice
set_option maxHeartbeats 2000000 in
set_option maxRecDepth 100000 in
theorem implFaces_any (K W T m f a s n c : Int) (w : World) : Calls Tryz.prog 13 #[.agg #[.int .i64 K, .int .i64 W, .int .i64 T, .int .i64 m, .int .i64 f, .int .i64 a, .int .i64 s], .int .i64 n, .int .i64 c] w (FsRet K W T m f a (facesR K W T m f a s n c) w) := by
 obtain ⟨W1, hW1, S, R, B⟩ := two w K W T m f a s
 have HI := J (validStream_any K W T m f a s W1)
 have HN := J (fun w => inRange_any n 1 16 w)
 have HC := J (fun w => inRange_any c 0 40 w)
 have HZ := J (show W1.heap.size = w.heap.size + 2 by rw [hW1]; simp)
 have HW := J hW1
 have HS := J S
 have HR := J R
 have HB1 := J B
 clear hW1 S R B
 cases hB : streamB K W T m f a s with
 | false =>
  rw [hB] at HI
  have HNo := J (facesR_no (K := K) (W := W) (T := T) (m := m) (f := f) (a := a) (s := s) (n := n) (c := c) (by rw [hB]; rfl))
  clear hB
  go_enter Tryz.func13, Tryz.ntmps13
  go_wp2_with fail
  rw [← HW.out]
  refine HI.out.mono ?_
  rintro e w1 ⟨rfl, b1⟩
  have RZ := HR.out.below b1 HR.out.lt
  have BB := J (HB1.out.trans (b1.mono HB1.out.size))
  clear b1
  have d0 := (RZ).c0; have d1 := (RZ).c1; have d2 := (RZ).c2; have d3 := (RZ).c3; have d4 := (RZ).c4; have d5 := (RZ).c5; have d6 := (RZ).c6
  have g0 := (RZ).frz 0; have g1 := (RZ).frz 1; have g2 := (RZ).frz 2; have g3 := (RZ).frz 3; have g4 := (RZ).frz 4; have g5 := (RZ).frz 5; have g6 := (RZ).frz 6
  have S8 := RZ.set7 0 0 0 0 0 0 0
  have p0 := (S8).c0; have p1 := (S8).c1; have p2 := (S8).c2; have p3 := (S8).c3; have p4 := (S8).c4; have p5 := (S8).c5; have p6 := (S8).c6
  simp only [set7] at p0 p1 p2 p3 p4 p5 p6
  have HBN := J (below_set7 (b := w.heap.size + 1) BB.out (Nat.le_succ _) (BB.out).size 0 0 0 0 0 0 0)
  clear S8 RZ
  go_wp2
  exact bodyPost_ret (v := .tuple #[.slice none 0 0, .agg #[.int .i64 0, .int .i64 0, .int .i64 0, .int .i64 0, .int .i64 0, .int .i64 0, .int .i64 0], .bool false]) (by simp [results, Tryz.results13, go_sem, p0, p1, p2, p3, p4, p5, p6]) rfl (FsRet.no HNo.out rfl HBN.out)
 | true =>
  rw [hB] at HI
  cases hN : inR n 1 16 with
  | false =>
   rw [hN] at HN
   have HNo := J (facesR_no (K := K) (W := W) (T := T) (m := m) (f := f) (a := a) (s := s) (n := n) (c := c) (by rw [hB, hN]; rfl))
   clear hB hN
   go_enter Tryz.func13, Tryz.ntmps13
   go_wp2_with fail
   rw [← HW.out]
   refine HI.out.mono ?_
   rintro e w1 ⟨rfl, b1⟩
   have RZ := HR.out.below b1 HR.out.lt
   have BB := J (HB1.out.trans (b1.mono HB1.out.size))
   clear b1
   go_wp2_with fail
   refine (HN.out _).mono ?_
   rintro e w' ⟨rfl, rfl⟩
   have d0 := (RZ).c0; have d1 := (RZ).c1; have d2 := (RZ).c2; have d3 := (RZ).c3; have d4 := (RZ).c4; have d5 := (RZ).c5; have d6 := (RZ).c6
   have g0 := (RZ).frz 0; have g1 := (RZ).frz 1; have g2 := (RZ).frz 2; have g3 := (RZ).frz 3; have g4 := (RZ).frz 4; have g5 := (RZ).frz 5; have g6 := (RZ).frz 6
   have S8 := RZ.set7 0 0 0 0 0 0 0
   have p0 := (S8).c0; have p1 := (S8).c1; have p2 := (S8).c2; have p3 := (S8).c3; have p4 := (S8).c4; have p5 := (S8).c5; have p6 := (S8).c6
   simp only [set7] at p0 p1 p2 p3 p4 p5 p6
   have HBN := J (below_set7 (b := w.heap.size + 1) BB.out (Nat.le_succ _) (BB.out).size 0 0 0 0 0 0 0)
   clear S8 RZ
   go_wp2
   exact bodyPost_ret (v := .tuple #[.slice none 0 0, .agg #[.int .i64 0, .int .i64 0, .int .i64 0, .int .i64 0, .int .i64 0, .int .i64 0, .int .i64 0], .bool false]) (by simp [results, Tryz.results13, go_sem, p0, p1, p2, p3, p4, p5, p6]) rfl (FsRet.no HNo.out rfl HBN.out)
  | true =>
   rw [hN] at HN
   cases hC : inR c 0 40 with
   | false =>
    rw [hC] at HC
    have HNo := J (facesR_no (K := K) (W := W) (T := T) (m := m) (f := f) (a := a) (s := s) (n := n) (c := c) (by rw [hB, hN, hC]; rfl))
    clear hB hN hC
    go_enter Tryz.func13, Tryz.ntmps13
    go_wp2_with fail
    rw [← HW.out]
    refine HI.out.mono ?_
    rintro e w1 ⟨rfl, b1⟩
    have RZ := HR.out.below b1 HR.out.lt
    have BB := J (HB1.out.trans (b1.mono HB1.out.size))
    clear b1
    go_wp2_with fail
    refine (HN.out _).mono ?_
    rintro e w' ⟨rfl, rfl⟩
    go_wp2_with fail
    refine (HC.out _).mono ?_
    rintro e w' ⟨rfl, rfl⟩
    have d0 := (RZ).c0; have d1 := (RZ).c1; have d2 := (RZ).c2; have d3 := (RZ).c3; have d4 := (RZ).c4; have d5 := (RZ).c5; have d6 := (RZ).c6
    have g0 := (RZ).frz 0; have g1 := (RZ).frz 1; have g2 := (RZ).frz 2; have g3 := (RZ).frz 3; have g4 := (RZ).frz 4; have g5 := (RZ).frz 5; have g6 := (RZ).frz 6
    have S8 := RZ.set7 0 0 0 0 0 0 0
    have p0 := (S8).c0; have p1 := (S8).c1; have p2 := (S8).c2; have p3 := (S8).c3; have p4 := (S8).c4; have p5 := (S8).c5; have p6 := (S8).c6
    simp only [set7] at p0 p1 p2 p3 p4 p5 p6
    have HBN := J (below_set7 (b := w.heap.size + 1) BB.out (Nat.le_succ _) (BB.out).size 0 0 0 0 0 0 0)
    clear S8 RZ
    go_wp2
    exact bodyPost_ret (v := .tuple #[.slice none 0 0, .agg #[.int .i64 0, .int .i64 0, .int .i64 0, .int .i64 0, .int .i64 0, .int .i64 0, .int .i64 0], .bool false]) (by simp [results, Tryz.results13, go_sem, p0, p1, p2, p3, p4, p5, p6]) rfl (FsRet.no HNo.out rfl HBN.out)
   | true =>
    obtain ⟨n1, n2⟩ := inR_true hN
    obtain ⟨c1, c2⟩ := inR_true hC
    obtain ⟨N, rfl⟩ := Int.eq_ofNat_of_zero_le (show 0 ≤ n by omega)
    obtain ⟨C, rfl⟩ := Int.eq_ofNat_of_zero_le c1
    rw [facesR_yes (show 0 < N by omega) (by rw [hB, hN, hC]; rfl)]
    exact implFaces_yes hB N C (by omega) (by omega) (by omega) w
end Face
namespace Ratio
open Go.RowKit Base Mem NatM Nat32 RatM
open YtgipnbeipfhekaaGreatDoor.Inv (natOf natOf_eq len_pos Rat3 not_slice not_bool frz)
theorem rt_store {w w1 : World} {b p q : Nat} (s : Bool) {b0 : Bool} {a1 a2 : Option Addr} {n1 k1 n2 k2 : Nat} {A1 A2 : Option Addr} {c1 c2 : Nat} (hr : Rat3 w1 b (.bool b0) (.slice a1 n1 k1) (.slice a2 n2 k2)) (h1 : RdU w1 w1.heap.size A1 (natL p)) (h2 : RdU w1 w1.heap.size A2 (natL q))
  (hb : Below w.heap.size w w1) (hle : w.heap.size ≤ b) :
  Rat3 (w1.setCell ⟨b, 0, none⟩ (.bool s)) b (.bool s) (.slice a1 n1 k1) (.slice a2 n2 k2) ∧
  Rat3 ((w1.setCell ⟨b, 0, none⟩ (.bool s)).setCell ⟨b, 1, none⟩ (.slice A1 (natL p).length c1)) b (.bool s) (.slice A1 (natL p).length c1) (.slice a2 n2 k2) ∧
  Rat3 (((w1.setCell ⟨b, 0, none⟩ (.bool s)).setCell ⟨b, 1, none⟩ (.slice A1 (natL p).length c1)).setCell ⟨b, 2, none⟩ (.slice A2 (natL q).length c2)) b (.bool s) (.slice A1 (natL p).length c1) (.slice A2 (natL q).length c2) ∧
  RtRet s p q w (.returned (.agg #[.bool s, .slice A1 (natL p).length c1, .slice A2 (natL q).length c2])) (((w1.setCell ⟨b, 0, none⟩ (.bool s)).setCell ⟨b, 1, none⟩ (.slice A1 (natL p).length c1)).setCell ⟨b, 2, none⟩ (.slice A2 (natL q).length c2)) := by
 have m6 := hr.set0 (.bool s)
 have m7 := m6.set1 (.slice A1 (natL p).length c1)
 have m8 := m7.set2 (.slice A2 (natL q).length c2)
 refine ⟨m6, m7, m8, A1, c1, A2, c2, rfl, ?_, ?_, ?_⟩
 ·simp only [World.size_setCell]
  exact ((h1.non hr.c0 (not_bool _) _).non m6.c1 (not_slice _ _ _) _).non m7.c2 (not_slice _ _ _) _
 ·simp only [World.size_setCell]
  exact ((h2.non hr.c0 (not_bool _) _).non m6.c1 (not_slice _ _ _) _).non m7.c2 (not_slice _ _ _) _
 ·exact ((hb.setCell hle _).setCell hle _).setCell hle _
set_option maxHeartbeats 1000000 in
theorem whole_any (n : Int) (hn : n.natAbs ≤ 1000000000000000000) (w : World) : Calls Tryz.prog 159 #[.int .i64 n] w (RtRet (decide (n < 0)) n.natAbs 1 w) := by
 obtain ⟨W0, hW0⟩ : ∃ W0, W0 = w.alloc (.cells #[.bool false, .slice none 0 0, .slice none 0 0] 147) := ⟨_, rfl⟩
 have hB0 : Below w.heap.size w W0 := by rw [hW0]; exact (Below.refl _ _).alloc (Nat.le_refl _) _
 have r1 : Rat3 W0 w.heap.size (.bool false) (.slice none 0 0) (.slice none 0 0) := by rw [hW0]; exact Rat3.new w _ _ _ _
 have hz0 : w.heap.size < W0.heap.size := by rw [hW0]; simp
 have HC := J (ratioOf_any n 1 hn (by decide) (by decide) W0)
 rw [show (1 : Int).toNat = 1 from rfl] at HC
 generalize n.natAbs = m at *
 go_enter Tryz.func159, Tryz.ntmps159
 go_wp2_with fail
 rw [← hW0]
 refine HC.out.mono ?_
 rintro e w1 ⟨A1, c1, A2, c2, rfl, h1, h2, hb1⟩
 clear hW0 HC
 have q1 := r1.below hb1 hz0
 have hb := hB0.trans (hb1.mono hB0.size)
 clear r1 hb1 hB0 hz0
 obtain ⟨m6, m7, m8, HR⟩ := rt_store (decide (n < 0)) (c1 := c1) (c2 := c2) q1 h1 h2 hb (Nat.le_refl _)
 have HRH := J HR
 clear HR
 obtain ⟨d0, d1, d2, df0, df1, df2⟩ := q1
 obtain ⟨m60, m61, m62, mf60, mf61, mf62⟩ := m6
 obtain ⟨m70, m71, m72, mf70, mf71, mf72⟩ := m7
 obtain ⟨m80, m81, m82, mf80, mf81, mf82⟩ := m8
 go_wp2
 refine bodyPost_ret (v := .agg #[.bool (decide (n < 0)), .slice A1 (natL m).length c1, .slice A2 (natL 1).length c2]) (by simp [results, Tryz.results159, go_sem, m80, m81, m82]) rfl HRH.out
set_option maxHeartbeats 1000000 in
theorem lowestG_zero (s : Bool) (A A' : Option Addr) (c n' c' : Nat) (w : World) : Calls Tryz.prog 197 #[.agg #[.bool s, .slice A 0 c, .slice A' n' c']] w (RtRet false 0 1 w) := by
 obtain ⟨W0, hW0⟩ : ∃ W0, W0 = (w.alloc (.cells #[.bool s, .slice A 0 c, .slice A' n' c'] 147)).alloc (.cells #[.bool false, .slice none 0 0, .slice none 0 0] 147) := ⟨_, rfl⟩
 have hB0 : Below w.heap.size w W0 := by rw [hW0]; exact ((Below.refl _ _).alloc (Nat.le_refl _) _).alloc (by simp) _
 have r1 : Rat3 W0 (w.heap.size + 1) (.bool false) (.slice none 0 0) (.slice none 0 0) := by
  rw [hW0]
  have := Rat3.new (w.alloc (.cells #[.bool s, .slice A 0 c, .slice A' n' c'] 147)) (.bool false) (.slice none 0 0) (.slice none 0 0) 147
  simpa using this
 have hz0 : w.heap.size + 1 < W0.heap.size := by rw [hW0]; simp
 have HC := J (whole_any 0 (by decide) W0)
 rw [show decide ((0 : Int) < 0) = false from rfl, show (0 : Int).natAbs = 0 from rfl] at HC
 go_enter Tryz.func197, Tryz.ntmps197
 go_wp2_with fail
 rw [← hW0]
 refine HC.out.mono ?_
 rintro e w1 ⟨A1, c1, A2, c2, rfl, h1, h2, hb1⟩
 clear hW0 HC
 have q1 := r1.below hb1 hz0
 have hb := hB0.trans (hb1.mono hB0.size)
 clear r1 hb1 hB0 hz0
 obtain ⟨m6, m7, m8, HR⟩ := rt_store false (c1 := c1) (c2 := c2) q1 h1 h2 hb (Nat.le_succ _)
 have HRH := J HR
 clear HR
 obtain ⟨d0, d1, d2, df0, df1, df2⟩ := q1
 obtain ⟨m60, m61, m62, mf60, mf61, mf62⟩ := m6
 obtain ⟨m70, m71, m72, mf70, mf71, mf72⟩ := m7
 obtain ⟨m80, m81, m82, mf80, mf81, mf82⟩ := m8
 go_wp2
 refine bodyPost_ret (v := .agg #[.bool false, .slice A1 (natL 0).length c1, .slice A2 (natL 1).length c2]) (by simp [results, Tryz.results197, go_sem, m80, m81, m82]) rfl HRH.out
def RV (q : Rat) (w : World) (e : Ending) (w' : World) : Prop := RtRet (decide (q < 0)) q.num.natAbs q.den w e w'
theorem RV.of_zero {w w' : World} {e : Ending} (h : RtRet false 0 1 w e w') : RV 0 w e w' := h
theorem RV.of_pos {s : Bool} {v u : Nat} {w w' : World} {e : Ending} (hv : 0 < v) (hu : 0 < u) (h : RtRet s (v / Nat.gcd v u) (u / Nat.gcd v u) w e w') : RV (qv s v u) w e w' := by
 obtain ⟨h1, h2⟩ := qv_num s (n := v) (d := u) (by omega)
 unfold RV
 rw [qv_neg (by omega) (by omega), h1, h2]
 exact h
theorem lowestG (s : Bool) (v u : Nat) (A A' : Option Addr) (c c' : Nat) (w : World) (hx : RdU w w.heap.size A (natL v)) (hy : RdU w w.heap.size A' (natL u)) (hv : (natL v).length ≤ 1000000) (hu : (natL u).length ≤ 1000000) (hu0 : 0 < u) :
  Calls Tryz.prog 197 #[.agg #[.bool s, .slice A (natL v).length c, .slice A' (natL u).length c']] w (RV (qv s v u) w) := by
 rcases Nat.eq_zero_or_pos v with rfl | hv0
 ·rw [natL_zero, List.length_nil, qv_zero]
  exact (lowestG_zero s A A' c _ c' w).mono fun e w' h => RV.of_zero h
 ·exact (lowestG_pos s v u A A' c c' w hx hy hv hu hv0 hu0).mono fun e w' h => RV.of_pos hv0 hu0 h
def szR (q : Rat) : Nat := (natL q.num.natAbs).length + (natL q.den).length
end Ratio
namespace Ratio
open Go.RowKit Base Mem NatM Nat32 RatM
open YtgipnbeipfhekaaGreatDoor.Inv (natOf natOf_eq len_pos Rat3 not_slice not_bool frz)
theorem natL_mul_len (x y : Nat) : (natL (x * y)).length ≤ (natL x).length + (natL y).length := by
 refine natL_len_le ?_
 rw [Nat.pow_add]
 have h1 := val_lt _ (natL_ok x)
 have h2 := val_lt _ (natL_ok y)
 rw [natL_val] at h1 h2
 exact Nat.mul_lt_mul_of_lt_of_le h1 (Nat.le_of_lt h2) (Nat.pow_pos (by decide))
theorem natTimes (x y : Nat) (A A' : Option Addr) (c c' : Nat) (w : World) (hx : RdU w w.heap.size A (natL x)) (hy : RdU w w.heap.size A' (natL y)) (hl : (natL x).length ≤ 500000) (hl' : (natL y).length ≤ 500000) :
  Calls Tryz.prog 202 #[.slice A (natL x).length c, .slice A' (natL y).length c'] w (NRet (x * y) w) := by
 have := times_any A A' c c' w.heap.size w.heap.size (natL x) (natL y) w hx (Nat.le_refl _) hy (Nat.le_refl _) (natL_ok x) (natL_ok y) (by omega) (by omega)
 rw [natL_val, natL_val] at this
 exact this
def TF (w : World) (s s' : Bool) (v1 v2 v3 v4 : Value) (W : World) : Prop := Rat3 W w.heap.size (.bool s) v1 v2 ∧ Rat3 W (w.heap.size + 1) (.bool s') v3 v4 ∧ Rat3 W (w.heap.size + 1 + 1) (.bool false) (.slice none 0 0) (.slice none 0 0) ∧ Below w.heap.size w W ∧ w.heap.size + 3 ≤ W.heap.size
theorem TF.below {w W W' : World} {s s' : Bool} {v1 v2 v3 v4 : Value} (h : TF w s s' v1 v2 v3 v4 W) (hb : Below W.heap.size W W') : TF w s s' v1 v2 v3 v4 W' := by
 obtain ⟨h1, h2, h3, h4, h5⟩ := h
 exact ⟨h1.below hb (by omega), h2.below hb (by omega), h3.below hb (by omega), h4.trans (hb.mono (by omega)), by have := hb.size; omega⟩
theorem TF.start (w : World) (s s' : Bool) (v1 v2 v3 v4 : Value) :
  TF w s s' v1 v2 v3 v4 ((((w.alloc (.cells #[.bool s, v1, v2] 147)).alloc (.cells #[.bool s', v3, v4] 147)).alloc (.cells #[.bool false, .slice none 0 0, .slice none 0 0] 147)).drew) := by
 have r1 := Rat3.new w (.bool s) v1 v2 147
 have r2 := Rat3.new (w.alloc (.cells #[.bool s, v1, v2] 147)) (.bool s') v3 v4 147
 have r3 := Rat3.new ((w.alloc (.cells #[.bool s, v1, v2] 147)).alloc (.cells #[.bool s', v3, v4] 147)) (.bool false) (.slice none 0 0) (.slice none 0 0) 147
 simp only [World.size_alloc] at r2 r3
 have b2 : Below (w.heap.size + 1) (w.alloc (.cells #[.bool s, v1, v2] 147)) ((((w.alloc (.cells #[.bool s, v1, v2] 147)).alloc (.cells #[.bool s', v3, v4] 147)).alloc (.cells #[.bool false, .slice none 0 0, .slice none 0 0] 147)).drew) := (((Below.refl _ _).alloc (by simp) _).alloc (by simp) _).drew
 have b3 : Below (w.heap.size + 1 + 1) ((w.alloc (.cells #[.bool s, v1, v2] 147)).alloc (.cells #[.bool s', v3, v4] 147)) ((((w.alloc (.cells #[.bool s, v1, v2] 147)).alloc (.cells #[.bool s', v3, v4] 147)).alloc (.cells #[.bool false, .slice none 0 0, .slice none 0 0] 147)).drew) := ((Below.refl _ _).alloc (by simp) _).drew
 refine ⟨r1.below b2 (Nat.lt_succ_self _), r2.below b3 (Nat.lt_succ_self _), r3.below ((Below.refl (w.heap.size + 1 + 1 + 1) _).drew) (Nat.lt_succ_self _), ?_, by simp⟩
 exact ((((Below.refl _ _).alloc (Nat.le_refl _) _).alloc (by simp) _).alloc (by simp; omega) _).drew
end Ratio
namespace Ratio
open Go.RowKit Base Mem NatM Nat32 RatM
open YtgipnbeipfhekaaGreatDoor.Inv (natOf natOf_eq len_pos Rat3 not_slice not_bool frz)
theorem natPlus (x y : Nat) (A A' : Option Addr) (c c' : Nat) (w : World) (hx : RdU w w.heap.size A (natL x)) (hy : RdU w w.heap.size A' (natL y)) (hl : (natL x).length ≤ 1000000) (hl' : (natL y).length ≤ 1000000) :
  Calls Tryz.prog 203 #[.slice A (natL x).length c, .slice A' (natL y).length c'] w (NRet (x + y) w) := by
 have := plus_any A A' c c' w.heap.size w.heap.size (natL x) (natL y) w hx (Nat.le_refl _) hy (Nat.le_refl _) (natL_ok x) (natL_ok y) (by omega) (by omega)
 rw [natL_val, natL_val] at this
 exact this
theorem natMinus (x y : Nat) (A A' : Option Addr) (c c' : Nat) (w : World) (hx : RdU w w.heap.size A (natL x)) (hy : RdU w w.heap.size A' (natL y)) (hl : (natL x).length ≤ 1000000) (hle : y ≤ x) :
  Calls Tryz.prog 205 #[.slice A (natL x).length c, .slice A' (natL y).length c'] w (NRet (x - y) w) := by
 have := minus_any A A' c c' w.heap.size w.heap.size (natL x) (natL y) w hx (Nat.le_refl _) hy (Nat.le_refl _) (natL_ok x) (natL_ok y) (by omega) (natL_mono hle) (by rw [natL_val, natL_val]; exact hle)
 rw [natL_val, natL_val] at this
 exact this
theorem natL_add_len (x y : Nat) : (natL (x + y)).length ≤ (natL x).length + (natL y).length + 1 := by
 refine natL_len_le ?_
 have h1 := val_lt _ (natL_ok x)
 have h2 := val_lt _ (natL_ok y)
 rw [natL_val] at h1 h2
 have h3 : B32 ^ (natL x).length ≤ B32 ^ ((natL x).length + (natL y).length) := Nat.pow_le_pow_right (by decide) (by omega)
 have h4 : B32 ^ (natL y).length ≤ B32 ^ ((natL x).length + (natL y).length) := Nat.pow_le_pow_right (by decide) (by omega)
 have h5 : B32 ^ ((natL x).length + (natL y).length) * 2 ≤ B32 ^ ((natL x).length + (natL y).length) * B32 := Nat.mul_le_mul_left _ (by decide)
 rw [Nat.pow_succ]
 generalize B32 ^ ((natL x).length + (natL y).length) * B32 = M at *
 generalize B32 ^ ((natL x).length + (natL y).length) = N at *
 generalize B32 ^ (natL x).length = P at *
 generalize B32 ^ (natL y).length = Q at *
 omega
def PCut (T : World → Prop) (w : World) (s : Bool) (LA LB LD : List Nat) (s5 s6 s7 : Value) (wx : World) : Prop :=
 ∃ (p c5 c6 c8 : Nat) (A5 A6 A8 : Option Addr), s5 = .slice A5 LA.length c5 ∧ s6 = .slice A6 LB.length c6 ∧ s7 = .pointer (some ⟨p, 0, none⟩) ∧ T wx ∧ w.heap.size + 3 ≤ p ∧ p < wx.heap.size ∧ Rat3 wx p (.bool s) (.slice none 0 0) (.slice A8 LD.length c8) ∧
  RdU wx wx.heap.size A5 LA ∧ RdU wx wx.heap.size A6 LB ∧ RdU wx wx.heap.size A8 LD
theorem TF.set {w W : World} {s s' : Bool} {v1 v2 v3 v4 : Value} {p : Nat} (h : TF w s s' v1 v2 v3 v4 W) (hp : w.heap.size + 3 ≤ p) (i : Nat) (v : Value) : TF w s s' v1 v2 v3 v4 (W.setCell ⟨p, i, none⟩ v) := by
 obtain ⟨h1, h2, h3, h4, h5⟩ := h
 exact ⟨h1.far (by omega) v, h2.far (by omega) v, h3.far (by omega) v, h4.setCell (by show w.heap.size ≤ p; omega) v, by simp; omega⟩
theorem frzc {W : World} {p b i j : Nat} {v : Value} (h : p ≠ b) : (W.setCell ⟨p, i, none⟩ v).cell? ⟨b, j, none⟩ = W.cell? ⟨b, j, none⟩ := World.cell?_setCell_far _ _ _ _ h
def PCut1 (T : World → Prop) (LA LB : List Nat) (s5 s6 : Value) (wx : World) : Prop :=
 ∃ (c5 c6 : Nat) (A5 A6 : Option Addr), s5 = .slice A5 LA.length c5 ∧ s6 = .slice A6 LB.length c6 ∧ T wx ∧ RdU wx wx.heap.size A5 LA ∧ RdU wx wx.heap.size A6 LB
set_option maxHeartbeats 4000000 in
set_option maxRecDepth 100000 in
theorem rtPlus (s s' : Bool) (n d n' d' : Nat) (A1 A2 A3 A4 : Option Addr) (c1 c2 c3 c4 : Nat) (w : World) (h1 : RdU w w.heap.size A1 (natL n)) (h2 : RdU w w.heap.size A2 (natL d)) (h3 : RdU w w.heap.size A3 (natL n')) (h4 : RdU w w.heap.size A4 (natL d'))
    (l1 : (natL n).length ≤ 200000) (l2 : (natL d).length ≤ 200000) (l3 : (natL n').length ≤ 200000) (l4 : (natL d').length ≤ 200000) (hd : 0 < d) (hd' : 0 < d') :
    Calls Tryz.prog 160 #[.agg #[.bool s, .slice A1 (natL n).length c1, .slice A2 (natL d).length c2], .agg #[.bool s', .slice A3 (natL n').length c3, .slice A4 (natL d').length c4]] w (RV (qv s n d + qv s' n' d') w) := by
  have HQ := J (TF.start w s s' (.slice A1 (natL n).length c1) (.slice A2 (natL d).length c2) (.slice A3 (natL n').length c3) (.slice A4 (natL d').length c4))
  obtain ⟨T, hT⟩ : ∃ T : World → Prop, T = TF w s s' (.slice A1 (natL n).length c1) (.slice A2 (natL d).length c2) (.slice A3 (natL n').length c3) (.slice A4 (natL d').length c4) := ⟨_, rfl⟩
  have rd : ∀ {X : World} {A : Option Addr} {xs : List Nat}, RdU w w.heap.size A xs → T X → RdU X X.heap.size A xs := fun h hX => by
    rw [hT] at hX
    exact (h.below hX.2.2.2.1 (Nat.le_refl _)).more hX.2.2.2.1.size
  have TB : ∀ {X Y : World}, T X → Below X.heap.size X Y → T Y := fun hX hb => by rw [hT] at hX ⊢; exact hX.below hb
  have HN : Hid (∀ X, T X → Calls Tryz.prog 202 #[.slice A1 (natL n).length c1, .slice A4 (natL d').length c4] X fun e w' => ∃ A c, e = .returned (.slice A (natL (n * d')).length c) ∧ RdU w' w'.heap.size A (natL (n * d')) ∧ T w') := J fun X hX => (natTimes n d' A1 A4 c1 c4 X (rd h1 hX) (rd h4 hX) (by omega) (by omega)).mono fun e w' ⟨A, c, g1, g2, g3⟩ => ⟨A, c, g1, g2, TB hX g3⟩
  have HB : Hid (∀ X A0 xs, T X → RdU X X.heap.size A0 xs → Calls Tryz.prog 202 #[.slice A3 (natL n').length c3, .slice A2 (natL d).length c2] X fun e w' => ∃ A c, e = .returned (.slice A (natL (n' * d)).length c) ∧ RdU w' w'.heap.size A (natL (n' * d)) ∧ RdU w' w'.heap.size A0 xs ∧ T w') := J fun X A0 xs hX hr => (natTimes n' d A3 A2 c3 c2 X (rd h3 hX) (rd h2 hX) (by omega) (by omega)).mono fun e w' ⟨A, c, g1, g2, g3⟩ => ⟨A, c, g1, g2, (hr.below g3 (Nat.le_refl _)).more g3.size, TB hX g3⟩
  have HD : Hid (∀ X A0 xs A9 ys, T X → RdU X X.heap.size A0 xs → RdU X X.heap.size A9 ys → Calls Tryz.prog 202 #[.slice A2 (natL d).length c2, .slice A4 (natL d').length c4] X fun e w' => ∃ A c, e = .returned (.slice A (natL (d * d')).length c) ∧ RdU w' w'.heap.size A (natL (d * d')) ∧ RdU w' w'.heap.size A0 xs ∧ RdU w' w'.heap.size A9 ys ∧ T w' ∧ Below X.heap.size X w') := J fun X A0 xs A9 ys hX hr hr9 => (natTimes d d' A2 A4 c2 c4 X (rd h2 hX) (rd h4 hX) (by omega) (by omega)).mono fun e w' ⟨A, c, g1, g2, g3⟩ => ⟨A, c, g1, g2, (hr.below g3 (Nat.le_refl _)).more g3.size, (hr9.below g3 (Nat.le_refl _)).more g3.size, TB hX g3, g3⟩
  rw [← hT] at HQ
  have HT : Hid (∀ X, T X → TF w s s' (.slice A1 (natL n).length c1) (.slice A2 (natL d).length c2) (.slice A3 (natL n').length c3) (.slice A4 (natL d').length c4) X) := J fun X h => by rw [← hT]; exact h
  have HTB : Hid (∀ X Y, T X → Below X.heap.size X Y → T Y) := J fun X Y h hb => TB h hb
  have HTS : Hid (∀ X p i v, T X → w.heap.size + 3 ≤ p → T (X.setCell ⟨p, i, none⟩ v)) := J fun X p i v h hp => by rw [hT] at h ⊢; exact h.set hp i v
  clear rd h1 h2 h3 h4 TB hT
  obtain ⟨LA, hLA⟩ : ∃ LA, LA = natL (n * d') := ⟨_, rfl⟩
  obtain ⟨LB, hLB⟩ : ∃ LB, LB = natL (n' * d) := ⟨_, rfl⟩
  obtain ⟨LD, hLD⟩ : ∃ LD, LD = natL (d * d') := ⟨_, rfl⟩
  have m1 := natL_mul_len n d'
  have m2 := natL_mul_len n' d
  have m3 := natL_mul_len d d'
  have la : LA.length ≤ 400000 := by rw [hLA]; omega
  have lb : LB.length ≤ 400000 := by rw [hLB]; omega
  have ld : LD.length ≤ 400000 := by rw [hLD]; omega
  have HL := J (And.intro hLA (And.intro hLB hLD))
  obtain ⟨q, hq⟩ : ∃ q, q = qv s n d + qv s' n' d' := ⟨_, rfl⟩
  have HPl : Hid (∀ X A5 A6 A8 c5 c6, T X → RdU X X.heap.size A5 LA → RdU X X.heap.size A6 LB → RdU X X.heap.size A8 LD → Calls Tryz.prog 203 #[.slice A5 LA.length c5, .slice A6 LB.length c6] X fun e w' => ∃ A9 c9, e = .returned (.slice A9 (natL (n * d' + n' * d)).length c9) ∧ RdU w' w'.heap.size A9 (natL (n * d' + n' * d)) ∧ RdU w' w'.heap.size A8 LD ∧ T w' ∧ Below X.heap.size X w') := J fun X A5 A6 A8 c5 c6 hX g5 g6 g8 => by
    rw [hLA] at g5 la ⊢
    rw [hLB] at g6 lb ⊢
    refine (natPlus _ _ A5 A6 c5 c6 X g5 g6 (by omega) (by omega)).mono ?_
    rintro e w' ⟨A9, c9, rfl, r9, b9⟩
    exact ⟨A9, c9, rfl, r9, (g8.below b9 (Nat.le_refl _)).more b9.size, HTB.out _ _ hX b9, b9⟩
  have HMi : Hid (∀ X A5 A6 A8 c5 c6, n' * d ≤ n * d' → T X → RdU X X.heap.size A5 LA → RdU X X.heap.size A6 LB → RdU X X.heap.size A8 LD → Calls Tryz.prog 205 #[.slice A5 LA.length c5, .slice A6 LB.length c6] X fun e w' => ∃ A9 c9, e = .returned (.slice A9 (natL (n * d' - n' * d)).length c9) ∧ RdU w' w'.heap.size A9 (natL (n * d' - n' * d)) ∧ RdU w' w'.heap.size A8 LD ∧ T w' ∧ Below X.heap.size X w') := J fun X A5 A6 A8 c5 c6 hle hX g5 g6 g8 => by
    rw [hLA] at g5 la ⊢
    rw [hLB] at g6 lb ⊢
    refine (natMinus _ _ A5 A6 c5 c6 X g5 g6 (by omega) hle).mono ?_
    rintro e w' ⟨A9, c9, rfl, r9, b9⟩
    exact ⟨A9, c9, rfl, r9, (g8.below b9 (Nat.le_refl _)).more b9.size, HTB.out _ _ hX b9, b9⟩
  have HMj : Hid (∀ X A5 A6 A8 c5 c6, n * d' ≤ n' * d → T X → RdU X X.heap.size A5 LA → RdU X X.heap.size A6 LB → RdU X X.heap.size A8 LD → Calls Tryz.prog 205 #[.slice A6 LB.length c6, .slice A5 LA.length c5] X fun e w' => ∃ A9 c9, e = .returned (.slice A9 (natL (n' * d - n * d')).length c9) ∧ RdU w' w'.heap.size A9 (natL (n' * d - n * d')) ∧ RdU w' w'.heap.size A8 LD ∧ T w' ∧ Below X.heap.size X w') := J fun X A5 A6 A8 c5 c6 hle hX g5 g6 g8 => by
    rw [hLA] at g5 la ⊢
    rw [hLB] at g6 lb ⊢
    refine (natMinus _ _ A6 A5 c6 c5 X g6 g5 (by omega) hle).mono ?_
    rintro e w' ⟨A9, c9, rfl, r9, b9⟩
    exact ⟨A9, c9, rfl, r9, (g8.below b9 (Nat.le_refl _)).more b9.size, HTB.out _ _ hX b9, b9⟩
  have HCm : Hid (∀ X A5 A6 c5 c6, RdU X X.heap.size A5 LA → RdU X X.heap.size A6 LB → Calls Tryz.prog 204 #[.slice A5 LA.length c5, .slice A6 LB.length c6] X (CmpRet (n * d') (n' * d) X)) := J fun X A5 A6 c5 c6 g5 g6 => by
    rw [hLA] at g5 la ⊢
    rw [hLB] at g6 lb ⊢
    exact compare_any _ _ A5 A6 c5 c6 X.heap.size X.heap.size X g5 g6 (by omega) (by omega)
  have HLw : Hid (∀ X S v A9 A8 c9 c8, qv S v (d * d') = q → (natL v).length ≤ 1000000 → T X → RdU X X.heap.size A9 (natL v) → RdU X X.heap.size A8 LD → Calls Tryz.prog 197 #[.agg #[.bool S, .slice A9 (natL v).length c9, .slice A8 LD.length c8]] X fun e w' => RV q X e w' ∧ T w') := J fun X S v A9 A8 c9 c8 hqv hv hX g9 g8 => by
    rw [hLD] at g8 ld ⊢
    have e := lowestG S v (d * d') A9 A8 c9 c8 X g9 g8 hv (by omega) (Nat.mul_pos hd hd')
    rw [hqv] at e
    refine e.mono fun e w' h => ⟨h, ?_⟩
    obtain ⟨_, _, _, _, _, _, _, hb⟩ := h
    exact HTB.out _ _ hX hb
  have HV1 : Hid ((natL (n * d' + n' * d)).length ≤ 1000000 ∧ (natL (n * d' - n' * d)).length ≤ 1000000 ∧ (natL (n' * d - n * d')).length ≤ 1000000) := J (by
    rw [hLA] at la
    rw [hLB] at lb
    exact ⟨Nat.le_trans (natL_add_len _ _) (by omega), Nat.le_trans (natL_mono (Nat.sub_le _ _)) (by omega), Nat.le_trans (natL_mono (Nat.sub_le _ _)) (by omega)⟩)
  have HE1 : Hid (s = s' → qv s (n * d' + n' * d) (d * d') = q) := J fun h => by
    subst h
    rw [hq]; exact qv_add_same s (by omega) (by omega)
  have HE2 : Hid (s ≠ s' → n' * d ≤ n * d' → qv s (n * d' - n' * d) (d * d') = q) := J fun h hle => by
    have h2 : s' = !s := by cases s <;> cases s' <;> simp_all
    rw [hq, h2]; exact qv_add_diff s (by omega) (by omega) hle
  have HE3 : Hid (s ≠ s' → n * d' ≤ n' * d → qv s' (n' * d - n * d') (d * d') = q) := J fun h hle => by
    have h2 : s = !s' := by cases s <;> cases s' <;> simp_all
    have h3 := qv_add_diff s' (n := n') (d := d') (n' := n) (d' := d) (by omega) (by omega) hle
    rw [hq, h2, Nat.mul_comm d d', h3, Rat.add_comm]
  rw [← hq]
  rw [← hLA] at HN
  rw [← hLB] at HB
  rw [← hLD] at HD
  clear hLA hLB hLD m1 m2 m3 l1 l2 l3 l4 hq
  obtain ⟨va, hva⟩ : ∃ va, va = n * d' + n' * d := ⟨_, rfl⟩
  obtain ⟨vb, hvb⟩ : ∃ vb, vb = n * d' - n' * d := ⟨_, rfl⟩
  obtain ⟨vc, hvc⟩ : ∃ vc, vc = n' * d - n * d' := ⟨_, rfl⟩
  rw [← hva] at HPl HV1 HE1
  rw [← hvb] at HMi HV1 HE2
  rw [← hvc] at HMj HV1 HE3
  clear hva hvb hvc
  generalize n * d' = x at *
  generalize n' * d = y at *
  generalize (natL n).length = k1 at *
  generalize (natL d).length = k2 at *
  generalize (natL n').length = k3 at *
  generalize (natL d').length = k4 at *
  go_enter Tryz.func160, Tryz.ntmps160
  go_wp2_with fail
  have hq0 := HT.out _ HQ.out
  have a0 := (hq0).1.c0; have a1 := (hq0).1.c1; have a2 := (hq0).1.c2; have b0 := (hq0).2.1.c0; have b1 := (hq0).2.1.c1; have b2 := (hq0).2.1.c2; have p0 := (hq0).2.2.1.c0; have p1 := (hq0).2.2.1.c1; have p2 := (hq0).2.2.1.c2; have pf0 := (hq0).2.2.1.f0; have pf1 := (hq0).2.2.1.f1; have pf2 := (hq0).2.2.1.f2
  clear hq0
  go_cut [5, 6] from 8 to 17 (fun s5 s6 wx => PCut1 T LA LB s5 s6 wx)
  case first =>
    go_region_held3 (fun w' => w'.cell? ⟨w.heap.size, 0, none⟩ = some (.bool s) ∧ w'.cell? ⟨w.heap.size, 1, none⟩ = some (.slice A1 k1 c1) ∧ w'.cell? ⟨w.heap.size, 2, none⟩ = some (.slice A2 k2 c2) ∧ w'.cell? ⟨w.heap.size + 1, 0, none⟩ = some (.bool s') ∧ w'.cell? ⟨w.heap.size + 1, 1, none⟩ = some (.slice A3 k3 c3) ∧ w'.cell? ⟨w.heap.size + 1, 2, none⟩ = some (.slice A4 k4 c4))
      (first | exact ⟨a0, a1, a2, b0, b1, b2⟩ | go_keep)
      (first
        | (go_at_call 202; refine (HB.out _ _ _ HQ1.out Hr1.out).mono ?_; rintro e w2 ⟨A6, c6, rfl, hr2, hr1b, hq2⟩; have Hr1b := J hr1b; have Hr2 := J hr2; have HQ2 := J hq2; have hq2 := HT.out _ hq2; clear hr2 hr1b a0 a1 a2 b0 b1 b2 p0 p1 p2 pf0 pf1 pf2; have a0 := (hq2).1.c0; have a1 := (hq2).1.c1; have a2 := (hq2).1.c2; have b0 := (hq2).2.1.c0; have b1 := (hq2).2.1.c1; have b2 := (hq2).2.1.c2; have p0 := (hq2).2.2.1.c0; have p1 := (hq2).2.2.1.c1; have p2 := (hq2).2.2.1.c2; have pf0 := (hq2).2.2.1.f0; have pf1 := (hq2).2.2.1.f1; have pf2 := (hq2).2.2.1.f2; clear hq2)
        | (go_at_call 202; refine (HN.out _ HQ.out).mono ?_; rintro e w1 ⟨A5, c5, rfl, hr1, hq1⟩; have Hr1 := J hr1; have HQ1 := J hq1; have hq1 := HT.out _ hq1; clear hr1 a0 a1 a2 b0 b1 b2 p0 p1 p2 pf0 pf1 pf2; have a0 := (hq1).1.c0; have a1 := (hq1).1.c1; have a2 := (hq1).1.c2; have b0 := (hq1).2.1.c0; have b1 := (hq1).2.1.c1; have b2 := (hq1).2.1.c2; have p0 := (hq1).2.2.1.c0; have p1 := (hq1).2.2.1.c1; have p2 := (hq1).2.2.1.c2; have pf0 := (hq1).2.2.1.f0; have pf1 := (hq1).2.2.1.f1; have pf2 := (hq1).2.2.1.f2; clear hq1))
    all_goals
      have HC : Hid (PCut1 T LA LB (.slice A5 LA.length c5) (.slice A6 LB.length c6) w2) := J ⟨c5, c6, A5, A6, rfl, rfl, HQ2.out, Hr1b.out, Hr2.out⟩
      go_wp2_with fail
      go_meet
      exact HC.out
  case rest =>
    obtain ⟨c5, c6, A5, A6, rfl, rfl, hTc, hr5, hr6⟩ := hcut
    clear a0 a1 a2 b0 b1 b2 p0 p1 p2 pf0 pf1 pf2
    have HTc := J hTc
    have HR5 := J hr5
    have HR6 := J hr6
    have hq0 := HT.out _ hTc
    have hsz := hq0.2.2.2.2
    have a0 := (hq0).1.c0; have a1 := (hq0).1.c1; have a2 := (hq0).1.c2; have b0 := (hq0).2.1.c0; have b1 := (hq0).2.1.c1; have b2 := (hq0).2.1.c2; have p0 := (hq0).2.2.1.c0; have p1 := (hq0).2.2.1.c1; have p2 := (hq0).2.2.1.c2; have pf0 := (hq0).2.2.1.f0; have pf1 := (hq0).2.2.1.f1; have pf2 := (hq0).2.2.1.f2
    clear hq0 hTc hr5 hr6 HN HB
    have HTD : Hid (∀ Y, Below wc.heap.size wc Y → T Y ∧ RdU Y Y.heap.size A5 LA ∧ RdU Y Y.heap.size A6 LB) := J fun Y hb => ⟨HTB.out _ _ HTc.out hb, (HR5.out.below hb (Nat.le_refl _)).more hb.size, (HR6.out.below hb (Nat.le_refl _)).more hb.size⟩
    go_wp2
    go_cut [7] from 18 to 25 (fun s7 wx => PCut T w s LA LB LD (.slice A5 LA.length c5) (.slice A6 LB.length c6) s7 wx)
    case first =>
      go_region_held3 (fun w' => w'.cell? ⟨w.heap.size, 0, none⟩ = some (.bool s) ∧ w'.cell? ⟨w.heap.size, 2, none⟩ = some (.slice A2 k2 c2) ∧ w'.cell? ⟨w.heap.size + 1, 2, none⟩ = some (.slice A4 k4 c4))
        (first | exact ⟨a0, a2, b2⟩ | go_keep | exact ⟨(by rw [frzc hnp, frzc hnp, frzc hnp]; exact a0), (by rw [frzc hnp, frzc hnp, frzc hnp]; exact a2), (by rw [frzc hnp1, frzc hnp1, frzc hnp1]; exact b2)⟩)
        (first
          | (go_at_call 202; refine (HD.out wc.drew _ _ _ _ (HTD.out _ ((Below.refl _ _).drew)).1 (HTD.out _ ((Below.refl _ _).drew)).2.1 (HTD.out _ ((Below.refl _ _).drew)).2.2).mono ?_; rintro e w3 ⟨A8, c8, rfl, g8, g5, g6, gT, gb⟩; have G8 := J g8; have G5 := J g5; have G6 := J g6; have GT := J gT; have hq3 := HT.out _ gT; clear a0 a1 a2 b0 b1 b2 p0 p1 p2 pf0 pf1 pf2; have a0 := (hq3).1.c0; have a1 := (hq3).1.c1; have a2 := (hq3).1.c2; have b0 := (hq3).2.1.c0; have b1 := (hq3).2.1.c1; have b2 := (hq3).2.1.c2; have p0 := (hq3).2.2.1.c0; have p1 := (hq3).2.2.1.c1; have p2 := (hq3).2.2.1.c2; have pf0 := (hq3).2.2.1.f0; have pf1 := (hq3).2.2.1.f1; have pf2 := (hq3).2.2.1.f2; clear hq3 g8 g5 g6 gT gb)
          | (go_at_call 202; refine (HD.out ((wc.alloc (.cells #[.bool false, .slice none 0 0, .slice none 0 0] 147)).drew) _ _ _ _ (HTD.out _ (((Below.refl _ _).alloc (Nat.le_refl _) _).drew)).1 (HTD.out _ (((Below.refl _ _).alloc (Nat.le_refl _) _).drew)).2.1 (HTD.out _ (((Below.refl _ _).alloc (Nat.le_refl _) _).drew)).2.2).mono ?_; rintro e w3 ⟨A8, c8, rfl, g8, g5, g6, gT, gb⟩; have RB := (Inv.Rat3.newd wc (.bool false) (.slice none 0 0) (.slice none 0 0) 147).below gb (by simp); have hnp : wc.heap.size ≠ w.heap.size := (by omega); have hnp1 : wc.heap.size ≠ w.heap.size + 1 := (by omega); have G8 := J g8; have G5 := J g5; have G6 := J g6; have GT := J gT; have HRB := J RB; have r0 := RB.c0; have r1 := RB.c1; have r2 := RB.c2; have rf0 := RB.f0; have rf1 := RB.f1; have rf2 := RB.f2; have hlt3 : wc.heap.size < w3.heap.size := (by have := gb.size; simp at this; omega); have hq3 := HT.out _ gT; clear RB a0 a1 a2 b0 b1 b2 p0 p1 p2 pf0 pf1 pf2; have a0 := (hq3).1.c0; have a1 := (hq3).1.c1; have a2 := (hq3).1.c2; have b0 := (hq3).2.1.c0; have b1 := (hq3).2.1.c1; have b2 := (hq3).2.1.c2; have p0 := (hq3).2.2.1.c0; have p1 := (hq3).2.2.1.c1; have p2 := (hq3).2.2.1.c2; have pf0 := (hq3).2.2.1.f0; have pf1 := (hq3).2.2.1.f1; have pf2 := (hq3).2.2.1.f2; clear hq3 g8 g5 g6 gT gb))
      all_goals
        first
          | (have HC : Hid (PCut T w s LA LB LD (.slice A5 LA.length c5) (.slice A6 LB.length c6) (.pointer (some ⟨wc.heap.size, 0, none⟩)) (((w3.setCell ⟨wc.heap.size, 0, none⟩ (.bool s)).setCell ⟨wc.heap.size, 1, none⟩ (.slice none 0 0)).setCell ⟨wc.heap.size, 2, none⟩ (.slice A8 LD.length c8))) := J (by
              have m6 := HRB.out.set0 (.bool s)
              have m7 := m6.set1 (.slice none 0 0)
              have m8 := m7.set2 (.slice A8 LD.length c8)
              have nn : ∀ {A : Option Addr} {L : List Nat}, RdU w3 w3.heap.size A L → RdU (((w3.setCell ⟨wc.heap.size, 0, none⟩ (.bool s)).setCell ⟨wc.heap.size, 1, none⟩ (.slice none 0 0)).setCell ⟨wc.heap.size, 2, none⟩ (.slice A8 LD.length c8)) w3.heap.size A L := fun h => ((h.non HRB.out.c0 (not_bool _) _).non m6.c1 (not_slice _ _ _) _).non m7.c2 (not_slice _ _ _) _
              refine ⟨wc.heap.size, c5, c6, c8, A5, A6, A8, rfl, rfl, rfl, HTS.out _ _ _ _ (HTS.out _ _ _ _ (HTS.out _ _ _ _ GT.out hsz) hsz) hsz, hsz, by simp only [World.size_setCell]; exact hlt3, m8, ?_, ?_, ?_⟩
              all_goals simp only [World.size_setCell]
              · exact nn G5.out
              · exact nn G6.out
              · exact nn G8.out)
             go_wp2_with fail
             go_meet
             exact HC.out)
          | (have HC : Hid (PCut T w s LA LB LD (.slice A5 LA.length c5) (.slice A6 LB.length c6) (.pointer (some ⟨w3.heap.size, 0, none⟩)) (w3.alloc (.cells #[.bool s, .slice none 0 0, .slice A8 LD.length c8] 147))) := J (by
              have bA : Below w3.heap.size w3 (w3.alloc (.cells #[.bool s, .slice none 0 0, .slice A8 LD.length c8] 147)) := (Below.refl _ _).alloc (Nat.le_refl _) _
              have hz3 := (HT.out _ GT.out).2.2.2.2
              exact ⟨w3.heap.size, c5, c6, c8, A5, A6, A8, rfl, rfl, rfl, HTB.out _ _ GT.out bA, hz3, by simp, Rat3.new w3 _ _ _ _, (G5.out.below bA (Nat.le_refl _)).more bA.size, (G6.out.below bA (Nat.le_refl _)).more bA.size, (G8.out.below bA (Nat.le_refl _)).more bA.size⟩)
             go_wp2_with fail
             go_meet
             exact HC.out)
    case rest =>
      obtain ⟨p, c5', c6', c8, A5', A6', A8, e5, e6, rfl, hTp, hp1, hp2, hR, g5, g6, g8⟩ := hcut
      cases e5
      cases e6
      clear a0 a1 a2 b0 b1 b2 p0 p1 p2 pf0 pf1 pf2 HTD HR5 HR6 HTc hsz HD
      have HTp := J hTp
      have HRx := J hR
      have G5 := J g5
      have G6 := J g6
      have G8 := J g8
      have hq0 := HT.out _ hTp
      have a0 := (hq0).1.c0; have a1 := (hq0).1.c1; have a2 := (hq0).1.c2; have b0 := (hq0).2.1.c0; have b1 := (hq0).2.1.c1; have b2 := (hq0).2.1.c2; have p0 := (hq0).2.2.1.c0; have p1 := (hq0).2.2.1.c1; have p2 := (hq0).2.2.1.c2; have pf0 := (hq0).2.2.1.f0; have pf1 := (hq0).2.2.1.f1; have pf2 := (hq0).2.2.1.f2
      have r0 := hR.c0
      have r1 := hR.c1
      have r2 := hR.c2
      have rf0 := hR.f0
      have rf1 := hR.f1
      have rf2 := hR.f2
      clear hq0 hTp hR g5 g6 g8
      by_cases hss : s = s'
      · have hsb : (s == s') = true := by simp [hss]
        have HQ1 := J (HE1.out hss)
        have HC := J (HPl.out _ A5 A6 A8 c5 c6 HTp.out G5.out G6.out G8.out)
        clear hss HE1 HE2 HE3 HMi HMj HCm
        go_wp2_with fail
        refine HC.out.mono ?_
        rintro e w9 ⟨A9, c9, rfl, k9, k8, t9, bb9⟩
        clear a0 a1 a2 b0 b1 b2 p0 p1 p2 pf0 pf1 pf2 r0 r1 r2 rf0 rf1 rf2
        have R9 := HRx.out.below bb9 hp2
        have hp9 : p < w9.heap.size := Nat.lt_of_lt_of_le hp2 bb9.size
        obtain ⟨W9, hW9⟩ : ∃ W9, W9 = w9.setCell ⟨p, 1, none⟩ (.slice A9 (natL va).length c9) := ⟨_, rfl⟩
        have R10 := R9.set1 (.slice A9 (natL va).length c9)
        have T10 := HTS.out _ _ 1 (.slice A9 (natL va).length c9) t9 hp1
        have k9' := k9.non R9.c1 (not_slice _ _ _) (.slice A9 (natL va).length c9)
        have k8' := k8.non R9.c1 (not_slice _ _ _) (.slice A9 (natL va).length c9)
        have z9 : (w9.setCell ⟨p, 1, none⟩ (.slice A9 (natL va).length c9)).heap.size = w9.heap.size := by simp
        rw [← z9] at k9' k8'
        have q9 := HT.out _ t9
        have a0 := (q9).1.c0; have a1 := (q9).1.c1; have a2 := (q9).1.c2; have b0 := (q9).2.1.c0; have b1 := (q9).2.1.c1; have b2 := (q9).2.1.c2; have p0 := (q9).2.2.1.c0; have p1 := (q9).2.2.1.c1; have p2 := (q9).2.2.1.c2; have pf0 := (q9).2.2.1.f0; have pf1 := (q9).2.2.1.f1; have pf2 := (q9).2.2.1.f2
        have r0 := R9.c0
        have r1 := R9.c1
        have r2 := R9.c2
        have rf0 := R9.f0
        have rf1 := R9.f1
        have rf2 := R9.f2
        have x0 := R10.c0
        have x1 := R10.c1
        have x2 := R10.c2
        have HL2 := J (HLw.out _ s va A9 A8 c9 c8 HQ1.out HV1.out.1 T10 k9' k8')
        clear q9 R9 k9 k8 z9 k9' k8' R10
        have HT10 := J T10
        clear T10 t9 bb9 hW9
        go_wp2_with fail
        refine HL2.out.mono ?_
        rintro e w10 ⟨⟨A10, c10, A11, c11, rfl, hr10, hr11, hb10⟩, hT10⟩
        have hq10 := HT.out _ hT10
        obtain ⟨m6, m7, m8, HR⟩ := rt_store (c1 := c10) (c2 := c11) (decide (q < 0)) hq10.2.2.1 hr10 hr11 hq10.2.2.2.1 (by omega)
        have HRH := J HR
        have m80 := m8.c0
        have m81 := m8.c1
        have m82 := m8.c2
        clear a0 a1 a2 b0 b1 b2 p0 p1 p2 pf0 pf1 pf2 r0 r1 r2 rf0 rf1 rf2 x0 x1 x2
        have a0 := (hq10).1.c0; have a1 := (hq10).1.c1; have a2 := (hq10).1.c2; have b0 := (hq10).2.1.c0; have b1 := (hq10).2.1.c1; have b2 := (hq10).2.1.c2; have p0 := (hq10).2.2.1.c0; have p1 := (hq10).2.2.1.c1; have p2 := (hq10).2.2.1.c2; have pf0 := (hq10).2.2.1.f0; have pf1 := (hq10).2.2.1.f1; have pf2 := (hq10).2.2.1.f2
        clear HR m6 m7 m8 hr10 hr11 hb10 hT10 hq10
        go_wp2
        refine bodyPost_ret (v := .agg #[.bool (decide (q < 0)), .slice A10 (natL q.num.natAbs).length c10, .slice A11 (natL q.den).length c11]) (by simp [results, Tryz.results160, go_sem, m80, m81, m82]) rfl HRH.out
      · have hsb : (s == s') = false := by simp [hss]
        have HC := J (HCm.out _ A5 A6 c5 c6 G5.out G6.out)
        clear HPl HE1 HCm
        go_wp2_with fail
        refine HC.out.mono ?_
        rintro e w8 ⟨r, rfl, hcr, hD⟩
        have HTD : Hid (T w8 ∧ RdU w8 w8.heap.size A5 LA ∧ RdU w8 w8.heap.size A6 LB ∧ RdU w8 w8.heap.size A8 LD ∧ Rat3 w8 p (.bool s) (.slice none 0 0) (.slice A8 LD.length c8) ∧ p < w8.heap.size) := J (by
          obtain ⟨mD, rfl⟩ := hD
          have bD := below_drewN (Below.refl wc.heap.size wc) mD
          exact ⟨HTB.out _ _ HTp.out bD, (G5.out.below bD (Nat.le_refl _)).more bD.size, (G6.out.below bD (Nat.le_refl _)).more bD.size, (G8.out.below bD (Nat.le_refl _)).more bD.size, HRx.out.below bD hp2, Nat.lt_of_lt_of_le hp2 bD.size⟩)
        clear hD HC a0 a1 a2 b0 b1 b2 p0 p1 p2 pf0 pf1 pf2 r0 r1 r2 rf0 rf1 rf2 HRx hp2 HTp G5 G6 G8
        have HRx := J HTD.out.2.2.2.2.1
        have hp2 := HTD.out.2.2.2.2.2
        have hq0 := HT.out _ HTD.out.1
        have a0 := (hq0).1.c0; have a1 := (hq0).1.c1; have a2 := (hq0).1.c2; have b0 := (hq0).2.1.c0; have b1 := (hq0).2.1.c1; have b2 := (hq0).2.1.c2; have p0 := (hq0).2.2.1.c0; have p1 := (hq0).2.2.1.c1; have p2 := (hq0).2.2.1.c2; have pf0 := (hq0).2.2.1.f0; have pf1 := (hq0).2.2.1.f1; have pf2 := (hq0).2.2.1.f2
        have r0 := HRx.out.c0
        have r1 := HRx.out.c1
        have r2 := HRx.out.c2
        have rf0 := HRx.out.f0
        have rf1 := HRx.out.f1
        have rf2 := HRx.out.f2
        clear hq0
        by_cases hle : y ≤ x
        · have hr0 : 0 ≤ r := by
            rcases Nat.lt_or_ge y x with h | h
            · have := hcr.2.2 h; omega
            · have := hcr.2.1 (by omega); omega
          have HQ1 := J (HE2.out hss hle)
          have HC := J (HMi.out _ A5 A6 A8 c5 c6 hle HTD.out.1 HTD.out.2.1 HTD.out.2.2.1 HTD.out.2.2.2.1)
          clear hss HE2 HE3 HMi HMj hcr hle
          go_wp2_with fail
          refine HC.out.mono ?_
          rintro e w9 ⟨A9, c9, rfl, k9, k8, t9, bb9⟩
          clear a0 a1 a2 b0 b1 b2 p0 p1 p2 pf0 pf1 pf2 r0 r1 r2 rf0 rf1 rf2
          have R9 := HRx.out.below bb9 hp2
          have hp9 : p < w9.heap.size := Nat.lt_of_lt_of_le hp2 bb9.size
          obtain ⟨W9, hW9⟩ : ∃ W9, W9 = w9.setCell ⟨p, 1, none⟩ (.slice A9 (natL vb).length c9) := ⟨_, rfl⟩
          have R10 := R9.set1 (.slice A9 (natL vb).length c9)
          have T10 := HTS.out _ _ 1 (.slice A9 (natL vb).length c9) t9 hp1
          have k9' := k9.non R9.c1 (not_slice _ _ _) (.slice A9 (natL vb).length c9)
          have k8' := k8.non R9.c1 (not_slice _ _ _) (.slice A9 (natL vb).length c9)
          have z9 : (w9.setCell ⟨p, 1, none⟩ (.slice A9 (natL vb).length c9)).heap.size = w9.heap.size := by simp
          rw [← z9] at k9' k8'
          have q9 := HT.out _ t9
          have a0 := (q9).1.c0; have a1 := (q9).1.c1; have a2 := (q9).1.c2; have b0 := (q9).2.1.c0; have b1 := (q9).2.1.c1; have b2 := (q9).2.1.c2; have p0 := (q9).2.2.1.c0; have p1 := (q9).2.2.1.c1; have p2 := (q9).2.2.1.c2; have pf0 := (q9).2.2.1.f0; have pf1 := (q9).2.2.1.f1; have pf2 := (q9).2.2.1.f2
          have r0 := R9.c0
          have r1 := R9.c1
          have r2 := R9.c2
          have rf0 := R9.f0
          have rf1 := R9.f1
          have rf2 := R9.f2
          have x0 := R10.c0
          have x1 := R10.c1
          have x2 := R10.c2
          have HL2 := J (HLw.out _ s vb A9 A8 c9 c8 HQ1.out HV1.out.2.1 T10 k9' k8')
          clear q9 R9 k9 k8 z9 k9' k8' R10
          have HT10 := J T10
          clear T10 t9 bb9 hW9
          go_wp2_with fail
          refine HL2.out.mono ?_
          rintro e w10 ⟨⟨A10, c10, A11, c11, rfl, hr10, hr11, hb10⟩, hT10⟩
          have hq10 := HT.out _ hT10
          obtain ⟨m6, m7, m8, HR⟩ := rt_store (c1 := c10) (c2 := c11) (decide (q < 0)) hq10.2.2.1 hr10 hr11 hq10.2.2.2.1 (by omega)
          have HRH := J HR
          have m80 := m8.c0
          have m81 := m8.c1
          have m82 := m8.c2
          clear a0 a1 a2 b0 b1 b2 p0 p1 p2 pf0 pf1 pf2 r0 r1 r2 rf0 rf1 rf2 x0 x1 x2
          have a0 := (hq10).1.c0; have a1 := (hq10).1.c1; have a2 := (hq10).1.c2; have b0 := (hq10).2.1.c0; have b1 := (hq10).2.1.c1; have b2 := (hq10).2.1.c2; have p0 := (hq10).2.2.1.c0; have p1 := (hq10).2.2.1.c1; have p2 := (hq10).2.2.1.c2; have pf0 := (hq10).2.2.1.f0; have pf1 := (hq10).2.2.1.f1; have pf2 := (hq10).2.2.1.f2
          clear HR m6 m7 m8 hr10 hr11 hb10 hT10 hq10
          go_wp2
          refine bodyPost_ret (v := .agg #[.bool (decide (q < 0)), .slice A10 (natL q.num.natAbs).length c10, .slice A11 (natL q.den).length c11]) (by simp [results, Tryz.results160, go_sem, m80, m81, m82]) rfl HRH.out
        · have hr0 : r < 0 := hcr.1 (by omega)
          have HQ1 := J (HE3.out hss (by omega))
          have bW : Below w8.heap.size w8 w8.drew := (Below.refl _ _).drew
          have HC := J (HMj.out w8.drew A5 A6 A8 c5 c6 (by omega) (HTB.out _ _ HTD.out.1 bW) ((HTD.out.2.1.below bW (Nat.le_refl _)).more bW.size) ((HTD.out.2.2.1.below bW (Nat.le_refl _)).more bW.size) ((HTD.out.2.2.2.1.below bW (Nat.le_refl _)).more bW.size))
          have HRd := J (HRx.out.below bW hp2)
          have hpd : p < w8.drew.heap.size := Nat.lt_of_lt_of_le hp2 bW.size
          have hnp1 : p ≠ w.heap.size + 1 := by omega
          clear hss HE2 HE3 HMi HMj hcr hle bW
          go_wp2
          go_region_held3 (fun w' => w'.cell? ⟨w.heap.size + 1, 0, none⟩ = some (.bool s'))
            (first | exact b0 | go_keep | (rw [frzc hnp1]; exact b0) | (rw [frzc hnp1, frzc hnp1]; exact b0))
            (first
              | (go_at_call 205; refine HC.out.mono ?_; rintro e w9 ⟨A9, c9, rfl, k9, k8, t9, bb9⟩; have K9 := J k9; have K8 := J k8; have T9 := J t9; have R9 := J (HRd.out.below bb9 hpd); have hq9 := HT.out _ t9; have z9 := bb9.size; have m1 := R9.out.set1 (.slice A9 (natL vc).length c9); clear a0 a1 a2 b0 b1 b2 p0 p1 p2 pf0 pf1 pf2 r0 r1 r2 rf0 rf1 rf2 k9 k8 t9; have a0 := (hq9).1.c0; have a1 := (hq9).1.c1; have a2 := (hq9).1.c2; have b0 := (hq9).2.1.c0; have b1 := (hq9).2.1.c1; have b2 := (hq9).2.1.c2; have p0 := (hq9).2.2.1.c0; have p1 := (hq9).2.2.1.c1; have p2 := (hq9).2.2.1.c2; have pf0 := (hq9).2.2.1.f0; have pf1 := (hq9).2.2.1.f1; have pf2 := (hq9).2.2.1.f2; have r0 := R9.out.c0; have r1 := R9.out.c1; have r2 := R9.out.c2; have rf0 := R9.out.f0; have rf1 := R9.out.f1; have rf2 := R9.out.f2; have n0 := m1.c0; have nf0 := m1.f0; clear hq9 bb9 m1))
          all_goals
            have R10 := (R9.out.set1 (.slice A9 (natL vc).length c9)).set0 (.bool s')
            have R9b := R9.out.set1 (.slice A9 (natL vc).length c9)
            have T10 := HTS.out _ _ 0 (.bool s') (HTS.out _ _ 1 (.slice A9 (natL vc).length c9) T9.out hp1) hp1
            have k9' := (K9.out.non R9.out.c1 (not_slice _ _ _) (.slice A9 (natL vc).length c9)).non R9b.c0 (not_bool _) (.bool s')
            have k8' := (K8.out.non R9.out.c1 (not_slice _ _ _) (.slice A9 (natL vc).length c9)).non R9b.c0 (not_bool _) (.bool s')
            have z10 : ((w9.setCell ⟨p, 1, none⟩ (.slice A9 (natL vc).length c9)).setCell ⟨p, 0, none⟩ (.bool s')).heap.size = w9.heap.size := by simp
            rw [← z10] at k9' k8'
            have x0 := R10.c0
            have x1 := R10.c1
            have x2 := R10.c2
            have HL2 := J (HLw.out _ s' vc A9 A8 c9 c8 HQ1.out HV1.out.2.2 T10 k9' k8')
            clear R10 R9b T10 k9' k8' z10
            go_wp2_with fail
            refine HL2.out.mono ?_
            rintro e w10 ⟨⟨A10, c10, A11, c11, rfl, hr10, hr11, hb10⟩, hT10⟩
            have hq10 := HT.out _ hT10
            obtain ⟨m6, m7, m8, HR⟩ := rt_store (c1 := c10) (c2 := c11) (decide (q < 0)) hq10.2.2.1 hr10 hr11 hq10.2.2.2.1 (by omega)
            have HRH := J HR
            have m80 := m8.c0
            have m81 := m8.c1
            have m82 := m8.c2
            clear a0 a1 a2 b0 b1 b2 p0 p1 p2 pf0 pf1 pf2 r0 r1 r2 rf0 rf1 rf2 x0 x1 x2
            have a0 := (hq10).1.c0; have a1 := (hq10).1.c1; have a2 := (hq10).1.c2; have b0 := (hq10).2.1.c0; have b1 := (hq10).2.1.c1; have b2 := (hq10).2.1.c2; have p0 := (hq10).2.2.1.c0; have p1 := (hq10).2.2.1.c1; have p2 := (hq10).2.2.1.c2; have pf0 := (hq10).2.2.1.f0; have pf1 := (hq10).2.2.1.f1; have pf2 := (hq10).2.2.1.f2
            clear HR m6 m7 m8 hr10 hr11 hb10 hT10 hq10
            go_wp2
            refine bodyPost_ret (v := .agg #[.bool (decide (q < 0)), .slice A10 (natL q.num.natAbs).length c10, .slice A11 (natL q.den).length c11]) (by simp [results, Tryz.results160, go_sem, m80, m81, m82]) rfl HRH.out
end Ratio
namespace Ratio
open Go.RowKit Base Mem NatM Nat32 RatM
open YtgipnbeipfhekaaGreatDoor.Inv (natOf natOf_eq len_pos Rat3 not_slice not_bool frz)
def IsRt (w : World) (q : Rat) (v : Value) : Prop := ∃ A c A' c', v = .agg #[.bool (decide (q < 0)), .slice A (natL q.num.natAbs).length c, .slice A' (natL q.den).length c'] ∧ RdU w w.heap.size A (natL q.num.natAbs) ∧ RdU w w.heap.size A' (natL q.den)
theorem IsRt.below {w w' : World} {q : Rat} {v : Value} (h : IsRt w q v) (hb : Below w.heap.size w w') : IsRt w' q v := by
 obtain ⟨A, c, A', c', e, h1, h2⟩ := h
 exact ⟨A, c, A', c', e, (h1.below hb (Nat.le_refl _)).more hb.size, (h2.below hb (Nat.le_refl _)).more hb.size⟩
theorem RV.is {q : Rat} {w w' : World} {e : Ending} (h : RV q w e w') : ∃ v, e = .returned v ∧ IsRt w' q v ∧ Below w.heap.size w w' := by
 obtain ⟨A, c, A', c', e1, h1, h2, h3⟩ := h
 exact ⟨_, e1, ⟨A, c, A', c', rfl, h1, h2⟩, h3⟩
theorem IsRt.ret {q : Rat} {w w' : World} {v : Value} (h : IsRt w' q v) (hb : Below w.heap.size w w') : RV q w (.returned v) w' := by
 obtain ⟨A, c, A', c', rfl, h1, h2⟩ := h
 exact ⟨A, c, A', c', rfl, h1, h2, hb⟩
theorem szR_parts {q : Rat} {m : Nat} (h : szR q ≤ m) : (natL q.num.natAbs).length ≤ m ∧ (natL q.den).length ≤ m := by
 unfold szR at h; omega
theorem ratPlus {q r : Rat} {v u : Value} (w : World) (hv : IsRt w q v) (hu : IsRt w r u) (hq : szR q ≤ 200000) (hr : szR r ≤ 200000) : Calls Tryz.prog 160 #[v, u] w (RV (q + r) w) := by
 obtain ⟨A1, c1, A2, c2, rfl, h1, h2⟩ := hv
 obtain ⟨A3, c3, A4, c4, rfl, h3, h4⟩ := hu
 have := rtPlus (decide (q < 0)) (decide (r < 0)) q.num.natAbs q.den r.num.natAbs r.den A1 A2 A3 A4 c1 c2 c3 c4 w h1 h2 h3 h4 (szR_parts hq).1 (szR_parts hq).2 (szR_parts hr).1 (szR_parts hr).2 q.den_pos r.den_pos
 rw [qv_self, qv_self] at this
 exact this
theorem rtOpp (s : Bool) (k1 k2 c1 c2 : Nat) (A1 A2 : Option Addr) (w : World) : Calls Tryz.prog 206 #[.agg #[.bool s, .slice A1 k1 c1, .slice A2 k2 c2]] w fun e w' => e = .returned (.agg #[.bool (!s && decide (0 < k1)), .slice A1 k1 c1, .slice A2 k2 c2]) ∧ Below w.heap.size w w' := by
 rcases Nat.eq_zero_or_pos k1 with rfl | hk
 ·cases s with
  | false =>
   go_enter Tryz.func206, Tryz.ntmps206
   go_wp2
   refine bodyPost_ret (v := .agg #[.bool false, .slice A1 0 c1, .slice A2 k2 c2]) (by simp [results, Tryz.results206, go_sem]) rfl ⟨(by simp [*]), ?_⟩
   exact ((Below.refl _ _).alloc (Nat.le_refl _) _).alloc (by simp) _
  | true =>
   go_enter Tryz.func206, Tryz.ntmps206
   go_wp2
   refine bodyPost_ret (v := .agg #[.bool false, .slice A1 0 c1, .slice A2 k2 c2]) (by simp [results, Tryz.results206, go_sem]) rfl ⟨(by simp [*]), ?_⟩
   exact ((Below.refl _ _).alloc (Nat.le_refl _) _).alloc (by simp) _
 ·cases s with
  | false =>
   go_enter Tryz.func206, Tryz.ntmps206
   go_wp2
   refine bodyPost_ret (v := .agg #[.bool true, .slice A1 k1 c1, .slice A2 k2 c2]) (by simp [results, Tryz.results206, go_sem]) rfl ⟨(by simp [*]), ?_⟩
   exact ((Below.refl _ _).alloc (Nat.le_refl _) _).alloc (by simp) _
  | true =>
   go_enter Tryz.func206, Tryz.ntmps206
   go_wp2
   refine bodyPost_ret (v := .agg #[.bool false, .slice A1 k1 c1, .slice A2 k2 c2]) (by simp [results, Tryz.results206, go_sem]) rfl ⟨(by simp [*]), ?_⟩
   exact ((Below.refl _ _).alloc (Nat.le_refl _) _).alloc (by simp) _
theorem neg_sign (q : Rat) : (!decide (q < 0) && decide (0 < (natL q.num.natAbs).length)) = decide (-q < 0) := by
 have h1 : 0 < (natL q.num.natAbs).length ↔ q ≠ 0 := by
  constructor
  ·intro h e
   rw [e] at h
   have : (natL (0 : Rat).num.natAbs).length = 0 := by rw [show (0 : Rat).num.natAbs = 0 from rfl, natL_zero]; rfl
   omega
  ·intro h
   refine len_pos (Nat.pos_of_ne_zero fun e => h ((zero_iff q).2 e))
 rw [Bool.eq_iff_iff]
 simp only [Bool.and_eq_true, Bool.not_eq_true', decide_eq_false_iff_not, decide_eq_true_eq, h1]
 constructor
 ·rintro ⟨g1, g2⟩; grind
 ·intro g; exact ⟨by grind, by grind⟩
theorem ratOpp {q : Rat} {v : Value} (w : World) (hv : IsRt w q v) : Calls Tryz.prog 206 #[v] w (RV (-q) w) := by
 obtain ⟨A1, c1, A2, c2, rfl, h1, h2⟩ := hv
 refine (rtOpp (decide (q < 0)) (natL q.num.natAbs).length (natL q.den).length c1 c2 A1 A2 w).mono ?_
 rintro e w' ⟨rfl, hb⟩
 rw [neg_sign]
 refine ⟨A1, c1, A2, c2, ?_, ?_, ?_, hb⟩
 ·rw [Rat.neg_num, Int.natAbs_neg, Rat.neg_den]
 ·rw [Rat.neg_num, Int.natAbs_neg]
  exact (h1.below hb (Nat.le_refl _)).more hb.size
 ·rw [Rat.neg_den]
  exact (h2.below hb (Nat.le_refl _)).more hb.size
end Ratio
namespace Ratio
open Go.RowKit Base Mem NatM Nat32 RatM
open YtgipnbeipfhekaaGreatDoor.Inv (natOf natOf_eq len_pos Rat3 not_slice not_bool frz)
theorem szR_neg (q : Rat) : szR (-q) = szR q := by
 unfold szR
 rw [Rat.neg_num, Int.natAbs_neg, Rat.neg_den]
set_option maxHeartbeats 4000000 in
set_option maxRecDepth 100000 in
theorem ratMinus {q0 r : Rat} {v u : Value} (w : World) (hv : IsRt w q0 v) (hu : IsRt w r u) (hq : szR q0 ≤ 200000) (hr : szR r ≤ 200000) : Calls Tryz.prog 161 #[v, u] w (RV (q0 - r) w) := by
 obtain ⟨q, hqq⟩ : ∃ q, q = q0 + -r := ⟨_, rfl⟩
 rw [Rat.sub_eq_add_neg, ← hqq]
 obtain ⟨A1, c1, A2, c2, rfl, h1, h2⟩ := hv
 obtain ⟨A3, c3, A4, c4, rfl, h3, h4⟩ := hu
 have HQ := J (TF.start w (decide (q0 < 0)) (decide (r < 0)) (.slice A1 (natL q0.num.natAbs).length c1) (.slice A2 (natL q0.den).length c2) (.slice A3 (natL r.num.natAbs).length c3) (.slice A4 (natL r.den).length c4))
 obtain ⟨T, hT⟩ : ∃ T : World → Prop, T = TF w (decide (q0 < 0)) (decide (r < 0)) (.slice A1 (natL q0.num.natAbs).length c1) (.slice A2 (natL q0.den).length c2) (.slice A3 (natL r.num.natAbs).length c3) (.slice A4 (natL r.den).length c4) := ⟨_, rfl⟩
 have rd : ∀ {X : World} {A : Option Addr} {xs : List Nat}, RdU w w.heap.size A xs → T X → RdU X X.heap.size A xs := fun h hX => by
  rw [hT] at hX
  exact (h.below hX.2.2.2.1 (Nat.le_refl _)).more hX.2.2.2.1.size
 have TB : ∀ {X Y : World}, T X → Below X.heap.size X Y → T Y := fun hX hb => by rw [hT] at hX ⊢; exact hX.below hb
 have HO : Hid (∀ X, T X → Calls Tryz.prog 206 #[.agg #[.bool (decide (r < 0)), .slice A3 (natL r.num.natAbs).length c3, .slice A4 (natL r.den).length c4]] X fun e w' => ∃ A c A' c', e = .returned (.agg #[.bool (decide (-r < 0)), .slice A (natL (-r).num.natAbs).length c, .slice A' (natL (-r).den).length c']) ∧ IsRt w' (-r) (.agg #[.bool (decide (-r < 0)), .slice A (natL (-r).num.natAbs).length c, .slice A' (natL (-r).den).length c']) ∧ T w') := J fun X hX => by
  refine (ratOpp X ⟨A3, c3, A4, c4, rfl, rd h3 hX, rd h4 hX⟩).mono ?_
  rintro e w' ⟨A, c, A', c', rfl, g1, g2, g3⟩
  exact ⟨A, c, A', c', rfl, ⟨A, c, A', c', rfl, g1, g2⟩, TB hX g3⟩
 have HP : Hid (∀ X v2, T X → IsRt X (-r) v2 → Calls Tryz.prog 160 #[.agg #[.bool (decide (q0 < 0)), .slice A1 (natL q0.num.natAbs).length c1, .slice A2 (natL q0.den).length c2], v2] X fun e w' => RV q X e w' ∧ T w') := J fun X v2 hX hv2 => by
  have e := ratPlus X ⟨A1, c1, A2, c2, rfl, rd h1 hX, rd h2 hX⟩ hv2 hq (by rw [szR_neg]; exact hr)
  rw [← hqq] at e
  refine e.mono fun e w' h => ⟨h, ?_⟩
  obtain ⟨_, _, _, _, _, _, _, hb⟩ := h
  exact TB hX hb
 rw [← hT] at HQ
 have HT : Hid (∀ X, T X → TF w (decide (q0 < 0)) (decide (r < 0)) (.slice A1 (natL q0.num.natAbs).length c1) (.slice A2 (natL q0.den).length c2) (.slice A3 (natL r.num.natAbs).length c3) (.slice A4 (natL r.den).length c4) X) := J fun X h => by rw [← hT]; exact h
 clear rd h1 h2 h3 h4 hT TB hqq hq hr
 generalize decide (q0 < 0) = s at *
 generalize decide (r < 0) = s' at *
 obtain ⟨nr, hnr⟩ : ∃ nr, nr = -r := ⟨_, rfl⟩
 rw [← hnr] at HO HP
 clear hnr
 generalize decide (nr < 0) = s2 at *
 generalize (natL nr.num.natAbs).length = k5 at *
 generalize (natL nr.den).length = k6 at *
 generalize (natL q0.num.natAbs).length = k1 at *
 generalize (natL q0.den).length = k2 at *
 generalize (natL r.num.natAbs).length = k3 at *
 generalize (natL r.den).length = k4 at *
 go_enter Tryz.func161, Tryz.ntmps161
 go_wp2_with fail
 have hq0 := HT.out _ HQ.out
 have a0 := (hq0).1.c0; have a1 := (hq0).1.c1; have a2 := (hq0).1.c2; have b0 := (hq0).2.1.c0; have b1 := (hq0).2.1.c1; have b2 := (hq0).2.1.c2; have p0 := (hq0).2.2.1.c0; have p1 := (hq0).2.2.1.c1; have p2 := (hq0).2.2.1.c2; have pf0 := (hq0).2.2.1.f0; have pf1 := (hq0).2.2.1.f1; have pf2 := (hq0).2.2.1.f2
 clear hq0
 go_region_held3 (fun w' => w'.cell? ⟨w.heap.size, 0, none⟩ = some (.bool s) ∧ w'.cell? ⟨w.heap.size, 1, none⟩ = some (.slice A1 k1 c1) ∧ w'.cell? ⟨w.heap.size, 2, none⟩ = some (.slice A2 k2 c2) ∧ w'.cell? ⟨w.heap.size + 1, 0, none⟩ = some (.bool s') ∧ w'.cell? ⟨w.heap.size + 1, 1, none⟩ = some (.slice A3 k3 c3) ∧ w'.cell? ⟨w.heap.size + 1, 2, none⟩ = some (.slice A4 k4 c4))
  (first | exact ⟨a0, a1, a2, b0, b1, b2⟩ | exact ⟨(((HQ3.out.1.far (by omega) _).far (by omega) _).far (by omega) _).c0, (((HQ3.out.1.far (by omega) _).far (by omega) _).far (by omega) _).c1, (((HQ3.out.1.far (by omega) _).far (by omega) _).far (by omega) _).c2, (((HQ3.out.2.1.far (by omega) _).far (by omega) _).far (by omega) _).c0, (((HQ3.out.2.1.far (by omega) _).far (by omega) _).far (by omega) _).c1, (((HQ3.out.2.1.far (by omega) _).far (by omega) _).far (by omega) _).c2⟩ | go_keep | exact ⟨a0, a1, a2, b0, b1, b2⟩ | exact ⟨(((HQ3.out.1.far (by omega) _).far (by omega) _).far (by omega) _).c0, (((HQ3.out.1.far (by omega) _).far (by omega) _).far (by omega) _).c1, (((HQ3.out.1.far (by omega) _).far (by omega) _).far (by omega) _).c2, (((HQ3.out.2.1.far (by omega) _).far (by omega) _).far (by omega) _).c0, (((HQ3.out.2.1.far (by omega) _).far (by omega) _).far (by omega) _).c1, (((HQ3.out.2.1.far (by omega) _).far (by omega) _).far (by omega) _).c2⟩)
  (first
   | (go_at_call 160; refine (HP.out _ _ HQ1.out HR1.out).mono ?_; rintro e w3 ⟨⟨A7, c7, A8, c8, rfl, hr7, hr8, hb3⟩, hq3⟩; have HQ3 := J (HT.out _ hq3); have Hr7 := J hr7; have Hr8 := J hr8; clear hr7 hr8 hb3 a0 a1 a2 b0 b1 b2 p0 p1 p2 pf0 pf1 pf2; have a0 := (HQ3.out).1.c0; have a1 := (HQ3.out).1.c1; have a2 := (HQ3.out).1.c2; have b0 := (HQ3.out).2.1.c0; have b1 := (HQ3.out).2.1.c1; have b2 := (HQ3.out).2.1.c2; have p0 := (HQ3.out).2.2.1.c0; have p1 := (HQ3.out).2.2.1.c1; have p2 := (HQ3.out).2.2.1.c2; have pf0 := (HQ3.out).2.2.1.f0; have pf1 := (HQ3.out).2.2.1.f1; have pf2 := (HQ3.out).2.2.1.f2)
   | (go_at_call 206; refine (HO.out _ HQ.out).mono ?_; rintro e w1 ⟨A5, c5, A6, c6, rfl, hr1, hq1⟩; have HR1 := J hr1; have HQ1 := J hq1; have hq1 := HT.out _ hq1; clear hr1 a0 a1 a2 b0 b1 b2 p0 p1 p2 pf0 pf1 pf2; have a0 := (hq1).1.c0; have a1 := (hq1).1.c1; have a2 := (hq1).1.c2; have b0 := (hq1).2.1.c0; have b1 := (hq1).2.1.c1; have b2 := (hq1).2.1.c2; have p0 := (hq1).2.2.1.c0; have p1 := (hq1).2.2.1.c1; have p2 := (hq1).2.2.1.c2; have pf0 := (hq1).2.2.1.f0; have pf1 := (hq1).2.2.1.f1; have pf2 := (hq1).2.2.1.f2; clear hq1))
 all_goals
  obtain ⟨m6, m7, m8, HR⟩ := rt_store (c1 := c7) (c2 := c8) (decide (q < 0)) HQ3.out.2.2.1 Hr7.out Hr8.out HQ3.out.2.2.2.1 (by omega)
  have HRH := J HR
  have m80 := m8.c0
  have m81 := m8.c1
  have m82 := m8.c2
  clear HR m6 m7 m8
  go_wp2
  refine bodyPost_ret (v := .agg #[.bool (decide (q < 0)), .slice A7 (natL q.num.natAbs).length c7, .slice A8 (natL q.den).length c8]) (by simp [results, Tryz.results161, go_sem, m80, m81, m82]) rfl HRH.out
end Ratio
namespace Ratio
open Go.RowKit Base Mem NatM Nat32 RatM
open YtgipnbeipfhekaaGreatDoor.Inv (natOf natOf_eq len_pos Rat3 not_slice not_bool frz)
end Ratio
end Go.Proofs.YtgipnbeipfhekaaGreatDoor
