/- FnTop's walk. -/
import Derived.Test.YtgipnbeipfhekaaGreatDoorMgFnT23
import Derived.Test.YtgipnbeipfhekaaGreatDoorMgFnT01
import Derived.Test.YtgipnbeipfhekaaGreatDoorRows
import Derived.Below
import Derived.ChangeSame
import Derived.Carry
import Derived.OpenShut
import Derived.Lib.SmallJoins
namespace Go.Proofs.YtgipnbeipfhekaaGreatDoor.TopC
open Go.RowKit Go.Proofs.YtgipnbeipfhekaaGreatDoor Go.Proofs.YtgipnbeipfhekaaGreatDoor.Base Go.Proofs.YtgipnbeipfhekaaGreatDoor.Mem Go.Proofs.YtgipnbeipfhekaaGreatDoor.MemS Go.Proofs.YtgipnbeipfhekaaGreatDoor.MemF Go.Proofs.YtgipnbeipfhekaaGreatDoor.LabM Go.Proofs.YtgipnbeipfhekaaGreatDoor.LabV Go.Proofs.YtgipnbeipfhekaaGreatDoor.StM Go.Proofs.YtgipnbeipfhekaaGreatDoor.Str Go.Proofs.YtgipnbeipfhekaaGreatDoor.StTx Go.Proofs.YtgipnbeipfhekaaGreatDoor.Dec Go.Proofs.YtgipnbeipfhekaaGreatDoor.Val Go.Proofs.YtgipnbeipfhekaaGreatDoor.Rd Go.Proofs.YtgipnbeipfhekaaGreatDoor.Skip Go.Proofs.YtgipnbeipfhekaaGreatDoor.Take Go.Proofs.YtgipnbeipfhekaaGreatDoor.CutP Go.Proofs.YtgipnbeipfhekaaGreatDoor.RecJ Go.Proofs.YtgipnbeipfhekaaGreatDoor.CarM Go.Proofs.YtgipnbeipfhekaaGreatDoor.LcA Go.Proofs.YtgipnbeipfhekaaGreatDoor.LcC Go.Proofs.YtgipnbeipfhekaaGreatDoor.LcG Go.Proofs.YtgipnbeipfhekaaGreatDoor.TopM Go.Proofs.YtgipnbeipfhekaaGreatDoor.StrM
open Go.Proofs.YtgipnbeipfhekaaGreatDoor.Face hiding FsRet
open Go.Proofs.YtgipnbeipfhekaaGreatDoor.LvQ Go.Proofs.YtgipnbeipfhekaaGreatDoor.LvW Go.Proofs.YtgipnbeipfhekaaGreatDoor.LvR Go.Proofs.YtgipnbeipfhekaaGreatDoor.LvK Go.Proofs.YtgipnbeipfhekaaGreatDoor.LvN Go.Proofs.YtgipnbeipfhekaaGreatDoor.LvT Go.Proofs.YtgipnbeipfhekaaGreatDoor.Dice
set_option linter.unusedVariables false
set_option maxHeartbeats 8000000 in
set_option maxRecDepth 100000 in
theorem top_walk (A A' : Option Addr) (c c' : Nat) (zs ys : List Int) (w : World) (hTop : ∀ K W T m f a s : Int, streamB K W T m f a s = true → ∀ N0 F0 : Nat, N0 < 30 → F0 < 16 → ∃ (y1 y2 o1 : Int) (a1 a2 b1 b2 j1 j2 p q nL : Nat) (tt ta tb pt qt nt ft at1 at2 at3 T1 T2 T3 T4 T5 T6 T7 A1 A2 A3 A4 A5 S1 S2 S3 S4 S5 S6 S7 S8 : ByteArray) (LIs : World → Value → Prop), TopS w K W T m f a s y1 y2 (1 + (N0 : Int)) (1 + (F0 : Int)) o1 a1 a2 b1 b2 j1 j2 p q nL tt ta tb pt qt nt ft at1 at2 at3 T1 T2 T3 T4 T5 T6 T7 A1 A2 A3 A4 A5 S1 S2 S3 S4 S5 S6 S7 S8 LIs ∧ ((∃ yz d dt R1 T8, TopY w K W T m f a y1 yz (1 + (F0 : Int)) d T7 S8 dt R1 T8) ∨ ∃ T8, TopN w K W T m f a y1 (1 + (F0 : Int)) T7 S8 T8)) (hx : RdB w w.heap.size A zs) (hy : RdB w w.heap.size A' ys) (hl : zs.length ≤ 9223372036854775807) (hl' : ys.length ≤ 9223372036854775807) (hz : ∀ z ∈ zs, 0 ≤ z ∧ z ≤ 255) (hz' : ∀ z ∈ ys, 0 ≤ z ∧ z ≤ 255) :
  Calls Tryz.prog 3 #[.slice A zs.length c, .slice A' ys.length c'] w fun e w' => e = .returned (.bool true) ∧ Below w.heap.size w w' := by
 have HL := Lib.hid (fun w => Cycled.b10Long_any A A' zs.length c ys.length c' w)
 have HC := Lib.hid (Draw.b10Stream_any A c w.heap.size zs w hx (Nat.le_refl _) hl hz)
 have HY := Lib.hid hy
 have HZ := Lib.hid hz'
 have HTP := Lib.hid hTop
 clear hx hz hy hz' hl hTop
 cases hlong : Cycled.longB zs.length ys.length with
 | true =>
  rw [hlong] at HL
  clear hlong
  go_enter Tryz.func3, Tryz.ntmps3
  go_wp2_with fail
  refine (HL.out _).mono ?_
  rintro e w' ⟨rfl, rfl⟩
  go_wp2
  go_ret
  exact ⟨rfl, Below.refl _ _⟩
 | false =>
  rw [hlong] at HL
  clear hlong
  go_enter Tryz.func3, Tryz.ntmps3
  go_wp2_with fail
  refine (HL.out _).mono ?_
  rintro e w' ⟨rfl, rfl⟩
  go_wp2_with fail
  refine HC.out.mono ?_
  rintro e w1 ⟨K, W, T, m, f, a, s, hB, rfl, hb1⟩
  have HBs := Lib.hid hB
  have HLE := Lib.hid hb1.size
  obtain ⟨W1, hW1⟩ : ∃ W1, W1 = w1.alloc (.cells #[.int .i64 K, .int .i64 W, .int .i64 T, .int .i64 m, .int .i64 f, .int .i64 a, .int .i64 s] 29) := ⟨_, rfl⟩
  have K1 : SBox W1 w1.heap.size K W T m f a s := by rw [hW1]; exact SBox.new _ _ _ _ _ _ _ _
  have B1 : Below w.heap.size w W1 := by rw [hW1]; exact hb1.alloc hb1.size _
  have HAt := Lib.hid (fun i n hi hn => ApartL.b10At_any A' c' w.heap.size ys i n W1 HZ.out hl' (HY.out.below B1 (Nat.le_refl _)) hi hn)
  have HW1 := Lib.hid hW1
  have KK1 := Lib.hid K1
  have BB1 := Lib.hid B1
  clear hW1 K1 B1 hb1 HY HZ HC HL hB
  go_wp2_with fail
  rw [← HW1.out]
  refine (HAt.out 0 30 (.inl rfl) (by decide)).mono ?_
  rintro e w' ⟨p0, hp0, hp1, rfl, rfl⟩
  obtain ⟨N0, rfl⟩ := Int.eq_ofNat_of_zero_le hp0
  go_wp2_with fail
  refine (HAt.out 1 16 (.inr rfl) (by decide)).mono ?_
  rintro e w' ⟨q0, hq0, hq1, rfl, rfl⟩
  obtain ⟨F0, rfl⟩ := Int.eq_ofNat_of_zero_le hq0
  have hN : N0 < 30 := by omega
  have hF : F0 < 16 := by omega
  clear hp0 hp1 hq0 hq1
  obtain ⟨y1, y2, o1, a1, a2, b1, b2, j1, j2, p, q, nL, tt, ta, tb, pt, qt, nt, ft, at1, at2, at3, T1, T2, T3, T4, T5, T6, T7, A1, A2, A3, A4, A5, S1, S2, S3, S4, S5, S6, S7, S8, LIs, hS, hCase⟩ := HTP.out K W T m f a s HBs.out N0 F0 hN hF
  have HS := Lib.hid hS
  have HCase := Lib.hid hCase
  clear hS hCase HTP HAt HBs
  have c0 := (KK1.out).c0; have c1 := (KK1.out).c1; have c2 := (KK1.out).c2; have c3 := (KK1.out).c3; have c4 := (KK1.out).c4; have c5 := (KK1.out).c5; have c6 := (KK1.out).c6
  go_wp2_with fail
  refine (HS.out.text _ BB1.out).mono ?_
  rintro e w3 ⟨rfl, b3⟩
  clear c0 c1 c2 c3 c4 c5 c6
  have BB_3 := Lib.hid (BB1.out.trans (b3.mono BB1.out.size))
  have X_3 := Lib.hid (KK1.out.below b3 KK1.out.lt)
  clear BB1 KK1 b3
  have c0 := (X_3.out).c0; have c1 := (X_3.out).c1; have c2 := (X_3.out).c2; have c3 := (X_3.out).c3; have c4 := (X_3.out).c4; have c5 := (X_3.out).c5; have c6 := (X_3.out).c6
  go_wp2_with fail
  refine (HS.out.take _).mono ?_
  rintro e w4 ⟨rfl, b4⟩
  clear c0 c1 c2 c3 c4 c5 c6
  obtain ⟨W4, hW4⟩ : ∃ W2, W2 = w4.alloc (.cells #[.int .i64 K, .int .i64 W, .int .i64 T, .int .i64 m, .int .i64 f, .int .i64 a, .int .i64 y1] 29) := ⟨_, rfl⟩
  have x4 : Below w3.heap.size w3 W4 := by rw [hW4]; exact b4.alloc b4.size _
  have BB_4 := Lib.hid (BB_3.out.trans (x4.mono BB_3.out.size))
  have X_4 := Lib.hid (X_3.out.below x4 X_3.out.lt)
  have Y_4 := Lib.hid (show SBox W4 w4.heap.size K W T m f a y1 by rw [hW4]; exact SBox.new _ _ _ _ _ _ _ _)
  have HW4 := Lib.hid hW4
  clear BB_3 X_3 b4 x4
  have c0 := (X_4.out).c0; have c1 := (X_4.out).c1; have c2 := (X_4.out).c2; have c3 := (X_4.out).c3; have c4 := (X_4.out).c4; have c5 := (X_4.out).c5; have c6 := (X_4.out).c6
  rw [hW4] at c0 c1 c2 c3 c4 c5 c6
  clear hW4
  go_wp2_with fail
  rw [← HW4.out]
  refine (HS.out.skip _).mono ?_
  rintro e w5 ⟨rfl, b5⟩
  clear c0 c1 c2 c3 c4 c5 c6
  obtain ⟨W5, hW5⟩ : ∃ W2, W2 = w5.alloc (.cells #[.int .i64 K, .int .i64 W, .int .i64 T, .int .i64 m, .int .i64 f, .int .i64 a, .int .i64 y1] 29) := ⟨_, rfl⟩
  have x5 : Below W4.heap.size W4 W5 := by rw [hW5]; exact b5.alloc b5.size _
  have BB_5 := Lib.hid (BB_4.out.trans (x5.mono BB_4.out.size))
  have X_5 := Lib.hid (X_4.out.below x5 X_4.out.lt)
  have Y_5 := Lib.hid (Y_4.out.below x5 Y_4.out.lt)
  have Q_5 := Lib.hid (show SBox W5 w5.heap.size K W T m f a y1 by rw [hW5]; exact SBox.new _ _ _ _ _ _ _ _)
  have HW5 := Lib.hid hW5
  clear BB_4 X_4 Y_4 b5 x5
  have c0 := (Y_5.out).c0; have c1 := (Y_5.out).c1; have c2 := (Y_5.out).c2; have c3 := (Y_5.out).c3; have c4 := (Y_5.out).c4; have c5 := (Y_5.out).c5; have c6 := (Y_5.out).c6
  rw [hW5] at c0 c1 c2 c3 c4 c5 c6
  clear hW5
  go_wp2_with fail
  rw [← HW5.out]
  refine (HS.out.lev _).mono ?_
  rintro e w6 ⟨g0, cc0, rfl, hlv, b6⟩
  clear c0 c1 c2 c3 c4 c5 c6
  have BB_6 := Lib.hid (BB_5.out.trans (b6.mono BB_5.out.size))
  have X_6 := Lib.hid (X_5.out.below b6 X_5.out.lt)
  have Y_6 := Lib.hid (Y_5.out.below b6 Y_5.out.lt)
  have Q_6 := Lib.hid (Q_5.out.below b6 Q_5.out.lt)
  have LV_6 := Lib.hid (hlv)
  clear BB_5 X_5 Y_5 Q_5 b6
  clear hlv
  have c0 := (X_6.out).c0; have c1 := (X_6.out).c1; have c2 := (X_6.out).c2; have c3 := (X_6.out).c3; have c4 := (X_6.out).c4; have c5 := (X_6.out).c5; have c6 := (X_6.out).c6
  go_wp2_with fail
  refine (HS.out.cyc _).mono ?_
  rintro e w7 ⟨rfl, b7⟩
  clear c0 c1 c2 c3 c4 c5 c6
  have BB_7 := Lib.hid (BB_6.out.trans (b7.mono BB_6.out.size))
  have Y_7 := Lib.hid (Y_6.out.below b7 Y_6.out.lt)
  have Q_7 := Lib.hid (Q_6.out.below b7 Q_6.out.lt)
  have LV_7 := Lib.hid (LV_6.out.below b7 LV_6.out.1)
  clear BB_6 X_6 Y_6 Q_6 LV_6 b7
  have hsz := HS.out.sz
  have hq1 := HS.out.q1
  have c0 := (Y_7.out).c0; have c1 := (Y_7.out).c1; have c2 := (Y_7.out).c2; have c3 := (Y_7.out).c3; have c4 := (Y_7.out).c4; have c5 := (Y_7.out).c5; have c6 := (Y_7.out).c6
  have d0 := (Q_7.out).c0; have d1 := (Q_7.out).c1; have d2 := (Q_7.out).c2; have d3 := (Q_7.out).c3; have d4 := (Q_7.out).c4; have d5 := (Q_7.out).c5; have d6 := (Q_7.out).c6
  rcases HCase.out with ⟨yz, d, dt, R1, T8, HY⟩ | ⟨T8, HN⟩
  ·have HYh := Lib.hid HY
   clear HY
   go_wp2_with fail
   refine (HYh.out.fi _).mono ?_
   rintro e w8 ⟨g2, cc2, rfl, hone, b8⟩
   clear c0 c1 c2 c3 c4 c5 c6 d0 d1 d2 d3 d4 d5 d6
   obtain ⟨W8, hW8⟩ : ∃ W2, W2 = w8.alloc (.cells #[.int .i64 K, .int .i64 W, .int .i64 T, .int .i64 m, .int .i64 f, .int .i64 a, .int .i64 yz] 29) := ⟨_, rfl⟩
   have x8 : Below w7.heap.size w7 W8 := by rw [hW8]; exact b8.alloc b8.size _
   have BB_8 := Lib.hid (BB_7.out.trans (x8.mono BB_7.out.size))
   have Y_8 := Lib.hid (Y_7.out.below x8 Y_7.out.lt)
   have LV_8 := Lib.hid (LV_7.out.below x8 LV_7.out.1)
   have ON_8 := Lib.hid (hone.below (show Below w8.heap.size w8 W8 by rw [hW8]; exact (Below.refl _ _).alloc (Nat.le_refl _) _) hone.1)
   have FB_8 := Lib.hid (show SBox W8 w8.heap.size K W T m f a yz by rw [hW8]; exact SBox.new _ _ _ _ _ _ _ _)
   have HW8 := Lib.hid hW8
   clear BB_7 Y_7 Q_7 LV_7 b8 x8
   clear hone hsz hq1
   have c0 := (Y_8.out).c0; have c1 := (Y_8.out).c1; have c2 := (Y_8.out).c2; have c3 := (Y_8.out).c3; have c4 := (Y_8.out).c4; have c5 := (Y_8.out).c5; have c6 := (Y_8.out).c6
   rw [hW8] at c0 c1 c2 c3 c4 c5 c6
   clear hW8
   go_wp2_with fail
   rw [← HW8.out]
   refine (HYh.out.fs _).mono ?_
   rintro e w9 ⟨Af, cf, rfl, b9⟩
   clear c0 c1 c2 c3 c4 c5 c6
   obtain ⟨W9, hW9⟩ : ∃ W2, W2 = w9.alloc (.cells #[.int .i64 K, .int .i64 W, .int .i64 T, .int .i64 m, .int .i64 f, .int .i64 a, .int .i64 yz] 29) := ⟨_, rfl⟩
   have x9 : Below W8.heap.size W8 W9 := by rw [hW9]; exact b9.alloc b9.size _
   have BB_9 := Lib.hid (BB_8.out.trans (x9.mono BB_8.out.size))
   have Y_9 := Lib.hid (Y_8.out.below x9 Y_8.out.lt)
   have LV_9 := Lib.hid (LV_8.out.below x9 LV_8.out.1)
   have ON_9 := Lib.hid (ON_8.out.below x9 ON_8.out.1)
   have FB_9 := Lib.hid (FB_8.out.below x9 FB_8.out.lt)
   have SP_9 := Lib.hid (show SBox W9 w9.heap.size K W T m f a yz by rw [hW9]; exact SBox.new _ _ _ _ _ _ _ _)
   have HW9 := Lib.hid hW9
   clear BB_8 Y_8 LV_8 ON_8 FB_8 b9 x9
   clear hW9
   have ra1 := HS.out.r1
   have ra2 := HS.out.r2
   go_wp2_with fail
   rw [← HW9.out]
   refine (HS.out.dp _ BB_9.out).mono ?_
   rintro e w10 ⟨rfl, b10⟩
   have BB_10 := Lib.hid (BB_9.out.trans (b10.mono BB_9.out.size))
   have Y_10 := Lib.hid (Y_9.out.below b10 Y_9.out.lt)
   have LV_10 := Lib.hid (LV_9.out.below b10 LV_9.out.1)
   have ON_10 := Lib.hid (ON_9.out.below b10 ON_9.out.1)
   have FB_10 := Lib.hid (FB_9.out.below b10 FB_9.out.lt)
   clear BB_9 Y_9 LV_9 ON_9 FB_9 SP_9 b10
   go_wp2_with fail
   refine (HS.out.dq _ BB_10.out).mono ?_
   rintro e w11 ⟨rfl, b11⟩
   have BB_11 := Lib.hid (BB_10.out.trans (b11.mono BB_10.out.size))
   have Y_11 := Lib.hid (Y_10.out.below b11 Y_10.out.lt)
   have LV_11 := Lib.hid (LV_10.out.below b11 LV_10.out.1)
   have ON_11 := Lib.hid (ON_10.out.below b11 ON_10.out.1)
   have FB_11 := Lib.hid (FB_10.out.below b11 FB_10.out.lt)
   clear BB_10 Y_10 LV_10 ON_10 FB_10 b11
   have c0 := LV_11.out.2 0 (by decide)
   have c1 := LV_11.out.2 1 (by decide)
   simp only [List.getD_cons_zero, List.getD_cons_succ] at c0 c1
   have ra3 := HS.out.r3
   have ra4 := HS.out.r4
   have ra5 := HS.out.r5
   have ra6 := HS.out.r6
   go_wp2_with fail
   refine (HS.out.f1 _ BB_11.out).mono ?_
   rintro e w12 ⟨rfl, b12⟩
   clear c0 c1
   have BB_12 := Lib.hid (BB_11.out.trans (b12.mono BB_11.out.size))
   have Y_12 := Lib.hid (Y_11.out.below b12 Y_11.out.lt)
   have LV_12 := Lib.hid (LV_11.out.below b12 LV_11.out.1)
   have ON_12 := Lib.hid (ON_11.out.below b12 ON_11.out.1)
   have FB_12 := Lib.hid (FB_11.out.below b12 FB_11.out.lt)
   clear BB_11 Y_11 LV_11 ON_11 FB_11 b12
   clear ra1 ra2 ra3 ra4 ra5 ra6
   have c0 := LV_12.out.2 2 (by decide)
   have c1 := LV_12.out.2 3 (by decide)
   simp only [List.getD_cons_zero, List.getD_cons_succ] at c0 c1
   go_wp2_with fail
   refine (HS.out.f2 _ BB_12.out).mono ?_
   rintro e w13 ⟨rfl, b13⟩
   clear c0 c1
   have BB_13 := Lib.hid (BB_12.out.trans (b13.mono BB_12.out.size))
   have Y_13 := Lib.hid (Y_12.out.below b13 Y_12.out.lt)
   have LV_13 := Lib.hid (LV_12.out.below b13 LV_12.out.1)
   have ON_13 := Lib.hid (ON_12.out.below b13 ON_12.out.1)
   have FB_13 := Lib.hid (FB_12.out.below b13 FB_12.out.lt)
   clear BB_12 Y_12 LV_12 ON_12 FB_12 b13
   have c0 := LV_13.out.2 4 (by decide)
   have c1 := LV_13.out.2 5 (by decide)
   simp only [List.getD_cons_zero, List.getD_cons_succ] at c0 c1
   go_wp2_with fail
   refine (HS.out.f3 _ BB_13.out).mono ?_
   rintro e w14 ⟨rfl, b14⟩
   clear c0 c1
   have BB_14 := Lib.hid (BB_13.out.trans (b14.mono BB_13.out.size))
   have Y_14 := Lib.hid (Y_13.out.below b14 Y_13.out.lt)
   have LV_14 := Lib.hid (LV_13.out.below b14 LV_13.out.1)
   have ON_14 := Lib.hid (ON_13.out.below b14 ON_13.out.1)
   have FB_14 := Lib.hid (FB_13.out.below b14 FB_13.out.lt)
   clear BB_13 Y_13 LV_13 ON_13 FB_13 b14
   have ra7 := HS.out.r7
   have ra8 := HS.out.r8
   have ra9 := HS.out.r9
   have ra10 := HS.out.r10
   have ra11 := HS.out.r11
   have ra12 := HS.out.r12
   have c0 := ON_14.out.2
   go_wp2_with fail
   refine (HYh.out.dc _ BB_14.out).mono ?_
   rintro e w15 ⟨rfl, b15⟩
   clear c0
   have BB_15 := Lib.hid (BB_14.out.trans (b15.mono BB_14.out.size))
   have Y_15 := Lib.hid (Y_14.out.below b15 Y_14.out.lt)
   have LV_15 := Lib.hid (LV_14.out.below b15 LV_14.out.1)
   have FB_15 := Lib.hid (FB_14.out.below b15 FB_14.out.lt)
   clear BB_14 Y_14 LV_14 ON_14 FB_14 b15
   have rb1 := HYh.out.r21
   have rb2 := HYh.out.r22
   have ra13 := HS.out.r13
   have ra14 := HS.out.r14
   go_wp2_with fail
   refine (HS.out.dn _ BB_15.out).mono ?_
   rintro e w16 ⟨rfl, b16⟩
   have BB_16 := Lib.hid (BB_15.out.trans (b16.mono BB_15.out.size))
   have Y_16 := Lib.hid (Y_15.out.below b16 Y_15.out.lt)
   have LV_16 := Lib.hid (LV_15.out.below b16 LV_15.out.1)
   have FB_16 := Lib.hid (FB_15.out.below b16 FB_15.out.lt)
   clear BB_15 Y_15 LV_15 FB_15 b16
   have ra15 := HS.out.r15
   have ra16 := HS.out.r16
   go_wp2_with fail
   refine (HS.out.dn _ BB_16.out).mono ?_
   rintro e w17 ⟨rfl, b17⟩
   have BB_17 := Lib.hid (BB_16.out.trans (b17.mono BB_16.out.size))
   have Y_17 := Lib.hid (Y_16.out.below b17 Y_16.out.lt)
   have LV_17 := Lib.hid (LV_16.out.below b17 LV_16.out.1)
   have FB_17 := Lib.hid (FB_16.out.below b17 FB_16.out.lt)
   clear BB_16 Y_16 LV_16 FB_16 b17
   have ra17 := HS.out.r17
   have ra18 := HS.out.r18
   go_wp2_with fail
   refine (HS.out.df _ BB_17.out).mono ?_
   rintro e w18 ⟨rfl, b18⟩
   have BB_18 := Lib.hid (BB_17.out.trans (b18.mono BB_17.out.size))
   have Y_18 := Lib.hid (Y_17.out.below b18 Y_17.out.lt)
   have LV_18 := Lib.hid (LV_17.out.below b18 LV_17.out.1)
   have FB_18 := Lib.hid (FB_17.out.below b18 FB_17.out.lt)
   clear BB_17 Y_17 LV_17 FB_17 b18
   have ra19 := HS.out.r19
   have ra20 := HS.out.r20
   go_wp2_with fail
   refine (HYh.out.run _ BB_18.out).mono ?_
   rintro e w19 ⟨A9, e9, gb, go, e8, rfl, hsv, b19⟩
   obtain ⟨W19, hW19⟩ : ∃ W2, W2 = w19.alloc (.cells #[.slice A9 1 e9, .slice (some ⟨gb, go, none⟩) 1 e8] 53) := ⟨_, rfl⟩
   have x19 : Below w18.heap.size w18 W19 := by rw [hW19]; exact b19.alloc b19.size _
   have BB_19 := Lib.hid (BB_18.out.trans (x19.mono BB_18.out.size))
   have Y_19 := Lib.hid (Y_18.out.below x19 Y_18.out.lt)
   have LV_19 := Lib.hid (LV_18.out.below x19 LV_18.out.1)
   have FB_19 := Lib.hid (FB_18.out.below x19 FB_18.out.lt)
   have SV_19 := Lib.hid (hsv.below (show Below w19.heap.size w19 W19 by rw [hW19]; exact (Below.refl _ _).alloc (Nat.le_refl _) _) hsv.1)
   have LB_19 := Lib.hid (show Blk.Blk W19 w19.heap.size 53 #[.slice A9 1 e9, .slice (some ⟨gb, go, none⟩) 1 e8] by rw [hW19]; exact Blk.Blk.new _ _ _)
   have HW19 := Lib.hid hW19
   clear BB_18 Y_18 LV_18 FB_18 b19 x19
   clear hsv
   have l0 := LB_19.out.at 0 (v := .slice A9 1 e9) rfl
   have l1 := LB_19.out.at 1 (v := .slice (some ⟨gb, go, none⟩) 1 e8) rfl
   have c0 := (FB_19.out).c0; have c1 := (FB_19.out).c1; have c2 := (FB_19.out).c2; have c3 := (FB_19.out).c3; have c4 := (FB_19.out).c4; have c5 := (FB_19.out).c5; have c6 := (FB_19.out).c6
   have v0 := SV_19.out.2 0 (by decide)
   have v1 := SV_19.out.2 1 (by decide)
   have v2 := SV_19.out.2 2 (by decide)
   have v3 := SV_19.out.2 3 (by decide)
   have v4 := SV_19.out.2 4 (by decide)
   have v5 := SV_19.out.2 5 (by decide)
   have v6 := SV_19.out.2 6 (by decide)
   simp only [List.getD_cons_zero, List.getD_cons_succ, Nat.add_zero] at v0 v1 v2 v3 v4 v5 v6
   rw [hW19] at l0 l1 c0 c1 c2 c3 c4 c5 c6 v0 v1 v2 v3 v4 v5 v6
   clear hW19
   have hbe : (T8.toList == T8.toList) = true := by simp
   have mixed : Tryz.prog.follows .mixedOrders = true := by kernel_rfl
   clear ra7 ra8 ra9 ra10 ra11 ra12 ra13 ra14 ra15 ra16 ra17 ra18 ra19 ra20 rb1 rb2
   go_wp2
   go_quiet (fail)
   clear l0 l1 c0 c1 c2 c3 c4 c5 c6 v0 v1 v2 v3 v4 v5 v6
   rw [← HW19.out]
   obtain ⟨W20, hW20⟩ : ∃ x, x = W19.drewN nq := ⟨_, rfl⟩
   have b20 : Below W19.heap.size W19 W20 := by rw [hW20]; exact below_drewN (Below.refl _ _) nq
   rw [← hW20]
   have BB_20 := Lib.hid (BB_19.out.trans (b20.mono BB_19.out.size))
   have Y_20 := Lib.hid (Y_19.out.below b20 Y_19.out.lt)
   have LV_20 := Lib.hid (LV_19.out.below b20 LV_19.out.1)
   clear BB_19 Y_19 LV_19 FB_19 SV_19 LB_19 b20 hW20 hbe
   have c0 := (Y_20.out).c0; have c1 := (Y_20.out).c1; have c2 := (Y_20.out).c2; have c3 := (Y_20.out).c3; have c4 := (Y_20.out).c4; have c5 := (Y_20.out).c5; have c6 := (Y_20.out).c6
   go_wp2_with fail
   refine (HS.out.take2 _).mono ?_
   rintro e w21 ⟨rfl, b21⟩
   clear c0 c1 c2 c3 c4 c5 c6
   obtain ⟨W21, hW21⟩ : ∃ W2, W2 = w21.alloc (.cells #[.int .i64 K, .int .i64 W, .int .i64 T, .int .i64 m, .int .i64 f, .int .i64 a, .int .i64 y2] 29) := ⟨_, rfl⟩
   have x21 : Below W20.heap.size W20 W21 := by rw [hW21]; exact b21.alloc b21.size _
   have BB_21 := Lib.hid (BB_20.out.trans (x21.mono BB_20.out.size))
   have LV_21 := Lib.hid (LV_20.out.below x21 LV_20.out.1)
   have NX_21 := Lib.hid (show SBox W21 w21.heap.size K W T m f a y2 by rw [hW21]; exact SBox.new _ _ _ _ _ _ _ _)
   have HW21 := Lib.hid hW21
   clear BB_20 Y_20 LV_20 b21 x21
   clear hW21
   go_wp2_with fail
   rw [← HW21.out]
   refine (HS.out.tl _).mono ?_
   rintro e w22 ⟨At, ct, rfl, htl, b22⟩
   have BB_22 := Lib.hid (BB_21.out.trans (b22.mono BB_21.out.size))
   have LV_22 := Lib.hid (LV_21.out.below b22 LV_21.out.1)
   have TL_22 := Lib.hid (htl)
   clear BB_21 LV_21 NX_21 b22
   clear htl
   go_wp2_with fail
   refine (HS.out.oo _).mono ?_
   rintro e w23 ⟨rfl, b23⟩
   have BB_23 := Lib.hid (BB_22.out.trans (b23.mono BB_22.out.size))
   have LV_23 := Lib.hid (LV_22.out.below b23 LV_22.out.1)
   have TL_23 := Lib.hid ((TL_22.out.below b23 (Nat.le_refl _)).more b23.size)
   clear BB_22 LV_22 TL_22 b23
   go_wp2_with fail
   refine (HS.out.ol _).mono ?_
   rintro e w24 ⟨Al, cl, Al2, cl2, rfl, hli, b24⟩
   obtain ⟨W24, hW24⟩ : ∃ W2, W2 = w24.alloc (.cells #[.slice Al nL cl, .slice Al2 nL cl2] 60) := ⟨_, rfl⟩
   have x24 : Below w23.heap.size w23 W24 := by rw [hW24]; exact b24.alloc b24.size _
   have BB_24 := Lib.hid (BB_23.out.trans (x24.mono BB_23.out.size))
   have LV_24 := Lib.hid (LV_23.out.below x24 LV_23.out.1)
   have TL_24 := Lib.hid ((TL_23.out.below x24 (Nat.le_refl _)).more x24.size)
   have LI_24 := Lib.hid (HS.out.lb _ _ _ hli (show Below w24.heap.size w24 W24 by rw [hW24]; exact (Below.refl _ _).alloc (Nat.le_refl _) _))
   have LW_24 := Lib.hid (show Blk.Blk W24 w24.heap.size 60 #[.slice Al nL cl, .slice Al2 nL cl2] by rw [hW24]; exact Blk.Blk.new _ _ _)
   have HW24 := Lib.hid hW24
   clear BB_23 LV_23 TL_23 b24 x24
   clear hli
   have l0 := LW_24.out.at 0 (v := .slice Al nL cl) rfl
   have l1 := LW_24.out.at 1 (v := .slice Al2 nL cl2) rfl
   rw [hW24] at l0 l1
   clear hW24
   go_wp2_with fail
   rw [← HW24.out]
   refine (HS.out.lo _ _ LI_24.out).mono ?_
   rintro e w25 ⟨rfl, b25⟩
   clear l0 l1
   obtain ⟨W25, hW25⟩ : ∃ W2, W2 = w25.alloc (.cells #[.int .i64 (a1 : Int), .int .i64 (a2 : Int)] 49) := ⟨_, rfl⟩
   have x25 : Below W24.heap.size W24 W25 := by rw [hW25]; exact b25.alloc b25.size _
   have BB_25 := Lib.hid (BB_24.out.trans (x25.mono BB_24.out.size))
   have LV_25 := Lib.hid (LV_24.out.below x25 LV_24.out.1)
   have TL_25 := Lib.hid ((TL_24.out.below x25 (Nat.le_refl _)).more x25.size)
   have LL_25 := Lib.hid (show Blk.Blk W25 w25.heap.size 49 #[.int .i64 (a1 : Int), .int .i64 (a2 : Int)] by rw [hW25]; exact Blk.Blk.new _ _ _)
   have HW25 := Lib.hid hW25
   clear BB_24 LV_24 TL_24 LI_24 LW_24 b25 x25
   have HEQ : Hid (∀ d, Calls Tryz.prog 22 #[.slice (some ⟨g0, 0, none⟩) 3 cc0, .slice At 3 ct] ((w25.alloc (.cells #[.int .i64 (a1 : Int), .int .i64 (a2 : Int)] 49)).drewN d) fun e w' => e = .returned (.bool true) ∧ ∃ k, w' = ((w25.alloc (.cells #[.int .i64 (a1 : Int), .int .i64 (a2 : Int)] 49)).drewN d).drewN k) := Lib.hid (fun d => by
    rw [← hW25]
    have hd := below_drewN (Below.refl W25.heap.size W25) d
    exact HS.out.eq _ _ _ _ _ ((LV_25.out.rd.below hd (Nat.le_refl _)).more hd.size) ((TL_25.out.below hd (Nat.le_refl _)).more hd.size))
   have HBE := Lib.hid BB_25.out
   rw [hW25] at HBE
   have c0 := LV_25.out.2 0 (by decide)
   have c1 := LV_25.out.2 1 (by decide)
   simp only [List.getD_cons_zero, List.getD_cons_succ] at c0 c1
   have l0 := LL_25.out.at 0 (v := .int .i64 (a1 : Int)) rfl
   have l1 := LL_25.out.at 1 (v := .int .i64 (a2 : Int)) rfl
   rw [hW25] at c0 c1 l0 l1
   clear hW25
   go_wp2
   go_quiet ((go_at_call 22; exact Calls.quiet_of (HEQ.out _)))
   go_wp2
   go_ret
   exact ⟨ret_bool (by simp), below_drewN HBE.out _⟩
  ·have HNh := Lib.hid HN
   clear HN
   have hly := Y_7.out.lt
   have hlg := LV_7.out.1
   have hlw := BB_7.out.size
   go_wp2_with fail
   refine (HNh.out.fi _).mono ?_
   rintro e w8 ⟨rfl, b8⟩
   clear c0 c1 c2 c3 c4 c5 c6 d0 d1 d2 d3 d4 d5 d6
   have w8lt := b8.size
   have w8y : w4.heap.size < w8.heap.size := Nat.lt_of_lt_of_le hly w8lt
   have w8g : g0 < w8.heap.size := Nat.lt_of_lt_of_le hlg w8lt
   have w8w : w.heap.size ≤ w8.heap.size := Nat.le_trans hlw w8lt
   clear w8lt hly hlg hlw
   obtain ⟨W8, hW8⟩ : ∃ W2, W2 = w8.alloc (.cells #[.int .i64 0, .int .i64 0, .int .i64 0, .int .i64 0, .int .i64 0, .int .i64 0, .int .i64 0] 29) := ⟨_, rfl⟩
   have x8 : Below w7.heap.size w7 W8 := by rw [hW8]; exact b8.alloc b8.size _
   have BB_8 := Lib.hid (BB_7.out.trans (x8.mono BB_7.out.size))
   have Y_8 := Lib.hid (Y_7.out.below x8 Y_7.out.lt)
   have LV_8 := Lib.hid (LV_7.out.below x8 LV_7.out.1)
   have FB_8 := Lib.hid (show SBox W8 w8.heap.size 0 0 0 0 0 0 0 by rw [hW8]; exact SBox.new _ _ _ _ _ _ _ _)
   have HW8 := Lib.hid hW8
   clear BB_7 Y_7 Q_7 LV_7 b8 x8
   clear hsz hq1
   have c0 := (Y_8.out).c0; have c1 := (Y_8.out).c1; have c2 := (Y_8.out).c2; have c3 := (Y_8.out).c3; have c4 := (Y_8.out).c4; have c5 := (Y_8.out).c5; have c6 := (Y_8.out).c6
   rw [hW8] at c0 c1 c2 c3 c4 c5 c6
   clear hW8
   go_wp2_with fail
   rw [← HW8.out]
   refine (HNh.out.fs _).mono ?_
   rintro e w9 ⟨rfl, b9⟩
   clear c0 c1 c2 c3 c4 c5 c6
   obtain ⟨W9, hW9⟩ : ∃ W2, W2 = w9.alloc (.cells #[.int .i64 0, .int .i64 0, .int .i64 0, .int .i64 0, .int .i64 0, .int .i64 0, .int .i64 0] 29) := ⟨_, rfl⟩
   have x9 : Below W8.heap.size W8 W9 := by rw [hW9]; exact b9.alloc b9.size _
   have BB_9 := Lib.hid (BB_8.out.trans (x9.mono BB_8.out.size))
   have Y_9 := Lib.hid (Y_8.out.below x9 Y_8.out.lt)
   have LV_9 := Lib.hid (LV_8.out.below x9 LV_8.out.1)
   have FB_9 := Lib.hid (FB_8.out.below x9 FB_8.out.lt)
   have SP_9 := Lib.hid (show SBox W9 w9.heap.size 0 0 0 0 0 0 0 by rw [hW9]; exact SBox.new _ _ _ _ _ _ _ _)
   have HW9 := Lib.hid hW9
   clear BB_8 Y_8 LV_8 FB_8 b9 x9
   clear hW9
   have ra1 := HS.out.r1
   have ra2 := HS.out.r2
   go_wp2_with fail
   rw [← HW9.out]
   refine (HS.out.dp _ BB_9.out).mono ?_
   rintro e w10 ⟨rfl, b10⟩
   have BB_10 := Lib.hid (BB_9.out.trans (b10.mono BB_9.out.size))
   have Y_10 := Lib.hid (Y_9.out.below b10 Y_9.out.lt)
   have LV_10 := Lib.hid (LV_9.out.below b10 LV_9.out.1)
   have FB_10 := Lib.hid (FB_9.out.below b10 FB_9.out.lt)
   clear BB_9 Y_9 LV_9 FB_9 SP_9 b10
   go_wp2_with fail
   refine (HS.out.dq _ BB_10.out).mono ?_
   rintro e w11 ⟨rfl, b11⟩
   have BB_11 := Lib.hid (BB_10.out.trans (b11.mono BB_10.out.size))
   have Y_11 := Lib.hid (Y_10.out.below b11 Y_10.out.lt)
   have LV_11 := Lib.hid (LV_10.out.below b11 LV_10.out.1)
   have FB_11 := Lib.hid (FB_10.out.below b11 FB_10.out.lt)
   clear BB_10 Y_10 LV_10 FB_10 b11
   have c0 := LV_11.out.2 0 (by decide)
   have c1 := LV_11.out.2 1 (by decide)
   simp only [List.getD_cons_zero, List.getD_cons_succ] at c0 c1
   have ra3 := HS.out.r3
   have ra4 := HS.out.r4
   have ra5 := HS.out.r5
   have ra6 := HS.out.r6
   go_wp2_with fail
   refine (HS.out.f1 _ BB_11.out).mono ?_
   rintro e w12 ⟨rfl, b12⟩
   clear c0 c1
   have BB_12 := Lib.hid (BB_11.out.trans (b12.mono BB_11.out.size))
   have Y_12 := Lib.hid (Y_11.out.below b12 Y_11.out.lt)
   have LV_12 := Lib.hid (LV_11.out.below b12 LV_11.out.1)
   have FB_12 := Lib.hid (FB_11.out.below b12 FB_11.out.lt)
   clear BB_11 Y_11 LV_11 FB_11 b12
   clear ra1 ra2 ra3 ra4 ra5 ra6
   have c0 := LV_12.out.2 2 (by decide)
   have c1 := LV_12.out.2 3 (by decide)
   simp only [List.getD_cons_zero, List.getD_cons_succ] at c0 c1
   go_wp2_with fail
   refine (HS.out.f2 _ BB_12.out).mono ?_
   rintro e w13 ⟨rfl, b13⟩
   clear c0 c1
   have BB_13 := Lib.hid (BB_12.out.trans (b13.mono BB_12.out.size))
   have Y_13 := Lib.hid (Y_12.out.below b13 Y_12.out.lt)
   have LV_13 := Lib.hid (LV_12.out.below b13 LV_12.out.1)
   have FB_13 := Lib.hid (FB_12.out.below b13 FB_12.out.lt)
   clear BB_12 Y_12 LV_12 FB_12 b13
   have c0 := LV_13.out.2 4 (by decide)
   have c1 := LV_13.out.2 5 (by decide)
   simp only [List.getD_cons_zero, List.getD_cons_succ] at c0 c1
   go_wp2_with fail
   refine (HS.out.f3 _ BB_13.out).mono ?_
   rintro e w14 ⟨rfl, b14⟩
   clear c0 c1
   have BB_14 := Lib.hid (BB_13.out.trans (b14.mono BB_13.out.size))
   have Y_14 := Lib.hid (Y_13.out.below b14 Y_13.out.lt)
   have LV_14 := Lib.hid (LV_13.out.below b14 LV_13.out.1)
   have FB_14 := Lib.hid (FB_13.out.below b14 FB_13.out.lt)
   clear BB_13 Y_13 LV_13 FB_13 b14
   have ra7 := HS.out.r7
   have ra8 := HS.out.r8
   have ra9 := HS.out.r9
   have ra10 := HS.out.r10
   have ra11 := HS.out.r11
   have ra12 := HS.out.r12
   have hlt := FB_14.out.lt
   have z0 := (FB_14.out).frz 0; have z1 := (FB_14.out).frz 1; have z2 := (FB_14.out).frz 2; have z3 := (FB_14.out).frz 3; have z4 := (FB_14.out).frz 4; have z5 := (FB_14.out).frz 5; have z6 := (FB_14.out).frz 6
   have c0 := (Y_14.out).c0; have c1 := (Y_14.out).c1; have c2 := (Y_14.out).c2; have c3 := (Y_14.out).c3; have c4 := (Y_14.out).c4; have c5 := (Y_14.out).c5; have c6 := (Y_14.out).c6
   have d0 := (FB_14.out).c0; have d1 := (FB_14.out).c1; have d2 := (FB_14.out).c2; have d3 := (FB_14.out).c3; have d4 := (FB_14.out).c4; have d5 := (FB_14.out).c5; have d6 := (FB_14.out).c6
   have rb1 := HNh.out.r21
   have FBs := FB_14.out.set7 K W T m f a y1
   have hle : w.heap.size ≤ w8.heap.size := w8w
   obtain ⟨W20, hW20⟩ : ∃ x, x = Take.set7 w14 w8.heap.size K W T m f a y1 := ⟨_, rfl⟩
   have BB_20 : Hid (Below w.heap.size w W20) := Lib.hid (by rw [hW20]; exact below_set7 BB_14.out hle BB_14.out.size K W T m f a y1)
   have FB_20 : Hid (SBox W20 w8.heap.size K W T m f a y1) := Lib.hid (by rw [hW20]; exact FBs)
   have x20 := grown_set7 w14 w8.heap.size K W T m f a y1
   have Y_20 : Hid (SBox W20 w4.heap.size K W T m f a y1) := Lib.hid (by rw [hW20]; exact Y_14.out.kept x20 (fun e => by injection e with e; omega))
   have LV_20 : Hid (F6 W20 g0 [(a1 : Int), (a2 : Int), (b1 : Int), (b2 : Int), (j1 : Int), (j2 : Int)]) := Lib.hid (by rw [hW20]; exact LV_14.out.kept x20 (fun e => by injection e with e; omega))
   unfold Take.set7 at hW20
   have HW20 := Lib.hid hW20
   clear hW20 x20 FBs BB_14 Y_14 LV_14 FB_14 hle hlt
   have ra13 := HS.out.r13
   have ra14 := HS.out.r14
   go_wp2_with fail
   rw [← HW20.out]
   refine (HS.out.dn _ BB_20.out).mono ?_
   rintro e w21 ⟨rfl, b21⟩
   clear c0 c1 c2 c3 c4 c5 c6 d0 d1 d2 d3 d4 d5 d6 z0 z1 z2 z3 z4 z5 z6
   have BB_21 := Lib.hid (BB_20.out.trans (b21.mono BB_20.out.size))
   have Y_21 := Lib.hid (Y_20.out.below b21 Y_20.out.lt)
   have LV_21 := Lib.hid (LV_20.out.below b21 LV_20.out.1)
   have FB_21 := Lib.hid (FB_20.out.below b21 FB_20.out.lt)
   clear BB_20 Y_20 LV_20 FB_20 b21
   have ra15 := HS.out.r15
   have ra16 := HS.out.r16
   go_wp2_with fail
   refine (HS.out.dn _ BB_21.out).mono ?_
   rintro e w22 ⟨rfl, b22⟩
   have BB_22 := Lib.hid (BB_21.out.trans (b22.mono BB_21.out.size))
   have Y_22 := Lib.hid (Y_21.out.below b22 Y_21.out.lt)
   have LV_22 := Lib.hid (LV_21.out.below b22 LV_21.out.1)
   have FB_22 := Lib.hid (FB_21.out.below b22 FB_21.out.lt)
   clear BB_21 Y_21 LV_21 FB_21 b22
   have ra17 := HS.out.r17
   have ra18 := HS.out.r18
   go_wp2_with fail
   refine (HS.out.df _ BB_22.out).mono ?_
   rintro e w23 ⟨rfl, b23⟩
   have BB_23 := Lib.hid (BB_22.out.trans (b23.mono BB_22.out.size))
   have Y_23 := Lib.hid (Y_22.out.below b23 Y_22.out.lt)
   have LV_23 := Lib.hid (LV_22.out.below b23 LV_22.out.1)
   have FB_23 := Lib.hid (FB_22.out.below b23 FB_22.out.lt)
   clear BB_22 Y_22 LV_22 FB_22 b23
   have ra19 := HS.out.r19
   have ra20 := HS.out.r20
   go_wp2_with fail
   refine (HNh.out.run _ BB_23.out).mono ?_
   rintro e w24 ⟨A9, e9, gb, go, e8, rfl, hsv, b24⟩
   obtain ⟨W24, hW24⟩ : ∃ W2, W2 = w24.alloc (.cells #[.slice A9 1 e9, .slice (some ⟨gb, go, none⟩) 1 e8] 53) := ⟨_, rfl⟩
   have x24 : Below w23.heap.size w23 W24 := by rw [hW24]; exact b24.alloc b24.size _
   have BB_24 := Lib.hid (BB_23.out.trans (x24.mono BB_23.out.size))
   have Y_24 := Lib.hid (Y_23.out.below x24 Y_23.out.lt)
   have LV_24 := Lib.hid (LV_23.out.below x24 LV_23.out.1)
   have FB_24 := Lib.hid (FB_23.out.below x24 FB_23.out.lt)
   have SV_24 := Lib.hid (hsv.below (show Below w24.heap.size w24 W24 by rw [hW24]; exact (Below.refl _ _).alloc (Nat.le_refl _) _) hsv.1)
   have LB_24 := Lib.hid (show Blk.Blk W24 w24.heap.size 53 #[.slice A9 1 e9, .slice (some ⟨gb, go, none⟩) 1 e8] by rw [hW24]; exact Blk.Blk.new _ _ _)
   have HW24 := Lib.hid hW24
   clear BB_23 Y_23 LV_23 FB_23 b24 x24
   clear hsv
   have l0 := LB_24.out.at 0 (v := .slice A9 1 e9) rfl
   have l1 := LB_24.out.at 1 (v := .slice (some ⟨gb, go, none⟩) 1 e8) rfl
   have c0 := (FB_24.out).c0; have c1 := (FB_24.out).c1; have c2 := (FB_24.out).c2; have c3 := (FB_24.out).c3; have c4 := (FB_24.out).c4; have c5 := (FB_24.out).c5; have c6 := (FB_24.out).c6
   have v0 := SV_24.out.2 0 (by decide)
   have v1 := SV_24.out.2 1 (by decide)
   have v2 := SV_24.out.2 2 (by decide)
   have v3 := SV_24.out.2 3 (by decide)
   have v4 := SV_24.out.2 4 (by decide)
   have v5 := SV_24.out.2 5 (by decide)
   have v6 := SV_24.out.2 6 (by decide)
   simp only [List.getD_cons_zero, List.getD_cons_succ, Nat.add_zero] at v0 v1 v2 v3 v4 v5 v6
   rw [hW24] at l0 l1 c0 c1 c2 c3 c4 c5 c6 v0 v1 v2 v3 v4 v5 v6
   clear hW24
   have hbe : (T8.toList == T8.toList) = true := by simp
   have mixed : Tryz.prog.follows .mixedOrders = true := by kernel_rfl
   clear ra7 ra8 ra9 ra10 ra11 ra12 ra13 ra14 ra15 ra16 ra17 ra18 ra19 ra20 rb1
   go_wp2
   go_quiet (fail)
   clear l0 l1 c0 c1 c2 c3 c4 c5 c6 v0 v1 v2 v3 v4 v5 v6
   rw [← HW24.out]
   obtain ⟨W25, hW25⟩ : ∃ x, x = W24.drewN nq := ⟨_, rfl⟩
   have b25 : Below W24.heap.size W24 W25 := by rw [hW25]; exact below_drewN (Below.refl _ _) nq
   rw [← hW25]
   have BB_25 := Lib.hid (BB_24.out.trans (b25.mono BB_24.out.size))
   have Y_25 := Lib.hid (Y_24.out.below b25 Y_24.out.lt)
   have LV_25 := Lib.hid (LV_24.out.below b25 LV_24.out.1)
   clear BB_24 Y_24 LV_24 FB_24 SV_24 LB_24 b25 hW25 hbe
   have c0 := (Y_25.out).c0; have c1 := (Y_25.out).c1; have c2 := (Y_25.out).c2; have c3 := (Y_25.out).c3; have c4 := (Y_25.out).c4; have c5 := (Y_25.out).c5; have c6 := (Y_25.out).c6
   go_wp2_with fail
   refine (HS.out.take2 _).mono ?_
   rintro e w26 ⟨rfl, b26⟩
   clear c0 c1 c2 c3 c4 c5 c6
   obtain ⟨W26, hW26⟩ : ∃ W2, W2 = w26.alloc (.cells #[.int .i64 K, .int .i64 W, .int .i64 T, .int .i64 m, .int .i64 f, .int .i64 a, .int .i64 y2] 29) := ⟨_, rfl⟩
   have x26 : Below W25.heap.size W25 W26 := by rw [hW26]; exact b26.alloc b26.size _
   have BB_26 := Lib.hid (BB_25.out.trans (x26.mono BB_25.out.size))
   have LV_26 := Lib.hid (LV_25.out.below x26 LV_25.out.1)
   have NX_26 := Lib.hid (show SBox W26 w26.heap.size K W T m f a y2 by rw [hW26]; exact SBox.new _ _ _ _ _ _ _ _)
   have HW26 := Lib.hid hW26
   clear BB_25 Y_25 LV_25 b26 x26
   clear hW26
   go_wp2_with fail
   rw [← HW26.out]
   refine (HS.out.tl _).mono ?_
   rintro e w27 ⟨At, ct, rfl, htl, b27⟩
   have BB_27 := Lib.hid (BB_26.out.trans (b27.mono BB_26.out.size))
   have LV_27 := Lib.hid (LV_26.out.below b27 LV_26.out.1)
   have TL_27 := Lib.hid (htl)
   clear BB_26 LV_26 NX_26 b27
   clear htl
   go_wp2_with fail
   refine (HS.out.oo _).mono ?_
   rintro e w28 ⟨rfl, b28⟩
   have BB_28 := Lib.hid (BB_27.out.trans (b28.mono BB_27.out.size))
   have LV_28 := Lib.hid (LV_27.out.below b28 LV_27.out.1)
   have TL_28 := Lib.hid ((TL_27.out.below b28 (Nat.le_refl _)).more b28.size)
   clear BB_27 LV_27 TL_27 b28
   go_wp2_with fail
   refine (HS.out.ol _).mono ?_
   rintro e w29 ⟨Al, cl, Al2, cl2, rfl, hli, b29⟩
   obtain ⟨W29, hW29⟩ : ∃ W2, W2 = w29.alloc (.cells #[.slice Al nL cl, .slice Al2 nL cl2] 60) := ⟨_, rfl⟩
   have x29 : Below w28.heap.size w28 W29 := by rw [hW29]; exact b29.alloc b29.size _
   have BB_29 := Lib.hid (BB_28.out.trans (x29.mono BB_28.out.size))
   have LV_29 := Lib.hid (LV_28.out.below x29 LV_28.out.1)
   have TL_29 := Lib.hid ((TL_28.out.below x29 (Nat.le_refl _)).more x29.size)
   have LI_29 := Lib.hid (HS.out.lb _ _ _ hli (show Below w29.heap.size w29 W29 by rw [hW29]; exact (Below.refl _ _).alloc (Nat.le_refl _) _))
   have LW_29 := Lib.hid (show Blk.Blk W29 w29.heap.size 60 #[.slice Al nL cl, .slice Al2 nL cl2] by rw [hW29]; exact Blk.Blk.new _ _ _)
   have HW29 := Lib.hid hW29
   clear BB_28 LV_28 TL_28 b29 x29
   clear hli
   have l0 := LW_29.out.at 0 (v := .slice Al nL cl) rfl
   have l1 := LW_29.out.at 1 (v := .slice Al2 nL cl2) rfl
   rw [hW29] at l0 l1
   clear hW29
   go_wp2_with fail
   rw [← HW29.out]
   refine (HS.out.lo _ _ LI_29.out).mono ?_
   rintro e w30 ⟨rfl, b30⟩
   clear l0 l1
   obtain ⟨W30, hW30⟩ : ∃ W2, W2 = w30.alloc (.cells #[.int .i64 (a1 : Int), .int .i64 (a2 : Int)] 49) := ⟨_, rfl⟩
   have x30 : Below W29.heap.size W29 W30 := by rw [hW30]; exact b30.alloc b30.size _
   have BB_30 := Lib.hid (BB_29.out.trans (x30.mono BB_29.out.size))
   have LV_30 := Lib.hid (LV_29.out.below x30 LV_29.out.1)
   have TL_30 := Lib.hid ((TL_29.out.below x30 (Nat.le_refl _)).more x30.size)
   have LL_30 := Lib.hid (show Blk.Blk W30 w30.heap.size 49 #[.int .i64 (a1 : Int), .int .i64 (a2 : Int)] by rw [hW30]; exact Blk.Blk.new _ _ _)
   have HW30 := Lib.hid hW30
   clear BB_29 LV_29 TL_29 LI_29 LW_29 b30 x30
   have HEQ : Hid (∀ d, Calls Tryz.prog 22 #[.slice (some ⟨g0, 0, none⟩) 3 cc0, .slice At 3 ct] ((w30.alloc (.cells #[.int .i64 (a1 : Int), .int .i64 (a2 : Int)] 49)).drewN d) fun e w' => e = .returned (.bool true) ∧ ∃ k, w' = ((w30.alloc (.cells #[.int .i64 (a1 : Int), .int .i64 (a2 : Int)] 49)).drewN d).drewN k) := Lib.hid (fun d => by
    rw [← hW30]
    have hd := below_drewN (Below.refl W30.heap.size W30) d
    exact HS.out.eq _ _ _ _ _ ((LV_30.out.rd.below hd (Nat.le_refl _)).more hd.size) ((TL_30.out.below hd (Nat.le_refl _)).more hd.size))
   have HBE := Lib.hid BB_30.out
   rw [hW30] at HBE
   have c0 := LV_30.out.2 0 (by decide)
   have c1 := LV_30.out.2 1 (by decide)
   simp only [List.getD_cons_zero, List.getD_cons_succ] at c0 c1
   have l0 := LL_30.out.at 0 (v := .int .i64 (a1 : Int)) rfl
   have l1 := LL_30.out.at 1 (v := .int .i64 (a2 : Int)) rfl
   rw [hW30] at c0 c1 l0 l1
   clear hW30
   go_wp2
   go_quiet ((go_at_call 22; exact Calls.quiet_of (HEQ.out _)))
   go_wp2
   go_ret
   exact ⟨ret_bool (by simp), below_drewN HBE.out _⟩
end Go.Proofs.YtgipnbeipfhekaaGreatDoor.TopC
namespace Go.Proofs.YtgipnbeipfhekaaGreatDoor.TopC
open Go.RowKit Go.Proofs.YtgipnbeipfhekaaGreatDoor Go.Proofs.YtgipnbeipfhekaaGreatDoor.Base Go.Proofs.YtgipnbeipfhekaaGreatDoor.Mem Go.Proofs.YtgipnbeipfhekaaGreatDoor.MemS Go.Proofs.YtgipnbeipfhekaaGreatDoor.MemF Go.Proofs.YtgipnbeipfhekaaGreatDoor.LabM Go.Proofs.YtgipnbeipfhekaaGreatDoor.LabV Go.Proofs.YtgipnbeipfhekaaGreatDoor.StM Go.Proofs.YtgipnbeipfhekaaGreatDoor.Str Go.Proofs.YtgipnbeipfhekaaGreatDoor.StTx Go.Proofs.YtgipnbeipfhekaaGreatDoor.Dec Go.Proofs.YtgipnbeipfhekaaGreatDoor.Val Go.Proofs.YtgipnbeipfhekaaGreatDoor.Rd Go.Proofs.YtgipnbeipfhekaaGreatDoor.Skip Go.Proofs.YtgipnbeipfhekaaGreatDoor.Take Go.Proofs.YtgipnbeipfhekaaGreatDoor.CutP Go.Proofs.YtgipnbeipfhekaaGreatDoor.RecJ Go.Proofs.YtgipnbeipfhekaaGreatDoor.CarM Go.Proofs.YtgipnbeipfhekaaGreatDoor.LcA Go.Proofs.YtgipnbeipfhekaaGreatDoor.LcC Go.Proofs.YtgipnbeipfhekaaGreatDoor.LcG Go.Proofs.YtgipnbeipfhekaaGreatDoor.TopM Go.Proofs.YtgipnbeipfhekaaGreatDoor.StrM
open Go.Proofs.YtgipnbeipfhekaaGreatDoor.Face hiding FsRet
open Go.Proofs.YtgipnbeipfhekaaGreatDoor.LvJ (byt)
open Go.Proofs.YtgipnbeipfhekaaGreatDoor.LvQ Go.Proofs.YtgipnbeipfhekaaGreatDoor.LvW Go.Proofs.YtgipnbeipfhekaaGreatDoor.LvR Go.Proofs.YtgipnbeipfhekaaGreatDoor.LvK Go.Proofs.YtgipnbeipfhekaaGreatDoor.LvN Go.Proofs.YtgipnbeipfhekaaGreatDoor.LvT Go.Proofs.YtgipnbeipfhekaaGreatDoor.Dice
set_option linter.unusedVariables false
set_option linter.unusedSimpArgs false
theorem addR {a b c : Tx} (h : a ++ b = c) (hl : c.length ≤ 1000000) (V : World) : (Op.stringOp .add (tx a) (tx b)).run Tryz.prog V = .ok (.string (tx c)) V := by
 subst h
 rw [List.length_append] at hl
 exact addTx a b (by omega) V
theorem addL {a b c : Tx} {t u : ByteArray} (ha : t = tx a) (hb : u = tx b) (h : a ++ b = c) (hl : c.length ≤ 1000000) (V : World) : (Op.stringOp .add t u).run Tryz.prog V = .ok (.string (tx c)) V := by
 subst ha
 subst hb
 exact addR h hl V
theorem dec_p (u : Nat) (hu : u ≤ 1000000000000000000) {w : World} (ht : Tabs w) (V : World) (hb : Below w.heap.size w V) : Calls Tryz.prog 15 #[.int .i64 (u : Int)] V fun e w' => e = .returned (.string (tx (Lib.decDigits u))) ∧ Below V.heap.size V w' :=
 decimal_any u (by omega) V.heap.size V (ht.on hb).1 (Nat.le_refl _)
theorem six_of {g : Nat} {c : Nat} {w w' : World} {A : Option Addr} {a1 a2 b1 b2 c1 c2 : Int} (ho : OwnF w' w.heap.size (.slice A 3 c) 3 [a1, a2, b1, b2, c1, c2]) : ∃ g, A = some ⟨g, 0, none⟩ ∧ F6 w' g [a1, a2, b1, b2, c1, c2] := by
 obtain ⟨A', c', e, hf⟩ := ho.form
 injection e with e1 e2 e3
 subst e1
 obtain ⟨q, e4, _, hq⟩ := hf (by decide)
 obtain ⟨g, off, e5, _, hc⟩ := ho.rd (by decide)
 rw [e4] at e5
 injection e5 with e5
 injection e5 with e6 e7
 subst e6
 subst e7
 subst e4
 exact ⟨_, rfl, hq, fun i hi => by have := hc i hi; rw [Nat.zero_add] at this; exact this⟩
theorem sev_of {w : World} {v : Value} {z : St} (h : LabAt w v (L1 z)) : ∃ A1 e1 gb go e2, v = .agg #[.slice A1 1 e1, .slice (some ⟨gb, go, none⟩) 1 e2] ∧ Sev w gb go [z.K, z.W, z.T, z.m, z.f, z.a, z.s] := by
 obtain ⟨A, c, A', c', rfl, _, h2, _, _⟩ := h
 obtain ⟨gb, go, rfl, hl, hc⟩ := RdS.st h2 (j := 0) (Nat.succ_pos 0)
 refine ⟨A, c, gb, go, c', rfl, hl, fun i hi => ?_⟩
 rw [Nat.zero_mul, Nat.add_zero] at hc
 match i, hi with
 | 0, _ => exact hc.c0
 | 1, _ => exact hc.c1
 | 2, _ => exact hc.c2
 | 3, _ => exact hc.c3
 | 4, _ => exact hc.c4
 | 5, _ => exact hc.c5
 | 6, _ => exact hc.c6
def wU (P Q B : Tx) : List Tx := [[111, 107, 10] ++ P, [111, 107, 10] ++ P ++ [32], [111, 107, 10] ++ P ++ [32] ++ Q, [111, 107, 10] ++ P ++ [32] ++ Q ++ [10], [111, 107, 10] ++ P ++ [32] ++ Q ++ [10] ++ B, [111, 107, 10] ++ P ++ [32] ++ Q ++ [10] ++ B ++ [10]]
def wA (f g h : Tx) : List Tx := [f ++ [32], f ++ [32] ++ g, f ++ [32] ++ g ++ [32], f ++ [32] ++ g ++ [32] ++ h, f ++ [32] ++ g ++ [32] ++ h ++ [10]]
def wB : Tx := [10, 99, 121, 99, 108, 101, 32, 120, 10, 98, 105, 116, 115, 32, 120, 32]
def wC : Tx := [10, 108, 101, 118, 101, 108, 115, 32, 120, 32]
def wD : Tx := [10, 114, 111, 108, 108, 32, 120, 32]
def wS (X N : Tx) : List Tx := [[115, 101, 116, 32, 120, 32] ++ X, [115, 101, 116, 32, 120, 32] ++ X ++ wB, [115, 101, 116, 32, 120, 32] ++ X ++ wB ++ N, [115, 101, 116, 32, 120, 32] ++ X ++ wB ++ N ++ wC, [115, 101, 116, 32, 120, 32] ++ X ++ wB ++ N ++ wC ++ N, [115, 101, 116, 32, 120, 32] ++ X ++ wB ++ N ++ wC ++ N ++ wD]
def t7L (P Q B f g h : Tx) : Tx := [111, 107, 10] ++ P ++ [32] ++ Q ++ [10] ++ B ++ [10] ++ (f ++ [32] ++ g ++ [32] ++ h ++ [10])
def sAll (X N F : Tx) : Tx := [115, 101, 116, 32, 120, 32] ++ X ++ wB ++ N ++ wC ++ N ++ wD ++ F
def uG (xs : List Tx) (i : Nat) : ByteArray := tx (xs.getD i [])
theorem script_is (x : St) (n F : Nat) : sAll (tS x) (Lib.decDigits n) (Lib.decDigits F) ++ [10] = script (topL x n F) := by
 simp [sAll, script, topL, l1, l2, lN, wSet, wCycle, wBits, wLevels, wRoll, nX, wB, wC, wD]
theorem out_is {x : St} {B f g h o P Q : Tx} (hP : decI (preS x.K x.W x.T x.m x.f x.a x.s) = P) (hQ : decI (perS x.K x.W x.T x.m x.f x.a x.s) = Q) : t7L P Q B f g h ++ (o ++ [10]) = outT x B (f ++ 32 :: (g ++ 32 :: h)) o := by
 simp [t7L, outT, cycT, hP, hQ, tOk]
theorem dec_i {z : Int} {u : Nat} (h : z = (u : Int)) : decI z = Lib.decDigits u := by
 rw [h]; unfold decI; rw [Int.toNat_natCast]
set_option maxHeartbeats 4000000 in
set_option maxRecDepth 100000 in
theorem top_S {w : World} (ht : Tabs w) {x : St} (hx : x.ok = true) {n F : Nat} (h1 : 1 ≤ n) (hn : n ≤ 30) (hF1 : 1 ≤ F) (hF : F ≤ 16) {p q : Nat} (hp : preS x.K x.W x.T x.m x.f x.a x.s = (p : Int)) (hq : perS x.K x.W x.T x.m x.f x.a x.s = (q : Int)) (hp2 : p ≤ 200000) (hq1 : 1 ≤ q) (hq2 : q ≤ 200000)
  {y1 y2 : Int} (hy1 : takeX x.K x.W x.T x.m x.f x.a x.s (n : Int) = y1) (hy2 : takeX x.K x.W x.T x.m x.f x.a y1 (n : Int) = y2) {tb : ByteArray} (htb : tx (takeL x.K x.W x.T x.m x.f x.a y1 (n : Int)) = tb) {a1 a2 b1 b2 c1 c2 : Nat} (S : Six tb n a1 a2 b1 b2 c1 c2) :
  TopS w x.K x.W x.T x.m x.f x.a x.s y1 y2 (n : Int) (F : Int) ((onesTo (byt tb) n : Nat) : Int) a1 a2 b1 b2 c1 c2 p q (n + 1) (tx (tS x)) (tx (takeL x.K x.W x.T x.m x.f x.a x.s (n : Int))) tb (tx (Lib.decDigits p)) (tx (Lib.decDigits q)) (tx (Lib.decDigits n)) (tx (Lib.decDigits F)) (tx (fracR a1 a2)) (tx (fracR b1 b2)) (tx (fracR c1 c2))
   (uG (wU (Lib.decDigits p) (Lib.decDigits q) (takeL x.K x.W x.T x.m x.f x.a x.s (n : Int))) 0) (uG (wU (Lib.decDigits p) (Lib.decDigits q) (takeL x.K x.W x.T x.m x.f x.a x.s (n : Int))) 1) (uG (wU (Lib.decDigits p) (Lib.decDigits q) (takeL x.K x.W x.T x.m x.f x.a x.s (n : Int))) 2) (uG (wU (Lib.decDigits p) (Lib.decDigits q) (takeL x.K x.W x.T x.m x.f x.a x.s (n : Int))) 3) (uG (wU (Lib.decDigits p) (Lib.decDigits q) (takeL x.K x.W x.T x.m x.f x.a x.s (n : Int))) 4) (uG (wU (Lib.decDigits p) (Lib.decDigits q) (takeL x.K x.W x.T x.m x.f x.a x.s (n : Int))) 5)
   (tx (t7L (Lib.decDigits p) (Lib.decDigits q) (takeL x.K x.W x.T x.m x.f x.a x.s (n : Int)) (fracR a1 a2) (fracR b1 b2) (fracR c1 c2)))
   (uG (wA (fracR a1 a2) (fracR b1 b2) (fracR c1 c2)) 0) (uG (wA (fracR a1 a2) (fracR b1 b2) (fracR c1 c2)) 1) (uG (wA (fracR a1 a2) (fracR b1 b2) (fracR c1 c2)) 2) (uG (wA (fracR a1 a2) (fracR b1 b2) (fracR c1 c2)) 3) (uG (wA (fracR a1 a2) (fracR b1 b2) (fracR c1 c2)) 4)
   (uG (wS (tS x) (Lib.decDigits n)) 0) (uG (wS (tS x) (Lib.decDigits n)) 1) (uG (wS (tS x) (Lib.decDigits n)) 2) (uG (wS (tS x) (Lib.decDigits n)) 3) (uG (wS (tS x) (Lib.decDigits n)) 4) (uG (wS (tS x) (Lib.decDigits n)) 5) (tx (sAll (tS x) (Lib.decDigits n) (Lib.decDigits F))) (tx (script (topL x n F))) (fun V v => LawIs (onesC n) n V v) := by
 have hB : streamB x.K x.W x.T x.m x.f x.a x.s = true := hx
 have hB1 : streamB x.K x.W x.T x.m x.f x.a y1 = true := by rw [← hy1]; exact streamB_takeX hB
 have hbits : BitsS tb := by rw [← htb]; exact takeL_bits x.K x.W x.T x.m x.f x.a y1 n
 have hsz : tb.size = n := S.size
 have lp := dec_len (u := p) (by omega)
 have lq := dec_len (u := q) (by omega)
 have ln := dec_len (u := n) (by omega)
 have lF := dec_len (u := F) (by omega)
 have lX : (tS x).length ≤ 40 := text_small hx
 have lB := takeL_len x.K x.W x.T x.m x.f x.a x.s n
 have g1 := fracR_len S.h1.1 S.h1.2
 have g2 := fracR_len S.h2.1 S.h2.2
 have g3 := fracR_len S.h3.1 S.h3.2
 have hok : okL x.K x.W x.T x.m x.f x.a y1 n = true := by unfold okL; rw [hB1, inR_yes (by omega)]; rfl
 refine { text := ?text, take := ?take, skip := ?skip, lev := ?lev, cyc := ?cyc, dp := ?dp, dq := ?dq, dn := ?dn, df := ?df, f1 := ?f1, f2 := ?f2, f3 := ?f3, take2 := ?take2, tl := ?tl, oo := ?oo, ol := ?ol, lo := ?lo, lb := ?lb, eq := ?eq, sz := ?sz, q1 := ?q1, r1 := ?r1, r2 := ?r2, r3 := ?r3, r4 := ?r4, r5 := ?r5, r6 := ?r6, r7 := ?r7, r8 := ?r8, r9 := ?r9, r10 := ?r10, r11 := ?r11, r12 := ?r12, r13 := ?r13, r14 := ?r14, r15 := ?r15, r16 := ?r16, r17 := ?r17, r18 := ?r18, r19 := ?r19, r20 := ?r20 }
 case text => exact fun V hb => text_yes hB rfl V (ht.on hb).1
 case take => exact fun V => take_yes hB (by omega) hy1 rfl V
 case skip => exact fun V => skip_yesI hB (by omega) hy1 V
 case lev =>
  intro V
  refine (LpM.implLv_any x.K x.W x.T x.m x.f x.a y1 n V).mono ?_
  rintro e w' ⟨A, c, rfl, ho, hb⟩
  unfold numL at ho ⊢
  unfold resL at ho
  rw [hok, if_pos rfl] at ho ⊢
  rw [if_pos rfl, show txtL x.K x.W x.T x.m x.f x.a y1 n = tb from htb, S.eq] at ho
  obtain ⟨g, rfl, hg⟩ := six_of (g := 0) ho
  exact ⟨g, c, rfl, hg, hb⟩
 case cyc =>
  intro V
  refine (implStreamCycle_any x.K x.W x.T x.m x.f x.a x.s V).mono fun e w' hr => ⟨?_, hr.2⟩
  rw [hr.1, hB, hp, hq]
 case dp => exact fun V hb => dec_p p (by omega) ht V hb
 case dq => exact fun V hb => dec_p q (by omega) ht V hb
 case dn => exact fun V hb => dec_p n (by omega) ht V hb
 case df => exact fun V hb => dec_p F (by omega) ht V hb
 case f1 => exact fun V hb => TlA.fracT_d a1 a2 S.v1 V (ht.on hb)
 case f2 => exact fun V hb => TlA.fracT_d b1 b2 S.v2 V (ht.on hb)
 case f3 => exact fun V hb => TlA.fracT_d c1 c2 S.v3 V (ht.on hb)
 case take2 => exact fun V => take_yes hB1 (by omega) hy2 htb V
 case tl =>
  intro V
  refine (LpT.levelsI_d tb (by omega) (by omega) hbits V).mono ?_
  rintro e w' ⟨A, c, rfl, ho, hb⟩
  rw [S.eq] at ho
  exact ⟨A, c, rfl, ho.rd, hb⟩
 case oo =>
  intro V
  have h := TlA.onesOf_d tb (by omega) hbits V
  rw [hsz] at h
  exact h
 case ol =>
  intro V
  refine (TlA.onesLaw_d n h1 (by omega) V).mono ?_
  rintro e w' ⟨v, rfl, hv, hb⟩
  have hv0 := hv
  obtain ⟨A, c, A', c', rfl, _, _⟩ := hv
  exact ⟨A, c, A', c', rfl, hv0, hb⟩
 case lo =>
  intro V v hv
  have h := TlA.levelA (s := tb) (by omega) (v := v) V (by rw [hsz]; exact hv)
  rw [hsz, S.first.1, S.first.2] at h
  exact h
 case lb => exact fun V V' v hv hb => hv.below hb
 case eq => exact fun V A A' c c' hx hy => TlA.equalF_yes (by omega) V hx hy
 case sz => rw [bits_size]
 case q1 => omega
 case r1 => exact addL rfl rfl rfl (by simp [wU, wA, wS, t7L, sAll, wB, wC, wD]; omega)
 case r2 => exact addL rfl rfl rfl (by simp [wU, wA, wS, t7L, sAll, wB, wC, wD]; omega)
 case r3 => exact addL rfl rfl rfl (by simp [wU, wA, wS, t7L, sAll, wB, wC, wD]; omega)
 case r4 => exact addL rfl rfl rfl (by simp [wU, wA, wS, t7L, sAll, wB, wC, wD]; omega)
 case r5 => exact addL rfl rfl rfl (by simp [wU, wA, wS, t7L, sAll, wB, wC, wD]; omega)
 case r6 => exact addL rfl rfl rfl (by simp [wU, wA, wS, t7L, sAll, wB, wC, wD]; omega)
 case r7 => exact addL rfl rfl rfl (by simp [wU, wA, wS, t7L, sAll, wB, wC, wD]; omega)
 case r8 => exact addL rfl rfl rfl (by simp [wU, wA, wS, t7L, sAll, wB, wC, wD]; omega)
 case r9 => exact addL rfl rfl rfl (by simp [wU, wA, wS, t7L, sAll, wB, wC, wD]; omega)
 case r10 => exact addL rfl rfl rfl (by simp [wU, wA, wS, t7L, sAll, wB, wC, wD]; omega)
 case r11 => exact addL rfl rfl rfl (by simp [wU, wA, wS, t7L, sAll, wB, wC, wD]; omega)
 case r12 => exact addL rfl rfl rfl (by simp [wU, wA, wS, t7L, sAll, wB, wC, wD]; omega)
 case r13 => exact addL rfl rfl rfl (by simp [wU, wA, wS, t7L, sAll, wB, wC, wD]; omega)
 case r14 => exact addL rfl rfl rfl (by simp [wU, wA, wS, t7L, sAll, wB, wC, wD]; omega)
 case r15 => exact addL rfl rfl rfl (by simp [wU, wA, wS, t7L, sAll, wB, wC, wD]; omega)
 case r16 => exact addL rfl rfl rfl (by simp [wU, wA, wS, t7L, sAll, wB, wC, wD]; omega)
 case r17 => exact addL rfl rfl rfl (by simp [wU, wA, wS, t7L, sAll, wB, wC, wD]; omega)
 case r18 => exact addL rfl rfl rfl (by simp [wU, wA, wS, t7L, sAll, wB, wC, wD]; omega)
 case r19 => exact addL rfl rfl rfl (by simp [wU, wA, wS, t7L, sAll, wB, wC, wD]; omega)
 case r20 => exact addL rfl rfl (script_is x n F) (by rw [← script_is]; simp [sAll, wB, wC, wD]; omega)
theorem one_of {w w' : World} {A : Option Addr} {c : Nat} {d : Int} (ho : OwnI w' w.heap.size (.slice A 1 c) [d]) : ∃ g, A = some ⟨g, 0, none⟩ ∧ One w' g (.int .i64 d) := by
 obtain ⟨A', c', e, hf⟩ := ho.form
 injection e with e1 e2 e3
 subst e1
 obtain ⟨q, e4, _, hq⟩ := hf (Nat.succ_pos 0)
 obtain ⟨g, off, e5, _, hc⟩ := ho.rd (Nat.succ_pos 0)
 rw [e4] at e5
 injection e5 with e5
 injection e5 with e6 e7
 subst e6
 subst e7
 subst e4
 refine ⟨_, rfl, hq, ?_⟩
 have := hc 0 (Nat.succ_pos 0)
 exact this
set_option maxHeartbeats 1000000 in
set_option maxRecDepth 100000 in
theorem top_Y {w : World} (ht : Tabs w) {x : St} (hx : x.ok = true) {n F : Nat} (h1 : 1 ≤ n) (hn : n ≤ 30) (hF1 : 1 ≤ F) (hF : F ≤ 16) {p q : Nat} (hp : preS x.K x.W x.T x.m x.f x.a x.s = (p : Int)) (hq : perS x.K x.W x.T x.m x.f x.a x.s = (q : Int)) (hp2 : p ≤ 200000) (hq1 : 1 ≤ q) (hq2 : q ≤ 200000)
  {y1 : Int} (hy1 : takeX x.K x.W x.T x.m x.f x.a x.s (n : Int) = y1) {tb : ByteArray} (htb : tx (takeL x.K x.W x.T x.m x.f x.a y1 (n : Int)) = tb) {a1 a2 b1 b2 c1 c2 : Nat} (S : Six tb n a1 a2 b1 b2 c1 c2) :
  (∃ yz d dt R1 T8, TopY w x.K x.W x.T x.m x.f x.a y1 yz (F : Int) d (tx (t7L (Lib.decDigits p) (Lib.decDigits q) (takeL x.K x.W x.T x.m x.f x.a x.s (n : Int)) (fracR a1 a2) (fracR b1 b2) (fracR c1 c2))) (tx (script (topL x n F))) dt R1 T8) ∨
  ∃ T8, TopN w x.K x.W x.T x.m x.f x.a y1 (F : Int) (tx (t7L (Lib.decDigits p) (Lib.decDigits q) (takeL x.K x.W x.T x.m x.f x.a x.s (n : Int)) (fracR a1 a2) (fracR b1 b2) (fracR c1 c2))) (tx (script (topL x n F))) T8 := by
 have hB : streamB x.K x.W x.T x.m x.f x.a x.s = true := hx
 have hB1 : streamB x.K x.W x.T x.m x.f x.a y1 = true := by rw [← hy1]; exact streamB_takeX hB
 have hx1 : (x.to y1).ok = true := hB1
 have lp := dec_len (u := p) (by omega)
 have lq := dec_len (u := q) (by omega)
 have lB := takeL_len x.K x.W x.T x.m x.f x.a x.s n
 have g1 := fracR_len S.h1.1 S.h1.2
 have g2 := fracR_len S.h2.1 S.h2.2
 have g3 := fracR_len S.h3.1 S.h3.2
 have lv := lvT_len S
 have eP := dec_i hp
 have eQ := dec_i hq
 have hcy : (cycT x).length ≤ 100 := by unfold cycT; rw [eP, eQ]; simp; omega
 have h7 : (t7L (Lib.decDigits p) (Lib.decDigits q) (takeL x.K x.W x.T x.m x.f x.a x.s (n : Int)) (fracR a1 a2) (fracR b1 b2) (fracR c1 c2)).length ≤ 500 := by simp [t7L]; omega
 have S' : Six (tx (takeL (x.to y1).K (x.to y1).W (x.to y1).T (x.to y1).m (x.to y1).f (x.to y1).a (x.to y1).s (n : Int))) n a1 a2 b1 b2 c1 c2 := by rw [← htb] at S; exact S
 rcases one_face (n := F) hB1 hF1 hF with hR | ⟨c, y, hc, hR⟩
 ·right
  have hR' : facesR (x.to y1).K (x.to y1).W (x.to y1).T (x.to y1).m (x.to y1).f (x.to y1).a (x.to y1).s (F : Int) 1 = none := hR
  have h5 := five_yes (z := x.to y1) hx hx1 (show x.to y1 = x.to (takeX x.K x.W x.T x.m x.f x.a x.s n) by rw [hy1]) h1 hn S' (roll_no_line hF hR') (car_roll_no hF hR')
  have ho : t7L (Lib.decDigits p) (Lib.decDigits q) (takeL x.K x.W x.T x.m x.f x.a x.s (n : Int)) (fracR a1 a2) (fracR b1 b2) (fracR c1 c2) ++ (tNo ++ [10]) = outT x (takeL x.K x.W x.T x.m x.f x.a x.s (n : Int)) (lvT a1 a2 b1 b2 c1 c2) tNo := out_is eP eQ
  refine ⟨tx (outT x (takeL x.K x.W x.T x.m x.f x.a x.s (n : Int)) (lvT a1 a2 b1 b2 c1 c2) tNo), { fi := fun V => ?_, fs := fun V => ?_, run := fun V hb => ?_, r21 := fun V => ?_ }⟩
  ·refine (implFaces_any x.K x.W x.T x.m x.f x.a y1 F 1 V).mono fun e w' hr => ⟨hr.2.1 hR, hr.2.2⟩
  ·refine (specFaces_any x.K x.W x.T x.m x.f x.a y1 F 1 V).mono fun e w' hr => ⟨hr.2.1 hR, hr.2.2⟩
  ·refine (top_yes h5 hx hn hF hcy (by omega) (by omega) (by decide) V (ht.on hb)).mono ?_
   rintro e w' ⟨v', rfl, hl, hb'⟩
   obtain ⟨A1, e1, gb, go, e2, rfl, hs⟩ := sev_of hl
   exact ⟨A1, e1, gb, go, e2, rfl, hs, hb'⟩
  ·exact addL rfl rfl ho (by rw [← ho, List.length_append]; have : (tNo ++ [10]).length = 3 := rfl; omega) V
 ·left
  have hR' : facesR (x.to y1).K (x.to y1).W (x.to y1).T (x.to y1).m (x.to y1).f (x.to y1).a (x.to y1).s (F : Int) 1 = some ([(c : Int)], y) := hR
  have h5 := five_yes (z := (x.to y1).to y) hx hx1 (show x.to y1 = x.to (takeX x.K x.W x.T x.m x.f x.a x.s n) by rw [hy1]) h1 hn S' (roll_line hF hR') (car_roll hF (by omega) hR')
  have ld := dec_len (u := c) (by omega)
  have ho : t7L (Lib.decDigits p) (Lib.decDigits q) (takeL x.K x.W x.T x.m x.f x.a x.s (n : Int)) (fracR a1 a2) (fracR b1 b2) (fracR c1 c2) ++ (Lib.decDigits c ++ [10]) = outT x (takeL x.K x.W x.T x.m x.f x.a x.s (n : Int)) (lvT a1 a2 b1 b2 c1 c2) (Lib.decDigits c) := out_is eP eQ
  refine ⟨y, c, tx (Lib.decDigits c), tx (Lib.decDigits c ++ [10]), tx (outT x (takeL x.K x.W x.T x.m x.f x.a x.s (n : Int)) (lvT a1 a2 b1 b2 c1 c2) (Lib.decDigits c)), { dc := fun V hb => dec_p c (by omega) ht V hb, fi := fun V => ?_, fs := fun V => ?_, run := fun V hb => ?_, r21 := fun V => ?_, r22 := fun V => ?_ }⟩
  ·refine (implFaces_any x.K x.W x.T x.m x.f x.a y1 F 1 V).mono fun e w' hr => ?_
   obtain ⟨A, c0, he, hO⟩ := hr.1 _ _ hR
   obtain ⟨g, rfl, hg⟩ := one_of hO
   exact ⟨g, c0, he, hg, hr.2.2⟩
  ·refine (specFaces_any x.K x.W x.T x.m x.f x.a y1 F 1 V).mono fun e w' hr => ?_
   obtain ⟨A, c0, he, hO⟩ := hr.1 _ _ hR
   exact ⟨A, c0, he, hr.2.2⟩
  ·refine (top_yes h5 hx hn hF hcy (by omega) (by omega) (by omega) V (ht.on hb)).mono ?_
   rintro e w' ⟨v', rfl, hl, hb'⟩
   obtain ⟨A1, e1, gb, go, e2, rfl, hs⟩ := sev_of hl
   exact ⟨A1, e1, gb, go, e2, rfl, hs, hb'⟩
  ·exact addL rfl rfl rfl (by simp; omega) V
  ·exact addL rfl rfl ho (by rw [← ho, List.length_append, List.length_append]; simp; omega) V
set_option maxRecDepth 100000 in
theorem top_have {w : World} (ht : Tabs w) (K W T m f a s : Int) (hB : streamB K W T m f a s = true) (N0 F0 : Nat) (hN : N0 < 30) (hF : F0 < 16) : ∃ (y1 y2 o1 : Int) (a1 a2 b1 b2 j1 j2 p q nL : Nat) (tt ta tb pt qt nt ft at1 at2 at3 T1 T2 T3 T4 T5 T6 T7 A1 A2 A3 A4 A5 S1 S2 S3 S4 S5 S6 S7 S8 : ByteArray) (LIs : World → Value → Prop), TopS w K W T m f a s y1 y2 (1 + (N0 : Int)) (1 + (F0 : Int)) o1 a1 a2 b1 b2 j1 j2 p q nL tt ta tb pt qt nt ft at1 at2 at3 T1 T2 T3 T4 T5 T6 T7 A1 A2 A3 A4 A5 S1 S2 S3 S4 S5 S6 S7 S8 LIs ∧ ((∃ yz d dt R1 T8, TopY w K W T m f a y1 yz (1 + (F0 : Int)) d T7 S8 dt R1 T8) ∨ ∃ T8, TopN w K W T m f a y1 (1 + (F0 : Int)) T7 S8 T8) := by
 rw [show 1 + (N0 : Int) = ((N0 + 1 : Nat) : Int) by omega, show 1 + (F0 : Int) = ((F0 + 1 : Nat) : Int) by omega]
 have hx : (⟨K, W, T, m, f, a, s⟩ : St).ok = true := hB
 obtain ⟨p, q, hp, hq, hp2, hq1, hq2⟩ := cyc_in hx
 obtain ⟨a1, a2, b1, b2, c1, c2, S⟩ := six (s := tx (takeL K W T m f a (takeX K W T m f a s ((N0 + 1 : Nat) : Int)) ((N0 + 1 : Nat) : Int))) (n := N0 + 1) (by rw [size_tx, takeL_len]) (by omega) (by omega)
 exact ⟨_, _, _, _, _, _, _, _, _, _, _, _, _, _, _, _, _, _, _, _, _, _, _, _, _, _, _, _, _, _, _, _, _, _, _, _, _, _, _, _, _, _, _, top_S ht hx (by omega) (by omega) (by omega) (by omega) hp hq hp2 hq1 hq2 rfl rfl rfl S, top_Y ht hx (by omega) (by omega) (by omega) (by omega) hp hq hp2 hq1 hq2 rfl rfl S⟩
end Go.Proofs.YtgipnbeipfhekaaGreatDoor.TopC
namespace Go.Proofs.YtgipnbeipfhekaaGreatDoor.TopC
open Go.RowKit Go.Proofs.YtgipnbeipfhekaaGreatDoor Go.Proofs.YtgipnbeipfhekaaGreatDoor.Base Go.Proofs.YtgipnbeipfhekaaGreatDoor.Mem Go.Proofs.YtgipnbeipfhekaaGreatDoor.Dec Go.Proofs.YtgipnbeipfhekaaGreatDoor.Val Go.Proofs.YtgipnbeipfhekaaGreatDoor.Rd
set_option linter.unusedVariables false
theorem top_v {w : World} {v u : Value} (h : Open.IsBytes w v) (h' : Open.IsBytes w u) (hp : Pow w.heap.size w) (he : Errs w.heap.size w) (hm : MaxL w.heap.size w) : Calls Tryz.prog 3 #[v, u] w fun e w' => e = .returned (.bool true) ∧ Below w.heap.size w w' := by
 obtain ⟨A, c, zs, rfl, hl, hz, hx⟩ := h.ex
 obtain ⟨A', c', ys, rfl, hl', hz', hx'⟩ := h'.ex
 exact top_walk A A' c c' zs ys w (top_have ⟨hp, he, hm⟩) hx hx' hl hl' hz hz'
end Go.Proofs.YtgipnbeipfhekaaGreatDoor.TopC
namespace Go.Proofs.YtgipnbeipfhekaaGreatDoor.Frame
open Go.RowKit Go.WideShapes Go.ChangeShapes Go.Joins
set_option linter.unusedVariables false
theorem laidOut : laidOutB Tryz.prog = true := by kernel_rfl
theorem own : ownKnob Tryz.prog.godebug = none := by kernel_rfl
section
variable {H : Type} {enc : TypeId × Value → H} {P : Program}
theorem trodAll_below (hl : laidOutB P = true) {W W' : World} (hb : Below W.heap.size W W') :
  ∀ {ts : List TypeId} {vs : List Value} {ds : List (DataW H)} {ps : List MemPlace}, (ts.all fun t => P.readableRec t && decide (t < P.types.size)) = true →
   DataW.TrodAll enc P W 0 (fun _ => true) true ts vs ds ps → (∀ x ∈ ps, x.block < W.heap.size) → DataW.TrodAll enc P W' 0 (fun b => decide (b < W.heap.size)) true ts vs ds ps
 | [], vs, ds, ps, _, h, _ => by
  obtain ⟨rfl, rfl, rfl⟩ := trodAll_nil h
  exact trodAll_mk0
 | t :: ts, vs, ds, ps, hr, h, hlt => by
  simp only [List.all_cons, Bool.and_eq_true, decide_eq_true_eq] at hr
  obtain ⟨v, vs', d, ds', p, q, rfl, rfl, rfl, h0, h1⟩ := trodAll_cons h
  exact trodAll_cons_mk (Below.trod hl hr.1.1 hr.1.2 h0 hb fun x hx => hlt x (List.mem_append.2 (.inl hx))) (trodAll_below hl hb hr.2 h1 fun x hx => hlt x (List.mem_append.2 (.inr hx)))
theorem post_below {f : Func} {s : ChangeSpec} {apart fresh handsOn : Bool} {W W' : World} {args : Array Value} {v : Value} {ds : List (DataW H)} {before : List MemPlace}
  (hvars0 : s.vars = []) (hl : laidOutB P = true) (hr : (f.params.toList.all fun t => P.readableRec t && decide (t < P.types.size)) = true)
  (hW : DataW.Whole enc P f.params.toList s.vars apart W args.toList ds [] before)
  (hA : DataW.TrodAll enc P W 0 (fun _ => true) true f.params.toList args.toList ds before)
  (hargs : (s.fn H (ds ++ [])).args = ds) (hvars : (s.fn H (ds ++ [])).vars = [])
  (hres : ∀ (b : Nat) (sp : Nat → Bool) (hd : Bool), DataW.TrodAll enc P W' b sp hd f.resultTypes.toList (v.resultList f.resultTypes.size) (s.fn H (ds ++ [])).results [])
  (hb : Below W.heap.size W W') : s.post enc P f apart fresh handsOn false W args v W' := by
 have hlt : ∀ p ∈ before, p.block < W.heap.size := fun p hp => hW.lt p hp
 have hA' := trodAll_below (enc := enc) hl hb hr hA hlt
 refine ⟨ds, [], before, [], before, [], hW, hres _ _ _, ?_, ?_, World.keptBut_mono (fun p hp => ⟨hp, ?_⟩) (hb.frame (· ∈ before)), fun h => by cases h⟩
 ·rw [hargs]; exact hA'
 ·rw [hvars, hvars0]; exact rfl
 ·right; simpa using hp
end
end Go.Proofs.YtgipnbeipfhekaaGreatDoor.Frame
