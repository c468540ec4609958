/- Cards shuffled by a stream: the program. -/
import Derived.Test.YthagenodiofgnaaGreatDoorMgFnD20
import Derived.Test.YthagenodiofgnaaGreatDoorMgFnD17
import Derived.Test.YthagenodiofgnaaGreatDoorMgFnD13
import Derived.Test.YthagenodiofgnaaGreatDoorMgFnD10
import Derived.Test.YthagenodiofgnaaGreatDoorMgFnD14
import Derived.Test.YthagenodiofgnaaGreatDoorMgFnD09
namespace Go.Proofs.YthagenodiofgnaaGreatDoor.Face
open Go.RowKit Go.Proofs.YthagenodiofgnaaGreatDoor Go.Proofs.YthagenodiofgnaaGreatDoor.Base Go.Proofs.YthagenodiofgnaaGreatDoor.Mem Go.Proofs.YthagenodiofgnaaGreatDoor.Reg Go.Proofs.YthagenodiofgnaaGreatDoor.Str Go.Proofs.YthagenodiofgnaaGreatDoor.Take Go.Proofs.YthagenodiofgnaaGreatDoor.Skip Go.Proofs.YthagenodiofgnaaGreatDoor.Dice Go.Proofs.YthagenodiofgnaaGreatDoor.Shuf
set_option linter.unusedVariables false
set_option maxHeartbeats 2000000 in
set_option maxRecDepth 100000 in
theorem implOrder_yes {K W T m f a s : Int} (hB : streamB K W T m f a s = true) (n : Nat) (hn : 0 < n) (hn2 : n ≤ 12) (w : World) : Calls Tryz.prog 12 #[.agg #[.int .i64 K, .int .i64 W, .int .i64 T, .int .i64 m, .int .i64 f, .int .i64 a, .int .i64 s], .int .i64 (n : Int)] w (FsRet K W T m f a (ordOf n (ordA K W T m f a (n - 1) s [])) w) := by
 obtain ⟨W1, hW1, S, R, B⟩ := two w K W T m f a s
 obtain ⟨i0, hi, hz0, hz1, hz2⟩ := info_parts infoI
 have HI := Lib.hid (validStream_any K W T m f a s W1)
 rw [hB] at HI
 have HN := Lib.hid (fun w => isCards_any (n : Int) w)
 rw [inR_yes (n := (n : Int)) (lo := 1) (hi := 12) (by omega)] at HN
 have HF := Lib.hid (fun (j : Nat) (hj : j ≤ 12) s (h : streamB K W T m f a s = true) w => roll_any h (j + 2) (by omega) (by omega) w)
 have HSh := Lib.hid (fun ch A c B w hx hB hk => implShufBy_yes n ch A c B w hx hB hk)
 have hZ : W1.heap.size = w.heap.size + 2 := by rw [hW1]; simp
 generalize hA : ordA K W T m f a (n - 1) s [] = RR
 have HA := Lib.hid hA
 have HW := Lib.hid hW1
 have HS := Lib.hid S
 have HR := Lib.hid R
 have HB1 := Lib.hid B
 have HZ := Lib.hid hZ
 have HBs := Lib.hid hB
 clear hW1 S R B hB hA hZ
 go_enter Tryz.func12, Tryz.ntmps12
 go_wp2_with fail
 rw [← HW.out]
 refine HI.out.mono ?_
 rintro e w1 ⟨rfl, b1⟩
 have hsz : w.heap.size + 2 ≤ w1.heap.size := by have := b1.size; have := HZ.out; omega
 have t1 := HS.out.below b1 HS.out.lt
 have r1 := HR.out.below b1 HR.out.lt
 have BB := Lib.hid (HB1.out.trans (b1.mono HB1.out.size))
 have H0 : Hid (OrRel K W T m f a n RR w1.heap.size w.heap.size (w.heap.size + 1) w (.int .i64 ((n : Int) - 1)) (.slice (some ⟨w1.heap.size, 0, none⟩) 0 0) (w1.alloc (.cells #[] 2))) := Lib.hid (by
  have q := own_lit (B := w1.heap.size) w1 (Nat.le_refl _) [] (by simp)
  have bx := (Below.refl w1.heap.size w1).alloc (Nat.le_refl _) (.cells #[] 2)
  exact ⟨n - 1, [], s, by congr 1; omega, by simp; omega, fun j hj => absurd hj (Nat.not_lt_zero j), by simp, Lib.hid q, Lib.hid (t1.below bx t1.lt), Lib.hid (r1.below bx r1.lt), HBs, HA, Lib.hid (BB.out.trans (bx.mono BB.out.size))⟩)
 have hlw : w.heap.size < w1.heap.size := by omega
 have c0 := (t1).c0; have c1 := (t1).c1; have c2 := (t1).c2; have c3 := (t1).c3; have c4 := (t1).c4; have c5 := (t1).c5; have c6 := (t1).c6
 clear b1 t1 r1
 go_wp2_with fail
 refine (HN.out _).mono ?_
 rintro e w' ⟨rfl, rfl⟩
 go_wp2
 go_loopw [8, 7] (fun cv ov wr => OrRel K W T m f a n RR w1.heap.size w.heap.size (w.heap.size + 1) w cv ov wr) (fun cv _ _ => (intOf cv).toNat)
 case atStart => exact H0.out
 case round =>
  obtain ⟨k, L, sc, rfl, hkL, hok, hBw, HO, HX, HZb, HBc, HAc, HBl⟩ := hrel
  clear H0 c0 c1 c2 c3 c4 c5 c6
  have hzb := HZb.out.lt
  have hxb := HX.out.lt
  by_cases hk : 0 < k
  ·obtain ⟨j, rfl⟩ : ∃ j, k = j + 1 := ⟨k - 1, by omega⟩
   have HFs := Lib.hid (fun w => HF.out j (by omega) sc HBc.out w)
   have hcast : ((j + 2 : Nat) : Int) = (j : Int) + 1 + 1 := by omega
   rw [hcast] at HFs
   clear hcast
   have x0 := (HX.out).c0; have x1 := (HX.out).c1; have x2 := (HX.out).c2; have x3 := (HX.out).c3; have x4 := (HX.out).c4; have x5 := (HX.out).c5; have x6 := (HX.out).c6
   cases hr : faceR K W T m f a sc (j + 2) (by omega) with
   | none =>
    rw [hr] at HFs
    have HFn := Lib.hid (fun w => (HFs.out w).mono fun e w' h => (show e = .returned (.tuple #[.int .i64 0, .agg #[.int .i64 0, .int .i64 0, .int .i64 0, .int .i64 0, .int .i64 0, .int .i64 0, .int .i64 0], .bool false]) ∧ Below w.heap.size w w' from ⟨h.2.1 rfl, h.2.2⟩))
    have HNo := Lib.hid ((ordA_none (k := j) (L := L) hr).symm.trans HAc.out).symm
    clear hr HFs
    go_wp2_with fail
    refine (HFn.out _).mono ?_
    rintro e w2 ⟨rfl, b2⟩
    have hz3 : w.heap.size + 1 < w2.heap.size := by have := b2.size; omega
    have RY := HZb.out.below b2 HZb.out.lt
    have BB3 := Lib.hid (HBl.out.trans (b2.mono HBl.out.size))
    clear b2 x0 x1 x2 x3 x4 x5 x6
    have d0 := (RY).c0; have d1 := (RY).c1; have d2 := (RY).c2; have d3 := (RY).c3; have d4 := (RY).c4; have d5 := (RY).c5; have d6 := (RY).c6
    have g0 := (RY).frz 0; have g1 := (RY).frz 1; have g2 := (RY).frz 2; have g3 := (RY).frz 3; have g4 := (RY).frz 4; have g5 := (RY).frz 5; have g6 := (RY).frz 6
    have S8 := (RY.set7 0 0 0 0 0 0 0).below ((Below.refl _ _).alloc (Nat.le_refl _) (.cells #[.int .i64 0, .int .i64 0, .int .i64 0, .int .i64 0, .int .i64 0, .int .i64 0, .int .i64 0] 29)) (RY.set7 0 0 0 0 0 0 0).lt
    have p0 := (S8).c0; have p1 := (S8).c1; have p2 := (S8).c2; have p3 := (S8).c3; have p4 := (S8).c4; have p5 := (S8).c5; have p6 := (S8).c6
    simp only [set7] at p0 p1 p2 p3 p4 p5 p6
    have hs7 := (grown_set7 w2 (w.heap.size + 1) 0 0 0 0 0 0 0).size
    have HBN := Lib.hid ((below_set7 (b := w.heap.size + 1) BB3.out (Nat.le_succ _) BB3.out.size 0 0 0 0 0 0 0).alloc (Nat.le_trans BB3.out.size hs7) (.cells #[.int .i64 0, .int .i64 0, .int .i64 0, .int .i64 0, .int .i64 0, .int .i64 0, .int .i64 0] 29))
    clear S8 RY hs7
    go_wp2
    exact bodyPost_ret (v := .tuple #[.slice none 0 0, .agg #[.int .i64 0, .int .i64 0, .int .i64 0, .int .i64 0, .int .i64 0, .int .i64 0, .int .i64 0], .bool false]) (by simp [results, Tryz.results12, go_sem, p0, p1, p2, p3, p4, p5, p6]) rfl (FsRet.no (by rw [HNo.out]; rfl) rfl HBN.out)
   | some p =>
    obtain ⟨cf, uf⟩ := p
    rw [hr] at HFs
    have HFn := Lib.hid (fun w => (HFs.out w).mono fun e w' h => (show e = .returned (.tuple #[.int .i64 (cf : Int), .agg #[.int .i64 K, .int .i64 W, .int .i64 T, .int .i64 m, .int .i64 f, .int .i64 a, .int .i64 (takeX K W T m f a sc (uf : Int))], .bool true]) ∧ Below w.heap.size w w' from ⟨h.1 cf uf rfl, h.2.2⟩))
    have HA2 := Lib.hid ((ordA_some (k := j) (L := L) hr).symm.trans HAc.out)
    have HB2 := Lib.hid (streamB_takeX (c := (uf : Int)) HBc.out)
    have hcf := (faceR_bd (by omega) hr).1
    clear hr HFs
    obtain ⟨x, hx⟩ : ∃ x, takeX K W T m f a sc (uf : Int) = x := ⟨_, rfl⟩
    rw [hx] at HFn HA2 HB2
    clear hx
    go_wp2_with fail
    refine (HFn.out _).mono ?_
    rintro e w2 ⟨rfl, b2⟩
    clear x0 x1 x2 x3 x4 x5 x6
    obtain ⟨w4, hw4⟩ : ∃ w4, w4 = w2.alloc (.cells #[.int .i64 K, .int .i64 W, .int .i64 T, .int .i64 m, .int .i64 f, .int .i64 a, .int .i64 x] 29) := ⟨_, rfl⟩
    have bz : Below w2.heap.size w2 w4 := by rw [hw4]; exact (Below.refl _ _).alloc (Nat.le_refl _) _
    have U0 : SBox w4 w2.heap.size K W T m f a x := by rw [hw4]; exact SBox.new _ _ _ _ _ _ _ _
    have bo := Base.Below.nextA b2 bz
    have ba : Below w4.heap.size w4 (w4.alloc (.cells #[.int .i64 (cf : Int)] 2)).drew := ((Below.refl _ _).alloc (Nat.le_refl _) _).drew
    have b4 := Base.Below.nextA bo ba
    have hown := ownsRow_below HO.out (Base.Below.nextA bo ((Below.refl w4.heap.size w4).alloc (Nat.le_refl _) (.cells #[.int .i64 (cf : Int)] 2)))
    have HWn := Lib.hid hown
    have HU := Lib.hid (U0.below ba U0.lt)
    have HB4 := Lib.hid b4
    have HW4 := Lib.hid hw4
    have hlz2 : w1.heap.size < w4.heap.size := by have := b2.size; have := U0.lt; omega
    have hlz4 : w2.heap.size < w4.heap.size := U0.lt
    have x0 := U0.c0
    have x1 := U0.c1
    have x2 := U0.c2
    have x3 := U0.c3
    have x4 := U0.c4
    have x5 := U0.c5
    have x6 := U0.c6
    clear b2 bz ba b4 bo hown U0 hw4
    go_wp2_with fail
    rw [← HW4.out]
    go_region_law ((refine step_append_lies _ (by rfl) _ _ _ (by rfl) w1.heap.size 2 i0 _ 1 8 Tryz.underlying32 hi hz0 hz1 hz2 rfl (by omega) u7 L.length _ (by rfl) ((HWn.out).drew) ⟨w4.heap.size, 0, none⟩ 1 1 [.int .i64 (cf : Int)] (by rfl) (by rfl) (World.news_of_block (cs := #[.int .i64 (cf : Int)]) (t := 2) (fr := (0, 0)) (heap_alloc_new w4 _)) one_int (by omega) (by simp only [maxLen]; omega) (by omega) (by first | omega | (simp; omega)) (w4.heap.size + 1) (by simp) ?_; intro gg cap w5 hown' hg' hat hlt2; have HN := Lib.hid (faces_next (c := (cf : Int)) (s2 := x) HO.out HX.out HZb.out (by omega) (by omega) (by omega) HBl.out HB4.out hown' hg'); have hsz5 : w1.heap.size ≤ (set7 w5 w.heap.size K W T m f a x).heap.size := Nat.le_trans (Nat.le_trans (Nat.le_of_lt hlz2) (Nat.le_trans (by simp) hg'.size)) (grown_set7 w5 w.heap.size K W T m f a x).size; have HSZ5 := Lib.hid hsz5; clear hsz5; have q := HN.out.2.2.2.2.1; have qn := HU.out.kept hg' (own_not_str (HWn.out).drew HU.out); have y0 := (q).c0; have y1 := (q).c1; have y2 := (q).c2; have y3 := (q).c3; have y4 := (q).c4; have y5 := (q).c5; have y6 := (q).c6; have z0 := (q).frz 0; have z1 := (q).frz 1; have z2 := (q).frz 2; have z3 := (q).frz 3; have z4 := (q).frz 4; have z5 := (q).frz 5; have z6 := (q).frz 6; have v0 := (qn).c0; have v1 := (qn).c1; have v2 := (qn).c2; have v3 := (qn).c3; have v4 := (qn).c4; have v5 := (qn).c5; have v6 := (qn).c6; clear hown' hg' hat q qn))
    all_goals
     go_wp2
     go_roundw
     case rel => exact ⟨j, L ++ [(cf : Int)], x, by go_num, by simp; omega, okTo_snoc hok (by omega), HSZ5.out, Lib.hid HN.out.1, Lib.hid HN.out.2.1, Lib.hid HN.out.2.2.1, HB2, HA2, Lib.hid HN.out.2.2.2.1⟩
     case measure => simp [intOf]
  ·obtain rfl : k = 0 := by omega
   obtain ⟨A, cp, eA, _⟩ := HO.out.form
   subst eA
   have HAe := Lib.hid (show RR = some (L, sc) from by rw [← HAc.out]; rfl)
   have HSx := Lib.hid (HSh.out L A cp wr.heap.size wr HO.out.rd (Nat.le_refl _) ⟨by omega, by omega, hok⟩)
   have HOk := Lib.hid hok
   clear hok
   go_wp2_with fail
   refine HSx.out.mono ?_
   rintro e w5 ⟨A5, c5, rfl, o5, b5⟩
   have X5 := HX.out.below b5 HX.out.lt
   have Z5 := HZb.out.below b5 HZb.out.lt
   have O5 := Lib.hid o5
   have hlen := shufTo_len n L L.length
   have x0 := (X5).c0; have x1 := (X5).c1; have x2 := (X5).c2; have x3 := (X5).c3; have x4 := (X5).c4; have x5 := (X5).c5; have x6 := (X5).c6
   have h0 := (Z5).c0; have h1 := (Z5).c1; have h2 := (Z5).c2; have h3 := (Z5).c3; have h4 := (Z5).c4; have h5 := (Z5).c5; have h6 := (Z5).c6
   have g0 := (Z5).frz 0; have g1 := (Z5).frz 1; have g2 := (Z5).frz 2; have g3 := (Z5).frz 3; have g4 := (Z5).frz 4; have g5 := (Z5).frz 5; have g6 := (Z5).frz 6
   have S8 := Z5.set7 K W T m f a sc
   have p0 := (S8).c0; have p1 := (S8).c1; have p2 := (S8).c2; have p3 := (S8).c3; have p4 := (S8).c4; have p5 := (S8).c5; have p6 := (S8).c6
   simp only [set7] at p0 p1 p2 p3 p4 p5 p6
   have BB5 := Lib.hid (HBl.out.trans (b5.mono HBl.out.size))
   have B7 := Lib.hid (BB5.out.trans (grown_below (grown_set7 w5 (w.heap.size + 1) K W T m f a sc) (fun g e => by cases e; exact Nat.le_succ _) BB5.out.size))
   have o5' : w5.ownsRow wr.heap.size 2 1 (.slice A5 n c5) n (ints (shufTo n L L.length)) := by have := o5; unfold OwnI at this; rw [hlen] at this; exact this
   have O7 := Lib.hid (own_set7 o5' Z5 K W T m f a sc)
   have HLe := Lib.hid hlen
   have mixed : Tryz.prog.follows .mixedOrders = true := by kernel_rfl
   clear S8 X5 Z5 b5 o5 o5' hlen
   go_wp2_with fail
   go_region_o
   all_goals
    go_wp2
    refine bodyPost_ret (v := .tuple #[.slice A5 n c5, .agg #[.int .i64 K, .int .i64 W, .int .i64 T, .int .i64 m, .int .i64 f, .int .i64 a, .int .i64 sc], .bool true]) (by simp [results, Tryz.results12, go_sem, p0, p1, p2, p3, p4, p5, p6]) rfl (FsRet.yes (L := shufTo n L L.length) (s' := sc) (A := A5) (c := c5) (by rw [HAe.out]; rfl) (by rw [HLe.out]) ?_ (Below.drew B7.out))
    unfold OwnI
    rw [HLe.out]
    exact ownsRow_base (ownsRow_below O7.out ((Below.refl _ _).drew)) (by omega)
end Go.Proofs.YthagenodiofgnaaGreatDoor.Face
namespace Go.Proofs.YthagenodiofgnaaGreatDoor.Face
open Go.RowKit Go.Proofs.YthagenodiofgnaaGreatDoor Go.Proofs.YthagenodiofgnaaGreatDoor.Base Go.Proofs.YthagenodiofgnaaGreatDoor.Mem Go.Proofs.YthagenodiofgnaaGreatDoor.Reg Go.Proofs.YthagenodiofgnaaGreatDoor.Str Go.Proofs.YthagenodiofgnaaGreatDoor.Take Go.Proofs.YthagenodiofgnaaGreatDoor.Skip Go.Proofs.YthagenodiofgnaaGreatDoor.Dice Go.Proofs.YthagenodiofgnaaGreatDoor.Shuf
set_option linter.unusedVariables false
end Go.Proofs.YthagenodiofgnaaGreatDoor.Face
namespace Go.Proofs.YthagenodiofgnaaGreatDoor.Face
open Go.RowKit Go.Proofs.YthagenodiofgnaaGreatDoor Go.Proofs.YthagenodiofgnaaGreatDoor.Base Go.Proofs.YthagenodiofgnaaGreatDoor.Mem Go.Proofs.YthagenodiofgnaaGreatDoor.Reg Go.Proofs.YthagenodiofgnaaGreatDoor.Str Go.Proofs.YthagenodiofgnaaGreatDoor.Take Go.Proofs.YthagenodiofgnaaGreatDoor.Skip Go.Proofs.YthagenodiofgnaaGreatDoor.Dice Go.Proofs.YthagenodiofgnaaGreatDoor.Shuf
set_option linter.unusedVariables false
end Go.Proofs.YthagenodiofgnaaGreatDoor.Face
namespace Go.Proofs.YthagenodiofgnaaGreatDoor.Face
open Go.RowKit Go.Proofs.YthagenodiofgnaaGreatDoor Go.Proofs.YthagenodiofgnaaGreatDoor.Base Go.Proofs.YthagenodiofgnaaGreatDoor.Mem Go.Proofs.YthagenodiofgnaaGreatDoor.Reg Go.Proofs.YthagenodiofgnaaGreatDoor.Str Go.Proofs.YthagenodiofgnaaGreatDoor.Take Go.Proofs.YthagenodiofgnaaGreatDoor.Skip Go.Proofs.YthagenodiofgnaaGreatDoor.Dice
set_option linter.unusedVariables false
end Go.Proofs.YthagenodiofgnaaGreatDoor.Face
namespace Go.Proofs.YthagenodiofgnaaGreatDoor.ApartM
open Go.Proofs.YthagenodiofgnaaGreatDoor Go.Proofs.YthagenodiofgnaaGreatDoor.Base Go.Proofs.YthagenodiofgnaaGreatDoor.Str Go.Proofs.YthagenodiofgnaaGreatDoor.CycM Go.Proofs.YthagenodiofgnaaGreatDoor.Take
set_option linter.unusedVariables false
end Go.Proofs.YthagenodiofgnaaGreatDoor.ApartM
namespace Go.Proofs.YthagenodiofgnaaGreatDoor.Str
open Go.RowKit Go.Proofs.YthagenodiofgnaaGreatDoor Go.Proofs.YthagenodiofgnaaGreatDoor.Base
set_option linter.unusedVariables false
end Go.Proofs.YthagenodiofgnaaGreatDoor.Str
namespace Go.Proofs.YthagenodiofgnaaGreatDoor.ApartL
open Go.RowKit Go.Proofs.YthagenodiofgnaaGreatDoor Go.Proofs.YthagenodiofgnaaGreatDoor.Base Go.Proofs.YthagenodiofgnaaGreatDoor.Mem Go.Proofs.YthagenodiofgnaaGreatDoor.Str Go.Proofs.YthagenodiofgnaaGreatDoor.Take Go.Proofs.YthagenodiofgnaaGreatDoor.Skip Go.Proofs.YthagenodiofgnaaGreatDoor.CycM Go.Proofs.YthagenodiofgnaaGreatDoor.ApartM
set_option linter.unusedVariables false
def AtRet (n : Int) (w : World) (e : Ending) (w' : World) : Prop := ∃ r : Int, 0 ≤ r ∧ r < n ∧ e = .returned (.int .i64 r) ∧ w = w'
theorem b10At_any (A : Option Addr) (c B : Nat) (zs : List Int) (i n : Int) (w : World) (hz : ∀ z ∈ zs, 0 ≤ z ∧ z ≤ 255) (hl : zs.length ≤ 9223372036854775807) (hr : RdB w B A zs) (hi : i = 0 ∨ i = 1) (hn : 2 ≤ n) :
  Calls Tryz.prog 6 #[.slice A zs.length c, .int .i64 i, .int .i64 n] w (AtRet n w) := by
 by_cases h2 : (zs.length : Int) ≤ i
 ·have q0 : 0 ≤ (i * 37 + 11) % n := Int.emod_nonneg _ (by omega)
  have q1 : (i * 37 + 11) % n < n := Int.emod_lt_of_pos _ (by omega)
  clear hr hz
  rcases hi with rfl | rfl
  all_goals
   simp only [Int.zero_mul, Int.one_mul, Int.zero_add, Int.reduceAdd] at q0 q1
   go_enter Tryz.func6, Tryz.ntmps6
   go_wp2
   go_ret
   exact ⟨_, q0, q1, rfl, rfl⟩
 ·obtain ⟨j, rfl⟩ := Int.eq_ofNat_of_zero_le (show 0 ≤ i by omega)
  have h3 : j < zs.length := by omega
  obtain ⟨b, off, rfl, _, hc⟩ := hr (by omega)
  have g := hc j h3
  have hm := hz (zs.getD j 0) (by simp [List.getD, h3])
  obtain ⟨m1, m2⟩ := hm
  clear hc hr hz
  generalize zs.getD j 0 = z at *
  have hq0 : 0 ≤ z % n := Int.emod_nonneg _ (by omega)
  have hq1 : z % n < n := Int.emod_lt_of_pos _ (by omega)
  have hj : (j : Int) ≤ 1 := by omega
  clear hi
  go_enter Tryz.func6, Tryz.ntmps6
  go_wp2
  go_ret
  exact ⟨_, hq0, hq1, rfl, rfl⟩
end Go.Proofs.YthagenodiofgnaaGreatDoor.ApartL
