/- Numbers drawn from a stream one after another, of the program. -/
import Derived.Test.YthagenodiofgnaaGreatDoorMgFnD17
import Derived.Deep.RegionLaw
import Derived.Deep.AppendLies
import Derived.Test.YthagenodiofgnaaGreatDoorMgFnD09
import Derived.Deep.RegionHeld3
namespace Go.Proofs.YthagenodiofgnaaGreatDoor.Face
open Go.RowKit Go.Proofs.YthagenodiofgnaaGreatDoor Go.Proofs.YthagenodiofgnaaGreatDoor.Base Go.Proofs.YthagenodiofgnaaGreatDoor.Mem Go.Proofs.YthagenodiofgnaaGreatDoor.Reg Go.Proofs.YthagenodiofgnaaGreatDoor.Str Go.Proofs.YthagenodiofgnaaGreatDoor.Take Go.Proofs.YthagenodiofgnaaGreatDoor.Skip Go.Proofs.YthagenodiofgnaaGreatDoor.Dice
set_option linter.unusedVariables false
def FsRelI (K W T m f a : Int) (n : Nat) (hn : 0 < n) (R : Option (List Int × Int)) (C B bx bz : Nat) (w : World) (iv ov : Value) (wr : World) : Prop :=
 ∃ (j k : Nat) (L : List Int) (s : Int), iv = .int .i64 (j : Int) ∧ j + k = C ∧ L.length + k ≤ 40 ∧ B ≤ wr.heap.size ∧ Hid (OwnI wr B ov L) ∧ Hid (SBox wr bx K W T m f a s) ∧ Hid (SBox wr bz 0 0 0 0 0 0 0) ∧ Hid (streamB K W T m f a s = true) ∧ Hid (facesA K W T m f a n hn k s L = R) ∧ Hid (Below w.heap.size w wr)
set_option maxHeartbeats 2000000 in
set_option maxRecDepth 100000 in
theorem implFaces_yes {K W T m f a s : Int} (hB : streamB K W T m f a s = true) (n c : Nat) (hn : 0 < n) (hn2 : n ≤ 16) (hc : c ≤ 40) (w : World) : Calls Tryz.prog 7 #[.agg #[.int .i64 K, .int .i64 W, .int .i64 T, .int .i64 m, .int .i64 f, .int .i64 a, .int .i64 s], .int .i64 (n : Int), .int .i64 (c : Int)] w (FsRet K W T m f a (facesA K W T m f a n hn c s []) w) := by
 obtain ⟨W1, hW1, S, R, B⟩ := two w K W T m f a s
 obtain ⟨i0, hi, hz0, hz1, hz2⟩ := info_parts infoI
 have HI := Lib.hid (validStream_any K W T m f a s W1)
 rw [hB] at HI
 have HN := Lib.hid (fun w => inRange_any (n : Int) 1 16 w)
 rw [inR_yes (n := (n : Int)) (lo := 1) (hi := 16) (by omega)] at HN
 have HC := Lib.hid (fun w => inRange_any (c : Int) 0 40 w)
 rw [inR_yes (n := (c : Int)) (lo := 0) (hi := 40) (by omega)] at HC
 have HF := Lib.hid (fun s (h : streamB K W T m f a s = true) w => roll_any h n hn (by omega) w)
 have hZ : W1.heap.size = w.heap.size + 2 := by rw [hW1]; simp
 generalize hA : facesA K W T m f a n hn c s [] = RR
 have HA := Lib.hid hA
 have HW := Lib.hid hW1
 have HS := Lib.hid S
 have HR := Lib.hid R
 have HB1 := Lib.hid B
 have HZ := Lib.hid hZ
 have HBs := Lib.hid hB
 clear hW1 S R B hB hA hZ
 go_enter Tryz.func7, Tryz.ntmps7
 go_wp2_with fail
 rw [← HW.out]
 refine HI.out.mono ?_
 rintro e w1 ⟨rfl, b1⟩
 have hsz : w.heap.size + 2 ≤ w1.heap.size := by have := b1.size; have := HZ.out; omega
 have t1 := HS.out.below b1 HS.out.lt
 have r1 := HR.out.below b1 HR.out.lt
 have BB := Lib.hid (HB1.out.trans (b1.mono HB1.out.size))
 have H0 : Hid (FsRelI K W T m f a n hn RR c w1.heap.size w.heap.size (w.heap.size + 1) w (.int .i64 0) (.slice (some ⟨w1.heap.size, 0, none⟩) 0 0) (w1.alloc (.cells #[] 2))) := Lib.hid (by
  have q := own_lit (B := w1.heap.size) w1 (Nat.le_refl _) [] (by simp)
  have bx := (Below.refl w1.heap.size w1).alloc (Nat.le_refl _) (.cells #[] 2)
  exact ⟨0, c, [], s, rfl, by omega, by simpa using hc, by simp, Lib.hid q, Lib.hid (t1.below bx t1.lt), Lib.hid (r1.below bx r1.lt), HBs, HA, Lib.hid (BB.out.trans (bx.mono BB.out.size))⟩)
 have hlw : w.heap.size < w1.heap.size := by omega
 have c0 := (t1).c0; have c1 := (t1).c1; have c2 := (t1).c2; have c3 := (t1).c3; have c4 := (t1).c4; have c5 := (t1).c5; have c6 := (t1).c6
 clear b1 t1 r1
 go_wp2_with fail
 refine (HN.out _).mono ?_
 rintro e w' ⟨rfl, rfl⟩
 go_wp2_with fail
 refine (HC.out _).mono ?_
 rintro e w' ⟨rfl, rfl⟩
 go_wp2
 go_loopw [29, 9] (fun iv ov wr => FsRelI K W T m f a n hn RR c w1.heap.size w.heap.size (w.heap.size + 1) w iv ov wr) (fun iv _ _ => c - (intOf iv).toNat)
 case atStart => exact H0.out
 case round =>
  obtain ⟨i, k, L, sc, rfl, hik, hkL, hBw, HO, HX, HZb, HBc, HAc, HBl⟩ := hrel
  clear H0 c0 c1 c2 c3 c4 c5 c6
  have hzb := HZb.out.lt
  have hxb := HX.out.lt
  by_cases hk : 0 < k
  ·obtain ⟨j, rfl⟩ : ∃ j, k = j + 1 := ⟨k - 1, by omega⟩
   have HFs := Lib.hid (fun w => HF.out sc HBc.out w)
   have x0 := (HX.out).c0; have x1 := (HX.out).c1; have x2 := (HX.out).c2; have x3 := (HX.out).c3; have x4 := (HX.out).c4; have x5 := (HX.out).c5; have x6 := (HX.out).c6
   cases hr : faceR K W T m f a sc n hn with
   | none =>
    rw [hr] at HFs
    have HFn := Lib.hid (fun w => (HFs.out w).mono fun e w' h => (show e = .returned (.tuple #[.int .i64 0, .agg #[.int .i64 0, .int .i64 0, .int .i64 0, .int .i64 0, .int .i64 0, .int .i64 0, .int .i64 0], .bool false]) ∧ Below w.heap.size w w' from ⟨h.2.1 rfl, h.2.2⟩))
    have HNo := Lib.hid ((facesA_none (k := j) (L := L) hr).symm.trans HAc.out).symm
    clear hr HFs
    go_wp2_with fail
    refine (HFn.out _).mono ?_
    rintro e w2 ⟨rfl, b2⟩
    have hz3 : w.heap.size + 1 < w2.heap.size := by have := b2.size; omega
    have RY := HZb.out.below b2 HZb.out.lt
    have BB3 := Lib.hid (HBl.out.trans (b2.mono HBl.out.size))
    clear b2 x0 x1 x2 x3 x4 x5 x6
    have d0 := (RY).c0; have d1 := (RY).c1; have d2 := (RY).c2; have d3 := (RY).c3; have d4 := (RY).c4; have d5 := (RY).c5; have d6 := (RY).c6
    have g0 := (RY).frz 0; have g1 := (RY).frz 1; have g2 := (RY).frz 2; have g3 := (RY).frz 3; have g4 := (RY).frz 4; have g5 := (RY).frz 5; have g6 := (RY).frz 6
    have S8 := (RY.set7 0 0 0 0 0 0 0).below ((Below.refl _ _).alloc (Nat.le_refl _) (.cells #[.int .i64 0, .int .i64 0, .int .i64 0, .int .i64 0, .int .i64 0, .int .i64 0, .int .i64 0] 29)) (RY.set7 0 0 0 0 0 0 0).lt
    have p0 := (S8).c0; have p1 := (S8).c1; have p2 := (S8).c2; have p3 := (S8).c3; have p4 := (S8).c4; have p5 := (S8).c5; have p6 := (S8).c6
    simp only [set7] at p0 p1 p2 p3 p4 p5 p6
    have hs7 := (grown_set7 w2 (w.heap.size + 1) 0 0 0 0 0 0 0).size
    have HBN := Lib.hid ((below_set7 (b := w.heap.size + 1) BB3.out (Nat.le_succ _) BB3.out.size 0 0 0 0 0 0 0).alloc (Nat.le_trans BB3.out.size hs7) (.cells #[.int .i64 0, .int .i64 0, .int .i64 0, .int .i64 0, .int .i64 0, .int .i64 0, .int .i64 0] 29))
    clear S8 RY hs7
    go_wp2
    exact bodyPost_ret (v := .tuple #[.slice none 0 0, .agg #[.int .i64 0, .int .i64 0, .int .i64 0, .int .i64 0, .int .i64 0, .int .i64 0, .int .i64 0], .bool false]) (by simp [results, Tryz.results7, go_sem, p0, p1, p2, p3, p4, p5, p6]) rfl (FsRet.no HNo.out rfl HBN.out)
   | some p =>
    obtain ⟨cf, uf⟩ := p
    rw [hr] at HFs
    have HFn := Lib.hid (fun w => (HFs.out w).mono fun e w' h => (show e = .returned (.tuple #[.int .i64 (cf : Int), .agg #[.int .i64 K, .int .i64 W, .int .i64 T, .int .i64 m, .int .i64 f, .int .i64 a, .int .i64 (takeX K W T m f a sc (uf : Int))], .bool true]) ∧ Below w.heap.size w w' from ⟨h.1 cf uf rfl, h.2.2⟩))
    have HA2 := Lib.hid ((facesA_some (k := j) (L := L) hr).symm.trans HAc.out)
    have HB2 := Lib.hid (streamB_takeX (c := (uf : Int)) HBc.out)
    clear hr HFs
    obtain ⟨x, hx⟩ : ∃ x, takeX K W T m f a sc (uf : Int) = x := ⟨_, rfl⟩
    rw [hx] at HFn HA2 HB2
    clear hx
    go_wp2_with fail
    refine (HFn.out _).mono ?_
    rintro e w2 ⟨rfl, b2⟩
    clear x0 x1 x2 x3 x4 x5 x6
    obtain ⟨w4, hw4⟩ : ∃ w4, w4 = w2.alloc (.cells #[.int .i64 K, .int .i64 W, .int .i64 T, .int .i64 m, .int .i64 f, .int .i64 a, .int .i64 x] 29) := ⟨_, rfl⟩
    have bz : Below w2.heap.size w2 w4 := by rw [hw4]; exact (Below.refl _ _).alloc (Nat.le_refl _) _
    have U0 : SBox w4 w2.heap.size K W T m f a x := by rw [hw4]; exact SBox.new _ _ _ _ _ _ _ _
    have bo := Base.Below.nextA b2 bz
    have ba : Below w4.heap.size w4 (w4.alloc (.cells #[.int .i64 (cf : Int)] 2)).drew := ((Below.refl _ _).alloc (Nat.le_refl _) _).drew
    have b4 := Base.Below.nextA bo ba
    have hown := ownsRow_below HO.out (Base.Below.nextA bo ((Below.refl w4.heap.size w4).alloc (Nat.le_refl _) (.cells #[.int .i64 (cf : Int)] 2)))
    have HWn := Lib.hid hown
    have HU := Lib.hid (U0.below ba U0.lt)
    have HB4 := Lib.hid b4
    have HW4 := Lib.hid hw4
    have hlz2 : w1.heap.size < w4.heap.size := by have := b2.size; have := U0.lt; omega
    have hlz4 : w2.heap.size < w4.heap.size := U0.lt
    have x0 := U0.c0
    have x1 := U0.c1
    have x2 := U0.c2
    have x3 := U0.c3
    have x4 := U0.c4
    have x5 := U0.c5
    have x6 := U0.c6
    clear b2 bz ba b4 bo hown U0 hw4
    go_wp2_with fail
    rw [← HW4.out]
    go_region_law ((refine step_append_lies _ (by rfl) _ _ _ (by rfl) w1.heap.size 2 i0 _ 1 8 Tryz.underlying32 hi hz0 hz1 hz2 rfl (by omega) u9 L.length _ (by rfl) ((HWn.out).drew) ⟨w4.heap.size, 0, none⟩ 1 1 [.int .i64 (cf : Int)] (by rfl) (by rfl) (World.news_of_block (cs := #[.int .i64 (cf : Int)]) (t := 2) (fr := (0, 0)) (heap_alloc_new w4 _)) one_int (by omega) (by simp only [maxLen]; omega) (by omega) (by first | omega | (simp; omega)) (w4.heap.size + 1) (by simp) ?_; intro gg cap w5 hown' hg' hat hlt2; have HN := Lib.hid (faces_next (c := (cf : Int)) (s2 := x) HO.out HX.out HZb.out (by omega) (by omega) (by omega) HBl.out HB4.out hown' hg'); have hsz5 : w1.heap.size ≤ (set7 w5 w.heap.size K W T m f a x).heap.size := Nat.le_trans (Nat.le_trans (Nat.le_of_lt hlz2) (Nat.le_trans (by simp) hg'.size)) (grown_set7 w5 w.heap.size K W T m f a x).size; have HSZ5 := Lib.hid hsz5; clear hsz5; have q := HN.out.2.2.2.2.1; have qn := HU.out.kept hg' (own_not_str (HWn.out).drew HU.out); have y0 := (q).c0; have y1 := (q).c1; have y2 := (q).c2; have y3 := (q).c3; have y4 := (q).c4; have y5 := (q).c5; have y6 := (q).c6; have z0 := (q).frz 0; have z1 := (q).frz 1; have z2 := (q).frz 2; have z3 := (q).frz 3; have z4 := (q).frz 4; have z5 := (q).frz 5; have z6 := (q).frz 6; have v0 := (qn).c0; have v1 := (qn).c1; have v2 := (qn).c2; have v3 := (qn).c3; have v4 := (qn).c4; have v5 := (qn).c5; have v6 := (qn).c6; clear hown' hg' hat q qn))
    all_goals
     go_wp2
     go_roundw
     case rel => exact ⟨i + 1, j, L ++ [(cf : Int)], x, by go_num, by omega, by simp; omega, HSZ5.out, Lib.hid HN.out.1, Lib.hid HN.out.2.1, Lib.hid HN.out.2.2.1, HB2, HA2, Lib.hid HN.out.2.2.2.1⟩
     case measure => simp [intOf]; omega
  ·obtain rfl : k = 0 := by omega
   obtain rfl : i = c := by omega
   obtain ⟨A, cp, eA, _⟩ := HO.out.form
   subst eA
   have HAe := Lib.hid (show RR = some (L, sc) from by rw [← HAc.out]; rfl)
   have x0 := (HX.out).c0; have x1 := (HX.out).c1; have x2 := (HX.out).c2; have x3 := (HX.out).c3; have x4 := (HX.out).c4; have x5 := (HX.out).c5; have x6 := (HX.out).c6
   have h0 := (HZb.out).c0; have h1 := (HZb.out).c1; have h2 := (HZb.out).c2; have h3 := (HZb.out).c3; have h4 := (HZb.out).c4; have h5 := (HZb.out).c5; have h6 := (HZb.out).c6
   have g0 := (HZb.out).frz 0; have g1 := (HZb.out).frz 1; have g2 := (HZb.out).frz 2; have g3 := (HZb.out).frz 3; have g4 := (HZb.out).frz 4; have g5 := (HZb.out).frz 5; have g6 := (HZb.out).frz 6
   have S8 := HZb.out.set7 K W T m f a sc
   have p0 := (S8).c0; have p1 := (S8).c1; have p2 := (S8).c2; have p3 := (S8).c3; have p4 := (S8).c4; have p5 := (S8).c5; have p6 := (S8).c6
   simp only [set7] at p0 p1 p2 p3 p4 p5 p6
   have B7 := Lib.hid (HBl.out.trans (grown_below (grown_set7 wr (w.heap.size + 1) K W T m f a sc) (fun g e => by cases e; exact Nat.le_succ _) HBl.out.size))
   have O7 := Lib.hid (own_set7 HO.out HZb.out K W T m f a sc)
   have mixed : Tryz.prog.follows .mixedOrders = true := by kernel_rfl
   clear S8
   go_wp2_with fail
   go_region_o
   all_goals
    go_wp2
    refine bodyPost_ret (v := .tuple #[.slice A L.length cp, .agg #[.int .i64 K, .int .i64 W, .int .i64 T, .int .i64 m, .int .i64 f, .int .i64 a, .int .i64 sc], .bool true]) (by simp [results, Tryz.results7, go_sem, p0, p1, p2, p3, p4, p5, p6]) rfl (FsRet.yes HAe.out rfl ?_ (Below.drew B7.out))
    exact ownsRow_base (ownsRow_below O7.out ((Below.refl _ _).drew)) (by omega)
end Go.Proofs.YthagenodiofgnaaGreatDoor.Face
namespace Go.Proofs.YthagenodiofgnaaGreatDoor.Face
open Go.RowKit Go.Proofs.YthagenodiofgnaaGreatDoor Go.Proofs.YthagenodiofgnaaGreatDoor.Base Go.Proofs.YthagenodiofgnaaGreatDoor.Mem Go.Proofs.YthagenodiofgnaaGreatDoor.Reg Go.Proofs.YthagenodiofgnaaGreatDoor.Str Go.Proofs.YthagenodiofgnaaGreatDoor.Take Go.Proofs.YthagenodiofgnaaGreatDoor.Skip Go.Proofs.YthagenodiofgnaaGreatDoor.Dice
set_option linter.unusedVariables false
end Go.Proofs.YthagenodiofgnaaGreatDoor.Face
namespace Go.Proofs.YthagenodiofgnaaGreatDoor.Shift
open Go.RowKit Go.Proofs.YthagenodiofgnaaGreatDoor Go.Proofs.YthagenodiofgnaaGreatDoor.Base Go.Proofs.YthagenodiofgnaaGreatDoor.Mem Go.Proofs.YthagenodiofgnaaGreatDoor.AllIn Go.Proofs.YthagenodiofgnaaGreatDoor.Pts Go.Proofs.YthagenodiofgnaaGreatDoor.RevNet Go.Proofs.YthagenodiofgnaaGreatDoor.Bits
set_option linter.unusedVariables false
def IRel (L : List Int) (w : World) (p i : Value) (wr : World) : Prop :=
 ∃ d : Nat, d ≤ L.length ∧ i = .int .i64 (d : Int) ∧ OwnI wr w.heap.size p (L.take d) ∧ Below w.heap.size w wr
theorem IRel.start (L : List Int) (w : World) : IRel L w (.slice (some ⟨w.heap.size, 0, none⟩) 0 0) (.int .i64 0) (w.alloc (.cells #[] 2)) :=
 ⟨0, Nat.zero_le _, rfl, own_lit w (Nat.le_refl _) [] (by simp), (Below.refl _ _).alloc (Nat.le_refl _) _⟩
theorem take_snoc {α : Type} (L : List α) (d : Nat) (z : α) (h : d < L.length) : L.take (d + 1) = L.take d ++ [L.getD d z] := by
 rw [List.take_succ_eq_append_getElem h]; simp [List.getD, h]
theorem IRel.next {L : List Int} {d : Nat} {w wr w1 w2 : World} {v v' : Value} (hd : d < L.length) (hO : OwnI wr w.heap.size v (L.take d)) (hb : Below w.heap.size w wr) (h1 : Below wr.heap.size wr w1)
  (hown : w2.ownsRow w.heap.size 2 1 v' (d + 1) (ints (L.take d) ++ [.int .i64 (L.getD d 0)])) (hg : w1.grownBy w2 v.ownBlock) :
  IRel L w v' (.int .i64 ((d : Int) + 1)) w2 := by
 refine ⟨d + 1, hd, by simp, ?_, hb.trans ((h1.mono hb.size).trans (grown_below hg (fun g he => ?_) (Nat.le_trans hb.size h1.size)))⟩
 ·rw [take_snoc L d 0 hd]
  have hl : (L.take d).length = d := by rw [List.length_take]; omega
  exact OwnI_push hO hb.size (by rw [hl]; exact hown)
 ·obtain ⟨_, _, h3, _⟩ := ownsRow_block hO he
  exact h3
end Go.Proofs.YthagenodiofgnaaGreatDoor.Shift
