/- Numbers drawn from a stream one after another, of the program. -/
import Derived.Test.YtgipnbeipfhekaaGreatDoorMgFnL05
import Derived.Deep.RegionLaw
import Derived.Deep.AppendLies
import Derived.Test.YtgipnbeipfhekaaGreatDoorMgFnL02
import Derived.Deep.RegionHeld3
import Derived.Shelf.RegionOpenPlain
import Derived.Test.YtgipnbeipfhekaaGreatDoorMgFnL00
import Derived.Test.YtgipnbeipfhekaaGreatDoorMgFnL01
set_option linter.unusedVariables false
set_option linter.unusedSimpArgs false
set_option maxRecDepth 100000
set_option maxHeartbeats 2000000
namespace Go.Proofs.YtgipnbeipfhekaaGreatDoor
namespace Face
open Go.RowKit Base Mem Reg Str Take Skip Dice
def FsRelI (K W T m f a : Int) (n : Nat) (hn : 0 < n) (R : Option (List Int × Int)) (C B bx bz : Nat) (w : World) (iv ov : Value) (wr : World) : Prop :=
 ∃ (j k : Nat) (L : List Int) (s : Int), iv = .int .i64 (j : Int) ∧ j + k = C ∧ L.length + k ≤ 40 ∧ B ≤ wr.heap.size ∧ Hid (OwnI wr B ov L) ∧ Hid (SBox wr bx K W T m f a s) ∧ Hid (SBox wr bz 0 0 0 0 0 0 0) ∧ Hid (streamB K W T m f a s = true) ∧ Hid (facesA K W T m f a n hn k s L = R) ∧ Hid (Below w.heap.size w wr)
theorem implFaces_yes {K W T m f a s : Int} (hB : streamB K W T m f a s = true) (n c : Nat) (hn : 0 < n) (hn2 : n ≤ 16) (hc : c ≤ 40) (w : World) : Calls Tryz.prog 13 #[.agg #[.int .i64 K, .int .i64 W, .int .i64 T, .int .i64 m, .int .i64 f, .int .i64 a, .int .i64 s], .int .i64 (n : Int), .int .i64 (c : Int)] w (FsRet K W T m f a (facesA K W T m f a n hn c s []) w) := by
 obtain ⟨W1, hW1, S, R, B⟩ := two w K W T m f a s
 obtain ⟨i0, hi, hz0, hz1, hz2⟩ := info_parts infoI
 have HI := J (validStream_any K W T m f a s W1)
 rw [hB] at HI
 have HN := J (fun w => inRange_any (n : Int) 1 16 w)
 rw [inR_yes (n := (n : Int)) (lo := 1) (hi := 16) (by omega)] at HN
 have HC := J (fun w => inRange_any (c : Int) 0 40 w)
 rw [inR_yes (n := (c : Int)) (lo := 0) (hi := 40) (by omega)] at HC
 have HF := J (fun s (h : streamB K W T m f a s = true) w => roll_any h n hn (by omega) w)
 have hZ : W1.heap.size = w.heap.size + 2 := by rw [hW1]; simp
 generalize hA : facesA K W T m f a n hn c s [] = RR
 have HA := J hA
 have HW := J hW1
 have HS := J S
 have HR := J R
 have HB1 := J B
 have HZ := J hZ
 have HBs := J hB
 clear hW1 S R B hB hA hZ
 go_enter Tryz.func13, Tryz.ntmps13
 go_wp2_with fail
 rw [← HW.out]
 refine HI.out.mono ?_
 rintro e w1 ⟨rfl, b1⟩
 have hsz : w.heap.size + 2 ≤ w1.heap.size := by have := b1.size; have := HZ.out; omega
 have t1 := HS.out.below b1 HS.out.lt
 have r1 := HR.out.below b1 HR.out.lt
 have BB := J (HB1.out.trans (b1.mono HB1.out.size))
 have H0 : Hid (FsRelI K W T m f a n hn RR c w1.heap.size w.heap.size (w.heap.size + 1) w (.int .i64 0) (.slice (some ⟨w1.heap.size, 0, none⟩) 0 0) (w1.alloc (.cells #[] 2))) := J (by
  have q := own_lit (B := w1.heap.size) w1 (Nat.le_refl _) [] (by simp)
  have bx := (Below.refl w1.heap.size w1).alloc (Nat.le_refl _) (.cells #[] 2)
  exact ⟨0, c, [], s, rfl, by omega, by simpa using hc, by simp, J q, J (t1.below bx t1.lt), J (r1.below bx r1.lt), HBs, HA, J (BB.out.trans (bx.mono BB.out.size))⟩)
 have hlw : w.heap.size < w1.heap.size := by omega
 have c0 := (t1).c0; have c1 := (t1).c1; have c2 := (t1).c2; have c3 := (t1).c3; have c4 := (t1).c4; have c5 := (t1).c5; have c6 := (t1).c6
 clear b1 t1 r1
 go_wp2_with fail
 refine (HN.out _).mono ?_
 rintro e w' ⟨rfl, rfl⟩
 go_wp2_with fail
 refine (HC.out _).mono ?_
 rintro e w' ⟨rfl, rfl⟩
 go_wp2
 go_loopw [29, 9] (fun iv ov wr => FsRelI K W T m f a n hn RR c w1.heap.size w.heap.size (w.heap.size + 1) w iv ov wr) (fun iv _ _ => c - (intOf iv).toNat)
 case atStart => exact H0.out
 case round =>
  obtain ⟨i, k, L, sc, rfl, hik, hkL, hBw, HO, HX, HZb, HBc, HAc, HBl⟩ := hrel
  clear H0 c0 c1 c2 c3 c4 c5 c6
  have hzb := HZb.out.lt
  have hxb := HX.out.lt
  by_cases hk : 0 < k
  ·obtain ⟨j, rfl⟩ : ∃ j, k = j + 1 := ⟨k - 1, by omega⟩
   have HFs := J (fun w => HF.out sc HBc.out w)
   have x0 := (HX.out).c0; have x1 := (HX.out).c1; have x2 := (HX.out).c2; have x3 := (HX.out).c3; have x4 := (HX.out).c4; have x5 := (HX.out).c5; have x6 := (HX.out).c6
   cases hr : faceR K W T m f a sc n hn with
   | none =>
    rw [hr] at HFs
    have HFn := J (fun w => (HFs.out w).mono fun e w' h => (show e = .returned (.tuple #[.int .i64 0, .agg #[.int .i64 0, .int .i64 0, .int .i64 0, .int .i64 0, .int .i64 0, .int .i64 0, .int .i64 0], .bool false]) ∧ Below w.heap.size w w' from ⟨h.2.1 rfl, h.2.2⟩))
    have HNo := J ((facesA_none (k := j) (L := L) hr).symm.trans HAc.out).symm
    clear hr HFs
    go_wp2_with fail
    refine (HFn.out _).mono ?_
    rintro e w2 ⟨rfl, b2⟩
    have hz3 : w.heap.size + 1 < w2.heap.size := by have := b2.size; omega
    have RY := HZb.out.below b2 HZb.out.lt
    have BB3 := J (HBl.out.trans (b2.mono HBl.out.size))
    clear b2 x0 x1 x2 x3 x4 x5 x6
    have d0 := (RY).c0; have d1 := (RY).c1; have d2 := (RY).c2; have d3 := (RY).c3; have d4 := (RY).c4; have d5 := (RY).c5; have d6 := (RY).c6
    have g0 := (RY).frz 0; have g1 := (RY).frz 1; have g2 := (RY).frz 2; have g3 := (RY).frz 3; have g4 := (RY).frz 4; have g5 := (RY).frz 5; have g6 := (RY).frz 6
    have S8 := (RY.set7 0 0 0 0 0 0 0).below ((Below.refl _ _).alloc (Nat.le_refl _) (.cells #[.int .i64 0, .int .i64 0, .int .i64 0, .int .i64 0, .int .i64 0, .int .i64 0, .int .i64 0] 29)) (RY.set7 0 0 0 0 0 0 0).lt
    have p0 := (S8).c0; have p1 := (S8).c1; have p2 := (S8).c2; have p3 := (S8).c3; have p4 := (S8).c4; have p5 := (S8).c5; have p6 := (S8).c6
    simp only [set7] at p0 p1 p2 p3 p4 p5 p6
    have hs7 := (grown_set7 w2 (w.heap.size + 1) 0 0 0 0 0 0 0).size
    have HBN := J ((below_set7 (b := w.heap.size + 1) BB3.out (Nat.le_succ _) BB3.out.size 0 0 0 0 0 0 0).alloc (Nat.le_trans BB3.out.size hs7) (.cells #[.int .i64 0, .int .i64 0, .int .i64 0, .int .i64 0, .int .i64 0, .int .i64 0, .int .i64 0] 29))
    clear S8 RY hs7
    go_wp2
    exact bodyPost_ret (v := .tuple #[.slice none 0 0, .agg #[.int .i64 0, .int .i64 0, .int .i64 0, .int .i64 0, .int .i64 0, .int .i64 0, .int .i64 0], .bool false]) (by simp [results, Tryz.results13, go_sem, p0, p1, p2, p3, p4, p5, p6]) rfl (FsRet.no HNo.out rfl HBN.out)
   | some p =>
    obtain ⟨cf, uf⟩ := p
    rw [hr] at HFs
    have HFn := J (fun w => (HFs.out w).mono fun e w' h => (show e = .returned (.tuple #[.int .i64 (cf : Int), .agg #[.int .i64 K, .int .i64 W, .int .i64 T, .int .i64 m, .int .i64 f, .int .i64 a, .int .i64 (takeX K W T m f a sc (uf : Int))], .bool true]) ∧ Below w.heap.size w w' from ⟨h.1 cf uf rfl, h.2.2⟩))
    have HA2 := J ((facesA_some (k := j) (L := L) hr).symm.trans HAc.out)
    have HB2 := J (streamB_takeX (c := (uf : Int)) HBc.out)
    clear hr HFs
    obtain ⟨x, hx⟩ : ∃ x, takeX K W T m f a sc (uf : Int) = x := ⟨_, rfl⟩
    rw [hx] at HFn HA2 HB2
    clear hx
    go_wp2_with fail
    refine (HFn.out _).mono ?_
    rintro e w2 ⟨rfl, b2⟩
    clear x0 x1 x2 x3 x4 x5 x6
    obtain ⟨w4, hw4⟩ : ∃ w4, w4 = w2.alloc (.cells #[.int .i64 K, .int .i64 W, .int .i64 T, .int .i64 m, .int .i64 f, .int .i64 a, .int .i64 x] 29) := ⟨_, rfl⟩
    have bz : Below w2.heap.size w2 w4 := by rw [hw4]; exact (Below.refl _ _).alloc (Nat.le_refl _) _
    have U0 : SBox w4 w2.heap.size K W T m f a x := by rw [hw4]; exact SBox.new _ _ _ _ _ _ _ _
    have bo := Base.Below.nextA b2 bz
    have ba : Below w4.heap.size w4 (w4.alloc (.cells #[.int .i64 (cf : Int)] 2)).drew := ((Below.refl _ _).alloc (Nat.le_refl _) _).drew
    have b4 := Base.Below.nextA bo ba
    have hown := ownsRow_below HO.out (Base.Below.nextA bo ((Below.refl w4.heap.size w4).alloc (Nat.le_refl _) (.cells #[.int .i64 (cf : Int)] 2)))
    have HWn := J hown
    have HU := J (U0.below ba U0.lt)
    have HB4 := J b4
    have HW4 := J hw4
    have hlz2 : w1.heap.size < w4.heap.size := by have := b2.size; have := U0.lt; omega
    have hlz4 : w2.heap.size < w4.heap.size := U0.lt
    have x0 := U0.c0
    have x1 := U0.c1
    have x2 := U0.c2
    have x3 := U0.c3
    have x4 := U0.c4
    have x5 := U0.c5
    have x6 := U0.c6
    clear b2 bz ba b4 bo hown U0 hw4
    go_wp2_with fail
    rw [← HW4.out]
    go_region_law ((refine step_append_lies _ (by rfl) _ _ _ (by rfl) w1.heap.size 2 i0 _ 1 8 Tryz.underlying43 hi hz0 hz1 hz2 rfl (by omega) u9 L.length _ (by rfl) ((HWn.out).drew) ⟨w4.heap.size, 0, none⟩ 1 1 [.int .i64 (cf : Int)] (by rfl) (by rfl) (World.news_of_block (cs := #[.int .i64 (cf : Int)]) (t := 2) (fr := (0, 0)) (heap_alloc_new w4 _)) one_int (by omega) (by simp only [maxLen]; omega) (by omega) (by first | omega | (simp; omega)) (w4.heap.size + 1) (by simp) ?_; intro gg cap w5 hown' hg' hat hlt2; have HN := J (faces_next (c := (cf : Int)) (s2 := x) HO.out HX.out HZb.out (by omega) (by omega) (by omega) HBl.out HB4.out hown' hg'); have hsz5 : w1.heap.size ≤ (set7 w5 w.heap.size K W T m f a x).heap.size := Nat.le_trans (Nat.le_trans (Nat.le_of_lt hlz2) (Nat.le_trans (by simp) hg'.size)) (grown_set7 w5 w.heap.size K W T m f a x).size; have HSZ5 := J hsz5; clear hsz5; have q := HN.out.2.2.2.2.1; have qn := HU.out.kept hg' (own_not_str (HWn.out).drew HU.out); have y0 := (q).c0; have y1 := (q).c1; have y2 := (q).c2; have y3 := (q).c3; have y4 := (q).c4; have y5 := (q).c5; have y6 := (q).c6; have z0 := (q).frz 0; have z1 := (q).frz 1; have z2 := (q).frz 2; have z3 := (q).frz 3; have z4 := (q).frz 4; have z5 := (q).frz 5; have z6 := (q).frz 6; have v0 := (qn).c0; have v1 := (qn).c1; have v2 := (qn).c2; have v3 := (qn).c3; have v4 := (qn).c4; have v5 := (qn).c5; have v6 := (qn).c6; clear hown' hg' hat q qn))
    all_goals
     go_wp2
     go_roundw
     case rel => exact ⟨i + 1, j, L ++ [(cf : Int)], x, by go_num, by omega, by simp; omega, HSZ5.out, J HN.out.1, J HN.out.2.1, J HN.out.2.2.1, HB2, HA2, J HN.out.2.2.2.1⟩
     case measure => simp [intOf]; omega
  ·obtain rfl : k = 0 := by omega
   obtain rfl : i = c := by omega
   obtain ⟨A, cp, eA, _⟩ := HO.out.form
   subst eA
   have HAe := J (show RR = some (L, sc) from by rw [← HAc.out]; rfl)
   have x0 := (HX.out).c0; have x1 := (HX.out).c1; have x2 := (HX.out).c2; have x3 := (HX.out).c3; have x4 := (HX.out).c4; have x5 := (HX.out).c5; have x6 := (HX.out).c6
   have h0 := (HZb.out).c0; have h1 := (HZb.out).c1; have h2 := (HZb.out).c2; have h3 := (HZb.out).c3; have h4 := (HZb.out).c4; have h5 := (HZb.out).c5; have h6 := (HZb.out).c6
   have g0 := (HZb.out).frz 0; have g1 := (HZb.out).frz 1; have g2 := (HZb.out).frz 2; have g3 := (HZb.out).frz 3; have g4 := (HZb.out).frz 4; have g5 := (HZb.out).frz 5; have g6 := (HZb.out).frz 6
   have S8 := HZb.out.set7 K W T m f a sc
   have p0 := (S8).c0; have p1 := (S8).c1; have p2 := (S8).c2; have p3 := (S8).c3; have p4 := (S8).c4; have p5 := (S8).c5; have p6 := (S8).c6
   simp only [set7] at p0 p1 p2 p3 p4 p5 p6
   have B7 := J (HBl.out.trans (grown_below (grown_set7 wr (w.heap.size + 1) K W T m f a sc) (fun g e => by cases e; exact Nat.le_succ _) HBl.out.size))
   have O7 := J (own_set7 HO.out HZb.out K W T m f a sc)
   have mixed : Tryz.prog.follows .mixedOrders = true := by kernel_rfl
   clear S8
   go_wp2_with fail
   go_region_o
   all_goals
    go_wp2
    refine bodyPost_ret (v := .tuple #[.slice A L.length cp, .agg #[.int .i64 K, .int .i64 W, .int .i64 T, .int .i64 m, .int .i64 f, .int .i64 a, .int .i64 sc], .bool true]) (by simp [results, Tryz.results13, go_sem, p0, p1, p2, p3, p4, p5, p6]) rfl (FsRet.yes HAe.out rfl ?_ (Below.drew B7.out))
    exact ownsRow_base (ownsRow_below O7.out ((Below.refl _ _).drew)) (by omega)
end Face
namespace Shift
open Go.RowKit Base Mem AllIn Pts RevNet Bits
def IRel (L : List Int) (w : World) (p i : Value) (wr : World) : Prop :=
 ∃ d : Nat, d ≤ L.length ∧ i = .int .i64 (d : Int) ∧ OwnI wr w.heap.size p (L.take d) ∧ Below w.heap.size w wr
theorem IRel.start (L : List Int) (w : World) : IRel L w (.slice (some ⟨w.heap.size, 0, none⟩) 0 0) (.int .i64 0) (w.alloc (.cells #[] 2)) :=
 ⟨0, Nat.zero_le _, rfl, own_lit w (Nat.le_refl _) [] (by simp), (Below.refl _ _).alloc (Nat.le_refl _) _⟩
theorem take_snoc {α : Type} (L : List α) (d : Nat) (z : α) (h : d < L.length) : L.take (d + 1) = L.take d ++ [L.getD d z] := by
 rw [List.take_succ_eq_append_getElem h]; simp [List.getD, h]
theorem IRel.next {L : List Int} {d : Nat} {w wr w1 w2 : World} {v v' : Value} (hd : d < L.length) (hO : OwnI wr w.heap.size v (L.take d)) (hb : Below w.heap.size w wr) (h1 : Below wr.heap.size wr w1)
  (hown : w2.ownsRow w.heap.size 2 1 v' (d + 1) (ints (L.take d) ++ [.int .i64 (L.getD d 0)])) (hg : w1.grownBy w2 v.ownBlock) :
  IRel L w v' (.int .i64 ((d : Int) + 1)) w2 := by
 refine ⟨d + 1, hd, by simp, ?_, hb.trans ((h1.mono hb.size).trans (grown_below hg (fun g he => ?_) (Nat.le_trans hb.size h1.size)))⟩
 ·rw [take_snoc L d 0 hd]
  have hl : (L.take d).length = d := by rw [List.length_take]; omega
  exact OwnI_push hO hb.size (by rw [hl]; exact hown)
 ·obtain ⟨_, _, h3, _⟩ := ownsRow_block hO he
  exact h3
theorem row_at {L b d : Nat} {xss : List (List Int)} (h : xss.all (rowB L b) = true) (hd : d < xss.length) : (xss.getD d []).length = L ∧ ∀ j, j < L → 0 ≤ (xss.getD d []).getD j 0 ∧ (xss.getD d []).getD j 0 ≤ (2 : Int) ^ b - 1 := by
 have h1 := all_at [] hd h
 simp only [rowB, Bool.and_eq_true, beq_iff_eq] at h1
 exact ⟨h1.1, fun j hj => AllIn.allInB_true h1.2 j (by omega)⟩
end Shift
namespace Shuf
open Go.RowKit Base Mem AllIn RevNet Shift
def ascL (n : Nat) : List Int := (List.range n).map fun (i : Nat) => ((i : Nat) : Int)
theorem ascL_len (n : Nat) : (ascL n).length = n := by simp [ascL]
theorem ascL_at (n i : Nat) (h : i < n) : (ascL n).getD i 0 = (i : Int) := by simp [ascL, List.getD, h]
def swapL (l : List Int) (i c : Nat) : List Int := (l.set i (l.getD c 0)).set c (l.getD i 0)
theorem swapL_len (l : List Int) (i c : Nat) : (swapL l i c).length = l.length := by simp [swapL]
def shufTo (n : Nat) (ch : List Int) : Nat → List Int
 | 0 => ascL n
 | j + 1 => swapL (shufTo n ch j) (n - 1 - j) (ch.getD j 0).toNat
theorem shufTo_len (n : Nat) (ch : List Int) : ∀ j, (shufTo n ch j).length = n
 | 0 => ascL_len n
 | j + 1 => by rw [shufTo, swapL_len, shufTo_len n ch j]
def ListMade (R : List Int) (w : World) (e : Ending) (w' : World) : Prop := ∃ A c, e = .returned (.slice A R.length c) ∧ OwnI w' w.heap.size (.slice A R.length c) R ∧ Below w.heap.size w w'
theorem ascending_any (n : Nat) (hn : n ≤ 12) (w : World) : Calls Tryz.prog 245 #[.int .i64 (n : Int)] w (ListMade (ascL n) w) := by
 obtain ⟨i0, hi, hz0, hz1, hz2⟩ := info_parts infoI
 have H0 := J (IRel.start (ascL n) w)
 have HL := J (ascL_len n)
 go_enter Tryz.func245, Tryz.ntmps245
 go_wp2
 go_loopw [3, 7] (fun o i wr => IRel (ascL n) w o i wr) (fun _ i _ => n - (intOf i).toNat)
 case atStart => exact H0.out
 case round =>
  obtain ⟨d, hd, rfl, hO, hb⟩ := hrel
  rw [HL.out] at hd
  by_cases hlt : d < n
  ·have HN := J (fun v' w2 => IRel.next (L := ascL n) (w2 := w2) (v' := v') (by rw [HL.out]; exact hlt) hO hb ((Below.refl wr.heap.size wr).alloc (Nat.le_refl _) (.cells #[.int .i64 (d : Int)] 2)))
   have hlen : ((ascL n).take d).length = d := by rw [List.length_take, HL.out]; omega
   have hown := World.ownsRow.alloc hO (.cells #[.int .i64 (d : Int)] 2)
   rw [hlen] at hown
   rw [ascL_at n d hlt] at HN
   have hsz := hb.size
   have HW := J hown
   clear hO hb hown hlen
   go_wp2_with (at_builtin; refine wpList_append_own_at _ rfl (.tmp 10) (.tmp 12) 43 rfl w.heap.size 2 i0 (.int .i64 0) 1 8 Tryz.underlying43 hi hz0 hz1 hz2 rfl (by decide) _ _ _ rfl HW.out ⟨wr.heap.size, 0, none⟩ 1 1 [.int .i64 (d : Int)] rfl rfl ?p1a ?p2a ?p3a ?p4a ?p5a ?_)
   try case p1a => exact news_one _ _ _ (by simp)
   try case p2a => first | exact one_int | rfl | simp
   try case p3a => first | (simp only [maxLen]; omega) | omega
   try case p4a => omega
   try case p5a => first | (simp only [World.size_alloc]; omega) | omega
   intro v' w2 hown' hg' _ he
   have HN2 := J (HN.out v' w2 hown' hg')
   clear hown' hg' he HN HW
   go_wp2
   go_roundw
   case rel => exact HN2.out
   case measure => simp [intOf]; omega
  ·obtain rfl : d = n := by omega
   rw [show (ascL d).take d = ascL d from List.take_of_length_le (by rw [HL.out]; exact Nat.le_refl _)] at hO
   obtain ⟨A2, c2, e2, _⟩ := hO.form
   subst e2
   have HO := J hO
   have HB := J hb
   clear hO hb
   go_wp2
   go_ret
   exact ⟨A2, c2, rfl, HO.out, HB.out⟩
theorem swap_own {w : World} {B c0 g i c : Nat} {l : List Int} (h : OwnI w B (.slice (some ⟨g, 0, none⟩) l.length c0) l) (hi : i < l.length) (hc : c < l.length) :
  OwnI ((w.setCell ⟨g, i, none⟩ (.int .i64 (l.getD c 0))).setCell ⟨g, c, none⟩ (.int .i64 (l.getD i 0))) B (.slice (some ⟨g, 0, none⟩) l.length c0) (swapL l i c) ∧ w.grownBy ((w.setCell ⟨g, i, none⟩ (.int .i64 (l.getD c 0))).setCell ⟨g, c, none⟩ (.int .i64 (l.getD i 0))) (some g) := by
 unfold OwnI at *
 obtain ⟨h1, g1⟩ := h.stored i (.int .i64 (l.getD c 0))
 rw [ints_set] at h1
 obtain ⟨h2, g2⟩ := h1.stored c (.int .i64 (l.getD i 0))
 rw [ints_set] at h2
 refine ⟨?_, grown_trans g1 g2⟩
 rw [swapL_len]
 exact h2
def okCh (n : Nat) (ch : List Int) : Prop := n = ch.length + 1 ∧ n ≤ 12 ∧ ∀ j, j < ch.length → 0 ≤ ch.getD j 0 ∧ ch.getD j 0 ≤ ((n - 1 - j : Nat) : Int)
def ShufRet (n : Nat) (ch : List Int) (w : World) (e : Ending) (w' : World) : Prop := ∃ A c, e = .returned (.tuple #[.slice A n c, .bool true]) ∧ OwnI w' w.heap.size (.slice A n c) (shufTo n ch ch.length) ∧ Below w.heap.size w w'
def ShRel (n : Nat) (ch : List Int) (g c0 : Nat) (w : World) (j : Nat) (wr : World) : Prop := OwnI wr w.heap.size (.slice (some ⟨g, 0, none⟩) n c0) (shufTo n ch j) ∧ Below w.heap.size w wr
theorem shuf_next {n j g c0 : Nat} {ch : List Int} {w wr w2 : World} (h : ShRel n ch g c0 w j wr) (ho : OwnI w2 w.heap.size (.slice (some ⟨g, 0, none⟩) n c0) (swapL (shufTo n ch j) (n - 1 - j) (ch.getD j 0).toNat)) (hg : wr.grownBy w2 (some g)) (hgw : w.heap.size ≤ g) : ShRel n ch g c0 w (j + 1) w2 :=
 ⟨ho, h.2.trans (grown_below hg (fun q e => by injection e with e; omega) h.2.size)⟩
theorem isCards_any (n : Int) (w : World) : Calls Tryz.prog 190 #[.int .i64 n] w fun e w' => e = .returned (.bool (inR n 1 12)) ∧ w = w' := by
 go_enter Tryz.func190, Tryz.ntmps190
 go_wp2_with (go_at_call 31; refine (inRange_any _ _ _ _).mono ?_; rintro e w' ⟨rfl, rfl⟩)
 go_ret
 exact ⟨rfl, rfl⟩
theorem implShuf_yes (n : Nat) (ch : List Int) (A : Option Addr) (c B : Nat) (w : World) (hx : RdI w B A ch) (hB : B ≤ w.heap.size) (hk : okCh n ch) :
  Calls Tryz.prog 227 #[.slice A ch.length c, .int .i64 0] w (ShufRet n ch w) := by
 obtain ⟨hn, hn2, hch⟩ := hk
 have HX := J hx
 have HCh := J hch
 have HF := J (fun w => ascending_any n hn2 w)
 have hca : ((ch.length : Int) + 1) = (n : Int) := by omega
 have HCA := J hca
 have HLn := J (fun j => shufTo_len n ch j)
 have HN := J hn
 have hch12 : ch.length ≤ 11 := by omega
 have HCds := J (fun w => isCards_any (n : Int) w)
 rw [inR_yes (n := (n : Int)) (lo := 1) (hi := 12) (by omega)] at HCds
 clear hx hch hn hca
 go_enter Tryz.func227, Tryz.ntmps227
 go_wp2_with fail
 refine (lenI_any _ _ _ _ (by omega)).mono ?_
 rintro e w' ⟨rfl, rfl⟩
 go_wp2_with fail
 rw [HCA.out]
 refine (HCds.out _).mono ?_
 rintro e w' ⟨rfl, rfl⟩
 go_wp2_with fail
 refine (HF.out _).mono ?_
 rintro e w1 ⟨A1, c1, rfl, o1, b1⟩
 have hlen := ascL_len n
 obtain ⟨A1', c1', e1, hA⟩ := OwnI.form o1
 rw [hlen] at hA
 obtain ⟨g, hg, hg1, hg2⟩ := hA (by have := HN.out; omega)
 injection e1 with e1 e2 e3
 subst e1 e3
 subst hg
 rw [hlen] at o1
 have H0 : Hid (ShRel n ch g c1 w 0 w1) := J ⟨o1, b1⟩
 rw [hlen]
 clear o1 b1 hlen hg2 e2
 go_wp2
 go_loopw [21] (fun i wr => ∃ j k : Nat, j + k = ch.length ∧ i = .int .i64 (j : Int) ∧ ShRel n ch g c1 w j wr) (fun i _ => ch.length - (intOf i).toNat)
 case atStart => exact ⟨0, ch.length, by omega, rfl, H0.out⟩
 case round =>
  obtain ⟨j, k, hjk, rfl, hS⟩ := hrel
  clear H0
  have hs := hS.2.size
  have HS := J hS
  clear hS
  by_cases hk : 0 < k
  ·have hnj : n - 1 - j = k := by have := HN.out; omega
   obtain ⟨b, off, rfl, _, hc⟩ := (HX.out.below HS.out.2 hB) (by omega)
   have gc := hc j (by omega)
   have hin := HCh.out j (by omega)
   rw [hnj] at hin
   obtain ⟨x, hx⟩ := Int.eq_ofNat_of_zero_le hin.1
   rw [hx] at gc hin
   have hidx : (n : Int) - 1 - (j : Int) = (k : Int) := by have := HN.out; omega
   have HC := J (fun w => inRange_any (x : Int) 0 (k : Int) w)
   rw [inR_yes (n := (x : Int)) (lo := 0) (hi := (k : Int)) (by omega)] at HC
   have HNx := J (fun w2 => shuf_next (w2 := w2) HS.out)
   rw [hnj, hx, Int.toNat_natCast] at HNx
   have hjn : (j : Int) < (ch.length : Int) := by omega
   have hl0 := HLn.out j
   have hO := HS.out.1
   have hO' : wr.ownsRow w.heap.size 2 1 (.slice (some ⟨g, 0, none⟩) (shufTo n ch j).length c1) (shufTo n ch j).length (ints (shufTo n ch j)) := by rw [hl0]; have := hO; unfold OwnI at this; rw [hl0] at this; exact this
   have e1 := World.ownsRow.cellAt hO' k (by have := HN.out; omega)
   have e2 := World.ownsRow.cellAt hO' x (by have := HN.out; omega)
   rw [ints_get _ k (by have := HN.out; omega)] at e1
   rw [ints_get _ x (by have := HN.out; omega)] at e2
   have f1 := hO'.frozenAt k
   have f2 := hO'.frozenAt x
   have HSo := J (swap_own (l := shufTo n ch j) (w := wr) (B := w.heap.size) (c0 := c1) (g := g) hO' (i := k) (c := x) (by have := HN.out; omega) (by have := HN.out; omega))
   rw [hl0] at HSo
   have hkn : (k : Int) < (n : Int) := by have := HN.out; omega
   have hxn : (x : Int) < (n : Int) := by omega
   have HNN : n = j + k + 1 := by have := HN.out; omega
   have HN3 := J HNN
   have mixed : Tryz.prog.follows .mixedOrders = true := by kernel_rfl
   clear hc hx hnj hin hO hO' hl0 HNN
   by_cases hkx : k = x
   ·subst hkx
    generalize (shufTo n ch j).getD k 0 = y1 at *
    go_wp2_with fail
    refine (HC.out _).mono ?_
    rintro e w' ⟨rfl, rfl⟩
    go_wp2_with fail
    go_region_o
    all_goals
     have HR := J (HNx.out _ HSo.out.1 HSo.out.2 hg1)
     go_wp2
     go_roundw
     case rel => exact ⟨j + 1, k - 1, by omega, by go_num, OwnI.below HR.out.1 ((Below.refl _ _).drew), HR.out.2.drew⟩
     case measure => simp [intOf]; omega
   ·have hne : ¬ x = k := fun e => hkx e.symm
    generalize (shufTo n ch j).getD k 0 = y1 at *
    generalize (shufTo n ch j).getD x 0 = y2 at *
    go_wp2_with fail
    refine (HC.out _).mono ?_
    rintro e w' ⟨rfl, rfl⟩
    go_wp2_with fail
    go_region_o
    all_goals
     have HR := J (HNx.out _ HSo.out.1 HSo.out.2 hg1)
     go_wp2
     go_roundw
     case rel => exact ⟨j + 1, k - 1, by omega, by go_num, OwnI.below HR.out.1 ((Below.refl _ _).drew), HR.out.2.drew⟩
     case measure => simp [intOf]; omega
  ·obtain rfl : k = 0 := by omega
   obtain rfl : j = ch.length := by omega
   go_wp2
   go_ret2
   exact ⟨some ⟨g, 0, none⟩, c1, rfl, HS.out.1, HS.out.2⟩
theorem implShufBy_yes (n : Nat) (ch : List Int) (A : Option Addr) (c B : Nat) (w : World) (hx : RdI w B A ch) (hB : B ≤ w.heap.size) (hk : okCh n ch) :
  Calls Tryz.prog 191 #[.slice A ch.length c] w (ShufRet n ch w) := by
 have HC := J (implShuf_yes n ch A c B w hx hB hk)
 clear hx hk
 go_enter Tryz.func191, Tryz.ntmps191
 go_wp2_with fail
 refine HC.out.mono ?_
 rintro e w1 ⟨A1, c1, rfl, o1, b1⟩
 have O1 := J o1
 have B1 := J b1
 clear o1 b1
 go_wp2
 go_ret2
 exact ⟨A1, c1, rfl, O1.out, B1.out⟩
end Shuf
namespace Face
open Go.RowKit Base Mem Reg Str Take Skip Dice Shuf
def ordA (K W T m f a : Int) : Nat → Int → List Int → Option (List Int × Int)
 | 0, s, L => some (L, s)
 | k + 1, s, L => match faceR K W T m f a s (k + 2) (by omega) with
  | none => none
  | some (c, u) => ordA K W T m f a k (takeX K W T m f a s (u : Int)) (L ++ [(c : Int)])
theorem ordA_none {K W T m f a s : Int} {k : Nat} {L : List Int} (h : faceR K W T m f a s (k + 2) (by omega) = none) : ordA K W T m f a (k + 1) s L = none := by
 unfold ordA; rw [h]
theorem ordA_some {K W T m f a s : Int} {k c u : Nat} {L : List Int} (h : faceR K W T m f a s (k + 2) (by omega) = some (c, u)) : ordA K W T m f a (k + 1) s L = ordA K W T m f a k (takeX K W T m f a s (u : Int)) (L ++ [(c : Int)]) := by
 conv => lhs; unfold ordA
 rw [h]
def okTo (n : Nat) (L : List Int) : Prop := ∀ j, j < L.length → 0 ≤ L.getD j 0 ∧ L.getD j 0 ≤ ((n - 1 - j : Nat) : Int)
theorem okTo_snoc {n : Nat} {L : List Int} {c : Nat} (h : okTo n L) (hc : c ≤ n - 1 - L.length) : okTo n (L ++ [(c : Int)]) := by
 intro j hj
 simp only [List.length_append, List.length_cons, List.length_nil] at hj
 rcases Nat.lt_or_ge j L.length with hlt | hge
 ·have := h j hlt
  simpa [List.getD, List.getElem?_append_left hlt] using this
 ·obtain rfl : j = L.length := by omega
  simp [List.getD]
  omega
def ordOf (n : Nat) (R : Option (List Int × Int)) : Option (List Int × Int) := R.map fun p => (shufTo n p.1 p.1.length, p.2)
def ordR (K W T m f a s n : Int) : Option (List Int × Int) := if (streamB K W T m f a s && inR n 1 12) = true then ordOf n.toNat (ordA K W T m f a (n.toNat - 1) s []) else none
theorem ordR_no {K W T m f a s n : Int} (h : (streamB K W T m f a s && inR n 1 12) = false) : ordR K W T m f a s n = none := by
 unfold ordR; rw [h]; rfl
theorem ordR_yes {K W T m f a s : Int} {n : Nat} (h : (streamB K W T m f a s && inR (n : Int) 1 12) = true) : ordR K W T m f a s (n : Int) = ordOf n (ordA K W T m f a (n - 1) s []) := by
 unfold ordR; rw [if_pos h, Int.toNat_natCast]
def OrRel (K W T m f a : Int) (n : Nat) (R : Option (List Int × Int)) (B bx bz : Nat) (w : World) (cv ov : Value) (wr : World) : Prop :=
 ∃ (k : Nat) (L : List Int) (s : Int), cv = .int .i64 (k : Int) ∧ L.length + k + 1 = n ∧ okTo n L ∧ B ≤ wr.heap.size ∧ Hid (OwnI wr B ov L) ∧ Hid (SBox wr bx K W T m f a s) ∧ Hid (SBox wr bz 0 0 0 0 0 0 0) ∧ Hid (streamB K W T m f a s = true) ∧ Hid (ordA K W T m f a k s L = R) ∧ Hid (Below w.heap.size w wr)
end Face
namespace RatM
def qv (s : Bool) (n d : Nat) : Rat := if s then -((n : Rat) / (d : Rat)) else (n : Rat) / (d : Rat)
theorem natCast_ne {d : Nat} (h : d ≠ 0) : (d : Rat) ≠ 0 := by
 intro e
 exact h (Rat.natCast_eq_zero_iff.1 e)
theorem qv_mk (s : Bool) (n d : Nat) : qv s n d = if s then -(mkRat n d) else mkRat n d := by
 unfold qv
 rw [Rat.mkRat_eq_div]
 rfl
theorem qv_num (s : Bool) {n d : Nat} (h : d ≠ 0) : (qv s n d).num.natAbs = n / Nat.gcd n d ∧ (qv s n d).den = d / Nat.gcd n d := by
 have h1 : (mkRat (n : Int) d).num = (n : Int) / ((Nat.gcd n d : Nat) : Int) := by
  rw [Rat.num_mkRat, if_neg h, Int.natAbs_natCast, Nat.gcd_comm]
 have h2 : (mkRat (n : Int) d).den = d / Nat.gcd n d := by
  rw [Rat.den_mkRat, if_neg h, Int.natAbs_natCast, Nat.gcd_comm]
 have h3 : (mkRat (n : Int) d).num.natAbs = n / Nat.gcd n d := by
  rw [h1]
  exact congrArg Int.natAbs (Int.natCast_ediv n (Nat.gcd n d)).symm |>.trans (Int.natAbs_natCast _)
 rw [qv_mk]
 cases s
 ·exact ⟨h3, h2⟩
 ·simp only [if_true, Rat.neg_num, Rat.neg_den, Int.natAbs_neg]
  exact ⟨h3, h2⟩
theorem qv_zero (s : Bool) (d : Nat) : qv s 0 d = 0 := by
 unfold qv
 have : ((0 : Nat) : Rat) / (d : Rat) = 0 := by
  show (0 : Rat) / (d : Rat) = 0
  rw [Rat.div_def, Rat.zero_mul]
 rw [this]
 cases s <;> rfl
theorem qv_pos {n d : Nat} (hn : n ≠ 0) (hd : d ≠ 0) : 0 < (n : Rat) / (d : Rat) := by
 rw [Rat.div_def]
 exact Rat.mul_pos (Rat.natCast_pos.2 (Nat.pos_of_ne_zero hn)) (Rat.inv_pos.2 (Rat.natCast_pos.2 (Nat.pos_of_ne_zero hd)))
theorem qv_neg {s : Bool} {n d : Nat} (hn : n ≠ 0) (hd : d ≠ 0) : decide (qv s n d < 0) = s := by
 have h := qv_pos hn hd
 unfold qv
 cases s
 ·simp only [Bool.false_eq_true, if_false, decide_eq_false_iff_not]
  grind
 ·simp only [if_true, decide_eq_true_eq]
  grind
theorem qv_self (q : Rat) : qv (decide (q < 0)) q.num.natAbs q.den = q := by
 have hd := q.den_nz
 rw [qv_mk]
 have hs := Rat.mkRat_self q
 by_cases h : q < 0
 ·have hn : ¬ (0 ≤ q.num) := fun h2 => by
   have := Rat.num_nonneg.1 h2
   grind
  simp only [h, decide_true, if_true]
  rw [Rat.neg_mkRat]
  have : -((q.num.natAbs : Nat) : Int) = q.num := by omega
  rw [this, hs]
 ·have hn : 0 ≤ q.num := Rat.num_nonneg.2 (by grind)
  simp only [h, decide_false, Bool.false_eq_true, if_false]
  have : ((q.num.natAbs : Nat) : Int) = q.num := by omega
  rw [this, hs]
theorem qv_add_same (s : Bool) {n d n' d' : Nat} (h : d ≠ 0) (h' : d' ≠ 0) : qv s (n * d' + n' * d) (d * d') = qv s n d + qv s n' d' := by
 have g := natCast_ne h
 have g' := natCast_ne h'
 unfold qv
 simp only [Rat.natCast_add, Rat.natCast_mul]
 cases s <;> simp only [Bool.false_eq_true, if_false, if_true] <;> grind
theorem qv_add_diff (s : Bool) {n d n' d' : Nat} (h : d ≠ 0) (h' : d' ≠ 0) (hle : n' * d ≤ n * d') : qv s (n * d' - n' * d) (d * d') = qv s n d + qv (!s) n' d' := by
 have g := natCast_ne h
 have g' := natCast_ne h'
 obtain ⟨k, hk⟩ : ∃ k, n * d' = n' * d + k := ⟨n * d' - n' * d, by omega⟩
 have e : n * d' - n' * d = k := by omega
 have hk2 : (n : Rat) * (d' : Rat) = (n' : Rat) * (d : Rat) + (k : Rat) := by
  rw [← Rat.natCast_mul, ← Rat.natCast_mul, ← Rat.natCast_add, hk]
 rw [e]
 unfold qv
 simp only [Rat.natCast_mul]
 cases s <;> simp only [Bool.not_false, Bool.not_true, Bool.false_eq_true, if_false, if_true] <;> grind
theorem own_num {s : Bool} {n d : Nat} (hd : d ≠ 0) (hg : Nat.gcd n d = 1) : (qv s n d).num.natAbs = n ∧ (qv s n d).den = d := by
 obtain ⟨h1, h2⟩ := qv_num s (n := n) hd
 rw [h1, h2, hg, Nat.div_one, Nat.div_one]
 exact ⟨rfl, rfl⟩
def qf (n d : Int) : Rat := qv (decide (n < 0)) n.natAbs d.toNat
theorem qf_num {n d : Int} (hd : 0 < d) (hg : Nat.gcd n.natAbs d.toNat = 1) : (qf n d).num = n ∧ ((qf n d).den : Int) = d ∧ (decide (qf n d < 0) = decide (n < 0)) := by
 have hd' : d.toNat ≠ 0 := by omega
 obtain ⟨h1, h2⟩ := own_num (s := decide (n < 0)) hd' hg
 have h3 : decide (qf n d < 0) = decide (n < 0) := by
  by_cases hn : n = 0
  ·subst hn
   unfold qf
   rw [show (0 : Int).natAbs = 0 from rfl, qv_zero]
   rfl
  ·exact qv_neg (by omega) hd'
 refine ⟨?_, by unfold qf; rw [h2]; omega, h3⟩
 have h4 : (qf n d).num.natAbs = n.natAbs := h1
 have h5 : qf n d < 0 ↔ (qf n d).num < 0 := by
  constructor
  ·intro h
   refine Classical.byContradiction fun hc => ?_
   have := Rat.num_nonneg.1 (show 0 ≤ (qf n d).num by omega)
   grind
  ·intro h
   refine Classical.byContradiction fun hc => ?_
   have := Rat.num_nonneg.2 (show 0 ≤ qf n d by grind)
   omega
 have h6 : (qf n d < 0) ↔ n < 0 := by simpa using h3
 have h7 : (qf n d).num < 0 ↔ n < 0 := h5.symm.trans h6
 omega
theorem neg_iff (q : Rat) : q < 0 ↔ q.num < 0 := by
 constructor
 ·intro h
  refine Classical.byContradiction fun hc => ?_
  have := Rat.num_nonneg.1 (show 0 ≤ q.num by omega)
  grind
 ·intro h
  refine Classical.byContradiction fun hc => ?_
  have := Rat.num_nonneg.2 (show 0 ≤ q by grind)
  omega
theorem zero_iff (q : Rat) : q = 0 ↔ q.num.natAbs = 0 := by
 rw [Int.natAbs_eq_zero]
 exact Rat.num_eq_zero.symm
end RatM
namespace RatM
def smallQ (q : Rat) : Bool := decide (q.num.natAbs ≤ 1000000000000000000) && decide (q.den ≤ 1000000000000000000)
def numQ (q : Rat) : Int := if smallQ q then q.num else 0
def denQ (q : Rat) : Int := if smallQ q then (q.den : Int) else 0
theorem small_yes {q : Rat} (h1 : q.num.natAbs ≤ 1000000000000000000) (h2 : q.den ≤ 1000000000000000000) : smallQ q = true ∧ numQ q = q.num ∧ denQ q = (q.den : Int) := by
 have hs : smallQ q = true := by unfold smallQ; rw [decide_eq_true h1, decide_eq_true h2]; rfl
 exact ⟨hs, by unfold numQ; rw [hs]; rfl, by unfold denQ; rw [hs]; rfl⟩
theorem small_no {q : Rat} (h : ¬ q.num.natAbs ≤ 1000000000000000000 ∨ ¬ q.den ≤ 1000000000000000000) : smallQ q = false ∧ numQ q = 0 ∧ denQ q = 0 := by
 have hs : smallQ q = false := by
  unfold smallQ
  rcases h with h | h
  ·rw [decide_eq_false h]; rfl
  ·rw [decide_eq_false h, Bool.and_false]
 exact ⟨hs, by unfold numQ; rw [hs]; rfl, by unfold denQ; rw [hs]; rfl⟩
theorem small_true {q : Rat} (h : smallQ q = true) : q.num.natAbs ≤ 1000000000000000000 ∧ q.den ≤ 1000000000000000000 := by
 unfold smallQ at h
 rw [Bool.and_eq_true, decide_eq_true_eq, decide_eq_true_eq] at h
 exact h
def VF (n d : Int) : Prop := 1 ≤ d ∧ d ≤ 1000000000000000000 ∧ -1000000000000000000 ≤ n ∧ n ≤ 1000000000000000000 ∧ Nat.gcd n.natAbs d.toNat = 1
theorem VF.num {n d : Int} (h : VF n d) : (qf n d).num = n ∧ ((qf n d).den : Int) = d ∧ (decide (qf n d < 0) = decide (n < 0)) := qf_num (by have := h.1; omega) h.2.2.2.2
theorem VF.of (q : Rat) (h : smallQ q = true) : VF q.num (q.den : Int) := by
 obtain ⟨h1, h2⟩ := small_true h
 have := q.den_pos
 exact ⟨by omega, by omega, by omega, by omega, by rw [Int.toNat_natCast]; exact q.reduced⟩
theorem qf_self (q : Rat) : qf q.num (q.den : Int) = q := by
 have h := qv_self q
 unfold qf
 rw [Int.toNat_natCast]
 have e : decide (q.num < 0) = decide (q < 0) := by rw [Bool.eq_iff_iff, decide_eq_true_eq, decide_eq_true_eq]; exact (neg_iff q).symm
 rw [e]; exact h
theorem VF.small {n d : Int} (h : VF n d) : smallQ (qf n d) = true := by
 obtain ⟨h1, h2, _⟩ := h.num
 refine (small_yes ?_ ?_).1
 ·rw [h1]; have := h.2.2.1; have := h.2.2.2.1; omega
 ·have := h.2.1; omega
end RatM
namespace LvM
def sm : Nat → (Nat → Nat) → Nat
 | 0, _ => 0
 | n + 1, f => sm n f + f n
theorem sm_congr : ∀ {n : Nat} {f g : Nat → Nat}, (∀ i, i < n → f i = g i) → sm n f = sm n g
 | 0, _, _, _ => rfl
 | n + 1, f, g, h => by rw [sm, sm, sm_congr (fun i hi => h i (by omega)), h n (by omega)]
theorem sm_le : ∀ {n : Nat} {f g : Nat → Nat}, (∀ i, i < n → f i ≤ g i) → sm n f ≤ sm n g
 | 0, _, _, _ => Nat.le_refl _
 | n + 1, f, g, h => by
  have h1 := sm_le (n := n) (f := f) (g := g) (fun i hi => h i (by omega))
  have h2 := h n (by omega)
  rw [sm, sm]; omega
theorem sm_mono {f : Nat → Nat} : ∀ {n m : Nat}, n ≤ m → sm n f ≤ sm m f := by
 intro n m h
 induction m with
 | zero => rw [Nat.le_zero.1 h]; exact Nat.le_refl _
 | succ m ih =>
  rcases Nat.lt_or_ge n (m + 1) with h1 | h1
  ·rw [sm]; have := ih (by omega); omega
  ·rw [show n = m + 1 by omega]; exact Nat.le_refl _
theorem sm_mul (c : Nat) (f : Nat → Nat) : ∀ n, sm n (fun i => c * f i) = c * sm n f
 | 0 => rfl
 | n + 1 => by rw [sm, sm, sm_mul c f n, Nat.mul_add]
theorem sm_add (f g : Nat → Nat) : ∀ n, sm n (fun i => f i + g i) = sm n f + sm n g
 | 0 => rfl
 | n + 1 => by rw [sm, sm, sm, sm_add f g n]; omega
theorem sm_first (f : Nat → Nat) : ∀ n, sm (n + 1) f = f 0 + sm n (fun i => f (i + 1))
 | 0 => by simp [sm]
 | n + 1 => by rw [sm, sm_first f n, sm]; omega
theorem sm_one {f : Nat → Nat} {n i : Nat} (hi : i < n) : f i ≤ sm n f := by
 have h1 : sm (i + 1) f ≤ sm n f := sm_mono hi
 rw [sm] at h1; omega
def W (m : Nat) : Nat → Nat
 | 0 => 1
 | k + 1 => sm (min m (k + 1)) fun r => W m (k - r)
termination_by k => k
decreasing_by omega
theorem W_zero (m : Nat) : W m 0 = 1 := by rw [W]
theorem W_succ (m k : Nat) : W m (k + 1) = sm (min m (k + 1)) fun r => W m (k - r) := by rw [W]
theorem W_none (k : Nat) : W 0 (k + 1) = 0 := by rw [W_succ]; simp [sm]
theorem W_mono (m : Nat) : ∀ k, W m k ≤ W (m + 1) k := by
 intro k
 induction k using Nat.strongRecOn with
 | _ k ih =>
  cases k with
  | zero => rw [W_zero, W_zero]; exact Nat.le_refl _
  | succ k =>
   rw [W_succ, W_succ]
   refine Nat.le_trans (sm_le fun i hi => ih (k - i) (by omega)) (sm_mono ?_)
   omega
theorem W_le {m m' : Nat} (h : m ≤ m') (k : Nat) : W m k ≤ W m' k := by
 induction m' with
 | zero => rw [Nat.le_zero.1 h]; exact Nat.le_refl _
 | succ m' ih =>
  rcases Nat.lt_or_ge m (m' + 1) with h1 | h1
  ·exact Nat.le_trans (ih (by omega)) (W_mono m' k)
  ·rw [show m = m' + 1 by omega]; exact Nat.le_refl _
theorem sm_rev (f : Nat → Nat) : ∀ n, sm (n + 1) (fun r => f (n - r)) = sm (n + 1) f
 | 0 => rfl
 | n + 1 => by
  have h : sm (n + 1) (fun i => f (n + 1 - (i + 1))) = sm (n + 1) f := by
   rw [← sm_rev f n]; exact sm_congr fun i hi => by congr 1; omega
  rw [sm_first, h, Nat.sub_zero, sm]
  show _ = sm (n + 1) f + f (n + 1)
  rw [Nat.add_comm]; rfl
theorem W_all {m : Nat} : ∀ k, k + 1 ≤ m → W m (k + 1) = 2 ^ k := by
 intro k
 induction k using Nat.strongRecOn with
 | _ k ih =>
  intro hk
  rw [W_succ, show min m (k + 1) = k + 1 by omega, sm_rev (W m) k]
  have key : ∀ j, j ≤ k → sm (j + 1) (W m) = 2 ^ j := by
   intro j
   induction j with
   | zero => intro _; simp [sm, W_zero]
   | succ j ihj =>
    intro hj
    rw [sm, ihj (by omega), ih j (by omega) (by omega), Nat.pow_succ]; omega
  exact key k (Nat.le_refl _)
theorem W_bound (m k : Nat) : W m k ≤ 2 ^ k := by
 rcases Nat.lt_or_ge m k with h | h
 ·have h1 := W_le (Nat.le_of_lt h) k
  cases k with
  | zero => omega
  | succ k =>
   rw [W_all k (Nat.le_refl _)] at h1
   have : (2 : Nat) ^ k ≤ 2 ^ (k + 1) := Nat.pow_le_pow_right (by decide) (by omega)
   omega
 ·cases k with
  | zero => rw [W_zero]; decide
  | succ k =>
   rw [W_all k h]
   exact Nat.pow_le_pow_right (by decide) (by omega)
def U (m i j : Nat) : Nat := if 1 ≤ j ∧ j ≤ m ∧ j ≤ i then 2 * W m (i - j) else 0
def cL (n k : Nat) : Nat := 2 * W k n - 2 * W (k - 1) n
theorem cL_sum {n : Nat} (hn : 1 ≤ n) : ∀ k, sm k (fun i => cL n (i + 1)) = 2 * W k n
 | 0 => by obtain ⟨n, rfl⟩ : ∃ k, n = k + 1 := ⟨n - 1, by omega⟩; rw [W_none]; rfl
 | k + 1 => by
  rw [sm, cL_sum hn k]
  unfold cL
  have := W_mono k n
  rw [Nat.add_sub_cancel]; omega
theorem cL_all {n : Nat} (hn : 1 ≤ n) : sm n (fun i => cL n (i + 1)) = 2 ^ n := by
 rw [cL_sum hn]
 obtain ⟨n, rfl⟩ : ∃ k, n = k + 1 := ⟨n - 1, by omega⟩
 rw [W_all n (Nat.le_refl _), Nat.pow_succ]; omega
end LvM
namespace LvQ
open RatM LvM
def dy (n x : Nat) : Rat := qv false x (2 ^ n)
theorem p2 (n : Nat) : (2 : Nat) ^ n ≠ 0 := Nat.ne_of_gt (Nat.two_pow_pos n)
theorem dy_div (n x : Nat) : dy n x = (x : Rat) / ((2 ^ n : Nat) : Rat) := rfl
theorem dy_zero (n : Nat) : dy n 0 = 0 := qv_zero false _
theorem dy_add (n x y : Nat) : dy n x + dy n y = dy n (x + y) := by
 rw [dy_div, dy_div, dy_div, Rat.natCast_add]
 grind
theorem dy_pos {n x : Nat} (h : 0 < x) : 0 < dy n x := qv_pos (by omega) (p2 n)
theorem dy_lt {n x y : Nat} (h : x < y) : dy n x < dy n y := by
 have h1 := dy_add n x (y - x)
 have h2 := dy_pos (n := n) (show 0 < y - x by omega)
 rw [show x + (y - x) = y by omega] at h1
 grind
theorem dy_parts (n x : Nat) : (dy n x).num = ((x / Nat.gcd x (2 ^ n) : Nat) : Int) ∧ (dy n x).den = 2 ^ n / Nat.gcd x (2 ^ n) := by
 obtain ⟨h1, h2⟩ := qv_num false (n := x) (p2 n)
 refine ⟨?_, h2⟩
 have h3 : (0 : Rat) ≤ dy n x := by
  rcases Nat.eq_zero_or_pos x with h | h
  ·rw [h, dy_zero]; exact Rat.le_refl
  ·have := dy_pos (n := n) h; grind
 have h4 : 0 ≤ (dy n x).num := Rat.num_nonneg.2 h3
 have h5 : (dy n x).num.natAbs = x / Nat.gcd x (2 ^ n) := h1
 omega
theorem dy_small {n x : Nat} (hx : x ≤ 2 ^ n) (hn : n ≤ 50) : smallQ (dy n x) = true := by
 obtain ⟨h1, h2⟩ := dy_parts n x
 have h3 : (2 : Nat) ^ n ≤ 2 ^ 50 := Nat.pow_le_pow_right (by decide) hn
 have h4 : x / Nat.gcd x (2 ^ n) ≤ x := Nat.div_le_self _ _
 have h5 : 2 ^ n / Nat.gcd x (2 ^ n) ≤ 2 ^ n := Nat.div_le_self _ _
 exact (small_yes (by rw [h1, Int.natAbs_natCast]; omega) (by rw [h2]; omega)).1
theorem dy_vf {n x : Nat} (hx : x ≤ 2 ^ n) (hn : n ≤ 50) : VF (dy n x).num ((dy n x).den : Int) := VF.of _ (dy_small hx hn)
theorem dy_numQ {n x : Nat} (hx : x ≤ 2 ^ n) (hn : n ≤ 50) : numQ (dy n x) = (dy n x).num ∧ denQ (dy n x) = ((dy n x).den : Int) := by
 obtain ⟨h1, h2⟩ := small_true (dy_small hx hn)
 obtain ⟨_, h3, h4⟩ := small_yes h1 h2
 exact ⟨h3, h4⟩
structure Cnt where
 first : Nat
 many : Nat
 c : Nat → Nat
def Cnt.ok (C : Cnt) (n : Nat) : Prop := C.first ≤ 1 ∧ C.many ≤ n + 1 ∧ (∀ i, i < C.many → 0 < C.c i) ∧ sm C.many C.c = 2 ^ n
def upS (C : Cnt) (t k : Nat) : Nat := sm k fun i => if C.c i ≤ t then C.c i else 0
theorem upS_zero (C : Cnt) (t : Nat) : upS C t 0 = 0 := rfl
theorem upS_yes {C : Cnt} {t k : Nat} (h : C.c k ≤ t) : upS C t (k + 1) = upS C t k + C.c k := by rw [upS, sm, if_pos h]; rfl
theorem upS_no {C : Cnt} {t k : Nat} (h : ¬ C.c k ≤ t) : upS C t (k + 1) = upS C t k := by rw [upS, sm, if_neg h]; rfl
theorem upS_le {C : Cnt} {n : Nat} (h : C.ok n) (t : Nat) {k : Nat} (hk : k ≤ C.many) : upS C t k ≤ 2 ^ n := by
 rw [← h.2.2.2]
 refine Nat.le_trans (sm_le fun i hi => ?_) (sm_mono hk)
 split <;> omega
theorem Cnt.one_le {C : Cnt} {n : Nat} (h : C.ok n) {k : Nat} (hk : k < C.many) : C.c k ≤ 2 ^ n := by
 rw [← h.2.2.2]; exact sm_one hk
def lenC (n : Nat) : Cnt := ⟨1, n, fun i => cL n (i + 1)⟩
theorem W_pos {m : Nat} (hm : 1 ≤ m) : ∀ k, 0 < W m k := by
 intro k
 induction k using Nat.strongRecOn with
 | _ k ih =>
  cases k with
  | zero => rw [W_zero]; decide
  | succ k =>
   rw [W_succ]
   have h : 0 < min m (k + 1) := by omega
   exact Nat.lt_of_lt_of_le (ih (k - 0) (by omega)) (sm_one (f := fun r => W m (k - r)) h)
theorem W_less {k n : Nat} (hk : k + 1 ≤ n) : W k n < W (k + 1) n := by
 obtain ⟨n, rfl⟩ : ∃ j, n = j + 1 := ⟨n - 1, by omega⟩
 rw [W_succ, W_succ, show min (k + 1) (n + 1) = k + 1 by omega, show min k (n + 1) = k by omega, sm]
 have h1 : sm k (fun r => W k (n - r)) ≤ sm k (fun r => W (k + 1) (n - r)) := sm_le fun i hi => W_mono k _
 have h2 := W_pos (m := k + 1) (by omega) (n - k)
 omega
theorem lenC_ok {n : Nat} (hn : 1 ≤ n) : (lenC n).ok n := by
 refine ⟨Nat.le_refl _, Nat.le_succ _, fun i hi => ?_, cL_all hn⟩
 show 0 < cL n (i + 1)
 have := W_less (k := i) (n := n) hi
 unfold cL
 rw [Nat.add_sub_cancel]; omega
end LvQ
namespace LvO
open Go.RowKit Base Mem
def fl (n : Nat) (f : Nat → Nat) : List Int := (List.range n).map fun j => ((f j : Nat) : Int)
theorem fl_len (n : Nat) (f : Nat → Nat) : (fl n f).length = n := by simp [fl]
theorem fl_at {n i : Nat} (f : Nat → Nat) (h : i < n) : (fl n f).getD i 0 = ((f i : Nat) : Int) := by simp [fl, List.getD, h]
theorem fl_succ (n : Nat) (f : Nat → Nat) : fl (n + 1) f = fl n f ++ [((f n : Nat) : Int)] := by simp [fl, List.range_succ]
theorem pushI {wr w2 : World} {B : Nat} {v v' : Value} {xs : List Int} {x : Int} (hO : OwnI wr B v xs) (hB : B ≤ wr.heap.size)
  (hown : w2.ownsRow B 2 1 v' (xs.length + 1) (ints xs ++ [.int .i64 x])) : OwnI w2 B v' (xs ++ [x]) := by
 unfold OwnI
 rw [List.length_append, show ints (xs ++ [x]) = ints xs ++ [.int .i64 x] by simp [ints]]
 exact hown
theorem pushB {wr w1 w2 : World} {B n : Nat} {v : Value} {t : TypeId} {size : Nat} {xs : List Value} (hO : wr.ownsRow B t size v n xs) (hB : B ≤ wr.heap.size) (h1 : Below wr.heap.size wr w1) (hg : w1.grownBy w2 v.ownBlock) : Below B wr w2 :=
 (h1.mono hB).trans (grown_below hg (fun g e => (ownsRow_block hO e).choose_spec.2.1) (Nat.le_trans hB h1.size))
theorem storeI {w : World} {B n c0 g i : Nat} {l : List Int} (x : Int) (h : OwnI w B (.slice (some ⟨g, 0, none⟩) n c0) l) (hn : l.length = n) :
  OwnI (w.setCell ⟨g, i, none⟩ (.int .i64 x)) B (.slice (some ⟨g, 0, none⟩) n c0) (l.set i x) ∧ w.grownBy (w.setCell ⟨g, i, none⟩ (.int .i64 x)) (some g) := by
 subst hn
 unfold OwnI at *
 obtain ⟨h1, g1⟩ := h.stored i (.int .i64 x)
 rw [ints_set] at h1
 exact ⟨by rw [List.length_set]; exact h1, g1⟩
theorem nextI {w0 wr w1 w2 : World} {B n : Nat} {f : Nat → Nat} {v v' : Value} (hB : B ≤ wr.heap.size) (hO : OwnI wr B v (fl n f)) (hb : Below B w0 wr) (h1 : Below wr.heap.size wr w1)
  (hown : w2.ownsRow B 2 1 v' (n + 1) (ints (fl n f) ++ [.int .i64 ((f n : Nat) : Int)])) (hg : w1.grownBy w2 v.ownBlock) : OwnI w2 B v' (fl (n + 1) f) ∧ Below B w0 w2 := by
 refine ⟨?_, hb.trans (pushB hO hB h1 hg)⟩
 rw [fl_succ]
 exact pushI hO hB (by rw [fl_len]; exact hown)
theorem lit1 (w : World) {B : Nat} (hB : B ≤ w.heap.size) (f : Nat → Nat) {x : Int} (h : x = ((f 0 : Nat) : Int)) : OwnI (w.alloc (.cells #[.int .i64 x] 2)) B (.slice (some ⟨w.heap.size, 0, none⟩) 1 1) (fl 1 f) := by
 have h1 := own_lit w hB (fl 1 f) (by rw [fl_len]; decide)
 rw [show fl 1 f = [x] by rw [h]; rfl] at h1 ⊢
 exact h1
theorem lit0 (w : World) {B : Nat} (hB : B ≤ w.heap.size) (f : Nat → Nat) : OwnI (w.alloc (.cells #[] 2)) B (.slice (some ⟨w.heap.size, 0, none⟩) 0 0) (fl 0 f) := own_lit w hB [] (by decide)
theorem rdO {w : World} {B g n c : Nat} {f : Nat → Nat} (h : OwnI w B (.slice (some ⟨g, 0, none⟩) n c) (fl n f)) {i : Nat} (hi : i < n) : w.cell? ⟨g, i, none⟩ = some (.int .i64 ((f i : Nat) : Int)) ∧ w.frozen? ⟨g, i, none⟩ = false := by
 have h' : w.ownsRow B 2 1 (.slice (some ⟨g, 0, none⟩) (fl n f).length c) (fl n f).length (ints (fl n f)) := by
  have := h
  unfold OwnI at this
  rw [fl_len] at this ⊢
  exact this
 have e := World.ownsRow.cellAt h' i (by rw [fl_len]; omega)
 rw [ints_get _ i (by rw [fl_len]; exact hi), fl_at f hi] at e
 exact ⟨e, h'.frozenAt i⟩
end LvO
namespace Cuts
open Go.RowKit Base Mem AllIn Pts RevNet Bits
end Cuts
namespace MemF
open Go.RowKit Base Mem
def RdF (w : World) (B : Nat) (A : Option Addr) (n : Nat) (fs : List Int) : Prop :=
 0 < n → ∃ b off, A = some ⟨b, off, none⟩ ∧ b < B ∧ ∀ i, i < 2 * n → w.cell? ⟨b, off + i, none⟩ = some (.int .i64 (fs.getD i 0))
theorem RdF.below {w w' : World} {B C n : Nat} {A : Option Addr} {fs : List Int} (h : RdF w B A n fs) (hb : Below C w w') (hBC : B ≤ C) : RdF w' B A n fs := fun h0 => by
 obtain ⟨b, off, e, hlt, hc⟩ := h h0
 exact ⟨b, off, e, hlt, fun i hi => (hb.cell (p := ⟨b, off + i, none⟩) (by show b < C; omega)).trans (hc i hi)⟩
theorem RdF.more {w : World} {B C n : Nat} {A : Option Addr} {fs : List Int} (h : RdF w B A n fs) (hBC : B ≤ C) : RdF w C A n fs := fun h0 => by
 obtain ⟨b, off, e, hlt, hc⟩ := h h0
 exact ⟨b, off, e, by omega, hc⟩
def OwnF (w : World) (B : Nat) (v : Value) (n : Nat) (fs : List Int) : Prop := w.ownsRow B 49 2 v n (ints fs)
theorem OwnF.len {w : World} {B n : Nat} {v : Value} {fs : List Int} (h : OwnF w B v n fs) : fs.length = 2 * n := by
 have := h.1
 rw [ints_len] at this
 omega
theorem OwnF.form {w : World} {B n : Nat} {v : Value} {fs : List Int} (h : OwnF w B v n fs) : ∃ A c, v = .slice A n c ∧ (0 < n → ∃ g, A = some ⟨g, 0, none⟩ ∧ B ≤ g ∧ g < w.heap.size) := ownsRow_form h
theorem OwnF.rd {w : World} {B n m c : Nat} {A : Option Addr} {fs : List Int} (h : OwnF w B (.slice A m c) n fs) : RdF w w.heap.size A n fs := fun h0 => by
 obtain ⟨A', c', e, hf⟩ := ownsRow_form h
 injection e with e1 e2 e3
 subst e1 e2 e3
 obtain ⟨g, rfl, _, hlt⟩ := hf h0
 refine ⟨g, 0, rfl, hlt, fun i hi => ?_⟩
 have hl := h.len
 rw [Nat.zero_add, World.ownsRow.cellAt h i (by omega), ints_get fs i (by omega)]
theorem OwnF.below {w w' : World} {B n : Nat} {v : Value} {fs : List Int} (h : OwnF w B v n fs) (hb : Below w.heap.size w w') : OwnF w' B v n fs := ownsRow_below h hb
theorem RdF.at {w : World} {B n : Nat} {A : Option Addr} {fs : List Int} (h : RdF w B A n fs) {j : Nat} (hj : j < n) : ∃ b off, A = some ⟨b, off, none⟩ ∧ b < B ∧ w.cell? ⟨b, off + j * 2, none⟩ = some (.int .i64 (fs.getD (2 * j) 0)) ∧ w.cell? ⟨b, off + j * 2 + 1, none⟩ = some (.int .i64 (fs.getD (2 * j + 1) 0)) := by
 obtain ⟨b, off, e, hlt, hc⟩ := h (by omega)
 refine ⟨b, off, e, hlt, ?_, ?_⟩
 ·have := hc (2 * j) (by omega); rw [Nat.mul_comm j 2]; exact this
 ·have := hc (2 * j + 1) (by omega); rw [← Nat.add_assoc] at this; rw [Nat.mul_comm j 2]; exact this
theorem infoFr : (Tryz.prog.info? 49).map (fun i => (i.zero, i.size, i.bytes)) = some (some (.agg #[.int .i64 0, .int .i64 0]), 2, 16) := by kernel_rfl
theorem ones_two {a b : Int} : ∀ u ∈ [Value.int .i64 a, .int .i64 b], u.oneCell' = true := by
 intro u hu
 simp only [List.mem_cons, List.not_mem_nil, or_false] at hu
 rcases hu with rfl | rfl <;> rfl
def FsRet (N : Nat) (R : List Int) (ok : Bool) (w : World) (e : Ending) (w' : World) : Prop := ∃ A c, e = .returned (.tuple #[.slice A N c, .bool ok]) ∧ OwnF w' w.heap.size (.slice A N c) N R ∧ Below w.heap.size w w'
theorem FsRet.no {w w' : World} (h : Below w.heap.size w w') : FsRet 0 [] false w (.returned (.tuple #[.slice none 0 0, .bool false])) w' := ⟨none, 0, rfl, World.ownsRow_nil _ _ _ _, h⟩
end MemF
namespace GiveM
open Go.RowKit Base Mem MemF RatM
def smallAll (f : Nat → Rat) (n : Nat) : Bool := (List.range n).all fun i => smallQ (f i)
def outF (f : Nat → Rat) : Nat → List Int
 | 0 => []
 | n + 1 => outF f n ++ [numQ (f n), denQ (f n)]
def gN (f : Nat → Rat) (n : Nat) : Nat := if smallAll f n then n else 0
def gR (f : Nat → Rat) (n : Nat) : List Int := if smallAll f n then outF f n else []
theorem small_no {f : Nat → Rat} {n i : Nat} (hi : i < n) (h : smallQ (f i) = false) : gN f n = 0 ∧ gR f n = [] ∧ smallAll f n = false := by
 have e : smallAll f n = false := by
  cases h' : smallAll f n with
  | false => rfl
  | true =>
   have := List.all_eq_true.1 h' i (List.mem_range.2 hi)
   rw [h] at this; cases this
 exact ⟨by rw [gN, e]; rfl, by rw [gR, e]; rfl, e⟩
end GiveM
namespace TwoM
end TwoM
namespace Two
open Go.RowKit Base Mem TwoM Blk
def two (t : Nat) : Value := .agg #[.int .u64 ((t / 18446744073709551616 : Nat) : Int), .int .u64 ((t % 18446744073709551616 : Nat) : Int)]
theorem u64_or (a b : Nat) (ha : a < 18446744073709551616) (hb : b < 18446744073709551616) : bits .or .u64 (a : Int) (b : Int) = ((a ||| b : Nat) : Int) := by
 have hx : a ||| b < 2 ^ 64 := Nat.or_lt_two_pow (by omega) (by omega)
 have e : ∀ z : Nat, z < 18446744073709551616 → (BitVec.ofInt 64 (z : Int)).toNat = z := fun z hz => by
  rw [BitVec.ofInt_natCast, BitVec.toNat_ofNat]; exact Nat.mod_eq_of_lt (by omega)
 show IntKind.u64.wrap ((BitVec.ofInt 64 (a : Int) ||| BitVec.ofInt 64 (b : Int)).toNat : Int) = _
 rw [BitVec.toNat_or, e a ha, e b hb, IntKind.wrap_u64]
 omega
end Two
namespace Two
open Go.RowKit Base Mem TwoM Blk
end Two
namespace Two
open Go.RowKit Base Mem TwoM Blk
end Two
namespace Fine
open Go.RowKit Base Mem RatM Two Blk
end Fine
namespace LvT
open Go.RowKit Base Mem MemF GiveM RatM LvM LvQ LvO Blk
def cz (C : Cnt) (i : Nat) : Nat := if i < C.first then 0 else C.c (i - C.first)
def fD (C : Cnt) (n : Nat) (i : Nat) : Rat := dy n (C.c i)
def vD (C : Cnt) (i : Nat) : Nat := C.first + i
def LawIs (C : Cnt) (n : Nat) (w : World) (v : Value) : Prop := ∃ A c A' c', v = .agg #[.slice A C.many c, .slice A' C.many c'] ∧ RdI w w.heap.size A (fl C.many (vD C)) ∧ RdF w w.heap.size A' C.many (outF (fD C n) C.many)
def LawOwn (C : Cnt) (n B : Nat) (w : World) (v : Value) : Prop := ∃ A c A' c', v = .agg #[.slice A C.many c, .slice A' C.many c'] ∧ OwnI w B (.slice A C.many c) (fl C.many (vD C)) ∧ OwnF w B (.slice A' C.many c') C.many (outF (fD C n) C.many)
theorem LawOwn.is {C : Cnt} {n B : Nat} {w : World} {v : Value} (h : LawOwn C n B w v) : LawIs C n w v := by
 obtain ⟨A, c, A', c', e, h1, h2⟩ := h
 exact ⟨A, c, A', c', e, h1.rd, h2.rd⟩
def LawRet (C : Cnt) (n : Nat) (w : World) (e : Ending) (w' : World) : Prop := ∃ v, e = .returned v ∧ LawOwn C n w.heap.size w' v ∧ Below w.heap.size w w'
theorem LawRet.put {C : Cnt} {n B : Nat} {w wp : World} {A1 A2 : Option Addr} {c1 c2 : Nat} (h1 : OwnI wp B (.slice A1 C.many c1) (fl C.many (vD C))) (h2 : OwnF wp B (.slice A2 C.many c2) C.many (outF (fD C n) C.many)) (hB : w.heap.size < B) (hb : Below w.heap.size w wp) :
  LawRet C n w (.returned (.agg #[.slice A1 C.many c1, .slice A2 C.many c2])) ((wp.setCell ⟨w.heap.size, 0, none⟩ (.slice A1 C.many c1)).setCell ⟨w.heap.size, 1, none⟩ (.slice A2 C.many c2)) := by
 refine ⟨_, rfl, ⟨A1, c1, A2, c2, rfl, ?_, ?_⟩, (hb.setCell (p := ⟨w.heap.size, 0, none⟩) (Nat.le_refl _) _).setCell (p := ⟨w.heap.size, 1, none⟩) (Nat.le_refl _) _⟩
 ·exact ownsRow_base (ownsRow_setCell_below (ownsRow_setCell_below h1 (a := ⟨w.heap.size, 0, none⟩) hB (.slice A1 C.many c1)) (a := ⟨w.heap.size, 1, none⟩) hB (.slice A2 C.many c2)) (by omega)
 ·exact ownsRow_base (ownsRow_setCell_below (ownsRow_setCell_below h2 (a := ⟨w.heap.size, 0, none⟩) hB (.slice A1 C.many c1)) (a := ⟨w.heap.size, 1, none⟩) hB (.slice A2 C.many c2)) (by omega)
theorem LawIs.below {C : Cnt} {n : Nat} {w w' : World} {v : Value} (h : LawIs C n w v) (hb : Below w.heap.size w w') : LawIs C n w' v := by
 obtain ⟨A, c, A', c', e, h1, h2⟩ := h
 exact ⟨A, c, A', c', e, (h1.below hb (Nat.le_refl _)).more hb.size, (h2.below hb (Nat.le_refl _)).more hb.size⟩
theorem rowKept {w w' : World} {B B' n n' size size' : Nat} {e e' : TypeId} {v v' : Value} {xs xs' : List Value} (h : w.ownsRow B e size v n xs) (h' : w.ownsRow B' e' size' v' n' xs') (he : e ≠ e') (hg : w.grownBy w' v'.ownBlock) : w'.ownsRow B e size v n xs := by
 refine World.ownsRow.kept h hg ?_
 cases hb : v.ownBlock with
 | none => exact .inl rfl
 | some g =>
  refine .inr fun hh => ?_
  obtain ⟨cur, h1, _⟩ := ownsRow_block h hb
  obtain ⟨cur', h2, _⟩ := ownsRow_block h' hh.symm
  rw [h1] at h2
  injection h2 with h2
  injection h2 with _ h3
  exact he h3
theorem pushFr {w2 : World} {B k : Nat} {v' : Value} {f : Nat → Rat} (hown : w2.ownsRow B 49 2 v' (k + 1) (ints (outF f k) ++ [.int .i64 (numQ (f k)), .int .i64 (denQ (f k))])) : OwnF w2 B v' (k + 1) (outF f (k + 1)) := by
 show w2.ownsRow B 49 2 v' (k + 1) (ints (outF f (k + 1)))
 rw [outF, show ints (outF f k ++ [numQ (f k), denQ (f k)]) = ints (outF f k) ++ [.int .i64 (numQ (f k)), .int .i64 (denQ (f k))] by simp [ints]]
 exact hown
end LvT
namespace BigM
def D30 : Nat := 1073741824
def val : List Nat → Nat
 | [] => 0
 | x :: xs => x + D30 * val xs
def okN (xs : List Nat) : Prop := ∀ x ∈ xs, x < D30
theorem val_append : ∀ (xs ys : List Nat), val (xs ++ ys) = val xs + D30 ^ xs.length * val ys
 | [], ys => by simp [val]
 | x :: xs, ys => by
  rw [List.cons_append, val, val, val_append xs ys, List.length_cons, Nat.pow_succ, Nat.mul_add, ← Nat.mul_assoc, Nat.mul_comm D30 (D30 ^ xs.length), Nat.add_assoc]
theorem val_lt : ∀ (xs : List Nat), okN xs → val xs < D30 ^ xs.length
 | [], _ => by simp [val]
 | x :: xs, h => by
  have h1 := val_lt xs fun y hy => h y (by simp [hy])
  have h2 := h x (by simp)
  rw [val, List.length_cons, Nat.pow_succ, Nat.mul_comm (D30 ^ xs.length)]
  have h3 : val xs + 1 ≤ D30 ^ xs.length := h1
  have h4 := Nat.mul_le_mul_left D30 h3
  rw [Nat.mul_add] at h4
  omega
def bigL (x : Nat) : List Nat := if h : x = 0 then [] else x % D30 :: bigL (x / D30)
termination_by x
decreasing_by exact Nat.div_lt_self (Nat.pos_of_ne_zero h) (by decide)
theorem bigL_zero : bigL 0 = [] := by rw [bigL]; simp
theorem bigL_pos {x : Nat} (h : x ≠ 0) : bigL x = x % D30 :: bigL (x / D30) := by
 conv => lhs; rw [bigL]
 simp [h]
theorem bigL_val (x : Nat) : val (bigL x) = x := by
 induction x using Nat.strongRecOn with
 | _ x ih =>
  by_cases h : x = 0
  ·subst h; rw [bigL_zero]; rfl
  ·rw [bigL_pos h, val, ih (x / D30) (Nat.div_lt_self (Nat.pos_of_ne_zero h) (by decide))]
   exact Nat.mod_add_div x D30
def canon (xs : List Nat) : Prop := okN xs ∧ ∀ n, xs.length = n + 1 → xs.getD n 0 ≠ 0
theorem okN_cons {x : Nat} {xs : List Nat} (h : okN (x :: xs)) : okN xs := fun y hy => h y (by simp [hy])
theorem canon_bigL : ∀ {xs : List Nat}, canon xs → bigL (val xs) = xs
 | [], _ => bigL_zero
 | x :: xs, h => by
  have hx := h.1 x (by simp)
  have hc : canon xs := ⟨okN_cons h.1, fun n hn => by have := h.2 (n + 1) (by simp [hn]); simpa [List.getD] using this⟩
  have hne : val (x :: xs) ≠ 0 := by
   intro h0
   rw [val] at h0
   rcases xs with _ | ⟨y, ys⟩
   ·have := h.2 0 rfl
    simp [List.getD] at this
    omega
   ·have hy : val (y :: ys) = 0 := by
     have : D30 * val (y :: ys) = 0 := by omega
     rcases Nat.mul_eq_zero.1 this with h1 | h1
     ·exact absurd h1 (by decide)
     ·exact h1
    have e := canon_bigL hc
    rw [hy, bigL_zero] at e
    cases e
  rw [bigL_pos hne]
  have hm : val (x :: xs) % D30 = x := by rw [val, Nat.add_mul_mod_self_left, Nat.mod_eq_of_lt hx]
  have hd : val (x :: xs) / D30 = val xs := by rw [val, Nat.add_mul_div_left _ _ (by decide : 0 < D30), Nat.div_eq_of_lt hx, Nat.zero_add]
  rw [hm, hd, canon_bigL hc]
theorem okN_take {xs : List Nat} (h : okN xs) (n : Nat) : okN (xs.take n) := fun y hy => h y (List.mem_of_mem_take hy)
theorem val_snoc (xs : List Nat) (y : Nat) : val (xs ++ [y]) = val xs + D30 ^ xs.length * y := by
 rw [val_append]; simp [val]
theorem val_take_succ (xs : List Nat) (k : Nat) (h : k < xs.length) : val (xs.take (k + 1)) = val (xs.take k) + D30 ^ k * xs.getD k 0 := by
 rw [List.take_succ_eq_append_getElem h, val_snoc, List.length_take, Nat.min_eq_left (Nat.le_of_lt h)]
 simp [List.getD, h]
theorem trim_done {xs : List Nat} {n : Nat} (hok : okN xs) (hn : n ≤ xs.length) (hv : val (xs.take n) = val xs) (hl : n = 0 ∨ xs.getD (n - 1) 0 ≠ 0) : xs.take n = bigL (val xs) := by
 rw [← hv]
 refine (canon_bigL ⟨okN_take hok n, fun m hm => ?_⟩).symm
 rw [List.length_take, Nat.min_eq_left hn] at hm
 rcases hl with h0 | h0
 ·omega
 ·have e : n - 1 = m := by omega
  rw [e] at h0
  have : (xs.take n).getD m 0 = xs.getD m 0 := by simp [List.getD, show m < n by omega]
  rw [this]; exact h0
theorem trim_step {xs : List Nat} {n : Nat} (hn : n + 1 ≤ xs.length) (hv : val (xs.take (n + 1)) = val xs) (h0 : xs.getD n 0 = 0) : val (xs.take n) = val xs := by
 rw [val_take_succ xs n (by omega), h0] at hv
 omega
theorem val_cmp {xs ys : List Nat} (hl : xs.length = ys.length) (hx : okN xs) (hy : okN ys) : ∀ (n : Nat), n ≤ xs.length → (∀ j, n ≤ j → j < xs.length → xs.getD j 0 = ys.getD j 0) → (val xs < val ys ↔ val (xs.take n) < val (ys.take n)) ∧ (val xs = val ys ↔ val (xs.take n) = val (ys.take n)) := by
 intro n hn
 obtain ⟨d, hd⟩ : ∃ d, xs.length = n + d := ⟨xs.length - n, by omega⟩
 induction d generalizing n with
 | zero =>
  intro _
  rw [List.take_of_length_le (by omega), List.take_of_length_le (by omega)]
  exact ⟨Iff.rfl, Iff.rfl⟩
 | succ d ih =>
  intro he
  have h1 := ih (n + 1) (by omega) (by omega) (fun j hj hj2 => he j (by omega) hj2)
  have e := he n (Nat.le_refl _) (by omega)
  rw [val_take_succ xs n (by omega), val_take_succ ys n (by omega), e] at h1
  refine ⟨h1.1.trans ?_, h1.2.trans ?_⟩ <;> omega
theorem cmp_lt {xs ys : List Nat} (hl : xs.length = ys.length) (hx : okN xs) (hy : okN ys) {n : Nat} (hn : n < xs.length) (he : ∀ j, n + 1 ≤ j → j < xs.length → xs.getD j 0 = ys.getD j 0) (h : xs.getD n 0 < ys.getD n 0) : val xs < val ys := by
 refine (val_cmp hl hx hy (n + 1) (by omega) he).1.2 ?_
 rw [val_take_succ xs n hn, val_take_succ ys n (by omega)]
 have h1 := val_lt _ (okN_take hx n)
 rw [List.length_take, Nat.min_eq_left (by omega)] at h1
 have h2 := Nat.mul_le_mul_left (D30 ^ n) (show xs.getD n 0 + 1 ≤ ys.getD n 0 from h)
 rw [Nat.mul_add, Nat.mul_one] at h2
 omega
theorem val_take_any (ys : List Nat) (i : Nat) : val (ys.take (i + 1)) = val (ys.take i) + D30 ^ i * ys.getD i 0 := by
 rcases Nat.lt_or_ge i ys.length with h | h
 ·exact val_take_succ ys i h
 ·rw [List.take_of_length_le (by omega), List.take_of_length_le h]
  have : ys.getD i 0 = 0 := by simp [List.getD, h]
  rw [this]; simp
theorem sub_step {i vo vy vx b b' D x y : Nat} (h : vo + vy = vx + D30 ^ i * b) (hD : D + y + b = x + D30 * b') :
  (vo + D30 ^ i * D) + (vy + D30 ^ i * y) = (vx + D30 ^ i * x) + D30 ^ (i + 1) * b' := by
 have e : D30 ^ i * D + D30 ^ i * y + D30 ^ i * b = D30 ^ i * x + D30 ^ (i + 1) * b' := by
  rw [← Nat.mul_add, ← Nat.mul_add, hD, Nat.mul_add, Nat.pow_succ, Nat.mul_assoc]
 omega
theorem val_setw : ∀ (l : List Nat) (j d : Nat), j < l.length → val (l.set j d) + D30 ^ j * l.getD j 0 = val l + D30 ^ j * d
 | [], j, d, h => by simp at h
 | x :: l, 0, d, _ => by simp [val]; omega
 | x :: l, j + 1, d, h => by
  have ih := val_setw l j d (by simpa using h)
  rw [List.set_cons_succ, val, val, show (x :: l).getD (j + 1) 0 = l.getD j 0 by simp [List.getD]]
  have e : D30 ^ (j + 1) = D30 * D30 ^ j := by rw [Nat.pow_succ, Nat.mul_comm]
  rw [e, Nat.mul_assoc, Nat.mul_assoc]
  have := congrArg (D30 * ·) ih
  simp only [Nat.mul_add] at this
  omega
theorem okN_setw {l : List Nat} {j d : Nat} (h : okN l) (hd : d < D30) : okN (l.set j d) := fun y hy => by
 rcases List.mem_or_eq_of_mem_set hy with hy | rfl
 ·exact h y hy
 ·exact hd
theorem getD_set_ne {l : List Nat} {i j d : Nat} (h : i ≠ j) : (l.set i d).getD j 0 = l.getD j 0 := by
 simp [List.getD, h]
theorem okN_at {l : List Nat} (h : okN l) (j : Nat) : l.getD j 0 < D30 := by
 rcases Nat.lt_or_ge j l.length with hl | hl
 ·exact h _ (by simp [List.getD, hl])
 ·rw [show l.getD j 0 = 0 by simp [List.getD, hl]]; decide
theorem mul_step {i k vz vz' C V0 x y o vy S : Nat} (h : vz + D30 ^ (i + k) * C = V0 + x * D30 ^ i * vy) (hS : S = C + (o + x * y)) (hset : vz' + D30 ^ (i + k) * o = vz + D30 ^ (i + k) * (S % D30)) :
  vz' + D30 ^ (i + (k + 1)) * (S / D30) = V0 + x * D30 ^ i * (vy + D30 ^ k * y) := by
 have h1 := Nat.mod_add_div S D30
 have e1 : D30 ^ (i + (k + 1)) = D30 ^ (i + k) * D30 := by rw [← Nat.add_assoc, Nat.pow_succ]
 have e2 : D30 ^ (i + k) * S = D30 ^ (i + k) * (S % D30) + D30 ^ (i + k) * D30 * (S / D30) := by rw [Nat.mul_assoc, ← Nat.mul_add, h1]
 have e3 : D30 ^ (i + k) * S = D30 ^ (i + k) * C + (D30 ^ (i + k) * o + D30 ^ (i + k) * (x * y)) := by rw [hS, Nat.mul_add, Nat.mul_add]
 have e4 : x * D30 ^ i * (D30 ^ k * y) = D30 ^ (i + k) * (x * y) := by
  rw [Nat.pow_add]
  simp only [Nat.mul_assoc, Nat.mul_left_comm, Nat.mul_comm]
 rw [e1, Nat.mul_add, e4]
 omega
theorem val_set (ys : List Nat) (i x : Nat) (h : i < ys.length) : val ((ys.set i x).take (i + 1)) = val (ys.take i) + D30 ^ i * x := by
 rw [val_take_succ _ i (by rw [List.length_set]; exact h)]
 have e1 : (ys.set i x).take i = ys.take i := by rw [List.take_set, List.set_eq_of_length_le (by rw [List.length_take]; omega)]
 rw [e1]
 simp [List.getD, h]
theorem okN_set {ys : List Nat} {i x : Nat} (h : i < ys.length) (ho : okN (ys.take i)) (hx : x < D30) : okN ((ys.set i x).take (i + 1)) := by
 have e : (ys.set i x).take (i + 1) = ys.take i ++ [x] := by
  rw [List.take_succ_eq_append_getElem (by rw [List.length_set]; exact h)]
  rw [List.take_set, List.set_eq_of_length_le (by rw [List.length_take]; omega)]
  simp
 rw [e]
 intro y hy
 rcases List.mem_append.1 hy with hy | hy
 ·exact ho y hy
 ·simp only [List.mem_singleton] at hy; rw [hy]; exact hx
theorem val_zeros : ∀ n : Nat, val (List.replicate n 0) = 0
 | 0 => rfl
 | n + 1 => by rw [List.replicate_succ, val, val_zeros n]; rfl
theorem okN_drop {xs : List Nat} (h : okN xs) (k : Nat) : okN (xs.drop k) := fun y hy => h y (List.mem_of_mem_drop hy)
theorem okN_zeros (n : Nat) : okN (List.replicate n 0) := fun y hy => by rw [(List.mem_replicate.1 hy).2]; decide
theorem okN_append {xs ys : List Nat} (h : okN xs) (h' : okN ys) : okN (xs ++ ys) := fun y hy => by
 rcases List.mem_append.1 hy with hy | hy
 ·exact h y hy
 ·exact h' y hy
theorem len_pos {q : Nat} (h : 0 < q) : 0 < (bigL q).length := by
 rcases Nat.eq_zero_or_pos (bigL q).length with h0 | h0
 ·have := bigL_val q
  rw [List.length_eq_zero_iff.1 h0, val] at this
  omega
 ·exact h0
end BigM
end Go.Proofs.YtgipnbeipfhekaaGreatDoor
