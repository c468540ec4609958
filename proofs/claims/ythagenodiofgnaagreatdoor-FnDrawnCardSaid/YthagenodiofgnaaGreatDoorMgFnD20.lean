/- Cards shuffled by a stream: the reference. -/
import Derived.Test.YthagenodiofgnaaGreatDoorMgFnD18
import Derived.Test.YthagenodiofgnaaGreatDoorMgFnD19
namespace Go.Proofs.YthagenodiofgnaaGreatDoor.Face
open Go.RowKit Go.Proofs.YthagenodiofgnaaGreatDoor Go.Proofs.YthagenodiofgnaaGreatDoor.Base Go.Proofs.YthagenodiofgnaaGreatDoor.Mem Go.Proofs.YthagenodiofgnaaGreatDoor.Reg Go.Proofs.YthagenodiofgnaaGreatDoor.Str Go.Proofs.YthagenodiofgnaaGreatDoor.Take Go.Proofs.YthagenodiofgnaaGreatDoor.Skip Go.Proofs.YthagenodiofgnaaGreatDoor.Dice Go.Proofs.YthagenodiofgnaaGreatDoor.Shuf
set_option linter.unusedVariables false
def ordA (K W T m f a : Int) : Nat → Int → List Int → Option (List Int × Int)
 | 0, s, L => some (L, s)
 | k + 1, s, L => match faceR K W T m f a s (k + 2) (by omega) with
  | none => none
  | some (c, u) => ordA K W T m f a k (takeX K W T m f a s (u : Int)) (L ++ [(c : Int)])
theorem ordA_none {K W T m f a s : Int} {k : Nat} {L : List Int} (h : faceR K W T m f a s (k + 2) (by omega) = none) : ordA K W T m f a (k + 1) s L = none := by
 unfold ordA; rw [h]
theorem ordA_some {K W T m f a s : Int} {k c u : Nat} {L : List Int} (h : faceR K W T m f a s (k + 2) (by omega) = some (c, u)) : ordA K W T m f a (k + 1) s L = ordA K W T m f a k (takeX K W T m f a s (u : Int)) (L ++ [(c : Int)]) := by
 conv => lhs; unfold ordA
 rw [h]
def okTo (n : Nat) (L : List Int) : Prop := ∀ j, j < L.length → 0 ≤ L.getD j 0 ∧ L.getD j 0 ≤ ((n - 1 - j : Nat) : Int)
theorem okTo_snoc {n : Nat} {L : List Int} {c : Nat} (h : okTo n L) (hc : c ≤ n - 1 - L.length) : okTo n (L ++ [(c : Int)]) := by
 intro j hj
 simp only [List.length_append, List.length_cons, List.length_nil] at hj
 rcases Nat.lt_or_ge j L.length with hlt | hge
 ·have := h j hlt
  simpa [List.getD, List.getElem?_append_left hlt] using this
 ·obtain rfl : j = L.length := by omega
  simp [List.getD]
  omega
def ordOf (n : Nat) (R : Option (List Int × Int)) : Option (List Int × Int) := R.map fun p => (shufTo n p.1 p.1.length, p.2)
def OrRel (K W T m f a : Int) (n : Nat) (R : Option (List Int × Int)) (B bx bz : Nat) (w : World) (cv ov : Value) (wr : World) : Prop :=
 ∃ (k : Nat) (L : List Int) (s : Int), cv = .int .i64 (k : Int) ∧ L.length + k + 1 = n ∧ okTo n L ∧ B ≤ wr.heap.size ∧ Hid (OwnI wr B ov L) ∧ Hid (SBox wr bx K W T m f a s) ∧ Hid (SBox wr bz 0 0 0 0 0 0 0) ∧ Hid (streamB K W T m f a s = true) ∧ Hid (ordA K W T m f a k s L = R) ∧ Hid (Below w.heap.size w wr)
set_option maxHeartbeats 2000000 in
set_option maxRecDepth 100000 in
theorem specOrder_yes {K W T m f a s : Int} (hB : streamB K W T m f a s = true) (n : Nat) (hn : 0 < n) (hn2 : n ≤ 12) (w : World) : Calls Tryz.prog 13 #[.agg #[.int .i64 K, .int .i64 W, .int .i64 T, .int .i64 m, .int .i64 f, .int .i64 a, .int .i64 s], .int .i64 (n : Int)] w (FsRet K W T m f a (ordOf n (ordA K W T m f a (n - 1) s [])) w) := by
 obtain ⟨W1, hW1, S, R, B⟩ := two w K W T m f a s
 obtain ⟨i0, hi, hz0, hz1, hz2⟩ := info_parts infoI
 have HI := Lib.hid (l11Is_any w.heap.size K W T m f a s W1 S.c0 S.c1 S.c2 S.c3 S.c4 S.c5 S.c6)
 rw [hB] at HI
 have HN := Lib.hid (fun w => l07Many_any (n : Int) w)
 rw [inR_yes (n := (n : Int)) (lo := 1) (hi := 12) (by omega)] at HN
 have HF := Lib.hid (fun (j : Nat) (hj : j ≤ 12) s (h : streamB K W T m f a s = true) w => l11Face_any h (j + 2) (by omega) (by omega) w)
 have HSh := Lib.hid (fun ch A c B w hx hB hk => specShuf_yes n ch A c B w hx hB hk)
 have hZ : W1.heap.size = w.heap.size + 2 := by rw [hW1]; simp
 generalize hA : ordA K W T m f a (n - 1) s [] = RR
 have HA := Lib.hid hA
 have HW := Lib.hid hW1
 have HS := Lib.hid S
 have HR := Lib.hid R
 have HB1 := Lib.hid B
 have HZ := Lib.hid hZ
 have HBs := Lib.hid hB
 clear hW1 S R B hB hA hZ
 go_enter Tryz.func13, Tryz.ntmps13
 go_wp2_with fail
 rw [← HW.out]
 refine HI.out.mono ?_
 rintro e w1 ⟨rfl, k1, hw1⟩
 have b1 : Below W1.heap.size W1 w1 := by rw [hw1]; exact below_drewN (Below.refl _ _) k1
 have hsz : w.heap.size + 2 ≤ w1.heap.size := by have := b1.size; have := HZ.out; omega
 have t1 := HS.out.below b1 HS.out.lt
 have r1 := HR.out.below b1 HR.out.lt
 have BB := Lib.hid (HB1.out.trans (b1.mono HB1.out.size))
 have H0 : Hid (OrRel K W T m f a n RR w1.heap.size (w1.heap.size + 1) (w.heap.size + 1) w (.int .i64 ((n : Int) - 1)) (.slice (some ⟨w1.heap.size, 0, none⟩) 0 0) ((w1.alloc (.cells #[] 2)).alloc (.cells #[.int .i64 K, .int .i64 W, .int .i64 T, .int .i64 m, .int .i64 f, .int .i64 a, .int .i64 s] 29))) := Lib.hid (by
  have q := own_lit (B := w1.heap.size) w1 (Nat.le_refl _) [] (by simp)
  have q2 : OwnI (w1.alloc (.cells #[] 2)) w1.heap.size (.slice (some ⟨w1.heap.size, 0, none⟩) 0 0) [] := q
  have bx := (Below.refl w1.heap.size w1).alloc (Nat.le_refl _) (.cells #[] 2)
  have by_ := (Below.refl (w1.alloc (.cells #[] 2)).heap.size (w1.alloc (.cells #[] 2))).alloc (Nat.le_refl _) (.cells #[.int .i64 K, .int .i64 W, .int .i64 T, .int .i64 m, .int .i64 f, .int .i64 a, .int .i64 s] 29)
  have k2 := SBox.new (w1.alloc (.cells #[] 2)) K W T m f a s
  rw [World.size_alloc] at k2
  exact ⟨n - 1, [], s, by congr 1; omega, by simp; omega, fun j hj => absurd hj (Nat.not_lt_zero j), Nat.le_trans bx.size by_.size, Lib.hid (ownsRow_below q2 by_), Lib.hid k2, Lib.hid ((r1.below bx r1.lt).below by_ (Nat.lt_of_lt_of_le r1.lt bx.size)), HBs, HA, Lib.hid ((BB.out.trans (bx.mono BB.out.size)).trans (by_.mono (Nat.le_trans BB.out.size bx.size)))⟩)
 have hlw : w.heap.size < w1.heap.size := by omega
 have c0 := (t1).c0; have c1 := (t1).c1; have c2 := (t1).c2; have c3 := (t1).c3; have c4 := (t1).c4; have c5 := (t1).c5; have c6 := (t1).c6
 clear b1 t1 r1 hw1
 go_wp2_with fail
 refine (HN.out _).mono ?_
 rintro e w' ⟨rfl, rfl⟩
 go_wp2
 go_loopw [9, 7] (fun cv ov wr => OrRel K W T m f a n RR w1.heap.size (w1.heap.size + 1) (w.heap.size + 1) w cv ov wr) (fun cv _ _ => (intOf cv).toNat)
 case atStart => exact H0.out
 case round =>
  obtain ⟨k, L, sc, rfl, hkL, hok, hBw, HO, HX, HZb, HBc, HAc, HBl⟩ := hrel
  clear H0 c0 c1 c2 c3 c4 c5 c6
  have hzb := HZb.out.lt
  have hxb := HX.out.lt
  by_cases hk : 0 < k
  ·obtain ⟨j, rfl⟩ : ∃ j, k = j + 1 := ⟨k - 1, by omega⟩
   have HFs := Lib.hid (fun w => HF.out j (by omega) sc HBc.out w)
   have hcast : ((j + 2 : Nat) : Int) = (j : Int) + 1 + 1 := by omega
   rw [hcast] at HFs
   clear hcast
   have x0 := (HX.out).c0; have x1 := (HX.out).c1; have x2 := (HX.out).c2; have x3 := (HX.out).c3; have x4 := (HX.out).c4; have x5 := (HX.out).c5; have x6 := (HX.out).c6
   cases hr : faceR K W T m f a sc (j + 2) (by omega) with
   | none =>
    rw [hr] at HFs
    have HFn := Lib.hid (fun w => (HFs.out w).mono fun e w' h => (show e = .returned (.tuple #[.int .i64 0, .agg #[.int .i64 0, .int .i64 0, .int .i64 0, .int .i64 0, .int .i64 0, .int .i64 0, .int .i64 0], .bool false]) ∧ Below w.heap.size w w' from ⟨h.2.1 rfl, h.2.2⟩))
    have HNo := Lib.hid ((ordA_none (k := j) (L := L) hr).symm.trans HAc.out).symm
    clear hr HFs
    go_wp2_with fail
    refine (HFn.out _).mono ?_
    rintro e w2 ⟨rfl, b2⟩
    have hz3 : w.heap.size + 1 < w2.heap.size := by have := b2.size; omega
    have RY := HZb.out.below b2 HZb.out.lt
    have BB3 := Lib.hid (HBl.out.trans (b2.mono HBl.out.size))
    clear b2 x0 x1 x2 x3 x4 x5 x6
    have d0 := (RY).c0; have d1 := (RY).c1; have d2 := (RY).c2; have d3 := (RY).c3; have d4 := (RY).c4; have d5 := (RY).c5; have d6 := (RY).c6
    have g0 := (RY).frz 0; have g1 := (RY).frz 1; have g2 := (RY).frz 2; have g3 := (RY).frz 3; have g4 := (RY).frz 4; have g5 := (RY).frz 5; have g6 := (RY).frz 6
    have S8 := (RY.set7 0 0 0 0 0 0 0).below ((Below.refl _ _).alloc (Nat.le_refl _) (.cells #[.int .i64 0, .int .i64 0, .int .i64 0, .int .i64 0, .int .i64 0, .int .i64 0, .int .i64 0] 29)) (RY.set7 0 0 0 0 0 0 0).lt
    have p0 := (S8).c0; have p1 := (S8).c1; have p2 := (S8).c2; have p3 := (S8).c3; have p4 := (S8).c4; have p5 := (S8).c5; have p6 := (S8).c6
    simp only [set7] at p0 p1 p2 p3 p4 p5 p6
    have hs7 := (grown_set7 w2 (w.heap.size + 1) 0 0 0 0 0 0 0).size
    have HBN := Lib.hid ((below_set7 (b := w.heap.size + 1) BB3.out (Nat.le_succ _) BB3.out.size 0 0 0 0 0 0 0).alloc (Nat.le_trans BB3.out.size hs7) (.cells #[.int .i64 0, .int .i64 0, .int .i64 0, .int .i64 0, .int .i64 0, .int .i64 0, .int .i64 0] 29))
    clear S8 RY hs7
    go_wp2
    exact bodyPost_ret (v := .tuple #[.slice none 0 0, .agg #[.int .i64 0, .int .i64 0, .int .i64 0, .int .i64 0, .int .i64 0, .int .i64 0, .int .i64 0], .bool false]) (by simp [results, Tryz.results13, go_sem, p0, p1, p2, p3, p4, p5, p6]) rfl (FsRet.no (by rw [HNo.out]; rfl) rfl HBN.out)
   | some p =>
    obtain ⟨cf, uf⟩ := p
    rw [hr] at HFs
    have HFn := Lib.hid (fun w => (HFs.out w).mono fun e w' h => (show e = .returned (.tuple #[.int .i64 (cf : Int), .agg #[.int .i64 K, .int .i64 W, .int .i64 T, .int .i64 m, .int .i64 f, .int .i64 a, .int .i64 (takeX K W T m f a sc (uf : Int))], .bool true]) ∧ Below w.heap.size w w' from ⟨h.1 cf uf rfl, h.2.2⟩))
    have HA2 := Lib.hid ((ordA_some (k := j) (L := L) hr).symm.trans HAc.out)
    have HB2 := Lib.hid (streamB_takeX (c := (uf : Int)) HBc.out)
    have hcf := (faceR_bd (by omega) hr).1
    clear hr HFs
    obtain ⟨x, hx⟩ : ∃ x, takeX K W T m f a sc (uf : Int) = x := ⟨_, rfl⟩
    rw [hx] at HFn HA2 HB2
    clear hx
    go_wp2_with fail
    refine (HFn.out _).mono ?_
    rintro e w2 ⟨rfl, b2⟩
    have bz : Below w2.heap.size w2 (w2.alloc (.cells #[.int .i64 K, .int .i64 W, .int .i64 T, .int .i64 m, .int .i64 f, .int .i64 a, .int .i64 x] 29)) := (Below.refl _ _).alloc (Nat.le_refl _) _
    have ba : Below (w2.alloc (.cells #[.int .i64 K, .int .i64 W, .int .i64 T, .int .i64 m, .int .i64 f, .int .i64 a, .int .i64 x] 29)).heap.size (w2.alloc (.cells #[.int .i64 K, .int .i64 W, .int .i64 T, .int .i64 m, .int .i64 f, .int .i64 a, .int .i64 x] 29)) ((w2.alloc (.cells #[.int .i64 K, .int .i64 W, .int .i64 T, .int .i64 m, .int .i64 f, .int .i64 a, .int .i64 x] 29)).alloc (.cells #[.int .i64 (cf : Int)] 2)) := (Below.refl _ _).alloc (Nat.le_refl _) _
    have b4 := Base.Below.nextA (Base.Below.nextA b2 bz) ba
    have hown := ownsRow_below HO.out b4
    have U0 := ((SBox.new w2 K W T m f a x).below ba (by simp))
    have HU := Lib.hid U0
    have HWn := Lib.hid hown
    have HB4 := Lib.hid b4
    have hlz2 : w1.heap.size + 1 < w2.heap.size := by have := b2.size; omega
    clear b2 bz ba b4 hown U0 x0 x1 x2 x3 x4 x5 x6
    go_wp2_with (at_builtin; refine wpList_append_own_at _ rfl (.tmp 42) (.tmp 44) 32 rfl w1.heap.size 2 i0 (.int .i64 0) 1 8 Tryz.underlying32 hi hz0 hz1 hz2 rfl (by decide) _ _ _ rfl HWn.out ⟨(w2.heap.size + 1), 0, none⟩ 1 1 [.int .i64 (cf : Int)] rfl rfl ?p1a ?p2a ?p3a ?p4a ?p5a ?_)
    try case p1a => exact news_one _ _ _ (by simp)
    try case p2a => first | exact one_int | rfl | simp
    try case p3a => first | (simp only [maxLen]; omega) | omega
    try case p4a => omega
    try case p5a => first | (simp only [World.size_alloc]; omega) | omega
    intro v' w3 hown' hg' _ he
    have HN := Lib.hid (faces_next (c := (cf : Int)) (s2 := x) HO.out HX.out HZb.out (by omega) (by omega) (by omega) HBl.out HB4.out hown' hg')
    have HSZ5 := Lib.hid (show w1.heap.size ≤ (set7 w3 (w1.heap.size + 1) K W T m f a x).heap.size from Nat.le_trans (Nat.le_trans (by simp; omega) hg'.size) (grown_set7 w3 (w1.heap.size + 1) K W T m f a x).size)
    have q := HN.out.2.2.2.2.1
    have qn := HU.out.kept hg' (own_not_str HWn.out HU.out)
    have y0 := (q).c0; have y1 := (q).c1; have y2 := (q).c2; have y3 := (q).c3; have y4 := (q).c4; have y5 := (q).c5; have y6 := (q).c6
    have z0 := (q).frz 0; have z1 := (q).frz 1; have z2 := (q).frz 2; have z3 := (q).frz 3; have z4 := (q).frz 4; have z5 := (q).frz 5; have z6 := (q).frz 6
    have x0 := (qn).c0; have x1 := (qn).c1; have x2 := (qn).c2; have x3 := (qn).c3; have x4 := (qn).c4; have x5 := (qn).c5; have x6 := (qn).c6
    have hq : w2.heap.size < w3.heap.size := qn.lt
    clear hown' hg' he q qn
    go_wp2
    go_roundw
    case rel => exact ⟨j, L ++ [(cf : Int)], x, by go_num, by simp; omega, okTo_snoc hok (by omega), HSZ5.out, Lib.hid HN.out.1, Lib.hid HN.out.2.1, Lib.hid HN.out.2.2.1, HB2, HA2, Lib.hid HN.out.2.2.2.1⟩
    case measure => simp [intOf]
  ·obtain rfl : k = 0 := by omega
   obtain ⟨A, cp, eA, _⟩ := HO.out.form
   subst eA
   have HAe := Lib.hid (show RR = some (L, sc) from by rw [← HAc.out]; rfl)
   have HSx := Lib.hid (HSh.out L A cp wr.heap.size wr HO.out.rd (Nat.le_refl _) ⟨by omega, by omega, hok⟩)
   have HOk := Lib.hid hok
   clear hok
   go_wp2_with fail
   refine HSx.out.mono ?_
   rintro e w5 ⟨A5, c5, rfl, o5, b5⟩
   have X5 := HX.out.below b5 HX.out.lt
   have Z5 := HZb.out.below b5 HZb.out.lt
   have O5 := Lib.hid o5
   have hlen := shufTo_len n L L.length
   have x0 := (X5).c0; have x1 := (X5).c1; have x2 := (X5).c2; have x3 := (X5).c3; have x4 := (X5).c4; have x5 := (X5).c5; have x6 := (X5).c6
   have h0 := (Z5).c0; have h1 := (Z5).c1; have h2 := (Z5).c2; have h3 := (Z5).c3; have h4 := (Z5).c4; have h5 := (Z5).c5; have h6 := (Z5).c6
   have g0 := (Z5).frz 0; have g1 := (Z5).frz 1; have g2 := (Z5).frz 2; have g3 := (Z5).frz 3; have g4 := (Z5).frz 4; have g5 := (Z5).frz 5; have g6 := (Z5).frz 6
   have S8 := Z5.set7 K W T m f a sc
   have p0 := (S8).c0; have p1 := (S8).c1; have p2 := (S8).c2; have p3 := (S8).c3; have p4 := (S8).c4; have p5 := (S8).c5; have p6 := (S8).c6
   simp only [set7] at p0 p1 p2 p3 p4 p5 p6
   have BB5 := Lib.hid (HBl.out.trans (b5.mono HBl.out.size))
   have B7 := Lib.hid (BB5.out.trans (grown_below (grown_set7 w5 (w.heap.size + 1) K W T m f a sc) (fun g e => by cases e; exact Nat.le_succ _) BB5.out.size))
   have o5' : w5.ownsRow wr.heap.size 2 1 (.slice A5 n c5) n (ints (shufTo n L L.length)) := by have := o5; unfold OwnI at this; rw [hlen] at this; exact this
   have O7 := Lib.hid (own_set7 o5' Z5 K W T m f a sc)
   have HLe := Lib.hid hlen
   have mixed : Tryz.prog.follows .mixedOrders = true := by kernel_rfl
   clear S8 X5 Z5 b5 o5 o5' hlen
   go_wp2_with fail
   go_region_o
   all_goals
    go_wp2
    refine bodyPost_ret (v := .tuple #[.slice A5 n c5, .agg #[.int .i64 K, .int .i64 W, .int .i64 T, .int .i64 m, .int .i64 f, .int .i64 a, .int .i64 sc], .bool true]) (by simp [results, Tryz.results13, go_sem, p0, p1, p2, p3, p4, p5, p6]) rfl (FsRet.yes (L := shufTo n L L.length) (s' := sc) (A := A5) (c := c5) (by rw [HAe.out]; rfl) (by rw [HLe.out]) ?_ (Below.drew B7.out))
    unfold OwnI
    rw [HLe.out]
    exact ownsRow_base (ownsRow_below O7.out ((Below.refl _ _).drew)) (by omega)
end Go.Proofs.YthagenodiofgnaaGreatDoor.Face
