/- Numbers drawn from a stream one after another, of the reference. -/
import Derived.Test.YthagenodiofgnaaGreatDoorMgFnD16
import Derived.Test.YthagenodiofgnaaGreatDoorMgFnD09
namespace Go.Proofs.YthagenodiofgnaaGreatDoor.Face
open Go.RowKit Go.Proofs.YthagenodiofgnaaGreatDoor Go.Proofs.YthagenodiofgnaaGreatDoor.Base Go.Proofs.YthagenodiofgnaaGreatDoor.Mem Go.Proofs.YthagenodiofgnaaGreatDoor.Reg Go.Proofs.YthagenodiofgnaaGreatDoor.Str Go.Proofs.YthagenodiofgnaaGreatDoor.Take Go.Proofs.YthagenodiofgnaaGreatDoor.Skip Go.Proofs.YthagenodiofgnaaGreatDoor.Dice
set_option linter.unusedVariables false
def facesA (K W T m f a : Int) (n : Nat) (hn : 0 < n) : Nat → Int → List Int → Option (List Int × Int)
 | 0, s, L => some (L, s)
 | k + 1, s, L => match faceR K W T m f a s n hn with
  | none => none
  | some (c, u) => facesA K W T m f a n hn k (takeX K W T m f a s (u : Int)) (L ++ [(c : Int)])
theorem facesA_none {K W T m f a s : Int} {n k : Nat} {hn : 0 < n} {L : List Int} (h : faceR K W T m f a s n hn = none) : facesA K W T m f a n hn (k + 1) s L = none := by
 unfold facesA; rw [h]
theorem facesA_some {K W T m f a s : Int} {n k c u : Nat} {hn : 0 < n} {L : List Int} (h : faceR K W T m f a s n hn = some (c, u)) : facesA K W T m f a n hn (k + 1) s L = facesA K W T m f a n hn k (takeX K W T m f a s (u : Int)) (L ++ [(c : Int)]) := by
 conv => lhs; unfold facesA
 rw [h]
theorem facesA_len {K W T m f a : Int} {n : Nat} {hn : 0 < n} {L' : List Int} {s' : Int} : ∀ (k : Nat) (s : Int) (L : List Int), facesA K W T m f a n hn k s L = some (L', s') → L'.length = L.length + k
 | 0, s, L, h => by
  unfold facesA at h
  injection h with h
  injection h with h1 h2
  subst h1
  omega
 | k + 1, s, L, h => by
  cases hr : faceR K W T m f a s n hn with
  | none => rw [facesA_none hr] at h; cases h
  | some p =>
   obtain ⟨c, u⟩ := p
   rw [facesA_some hr] at h
   have := facesA_len k _ _ h
   simp only [List.length_append, List.length_cons, List.length_nil] at this
   omega
theorem own_not_str {w : World} {B b n : Nat} {v : Value} {xs : List Value} {K W T m f a s : Int} (h : w.ownsRow B 2 1 v n xs) (hb : SBox w b K W T m f a s) : v.ownBlock ≠ some b := fun he => by
 obtain ⟨cur, h1, _⟩ := ownsRow_block h he
 unfold SBox at hb
 rw [hb] at h1
 injection h1 with h1
 injection h1 with _ h2
 cases h2
theorem own_set7 {w : World} {B b n : Nat} {v : Value} {xs : List Value} {K W T m f a s : Int} (h : w.ownsRow B 2 1 v n xs) (hb : SBox w b K W T m f a s) (K' W' T' m' f' a' s' : Int) : (set7 w b K' W' T' m' f' a' s').ownsRow B 2 1 v n xs := by
 refine World.ownsRow.kept h (grown_set7 w b K' W' T' m' f' a' s') ?_
 rcases hv : v.ownBlock with _ | q
 ·exact .inl rfl
 ·refine .inr fun e1 => own_not_str h hb ?_
  rw [hv]; exact e1
theorem faces_next {B bx bz : Nat} {L : List Int} {v v' : Value} {c s s2 K W T m f a : Int} {w wr w2 w3 : World} (hO : OwnI wr B v L) (hX : SBox wr bx K W T m f a s) (hZ : SBox wr bz 0 0 0 0 0 0 0) (hne : bx ≠ bz) (hbB : w.heap.size ≤ B) (hbx : w.heap.size ≤ bx)
  (hb : Below w.heap.size w wr) (h2 : Below wr.heap.size wr w2) (hown : w3.ownsRow B 2 1 v' (L.length + 1) (ints L ++ [.int .i64 c])) (hg : w2.grownBy w3 v.ownBlock) :
  OwnI (set7 w3 bx K W T m f a s2) B v' (L ++ [c]) ∧ SBox (set7 w3 bx K W T m f a s2) bx K W T m f a s2 ∧ SBox (set7 w3 bx K W T m f a s2) bz 0 0 0 0 0 0 0 ∧ Below w.heap.size w (set7 w3 bx K W T m f a s2) ∧ SBox w3 bx K W T m f a s ∧ SBox w3 bz 0 0 0 0 0 0 0 := by
 have hX2 := hX.below h2 hX.lt
 have hZ2 := hZ.below h2 hZ.lt
 have hO2 : w2.ownsRow B 2 1 v L.length (ints L) := ownsRow_below hO h2
 have hX3 := hX2.kept hg (own_not_str hO2 hX2)
 have hZ3 := hZ2.kept hg (own_not_str hO2 hZ2)
 have b3 : Below w.heap.size w w3 := (hb.trans (h2.mono hb.size)).trans (grown_below hg (fun g he => by
  obtain ⟨_, _, h3, _⟩ := ownsRow_block hO he
  omega) (Nat.le_trans hb.size h2.size))
 refine ⟨?_, hX3.set7 K W T m f a s2, hZ3.kept (grown_set7 w3 bx K W T m f a s2) (fun e => hne (Option.some.inj e)), b3.trans (grown_below (grown_set7 w3 bx K W T m f a s2) (fun g e => by cases e; exact hbx) b3.size), hX3, hZ3⟩
 unfold OwnI
 rw [List.length_append, show ints (L ++ [c]) = ints L ++ [.int .i64 c] by simp [ints]]
 exact own_set7 hown hX3 K W T m f a s2
def FsRet (K W T m f a : Int) (R : Option (List Int × Int)) (w : World) (e : Ending) (w' : World) : Prop :=
 (∀ L s', R = some (L, s') → ∃ A c, e = .returned (.tuple #[.slice A L.length c, .agg #[.int .i64 K, .int .i64 W, .int .i64 T, .int .i64 m, .int .i64 f, .int .i64 a, .int .i64 s'], .bool true]) ∧ OwnI w' w.heap.size (.slice A L.length c) L) ∧ (R = none → e = .returned (.tuple #[.slice none 0 0, .agg #[.int .i64 0, .int .i64 0, .int .i64 0, .int .i64 0, .int .i64 0, .int .i64 0, .int .i64 0], .bool false])) ∧ Below w.heap.size w w'
theorem FsRet.yes {K W T m f a s' : Int} {L : List Int} {R : Option (List Int × Int)} {w w' : World} {e : Ending} {A : Option Addr} {c : Nat} (h : R = some (L, s')) (he : e = .returned (.tuple #[.slice A L.length c, .agg #[.int .i64 K, .int .i64 W, .int .i64 T, .int .i64 m, .int .i64 f, .int .i64 a, .int .i64 s'], .bool true])) (ho : OwnI w' w.heap.size (.slice A L.length c) L) (hd : Below w.heap.size w w') : FsRet K W T m f a R w e w' :=
 ⟨fun L' s2 h2 => (by rw [h] at h2; injection h2 with h2; injection h2 with h3 h4; subst h3 h4; exact ⟨A, c, he, ho⟩), fun h2 => (by rw [h] at h2; cases h2), hd⟩
theorem FsRet.no {K W T m f a : Int} {R : Option (List Int × Int)} {w w' : World} {e : Ending} (h : R = none) (he : e = .returned (.tuple #[.slice none 0 0, .agg #[.int .i64 0, .int .i64 0, .int .i64 0, .int .i64 0, .int .i64 0, .int .i64 0, .int .i64 0], .bool false])) (hd : Below w.heap.size w w') : FsRet K W T m f a R w e w' :=
 ⟨fun L' s2 h2 => (by rw [h] at h2; cases h2), fun _ => he, hd⟩
def FsRel (K W T m f a : Int) (n : Nat) (hn : 0 < n) (R : Option (List Int × Int)) (B bx bz : Nat) (w : World) (cv ov : Value) (wr : World) : Prop :=
 ∃ (k : Nat) (L : List Int) (s : Int), cv = .int .i64 (k : Int) ∧ L.length + k ≤ 40 ∧ Hid (OwnI wr B ov L) ∧ Hid (SBox wr bx K W T m f a s) ∧ Hid (SBox wr bz 0 0 0 0 0 0 0) ∧ Hid (streamB K W T m f a s = true) ∧ Hid (facesA K W T m f a n hn k s L = R) ∧ Hid (Below w.heap.size w wr)
set_option maxHeartbeats 2000000 in
set_option maxRecDepth 100000 in
theorem specFaces_yes {K W T m f a s : Int} (hB : streamB K W T m f a s = true) (n c : Nat) (hn : 0 < n) (hn2 : n ≤ 16) (hc : c ≤ 40) (w : World) : Calls Tryz.prog 8 #[.agg #[.int .i64 K, .int .i64 W, .int .i64 T, .int .i64 m, .int .i64 f, .int .i64 a, .int .i64 s], .int .i64 (n : Int), .int .i64 (c : Int)] w (FsRet K W T m f a (facesA K W T m f a n hn c s []) w) := by
 obtain ⟨W1, hW1, S, R, B⟩ := two w K W T m f a s
 obtain ⟨i0, hi, hz0, hz1, hz2⟩ := info_parts infoI
 have HI := Lib.hid (l11Is_any w.heap.size K W T m f a s W1 S.c0 S.c1 S.c2 S.c3 S.c4 S.c5 S.c6)
 rw [hB] at HI
 have HN := Lib.hid (fun w => l00In_any (n : Int) 1 16 w)
 rw [inR_yes (n := (n : Int)) (lo := 1) (hi := 16) (by omega)] at HN
 have HC := Lib.hid (fun w => l00In_any (c : Int) 0 40 w)
 rw [inR_yes (n := (c : Int)) (lo := 0) (hi := 40) (by omega)] at HC
 have HF := Lib.hid (fun s (h : streamB K W T m f a s = true) w => l11Face_any h n hn (by omega) w)
 have hZ : W1.heap.size = w.heap.size + 2 := by rw [hW1]; simp
 generalize hA : facesA K W T m f a n hn c s [] = RR
 have HA := Lib.hid hA
 have HW := Lib.hid hW1
 have HS := Lib.hid S
 have HR := Lib.hid R
 have HB1 := Lib.hid B
 have HZ := Lib.hid hZ
 have HBs := Lib.hid hB
 clear hW1 S R B hB hA hZ
 go_enter Tryz.func8, Tryz.ntmps8
 go_wp2_with fail
 rw [← HW.out]
 refine HI.out.mono ?_
 rintro e w1 ⟨rfl, k1, hw1⟩
 have b1 : Below W1.heap.size W1 w1 := by rw [hw1]; exact below_drewN (Below.refl _ _) k1
 have hsz : w.heap.size + 2 ≤ w1.heap.size := by have := b1.size; have := HZ.out; omega
 have t1 := HS.out.below b1 HS.out.lt
 have r1 := HR.out.below b1 HR.out.lt
 have BB := Lib.hid (HB1.out.trans (b1.mono HB1.out.size))
 have H0 : Hid (FsRel K W T m f a n hn RR w1.heap.size (w1.heap.size + 1) (w.heap.size + 1) w (.int .i64 (c : Int)) (.slice (some ⟨w1.heap.size, 0, none⟩) 0 0) ((w1.alloc (.cells #[] 2)).alloc (.cells #[.int .i64 K, .int .i64 W, .int .i64 T, .int .i64 m, .int .i64 f, .int .i64 a, .int .i64 s] 29))) := Lib.hid (by
  have q := own_lit (B := w1.heap.size) w1 (Nat.le_refl _) [] (by simp)
  have q2 : OwnI (w1.alloc (.cells #[] 2)) w1.heap.size (.slice (some ⟨w1.heap.size, 0, none⟩) 0 0) [] := q
  have bx := (Below.refl w1.heap.size w1).alloc (Nat.le_refl _) (.cells #[] 2)
  have by_ := (Below.refl (w1.alloc (.cells #[] 2)).heap.size (w1.alloc (.cells #[] 2))).alloc (Nat.le_refl _) (.cells #[.int .i64 K, .int .i64 W, .int .i64 T, .int .i64 m, .int .i64 f, .int .i64 a, .int .i64 s] 29)
  have k2 := SBox.new (w1.alloc (.cells #[] 2)) K W T m f a s
  rw [World.size_alloc] at k2
  exact ⟨c, [], s, rfl, by simpa using hc, Lib.hid (ownsRow_below q2 by_), Lib.hid k2, Lib.hid ((r1.below bx r1.lt).below by_ (Nat.lt_of_lt_of_le r1.lt bx.size)), HBs, HA, Lib.hid ((BB.out.trans (bx.mono BB.out.size)).trans (by_.mono (Nat.le_trans BB.out.size bx.size)))⟩)
 have hlw : w.heap.size < w1.heap.size := by omega
 have c0 := (t1).c0; have c1 := (t1).c1; have c2 := (t1).c2; have c3 := (t1).c3; have c4 := (t1).c4; have c5 := (t1).c5; have c6 := (t1).c6
 clear b1 t1 r1 hw1
 go_wp2_with fail
 refine (HN.out _).mono ?_
 rintro e w' ⟨rfl, rfl⟩
 go_wp2_with fail
 refine (HC.out _).mono ?_
 rintro e w' ⟨rfl, rfl⟩
 go_wp2
 go_loopw [2, 9] (fun cv ov wr => FsRel K W T m f a n hn RR w1.heap.size (w1.heap.size + 1) (w.heap.size + 1) w cv ov wr) (fun cv _ _ => (intOf cv).toNat)
 case atStart => exact H0.out
 case round =>
  obtain ⟨k, L, sc, rfl, hkL, HO, HX, HZb, HBc, HAc, HBl⟩ := hrel
  clear H0 c0 c1 c2 c3 c4 c5 c6
  have hzb := HZb.out.lt
  have hxb := HX.out.lt
  by_cases hk : 0 < k
  ·obtain ⟨j, rfl⟩ : ∃ j, k = j + 1 := ⟨k - 1, by omega⟩
   have HFs := Lib.hid (fun w => HF.out sc HBc.out w)
   have x0 := (HX.out).c0; have x1 := (HX.out).c1; have x2 := (HX.out).c2; have x3 := (HX.out).c3; have x4 := (HX.out).c4; have x5 := (HX.out).c5; have x6 := (HX.out).c6
   cases hr : faceR K W T m f a sc n hn with
   | none =>
    rw [hr] at HFs
    have HFn := Lib.hid (fun w => (HFs.out w).mono fun e w' h => (show e = .returned (.tuple #[.int .i64 0, .agg #[.int .i64 0, .int .i64 0, .int .i64 0, .int .i64 0, .int .i64 0, .int .i64 0, .int .i64 0], .bool false]) ∧ Below w.heap.size w w' from ⟨h.2.1 rfl, h.2.2⟩))
    have HNo := Lib.hid ((facesA_none (k := j) (L := L) hr).symm.trans HAc.out).symm
    clear hr HFs
    go_wp2_with fail
    refine (HFn.out _).mono ?_
    rintro e w2 ⟨rfl, b2⟩
    have hz3 : w.heap.size + 1 < w2.heap.size := by have := b2.size; omega
    have RY := HZb.out.below b2 HZb.out.lt
    have BB3 := Lib.hid (HBl.out.trans (b2.mono HBl.out.size))
    clear b2 x0 x1 x2 x3 x4 x5 x6
    have d0 := (RY).c0; have d1 := (RY).c1; have d2 := (RY).c2; have d3 := (RY).c3; have d4 := (RY).c4; have d5 := (RY).c5; have d6 := (RY).c6
    have g0 := (RY).frz 0; have g1 := (RY).frz 1; have g2 := (RY).frz 2; have g3 := (RY).frz 3; have g4 := (RY).frz 4; have g5 := (RY).frz 5; have g6 := (RY).frz 6
    have S8 := (RY.set7 0 0 0 0 0 0 0).below ((Below.refl _ _).alloc (Nat.le_refl _) (.cells #[.int .i64 0, .int .i64 0, .int .i64 0, .int .i64 0, .int .i64 0, .int .i64 0, .int .i64 0] 29)) (RY.set7 0 0 0 0 0 0 0).lt
    have p0 := (S8).c0; have p1 := (S8).c1; have p2 := (S8).c2; have p3 := (S8).c3; have p4 := (S8).c4; have p5 := (S8).c5; have p6 := (S8).c6
    simp only [set7] at p0 p1 p2 p3 p4 p5 p6
    have hs7 := (grown_set7 w2 (w.heap.size + 1) 0 0 0 0 0 0 0).size
    have HBN := Lib.hid ((below_set7 (b := w.heap.size + 1) BB3.out (Nat.le_succ _) BB3.out.size 0 0 0 0 0 0 0).alloc (Nat.le_trans BB3.out.size hs7) (.cells #[.int .i64 0, .int .i64 0, .int .i64 0, .int .i64 0, .int .i64 0, .int .i64 0, .int .i64 0] 29))
    clear S8 RY hs7
    go_wp2
    exact bodyPost_ret (v := .tuple #[.slice none 0 0, .agg #[.int .i64 0, .int .i64 0, .int .i64 0, .int .i64 0, .int .i64 0, .int .i64 0, .int .i64 0], .bool false]) (by simp [results, Tryz.results8, go_sem, p0, p1, p2, p3, p4, p5, p6]) rfl (FsRet.no HNo.out rfl HBN.out)
   | some p =>
    obtain ⟨cf, uf⟩ := p
    rw [hr] at HFs
    have HFn := Lib.hid (fun w => (HFs.out w).mono fun e w' h => (show e = .returned (.tuple #[.int .i64 (cf : Int), .agg #[.int .i64 K, .int .i64 W, .int .i64 T, .int .i64 m, .int .i64 f, .int .i64 a, .int .i64 (takeX K W T m f a sc (uf : Int))], .bool true]) ∧ Below w.heap.size w w' from ⟨h.1 cf uf rfl, h.2.2⟩))
    have HA2 := Lib.hid ((facesA_some (k := j) (L := L) hr).symm.trans HAc.out)
    have HB2 := Lib.hid (streamB_takeX (c := (uf : Int)) HBc.out)
    clear hr HFs
    obtain ⟨x, hx⟩ : ∃ x, takeX K W T m f a sc (uf : Int) = x := ⟨_, rfl⟩
    rw [hx] at HFn HA2 HB2
    clear hx
    go_wp2_with fail
    refine (HFn.out _).mono ?_
    rintro e w2 ⟨rfl, b2⟩
    have bz : Below w2.heap.size w2 (w2.alloc (.cells #[.int .i64 K, .int .i64 W, .int .i64 T, .int .i64 m, .int .i64 f, .int .i64 a, .int .i64 x] 29)) := (Below.refl _ _).alloc (Nat.le_refl _) _
    have ba : Below (w2.alloc (.cells #[.int .i64 K, .int .i64 W, .int .i64 T, .int .i64 m, .int .i64 f, .int .i64 a, .int .i64 x] 29)).heap.size (w2.alloc (.cells #[.int .i64 K, .int .i64 W, .int .i64 T, .int .i64 m, .int .i64 f, .int .i64 a, .int .i64 x] 29)) ((w2.alloc (.cells #[.int .i64 K, .int .i64 W, .int .i64 T, .int .i64 m, .int .i64 f, .int .i64 a, .int .i64 x] 29)).alloc (.cells #[.int .i64 (cf : Int)] 2)) := (Below.refl _ _).alloc (Nat.le_refl _) _
    have b4 := Base.Below.nextA (Base.Below.nextA b2 bz) ba
    have hown := ownsRow_below HO.out b4
    have U0 := ((SBox.new w2 K W T m f a x).below ba (by simp))
    have HU := Lib.hid U0
    have HWn := Lib.hid hown
    have HB4 := Lib.hid b4
    have hlz2 : w1.heap.size + 1 < w2.heap.size := by have := b2.size; omega
    clear b2 bz ba b4 hown U0 x0 x1 x2 x3 x4 x5 x6
    go_wp2_with (at_builtin; refine wpList_append_own_at _ rfl (.tmp 43) (.tmp 45) 32 rfl w1.heap.size 2 i0 (.int .i64 0) 1 8 Tryz.underlying32 hi hz0 hz1 hz2 rfl (by decide) _ _ _ rfl HWn.out ⟨(w2.heap.size + 1), 0, none⟩ 1 1 [.int .i64 (cf : Int)] rfl rfl ?p1a ?p2a ?p3a ?p4a ?p5a ?_)
    try case p1a => exact news_one _ _ _ (by simp)
    try case p2a => first | exact one_int | rfl | simp
    try case p3a => first | (simp only [maxLen]; omega) | omega
    try case p4a => omega
    try case p5a => first | (simp only [World.size_alloc]; omega) | omega
    intro v' w3 hown' hg' _ he
    have HN := Lib.hid (faces_next (c := (cf : Int)) (s2 := x) HO.out HX.out HZb.out (by omega) (by omega) (by omega) HBl.out HB4.out hown' hg')
    have q := HN.out.2.2.2.2.1
    have qn := HU.out.kept hg' (own_not_str HWn.out HU.out)
    have y0 := (q).c0; have y1 := (q).c1; have y2 := (q).c2; have y3 := (q).c3; have y4 := (q).c4; have y5 := (q).c5; have y6 := (q).c6
    have z0 := (q).frz 0; have z1 := (q).frz 1; have z2 := (q).frz 2; have z3 := (q).frz 3; have z4 := (q).frz 4; have z5 := (q).frz 5; have z6 := (q).frz 6
    have x0 := (qn).c0; have x1 := (qn).c1; have x2 := (qn).c2; have x3 := (qn).c3; have x4 := (qn).c4; have x5 := (qn).c5; have x6 := (qn).c6
    have hq : w2.heap.size < w3.heap.size := qn.lt
    clear hown' hg' he q qn
    go_wp2
    go_roundw
    case rel => exact ⟨j, L ++ [(cf : Int)], x, by go_num, by simp; omega, Lib.hid HN.out.1, Lib.hid HN.out.2.1, Lib.hid HN.out.2.2.1, HB2, HA2, Lib.hid HN.out.2.2.2.1⟩
    case measure => simp [intOf]
  ·obtain rfl : k = 0 := by omega
   obtain ⟨A, cp, eA, _⟩ := HO.out.form
   subst eA
   have HAe := Lib.hid (show RR = some (L, sc) from by rw [← HAc.out]; rfl)
   have x0 := (HX.out).c0; have x1 := (HX.out).c1; have x2 := (HX.out).c2; have x3 := (HX.out).c3; have x4 := (HX.out).c4; have x5 := (HX.out).c5; have x6 := (HX.out).c6
   have h0 := (HZb.out).c0; have h1 := (HZb.out).c1; have h2 := (HZb.out).c2; have h3 := (HZb.out).c3; have h4 := (HZb.out).c4; have h5 := (HZb.out).c5; have h6 := (HZb.out).c6
   have g0 := (HZb.out).frz 0; have g1 := (HZb.out).frz 1; have g2 := (HZb.out).frz 2; have g3 := (HZb.out).frz 3; have g4 := (HZb.out).frz 4; have g5 := (HZb.out).frz 5; have g6 := (HZb.out).frz 6
   have S8 := HZb.out.set7 K W T m f a sc
   have p0 := (S8).c0; have p1 := (S8).c1; have p2 := (S8).c2; have p3 := (S8).c3; have p4 := (S8).c4; have p5 := (S8).c5; have p6 := (S8).c6
   simp only [set7] at p0 p1 p2 p3 p4 p5 p6
   have B7 := Lib.hid (HBl.out.trans (grown_below (grown_set7 wr (w.heap.size + 1) K W T m f a sc) (fun g e => by cases e; exact Nat.le_succ _) HBl.out.size))
   have O7 := Lib.hid (own_set7 HO.out HZb.out K W T m f a sc)
   have mixed : Tryz.prog.follows .mixedOrders = true := by kernel_rfl
   clear S8
   go_wp2_with fail
   go_region_o
   all_goals
    go_wp2
    refine bodyPost_ret (v := .tuple #[.slice A L.length cp, .agg #[.int .i64 K, .int .i64 W, .int .i64 T, .int .i64 m, .int .i64 f, .int .i64 a, .int .i64 sc], .bool true]) (by simp [results, Tryz.results8, go_sem, p0, p1, p2, p3, p4, p5, p6]) rfl (FsRet.yes HAe.out rfl ?_ (Below.drew B7.out))
    exact ownsRow_base (ownsRow_below O7.out ((Below.refl _ _).drew)) (by omega)
end Go.Proofs.YthagenodiofgnaaGreatDoor.Face
