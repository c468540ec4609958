/- Faces drawn one after another, and the choices of an order: the law walked. -/
import Derived.Test.YthagenodiofgnaaGreatDoorMgFnD14
import Derived.Test.YthagenodiofgnaaGreatDoorMgFnD18
import Derived.Test.YthagenodiofgnaaGreatDoorMgFnD21
import Derived.Test.YthagenodiofgnaaGreatDoorMgFnD23
import Derived.Test.YthagenodiofgnaaGreatDoorMgFnD24
import Derived.Test.YthagenodiofgnaaGreatDoorMgFnD09
import Derived.Laws.StructEq
namespace Go.Proofs.YthagenodiofgnaaGreatDoor.Drn
open Go.RowKit Go.Proofs.YthagenodiofgnaaGreatDoor Go.Proofs.YthagenodiofgnaaGreatDoor.Base Go.Proofs.YthagenodiofgnaaGreatDoor.Mem Go.Proofs.YthagenodiofgnaaGreatDoor.Str Go.Proofs.YthagenodiofgnaaGreatDoor.Take Go.Proofs.YthagenodiofgnaaGreatDoor.Skip Go.Proofs.YthagenodiofgnaaGreatDoor.Shuf Go.Proofs.YthagenodiofgnaaGreatDoor.Dice Go.Proofs.YthagenodiofgnaaGreatDoor.Face Go.Proofs.YthagenodiofgnaaGreatDoor.Drawn
set_option linter.unusedVariables false
def FYes (K W T m f a : Int) (L : List Int) (y : Int) (w : World) (e : Ending) (w' : World) : Prop := ∃ A c, e = .returned (.tuple #[.slice A L.length c, .agg #[.int .i64 K, .int .i64 W, .int .i64 T, .int .i64 m, .int .i64 f, .int .i64 a, .int .i64 y], .bool true]) ∧ OwnI w' w.heap.size (.slice A L.length c) L ∧ Below w.heap.size w w'
def FNo (w : World) (e : Ending) (w' : World) : Prop := e = .returned (.tuple #[.slice none 0 0, .agg #[.int .i64 0, .int .i64 0, .int .i64 0, .int .i64 0, .int .i64 0, .int .i64 0, .int .i64 0], .bool false]) ∧ Below w.heap.size w w'
theorem fs_yes {K W T m f a y : Int} {R : Option (List Int × Int)} {L : List Int} {w w' : World} {e : Ending} (h : FsRet K W T m f a R w e w') (hR : R = some (L, y)) : FYes K W T m f a L y w e w' := by
 obtain ⟨A, c, he, ho⟩ := h.1 L y hR
 exact ⟨A, c, he, ho, h.2.2⟩
theorem fs_no {K W T m f a : Int} {R : Option (List Int × Int)} {w w' : World} {e : Ending} (h : FsRet K W T m f a R w e w') (hR : R = none) : FNo w e w' := ⟨h.2.1 hR, h.2.2⟩
theorem dtake_ok {K W T m f a s : Int} (hB : streamB K W T m f a s = true) {t : ByteArray} {y : Int} (ht : (⟨(takeL K W T m f a s 400).toArray⟩ : ByteArray) = t) (hy : takeX K W T m f a s 400 = y) (w : World) :
  Calls Tryz.prog 9 #[.agg #[.int .i64 K, .int .i64 W, .int .i64 T, .int .i64 m, .int .i64 f, .int .i64 a, .int .i64 s], .int .i64 400] w fun e w' => e = .returned (.tuple #[.string t, .agg #[.int .i64 K, .int .i64 W, .int .i64 T, .int .i64 m, .int .i64 f, .int .i64 a, .int .i64 y], .bool true]) ∧ Below w.heap.size w w' := by
 refine (implTB_any K W T m f a s 400 w).mono fun e w' hr => ⟨?_, hr.2.2⟩
 rw [hr.1 (by rw [okB, hB, inR_yes (by omega)]; rfl), ht, hy]
theorem dskip_ok {K W T m f a s : Int} (hB : streamB K W T m f a s = true) {n : Nat} (hn : n ≤ 400) {y : Int} (hy : takeX K W T m f a s (n : Int) = y) (w : World) :
  Calls Tryz.prog 11 #[.agg #[.int .i64 K, .int .i64 W, .int .i64 T, .int .i64 m, .int .i64 f, .int .i64 a, .int .i64 s], .int .i64 (n : Int)] w fun e w' => e = .returned (.tuple #[.agg #[.int .i64 K, .int .i64 W, .int .i64 T, .int .i64 m, .int .i64 f, .int .i64 a, .int .i64 y], .bool true]) ∧ Below w.heap.size w w' := by
 refine (implSS_any K W T m f a s (n : Int) w).mono fun e w' hr => ⟨?_, hr.2.2⟩
 rw [hr.1 (by rw [okS, hB, inR_yes (by omega)]; rfl), hy]
theorem b10At_two (A : Option Addr) (c B : Nat) (zs : List Int) (w : World) (hz : ∀ z ∈ zs, 0 ≤ z ∧ z ≤ 255) (hl : zs.length ≤ 9223372036854775807) (hr : RdB w B A zs) :
  Calls Tryz.prog 6 #[.slice A zs.length c, .int .i64 2, .int .i64 6] w (ApartL.AtRet 6 w) := by
 by_cases h2 : (zs.length : Int) ≤ 2
 ·clear hr hz
  go_enter Tryz.func6, Tryz.ntmps6
  go_wp2
  go_ret
  exact ⟨_, by decide, by decide, rfl, rfl⟩
 ·have h3 : 2 < zs.length := by omega
  obtain ⟨b, off, rfl, _, hc⟩ := hr (by omega)
  have g := hc 2 h3
  obtain ⟨m1, m2⟩ := hz (zs.getD 2 0) (by simp [List.getD, h3])
  clear hc hr hz
  generalize zs.getD 2 0 = z at *
  have hq0 : 0 ≤ z % 6 := Int.emod_nonneg _ (by omega)
  have hq1 : z % 6 < 6 := Int.emod_lt_of_pos _ (by omega)
  go_enter Tryz.func6, Tryz.ntmps6
  go_wp2
  go_ret
  exact ⟨_, hq0, hq1, rfl, rfl⟩
def DrnRel (K W T m f a : Int) (n : Nat) (hn : 0 < n) (C0 : Nat) (L : List Int) (y' : Int) (bn : Nat) (w w3 : World) (iv : Value) (wr : World) : Prop :=
 ∃ (i : Nat) (y : Int) (Li : List Int), iv = .int .i64 (i : Int) ∧ i ≤ C0 ∧ Li.length = i ∧ Hid (facesA K W T m f a n hn (C0 - i) y Li = some (L, y')) ∧ Hid (streamB K W T m f a y = true) ∧ Hid (SBox wr bn K W T m f a y) ∧ Hid (Below w3.heap.size w3 wr)
def OrnRel (K W T m f a : Int) (n : Nat) (L : List Int) (y' : Int) (bn b6 : Nat) (vc vo : Value) (w w3 : World) (iv : Value) (wr : World) : Prop :=
 ∃ (k : Nat) (y : Int) (Lk : List Int), iv = .int .i64 (k : Int) ∧ Lk.length + k + 1 = n ∧ Hid (ordA K W T m f a k y Lk = some (L, y')) ∧ Hid (streamB K W T m f a y = true) ∧ Hid (SBox wr bn K W T m f a y) ∧ Hid (SBox wr b6 K W T m f a y') ∧ Hid (OwnI wr w.heap.size vc L) ∧ Hid (OwnI wr w.heap.size vo (shufTo n L L.length)) ∧ Hid (Below w.heap.size w wr)
theorem ord_step1 {K W T m f a : Int} {k : Nat} {s : Int} {L L' : List Int} {s' : Int} (h0 : 0 < k) (hk : k ≤ 100) (h : ordA K W T m f a k s L = some (L', s')) :
  ∃ c u, faceR K W T m f a s (k + 1) (by omega) = some (c, u) ∧ ordA K W T m f a (k - 1) (takeX K W T m f a s (u : Int)) (L ++ [(c : Int)]) = some (L', s') ∧ L'.getD L.length 0 = (c : Int) := by
 obtain ⟨k', rfl⟩ : ∃ k', k = k' + 1 := ⟨k - 1, by omega⟩
 exact ord_step (by omega) h
theorem faces_step1 {K W T m f a : Int} {n : Nat} {hn : 0 < n} {C0 i : Nat} {s : Int} {L L' : List Int} {s' : Int} (hn2 : n ≤ 1000000) (hi : i < C0) (h : facesA K W T m f a n hn (C0 - i) s L = some (L', s')) :
  ∃ c u, faceR K W T m f a s n hn = some (c, u) ∧ facesA K W T m f a n hn (C0 - (i + 1)) (takeX K W T m f a s (u : Int)) (L ++ [(c : Int)]) = some (L', s') ∧ L'.getD L.length 0 = (c : Int) ∧ c < n ∧ u ≤ 400 := by
 obtain ⟨j, hj⟩ : ∃ j, C0 - i = j + 1 := ⟨C0 - i - 1, by omega⟩
 rw [hj] at h
 rw [show C0 - (i + 1) = j by omega]
 exact faces_step hn2 h
theorem drn_next {K W T m f a y y' y3 : Int} {n C0 bn i : Nat} {hn : 0 < n} {L Li : List Int} {w w3 wq : World} {v1 : Int} (hi : i < C0) (hli : Li.length = i) (hnx : facesA K W T m f a n hn (C0 - (i + 1)) y3 (Li ++ [v1]) = some (L, y')) (hv : streamB K W T m f a y3 = true) (N : SBox wq bn K W T m f a y) (B : Below w3.heap.size w3 wq) (hbw : w3.heap.size ≤ bn) :
  DrnRel K W T m f a n hn C0 L y' bn w w3 (.int .i64 ((i : Int) + 1)) (set7 wq bn K W T m f a y3) :=
 ⟨i + 1, y3, Li ++ [v1], by simp, hi, by rw [List.length_append, List.length_singleton, hli], Lib.hid hnx, Lib.hid hv, Lib.hid (N.set7 K W T m f a y3), Lib.hid (below_set7 B hbw B.size K W T m f a y3)⟩
theorem orn_next {K W T m f a y y' y3 : Int} {n bn bl k : Nat} {L Lk : List Int} {vc vo : Value} {w W9 wq : World} {v1 : Int} (hk : 0 < k) (hlk : Lk.length + k + 1 = n) (hnx : ordA K W T m f a (k - 1) y3 (Lk ++ [v1]) = some (L, y')) (hv : streamB K W T m f a y3 = true) (N : SBox wq bn K W T m f a y) (Lb : SBox wq bl K W T m f a y') (C : OwnI wq w.heap.size vc L) (O : OwnI wq w.heap.size vo (shufTo n L L.length)) (B : Below w.heap.size w wq) (hbw : w.heap.size ≤ bn) (hne : bl ≠ bn) :
  OrnRel K W T m f a n L y' bn bl vc vo w W9 (.int .i64 ((k : Int) - 1)) (set7 wq bn K W T m f a y3) :=
 ⟨k - 1, y3, Lk ++ [v1], by congr 1; omega, by rw [List.length_append, List.length_singleton]; omega, Lib.hid hnx, Lib.hid hv, Lib.hid (N.set7 K W T m f a y3), Lib.hid (Lb.kept (grown_set7 wq bn K W T m f a y3) (fun e => by injection e with e; exact hne e.symm)), Lib.hid (own_set7 C N K W T m f a y3), Lib.hid (own_set7 O N K W T m f a y3), Lib.hid (below_set7 B hbw B.size K W T m f a y3)⟩
set_option maxHeartbeats 8000000 in
set_option maxRecDepth 100000 in
theorem drawn_any (A A' : Option Addr) (c c' : Nat) (zs ys : List Int) (w : World) (hx : RdB w w.heap.size A zs) (hy : RdB w w.heap.size A' ys) (hl : zs.length ≤ 9223372036854775807) (hl' : ys.length ≤ 9223372036854775807) (hz : ∀ z ∈ zs, 0 ≤ z ∧ z ≤ 255) (hz' : ∀ z ∈ ys, 0 ≤ z ∧ z ≤ 255) :
  Calls Tryz.prog 3 #[.slice A zs.length c, .slice A' ys.length c'] w fun e w' => e = .returned (.bool true) ∧ Below w.heap.size w w' := by
 have HL := Lib.hid (fun w => Cycled.b10Long_any A A' zs.length c ys.length c' w)
 have HC := Lib.hid (Draw.b10Stream_any A c w.heap.size zs w hx (Nat.le_refl _) hl hz)
 have HY := Lib.hid hy
 have HZ := Lib.hid hz'
 clear hx hz hy hz' hl
 cases hlong : Cycled.longB zs.length ys.length with
 | true =>
  rw [hlong] at HL
  clear hlong
  go_enter Tryz.func3, Tryz.ntmps3
  go_wp2_with fail
  refine (HL.out _).mono ?_
  rintro e w' ⟨rfl, rfl⟩
  go_wp2
  go_ret
  exact ⟨rfl, Below.refl _ _⟩
 | false =>
  rw [hlong] at HL
  clear hlong
  go_enter Tryz.func3, Tryz.ntmps3
  go_wp2_with fail
  refine (HL.out _).mono ?_
  rintro e w' ⟨rfl, rfl⟩
  go_wp2_with fail
  refine HC.out.mono ?_
  rintro e w1 ⟨K, W, T, m, f, a, s, hB, rfl, hb1⟩
  have HBs := Lib.hid hB
  have BB_w1 := Lib.hid hb1
  clear hB hb1 HC HL
  obtain ⟨W2, hW2⟩ : ∃ V, V = w1.alloc (.cells #[.int .i64 K, .int .i64 W, .int .i64 T, .int .i64 m, .int .i64 f, .int .i64 a, .int .i64 s] 29) := ⟨_, rfl⟩
  have xW2 : Below w1.heap.size w1 W2 := by rw [hW2]; exact (Below.refl _ _).alloc (Nat.le_refl _) _
  have BB_W2 := Lib.hid (Base.Below.nextA BB_w1.out xW2)
  have N_X := Lib.hid (show SBox W2 w1.heap.size K W T m f a s by rw [hW2]; exact SBox.new _ _ _ _ _ _ _ _)
  have HW2 := Lib.hid hW2
  try clear c0 c1 c2 c3 c4 c5 c6
  clear hW2 xW2
  have HAt := Lib.hid (fun i n hi hn => ApartL.b10At_any A' c' w.heap.size ys i n W2 HZ.out hl' (HY.out.below BB_W2.out (Nat.le_refl _)) hi hn)
  go_wp2_with fail
  rw [← HW2.out]
  refine (HAt.out 0 16 (.inl rfl) (by decide)).mono ?_
  rintro e w' ⟨p0, hp0, hp1, rfl, rfl⟩
  obtain ⟨N0, rfl⟩ := Int.eq_ofNat_of_zero_le hp0
  go_wp2_with fail
  refine (HAt.out 1 5 (.inr rfl) (by decide)).mono ?_
  rintro e w' ⟨q0, hq0, hq1, rfl, rfl⟩
  obtain ⟨C0, rfl⟩ := Int.eq_ofNat_of_zero_le hq0
  have hC0 : C0 ≤ 4 := by omega
  obtain ⟨n, hn⟩ : ∃ n, n = N0 + 1 := ⟨_, rfl⟩
  have hn0 : 0 < n := by omega
  have hn16 : n ≤ 16 := by omega
  have hnn : (1 + (N0 : Int)) = (n : Int) := by omega
  have HNN := Lib.hid hnn
  clear hp0 hp1 hq0 hq1 HAt hn hnn
  obtain ⟨R, hR⟩ : ∃ R, R = facesA K W T m f a n hn0 C0 s [] := ⟨_, rfl⟩
  have HFI := Lib.hid (fun w => implFaces_yes HBs.out n C0 hn0 hn16 (by omega) w)
  have HFS := Lib.hid (fun w => specFaces_yes HBs.out n C0 hn0 hn16 (by omega) w)
  rw [← hR] at HFI HFS
  try clear c0 c1 c2 c3 c4 c5 c6
  have c0 := (N_X.out).c0; have c1 := (N_X.out).c1; have c2 := (N_X.out).c2; have c3 := (N_X.out).c3; have c4 := (N_X.out).c4; have c5 := (N_X.out).c5; have c6 := (N_X.out).c6
  go_wp2_with fail
  rw [HNN.out]
  cases hr : R with
  | none =>
   rw [hr] at HFI HFS
   clear hR hr
   refine ((HFI.out _).mono fun e w' h => fs_no h rfl).mono ?_
   rintro e w2 ⟨rfl, b2⟩
   obtain ⟨W3, hW3⟩ : ∃ V, V = w2.alloc (.cells #[.int .i64 0, .int .i64 0, .int .i64 0, .int .i64 0, .int .i64 0, .int .i64 0, .int .i64 0] 29) := ⟨_, rfl⟩
   have xW3 : Below W2.heap.size W2 W3 := by rw [hW3]; exact b2.alloc b2.size _
   have X_W3 := Lib.hid (N_X.out.below xW3 N_X.out.lt)
   have BB_W3 := Lib.hid (Base.Below.nextA BB_W2.out xW3)
   have HW3 := Lib.hid hW3
   try clear c0 c1 c2 c3 c4 c5 c6
   have c0 := (X_W3.out).c0; have c1 := (X_W3.out).c1; have c2 := (X_W3.out).c2; have c3 := (X_W3.out).c3; have c4 := (X_W3.out).c4; have c5 := (X_W3.out).c5; have c6 := (X_W3.out).c6
   rw [hW3] at c0 c1 c2 c3 c4 c5 c6
   clear hW3 xW3 b2
   go_wp2_with fail
   rw [← HW3.out]
   refine ((HFS.out _).mono fun e w' h => fs_no h rfl).mono ?_
   rintro e w3 ⟨rfl, b3⟩
   obtain ⟨W4, hW4⟩ : ∃ V, V = w3.alloc (.cells #[.int .i64 0, .int .i64 0, .int .i64 0, .int .i64 0, .int .i64 0, .int .i64 0, .int .i64 0] 29) := ⟨_, rfl⟩
   have xW4 : Below W3.heap.size W3 W4 := by rw [hW4]; exact b3.alloc b3.size _
   have X_W4 := Lib.hid (X_W3.out.below xW4 X_W3.out.lt)
   have BB_W4 := Lib.hid (Base.Below.nextA BB_W3.out xW4)
   have HW4 := Lib.hid hW4
   try clear c0 c1 c2 c3 c4 c5 c6
   have c0 := (X_W4.out).c0; have c1 := (X_W4.out).c1; have c2 := (X_W4.out).c2; have c3 := (X_W4.out).c3; have c4 := (X_W4.out).c4; have c5 := (X_W4.out).c5; have c6 := (X_W4.out).c6
   rw [hW4] at c0 c1 c2 c3 c4 c5 c6
   clear hW4 xW4 b3
   obtain ⟨W5, hW5⟩ : ∃ V, V = W4.alloc (.cells #[.int .i64 K, .int .i64 W, .int .i64 T, .int .i64 m, .int .i64 f, .int .i64 a, .int .i64 s] 29) := ⟨_, rfl⟩
   have xW5 : Below W4.heap.size W4 W5 := by rw [hW5]; exact (Below.refl _ _).alloc (Nat.le_refl _) _
   have X_W5 := Lib.hid (X_W4.out.below xW5 X_W4.out.lt)
   have BB_W5 := Lib.hid (Base.Below.nextA BB_W4.out xW5)
   have EBN := Lib.hid (show w3.heap.size + 1 = W4.heap.size by rw [HW4.out]; simp)
   have N_NOW := Lib.hid (show SBox W5 (w3.heap.size + 1) K W T m f a s by rw [EBN.out, hW5]; exact SBox.new _ _ _ _ _ _ _ _)
   have HW5 := Lib.hid (hW5.trans (by rw [HW4.out]))
   have XB_W5 := Lib.hid xW5
   clear hW5 xW5
   go_wp2
   rw [← HW5.out]
   obtain ⟨bn, hbn⟩ : ∃ b, b = w3.heap.size + 1 := ⟨_, rfl⟩
   rw [← hbn] at N_NOW ⊢
   have hbw : w.heap.size ≤ bn := by rw [hbn, EBN.out]; exact BB_W4.out.size
   have HBN4 := Lib.hid (show W4.heap.size ≤ bn by rw [hbn, EBN.out]; exact Nat.le_refl _)
   clear hbn EBN
   refine wp_loop_rounds 1 ?_
   rw [rounds_succ]
   go_wp2_with fail
   try clear c0 c1 c2 c3 c4 c5 c6
   refine (b10At_two A' c' w.heap.size ys _ HZ.out hl' (HY.out.below BB_W5.out (Nat.le_refl _))).mono ?_
   rintro e w' ⟨p2, hp0, hp1, rfl, rfl⟩
   obtain ⟨N2, rfl⟩ := Int.eq_ofNat_of_zero_le hp0
   obtain ⟨n2, hn2⟩ : ∃ n, n = N2 + 1 := ⟨_, rfl⟩
   have hn20 : 0 < n2 := by omega
   have hn26 : n2 ≤ 6 := by omega
   have hnn2 : (1 + (N2 : Int)) = (n2 : Int) := by omega
   have HN2 := Lib.hid hnn2
   have hN2b : N2 ≤ 5 := by omega
   clear hp0 hp1 hn2 hnn2
   obtain ⟨R2, hR2⟩ : ∃ R, R = ordA K W T m f a (n2 - 1) s [] := ⟨_, rfl⟩
   have HOI := Lib.hid (fun w => implOrder_yes HBs.out n2 hn20 (by omega) w)
   have HOS := Lib.hid (fun w => specOrder_yes HBs.out n2 hn20 (by omega) w)
   rw [← hR2] at HOI HOS
   try clear c0 c1 c2 c3 c4 c5 c6
   have c0 := (X_W5.out).c0; have c1 := (X_W5.out).c1; have c2 := (X_W5.out).c2; have c3 := (X_W5.out).c3; have c4 := (X_W5.out).c4; have c5 := (X_W5.out).c5; have c6 := (X_W5.out).c6
   go_wp2_with fail
   rw [HN2.out]
   cases hr2 : R2 with
   | none =>
    rw [hr2, show ordOf n2 none = none from rfl] at HOI HOS
    clear hR2 hr2
    replace HOI := Lib.hid (fun w => (HOI.out w).mono fun e w' h => fs_no h rfl)
    replace HOS := Lib.hid (fun w => (HOS.out w).mono fun e w' h => fs_no h rfl)
    refine (HOI.out _).mono ?_
    rintro e wa ⟨rfl, ba⟩
    obtain ⟨W6, hW6⟩ : ∃ V, V = wa.alloc (.cells #[.int .i64 0, .int .i64 0, .int .i64 0, .int .i64 0, .int .i64 0, .int .i64 0, .int .i64 0] 29) := ⟨_, rfl⟩
    have xW6 : Below W5.heap.size W5 W6 := by rw [hW6]; exact ba.alloc ba.size _
    have X_W6 := Lib.hid (X_W5.out.below xW6 X_W5.out.lt)
    have NOW_W6 := Lib.hid (N_NOW.out.below xW6 N_NOW.out.lt)
    have BB_W6 := Lib.hid (Base.Below.nextA BB_W5.out xW6)
    have HW6 := Lib.hid hW6
    try clear c0 c1 c2 c3 c4 c5 c6
    have c0 := (X_W6.out).c0; have c1 := (X_W6.out).c1; have c2 := (X_W6.out).c2; have c3 := (X_W6.out).c3; have c4 := (X_W6.out).c4; have c5 := (X_W6.out).c5; have c6 := (X_W6.out).c6
    rw [hW6] at c0 c1 c2 c3 c4 c5 c6
    clear hW6 xW6 ba
    go_wp2_with fail
    rw [← HW6.out]
    refine (HOS.out _).mono ?_
    rintro e wb ⟨rfl, bb⟩
    obtain ⟨W7, hW7⟩ : ∃ V, V = wb.alloc (.cells #[.int .i64 0, .int .i64 0, .int .i64 0, .int .i64 0, .int .i64 0, .int .i64 0, .int .i64 0] 29) := ⟨_, rfl⟩
    have xW7 : Below W6.heap.size W6 W7 := by rw [hW7]; exact bb.alloc bb.size _
    have X_W7 := Lib.hid (X_W6.out.below xW7 X_W6.out.lt)
    have NOW_W7 := Lib.hid (NOW_W6.out.below xW7 NOW_W6.out.lt)
    have BB_W7 := Lib.hid (Base.Below.nextA BB_W6.out xW7)
    have HW7 := Lib.hid hW7
    try clear c0 c1 c2 c3 c4 c5 c6
    clear hW7 xW7 bb
    go_wp2
    go_ret
    rw [← HW7.out]
    exact ⟨rfl, BB_W7.out⟩
   | some p =>
    obtain ⟨L2, y2⟩ := p
    rw [hr2, show ordOf n2 (some (L2, y2)) = some (shufTo n2 L2 L2.length, y2) from rfl] at HOI HOS
    have HR2 : Hid (ordA K W T m f a (n2 - 1) s [] = some (L2, y2)) := Lib.hid (by rw [← hR2, hr2])
    have HOK : Hid (okTo n2 L2 ∧ L2.length + 1 = n2) := Lib.hid (ord_ok (by omega) (n2 - 1) s [] (fun j hj => absurd hj (Nat.not_lt_zero j)) (by show 0 + (n2 - 1) + 1 = n2; omega) HR2.out)
    have hshl := shufTo_len n2 L2 L2.length
    have HSHL := Lib.hid hshl
    clear hR2 hr2 hshl
    replace HOI := Lib.hid (fun w => (HOI.out w).mono fun e w' h => fs_yes h rfl)
    replace HOS := Lib.hid (fun w => (HOS.out w).mono fun e w' h => fs_yes h rfl)
    refine (HOI.out _).mono ?_
    rintro e wa ⟨Ao, co, rfl, hoo, ba⟩
    rw [HSHL.out] at hoo ⊢
    have hla : bn < wa.heap.size := Nat.lt_of_lt_of_le N_NOW.out.lt ba.size
    have OO := Lib.hid (ownsRow_base hoo BB_W5.out.size)
    clear hoo
    obtain ⟨W6, hW6⟩ : ∃ V, V = wa.alloc (.cells #[.int .i64 K, .int .i64 W, .int .i64 T, .int .i64 m, .int .i64 f, .int .i64 a, .int .i64 y2] 29) := ⟨_, rfl⟩
    have yW6 : Below wa.heap.size wa W6 := by rw [hW6]; exact (Below.refl _ _).alloc (Nat.le_refl _) _
    have xW6 : Below W5.heap.size W5 W6 := by rw [hW6]; exact ba.alloc ba.size _
    have OO_W6 := Lib.hid (OwnI.below OO.out yW6)
    have X_W6 := Lib.hid (X_W5.out.below xW6 X_W5.out.lt)
    have NOW_W6 := Lib.hid (N_NOW.out.below xW6 N_NOW.out.lt)
    have BB_W6 := Lib.hid (Base.Below.nextA BB_W5.out xW6)
    have N_LAST := Lib.hid (show SBox W6 wa.heap.size K W T m f a y2 by rw [hW6]; exact SBox.new _ _ _ _ _ _ _ _)
    have HW6 := Lib.hid hW6
    try clear c0 c1 c2 c3 c4 c5 c6
    have c0 := (X_W6.out).c0; have c1 := (X_W6.out).c1; have c2 := (X_W6.out).c2; have c3 := (X_W6.out).c3; have c4 := (X_W6.out).c4; have c5 := (X_W6.out).c5; have c6 := (X_W6.out).c6
    rw [hW6] at c0 c1 c2 c3 c4 c5 c6
    clear hW6 xW6 yW6 ba
    go_wp2_with fail
    rw [← HW6.out]
    refine (HOS.out _).mono ?_
    rintro e wb ⟨As, cs, rfl, hos, bb⟩
    rw [HSHL.out]
    clear hos
    obtain ⟨W7, hW7⟩ : ∃ V, V = wb.alloc (.cells #[.int .i64 K, .int .i64 W, .int .i64 T, .int .i64 m, .int .i64 f, .int .i64 a, .int .i64 y2] 29) := ⟨_, rfl⟩
    have xW7 : Below W6.heap.size W6 W7 := by rw [hW7]; exact bb.alloc bb.size _
    have X_W7 := Lib.hid (X_W6.out.below xW7 X_W6.out.lt)
    have NOW_W7 := Lib.hid (NOW_W6.out.below xW7 NOW_W6.out.lt)
    have LAST_W7 := Lib.hid (N_LAST.out.below xW7 N_LAST.out.lt)
    have OO_W7 := Lib.hid (OwnI.below OO_W6.out xW7)
    have BB_W7 := Lib.hid (Base.Below.nextA BB_W6.out xW7)
    have HW7 := Lib.hid hW7
    try clear c0 c1 c2 c3 c4 c5 c6
    clear hW7 xW7 bb
    have HCH := Lib.hid (SeqI.choicesOf_yes Ao co W7.heap.size n2 L2 W7 (OwnI.rd OO_W7.out) (Nat.le_refl _) HOK.out.2 (by omega) HOK.out.1)
    go_wp2_with fail
    rw [← HW7.out]
    refine HCH.out.mono ?_
    rintro e wc ⟨Ac, cc, rfl, hoc, bc⟩
    have OC := Lib.hid (ownsRow_base hoc BB_W7.out.size)
    have X_wc := Lib.hid (X_W7.out.below bc X_W7.out.lt)
    have NOW_wc := Lib.hid (NOW_W7.out.below bc NOW_W7.out.lt)
    have LAST_wc := Lib.hid (LAST_W7.out.below bc LAST_W7.out.lt)
    have OO_wc := Lib.hid (OwnI.below OO_W7.out bc)
    have BB_wc := Lib.hid (Base.Below.nextA BB_W7.out bc)
    try clear c0 c1 c2 c3 c4 c5 c6
    have c0 := (X_wc.out).c0; have c1 := (X_wc.out).c1; have c2 := (X_wc.out).c2; have c3 := (X_wc.out).c3; have c4 := (X_wc.out).c4; have c5 := (X_wc.out).c5; have c6 := (X_wc.out).c6
    have d0 := (NOW_wc.out).c0; have d1 := (NOW_wc.out).c1; have d2 := (NOW_wc.out).c2; have d3 := (NOW_wc.out).c3; have d4 := (NOW_wc.out).c4; have d5 := (NOW_wc.out).c5; have d6 := (NOW_wc.out).c6
    have g0 := (NOW_wc.out).frz 0; have g1 := (NOW_wc.out).frz 1; have g2 := (NOW_wc.out).frz 2; have g3 := (NOW_wc.out).frz 3; have g4 := (NOW_wc.out).frz 4; have g5 := (NOW_wc.out).frz 5; have g6 := (NOW_wc.out).frz 6
    have XN := Lib.hid (NOW_wc.out.set7 K W T m f a s)
    have XL := Lib.hid (LAST_wc.out.kept (grown_set7 wc bn K W T m f a s) (fun e => by injection e with e; have := LAST_wc.out.lt; omega))
    have XO := Lib.hid (own_set7 OO_wc.out NOW_wc.out K W T m f a s)
    have XC := Lib.hid (own_set7 OC.out NOW_wc.out K W T m f a s)
    have XB := Lib.hid (below_set7 BB_wc.out (by omega) BB_wc.out.size K W T m f a s)
    obtain ⟨W9, hW9⟩ : ∃ V, V = set7 wc bn K W T m f a s := ⟨_, rfl⟩
    rw [← hW9] at XN XL XO XC XB
    obtain ⟨bl, hbl⟩ : ∃ b, b = wa.heap.size := ⟨_, rfl⟩
    rw [← hbl] at XL hla ⊢
    unfold set7 at hW9
    have HW9 := Lib.hid hW9
    have H1 : Hid (OrnRel K W T m f a n2 L2 y2 bn bl (.slice Ac L2.length cc) (.slice Ao n2 co) w W9 (.int .i64 ((n2 : Int) - 1)) W9) := Lib.hid
     ⟨n2 - 1, s, [], by congr 1; omega, by show 0 + (n2 - 1) + 1 = n2; omega, HR2, HBs, XN, XL, XC, XO, XB⟩
    clear hW9 hbl XN XL XO XC XB hoc bc
    go_wp2
    rw [← HW9.out]
    clear c0 c1 c2 c3 c4 c5 c6 d0 d1 d2 d3 d4 d5 d6 g0 g1 g2 g3 g4 g5 g6
    go_loopw [33] (fun iv wr => OrnRel K W T m f a n2 L2 y2 bn bl (.slice Ac L2.length cc) (.slice Ao n2 co) w W9 iv wr) (fun iv _ => (intOf iv).toNat)
    case atStart => exact H1.out
    case round =>
     obtain ⟨k, y, Lk, rfl, hlk, HOD, HSV, HN, HLB, HCC, HOO, HB⟩ := hrel
     clear H1
     by_cases hk : 0 < k
     ·have hk2 : (0 : Int) < (k : Int) := by omega
      obtain ⟨v1, u, hf, hnx, hval⟩ := ord_step1 hk (by omega) HOD.out
      obtain ⟨y3, hy3⟩ : ∃ z, z = takeX K W T m f a y (u : Int) := ⟨_, rfl⟩
      have hone := one_face hf
      rw [← hy3] at hone hnx
      have HF := Lib.hid ((implFaces_yes HSV.out (k + 1) 1 (by omega) (by omega) (by omega) wr).mono fun e w' h => fs_yes h hone)
      have hk1 : (((k + 1 : Nat)) : Int) = (k : Int) + 1 := by omega
      rw [hk1] at HF
      have HV3 : Hid (streamB K W T m f a y3 = true) := Lib.hid (by rw [hy3]; exact streamB_takeX HSV.out)
      have HNX := Lib.hid hnx
      have HVAL := Lib.hid hval
      clear hf hnx hval hone hy3 hk1 HOD HSV
      try clear c0 c1 c2 c3 c4 c5 c6
      have c0 := (HN.out).c0; have c1 := (HN.out).c1; have c2 := (HN.out).c2; have c3 := (HN.out).c3; have c4 := (HN.out).c4; have c5 := (HN.out).c5; have c6 := (HN.out).c6
      go_wp2_with fail
      refine HF.out.mono ?_
      rintro e wd ⟨A5, ck5, rfl, ho5, b5⟩
      rw [show [(v1 : Int)].length = 1 from rfl] at ho5 ⊢
      obtain ⟨W10, hW10⟩ : ∃ V, V = wd.alloc (.cells #[.int .i64 K, .int .i64 W, .int .i64 T, .int .i64 m, .int .i64 f, .int .i64 a, .int .i64 y3] 29) := ⟨_, rfl⟩
      have x10 : Below wr.heap.size wr W10 := by rw [hW10]; exact b5.alloc b5.size _
      have y10 : Below wd.heap.size wd W10 := by rw [hW10]; exact (Below.refl _ _).alloc (Nat.le_refl _) _
      have N10 := HN.out.below x10 HN.out.lt
      have L10 := Lib.hid (HLB.out.below x10 HLB.out.lt)
      have C10 := Lib.hid (OwnI.below HCC.out x10)
      have O10 := Lib.hid (OwnI.below HOO.out x10)
      have B10 := Lib.hid (Base.Below.nextA HB.out x10)
      have E10 : SBox W10 wd.heap.size K W T m f a y3 := by rw [hW10]; exact SBox.new _ _ _ _ _ _ _ _
      have hlc : Lk.length < L2.length := by have := HOK.out.2; omega
      obtain ⟨bc, oc, rfl, hbc, hcc⟩ := (OwnI.rd C10.out) (by omega)
      have q1 := hcc Lk.length hlc
      rw [HVAL.out] at q1
      obtain ⟨bo, oo, rfl, hbo, hoo5⟩ := (OwnI.rd (OwnI.below ho5 y10)) (Nat.zero_lt_one)
      have q2 := hoo5 0 Nat.zero_lt_one
      rw [show [(v1 : Int)].getD 0 0 = (v1 : Int) from rfl, Nat.add_zero] at q2
      have hw1 : IntKind.i64.wrap ((n2 : Int) - 1) = (L2.length : Int) := by
       rw [show (n2 : Int) - 1 = (L2.length : Int) by have := HOK.out.2; omega, IntKind.wrap_i64]; have := HOK.out.2; omega
      have hw2 : IntKind.i64.wrap ((L2.length : Int) - (k : Int)) = (Lk.length : Int) := by
       rw [show (L2.length : Int) - (k : Int) = (Lk.length : Int) by have := HOK.out.2; omega, IntKind.wrap_i64]; have := HOK.out.2; omega
      have hq1 : ((L2.length : Int) != (L2.length : Int)) = false := by simp
      have hwb := E10.lt
      have hne2 : bl ≠ bn := by omega
      try clear c0 c1 c2 c3 c4 c5 c6
      have HW10 := Lib.hid hW10
      have NN10 := Lib.hid N10
      have EE10 := Lib.hid E10
      clear hcc hoo5 HN HLB HCC HOO HB HF b5 x10 y10 ho5 hW10 N10 E10
      generalize hjj : Lk.length = j at *
      have HJ := Lib.hid hjj
      clear hjj
      go_wp2
      rw [← HW10.out]
      (refine wp_region_below (by kernel_rfl) (by kernel_rfl) ?_; (repeat (with_reducible refine wpQuiet_step (fun K hK => ?_); go_simp; first | (with_reducible refine hK _ ?_; clear hK K) | (apply Exists.intro; refine ⟨fun wq hq => ?_, hK _ ?_⟩; (first | rfl | (have qa := (hq.cell (p := ⟨bc, oc + j, none⟩) hbc).trans q1; have qb := (hq.cell (p := ⟨bo, oo, none⟩) hbo).trans q2; first | (go_simp; done) | (go_simp; rfl) | fail)); clear hK K))); with_reducible refine wpQuiet_nil ?_; intro wq hq)
      all_goals
       clear hw1 hw2 hq1
       have x11 : Below W10.heap.size W10 wq := hq
       have N11 := NN10.out.below x11 NN10.out.lt
       have L11 := L10.out.below x11 L10.out.lt
       have E11 := EE10.out.below x11 EE10.out.lt
       have C11 := OwnI.below C10.out x11
       have O11 := OwnI.below O10.out x11
       have B11 := Base.Below.nextA B10.out x11
       have H2 := Lib.hid (orn_next (W9 := W9) hk (by rw [HJ.out]; exact hlk) HNX.out HV3.out N11 L11 C11 O11 B11 hbw hne2)
       unfold set7 at H2
       have d0 := (E11).c0; have d1 := (E11).c1; have d2 := (E11).c2; have d3 := (E11).c3; have d4 := (E11).c4; have d5 := (E11).c5; have d6 := (E11).c6
       have c0 := (N11).c0; have c1 := (N11).c1; have c2 := (N11).c2; have c3 := (N11).c3; have c4 := (N11).c4; have c5 := (N11).c5; have c6 := (N11).c6
       have g0 := (N11).frz 0; have g1 := (N11).frz 1; have g2 := (N11).frz 2; have g3 := (N11).frz 3; have g4 := (N11).frz 4; have g5 := (N11).frz 5; have g6 := (N11).frz 6
       clear x11 hq L11 C11 O11 B11 N11 E11 q1 q2
       go_wp2
       go_roundw
       case rel => exact H2.out
       case measure => simp [intOf]; omega
     ·obtain rfl : k = 0 := by omega
      have hfin := HOD.out
      rw [ordA] at hfin
      injection hfin with hfin
      injection hfin with hf1 hf2
      subst hf2
      have HIO := Lib.hid (SeqI.isOrder_yes Ao n2 co wr.heap.size (shufTo n2 L2 L2.length) wr (OwnI.rd HOO.out) (Nat.le_refl _) HSHL.out hn20 (by omega)
       (by rw [shuf_eq]; exact ChM.shufQ_nodup HOK.out.2 HOK.out.1 _ (Nat.le_refl _)) (fun z hz => by rw [shuf_eq] at hz; exact ChM.shufQ_mem HOK.out.2 HOK.out.1 _ (Nat.le_refl _) hz))
      have HNB := HN.out
      have HLX := HLB.out
      try clear c0 c1 c2 c3 c4 c5 c6
      have c0 := (HNB).c0; have c1 := (HNB).c1; have c2 := (HNB).c2; have c3 := (HNB).c3; have c4 := (HNB).c4; have c5 := (HNB).c5; have c6 := (HNB).c6
      have d0 := (HLX).c0; have d1 := (HLX).c1; have d2 := (HLX).c2; have d3 := (HLX).c3; have d4 := (HLX).c4; have d5 := (HLX).c5; have d6 := (HLX).c6
      have HBX := Lib.hid HB.out
      clear hf1 HOD HSV HN HLB HCC HOO HB HNB HLX
      go_wp2_with fail
      refine HIO.out.mono ?_
      rintro e wz ⟨rfl, bz⟩
      have HBZ := Lib.hid (Base.Below.nextA HBX.out bz)
      clear bz
      go_wp2
      go_ret
      exact ⟨rfl, HBZ.out⟩
  | some p =>
   obtain ⟨L, y'⟩ := p
   have HR : Hid (facesA K W T m f a n hn0 C0 s [] = some (L, y')) := Lib.hid (by rw [← hR, hr])
   have hll := facesA_len C0 s [] HR.out
   have HLL : Hid (L.length = C0) := Lib.hid (by rw [hll]; exact Nat.zero_add _)
   rw [hr] at HFI HFS
   clear hR hr hll
   replace HFI := Lib.hid (fun w => (HFI.out w).mono fun e w' h => fs_yes h rfl)
   replace HFS := Lib.hid (fun w => (HFS.out w).mono fun e w' h => fs_yes h rfl)
   refine (HFI.out _).mono ?_
   rintro e w2 ⟨Af, cf, rfl, hof, b2⟩
   rw [HLL.out] at hof ⊢
   have OF := Lib.hid hof
   have bw2 := Lib.hid b2
   obtain ⟨W3, hW3⟩ : ∃ V, V = w2.alloc (.cells #[.int .i64 K, .int .i64 W, .int .i64 T, .int .i64 m, .int .i64 f, .int .i64 a, .int .i64 y'] 29) := ⟨_, rfl⟩
   have yW3 : Below w2.heap.size w2 W3 := by rw [hW3]; exact (Below.refl _ _).alloc (Nat.le_refl _) _
   have xW3 : Below W2.heap.size W2 W3 := by rw [hW3]; exact b2.alloc b2.size _
   have OF_W3 := Lib.hid (OwnI.below OF.out yW3)
   have X_W3 := Lib.hid (N_X.out.below xW3 N_X.out.lt)
   have BB_W3 := Lib.hid (Base.Below.nextA BB_W2.out xW3)
   have N_END := Lib.hid (show SBox W3 w2.heap.size K W T m f a y' by rw [hW3]; exact SBox.new _ _ _ _ _ _ _ _)
   have HW3 := Lib.hid hW3
   try clear c0 c1 c2 c3 c4 c5 c6
   have c0 := (X_W3.out).c0; have c1 := (X_W3.out).c1; have c2 := (X_W3.out).c2; have c3 := (X_W3.out).c3; have c4 := (X_W3.out).c4; have c5 := (X_W3.out).c5; have c6 := (X_W3.out).c6
   rw [hW3] at c0 c1 c2 c3 c4 c5 c6
   clear hW3 xW3 yW3 b2 hof OF bw2
   go_wp2_with fail
   rw [← HW3.out]
   refine (HFS.out _).mono ?_
   rintro e w3 ⟨As0, cs0, rfl, hos, b3⟩
   rw [HLL.out]
   clear hos
   obtain ⟨W4, hW4⟩ : ∃ V, V = w3.alloc (.cells #[.int .i64 K, .int .i64 W, .int .i64 T, .int .i64 m, .int .i64 f, .int .i64 a, .int .i64 y'] 29) := ⟨_, rfl⟩
   have xW4 : Below W3.heap.size W3 W4 := by rw [hW4]; exact b3.alloc b3.size _
   have X_W4 := Lib.hid (X_W3.out.below xW4 X_W3.out.lt)
   have END_W4 := Lib.hid (N_END.out.below xW4 N_END.out.lt)
   have OF_W4 := Lib.hid (OwnI.below OF_W3.out xW4)
   have BB_W4 := Lib.hid (Base.Below.nextA BB_W3.out xW4)
   have HW4 := Lib.hid hW4
   try clear c0 c1 c2 c3 c4 c5 c6
   have c0 := (X_W4.out).c0; have c1 := (X_W4.out).c1; have c2 := (X_W4.out).c2; have c3 := (X_W4.out).c3; have c4 := (X_W4.out).c4; have c5 := (X_W4.out).c5; have c6 := (X_W4.out).c6
   rw [hW4] at c0 c1 c2 c3 c4 c5 c6
   clear hW4 xW4 b3
   obtain ⟨W5, hW5⟩ : ∃ V, V = W4.alloc (.cells #[.int .i64 K, .int .i64 W, .int .i64 T, .int .i64 m, .int .i64 f, .int .i64 a, .int .i64 s] 29) := ⟨_, rfl⟩
   have xW5 : Below W4.heap.size W4 W5 := by rw [hW5]; exact (Below.refl _ _).alloc (Nat.le_refl _) _
   have X_W5 := Lib.hid (X_W4.out.below xW5 X_W4.out.lt)
   have END_W5 := Lib.hid (END_W4.out.below xW5 END_W4.out.lt)
   have OF_W5 := Lib.hid (OwnI.below OF_W4.out xW5)
   have BB_W5 := Lib.hid (Base.Below.nextA BB_W4.out xW5)
   have EBN := Lib.hid (show w3.heap.size + 1 = W4.heap.size by rw [HW4.out]; simp)
   have N_NOW := Lib.hid (show SBox W5 (w3.heap.size + 1) K W T m f a s by rw [EBN.out, hW5]; exact SBox.new _ _ _ _ _ _ _ _)
   have HW5 := Lib.hid (hW5.trans (by rw [HW4.out]))
   have XB_W5 := Lib.hid xW5
   clear hW5 xW5
   go_wp2
   rw [← HW5.out]
   obtain ⟨bn, hbn⟩ : ∃ b, b = w3.heap.size + 1 := ⟨_, rfl⟩
   rw [← hbn] at N_NOW ⊢
   have hbw : w.heap.size ≤ bn := by rw [hbn, EBN.out]; exact BB_W4.out.size
   have HBN4 := Lib.hid (show W4.heap.size ≤ bn by rw [hbn, EBN.out]; exact Nat.le_refl _)
   clear hbn EBN
   have hwb4 : W4.heap.size ≤ bn := HBN4.out
   have H1 : Hid (DrnRel K W T m f a n hn0 C0 L y' bn w W4 (.int .i64 0) W5) := Lib.hid
    ⟨0, s, [], rfl, Nat.zero_le _, rfl, by rw [Nat.sub_zero]; exact HR, HBs, N_NOW, XB_W5⟩
   clear c0 c1 c2 c3 c4 c5 c6
   go_loopw [15] (fun iv wr => DrnRel K W T m f a n hn0 C0 L y' bn w W4 iv wr) (fun iv _ => C0 - (intOf iv).toNat)
   case atStart => exact H1.out
   case round =>
    obtain ⟨i, y, Li, rfl, hi, hli, HFD, HSV, HN, HB⟩ := hrel
    clear H1
    by_cases hic : i < C0
    ·have hic2 : (i : Int) < (C0 : Int) := by omega
     obtain ⟨v1, u, hf, hnx, hval, hvn, hu⟩ := faces_step1 (by omega) hic HFD.out
     obtain ⟨y3, hy3⟩ : ∃ z, takeX K W T m f a y (u : Int) = z := ⟨_, rfl⟩
     obtain ⟨y4, hy4⟩ : ∃ z, takeX K W T m f a y 400 = z := ⟨_, rfl⟩
     obtain ⟨tb, htb⟩ : ∃ z, (⟨(takeL K W T m f a y 400).toArray⟩ : ByteArray) = z := ⟨_, rfl⟩
     have HT := Lib.hid (dtake_ok HSV.out htb hy4 wr)
     have hsz : tb.size ≤ 400 := by rw [← htb, takeL_size]; decide
     have hbits : BitsS tb := by rw [← htb]; exact takeL_bits K W T m f a y 400
     have hd : diceR n hn0 tb 1 0 0 = some (v1, u) := by rw [← htb]; exact hf
     have HD := Lib.hid (fun w => implDice_some hn0 (by omega) hsz hbits hd w)
     have HK := Lib.hid (fun w => dskip_ok HSV.out hu hy3 w)
     rw [hy3] at hnx
     rw [hli] at hval
     have HNX := Lib.hid hnx
     have HV3 : Hid (streamB K W T m f a y3 = true) := Lib.hid (by rw [← hy3]; exact streamB_takeX HSV.out)
     have HLI := Lib.hid hli
     have OFr := OwnI.below OF_W4.out HB.out
     clear hf hnx hy3 hy4 htb hbits hd HFD HSV hsz hli
     try clear c0 c1 c2 c3 c4 c5 c6
     have c0 := (HN.out).c0; have c1 := (HN.out).c1; have c2 := (HN.out).c2; have c3 := (HN.out).c3; have c4 := (HN.out).c4; have c5 := (HN.out).c5; have c6 := (HN.out).c6
     go_wp2_with fail
     refine HT.out.mono ?_
     rintro e wa ⟨rfl, ba⟩
     obtain ⟨W10, hW10⟩ : ∃ V, V = wa.alloc (.cells #[.int .i64 K, .int .i64 W, .int .i64 T, .int .i64 m, .int .i64 f, .int .i64 a, .int .i64 y4] 29) := ⟨_, rfl⟩
     have x10 : Below wr.heap.size wr W10 := by rw [hW10]; exact ba.alloc ba.size _
     have N10 := Lib.hid (HN.out.below x10 HN.out.lt)
     have HW10 := Lib.hid hW10
     have X10 := Lib.hid x10
     clear c0 c1 c2 c3 c4 c5 c6 hW10 ba x10
     go_wp2_with fail
     rw [← HW10.out]
     refine (HD.out _).mono ?_
     rintro e wb ⟨rfl, bb⟩
     have X11 := Lib.hid (Base.Below.nextA X10.out bb)
     have N11 := Lib.hid (N10.out.below bb N10.out.lt)
     clear bb
     try clear c0 c1 c2 c3 c4 c5 c6
     have c0 := (N11.out).c0; have c1 := (N11.out).c1; have c2 := (N11.out).c2; have c3 := (N11.out).c3; have c4 := (N11.out).c4; have c5 := (N11.out).c5; have c6 := (N11.out).c6
     go_wp2_with fail
     refine (HK.out _).mono ?_
     rintro e wc ⟨rfl, bc⟩
     obtain ⟨W12, hW12⟩ : ∃ V, V = wc.alloc (.cells #[.int .i64 K, .int .i64 W, .int .i64 T, .int .i64 m, .int .i64 f, .int .i64 a, .int .i64 y3] 29) := ⟨_, rfl⟩
     have y12 : Below wb.heap.size wb W12 := by rw [hW12]; exact bc.alloc bc.size _
     have x12 := Base.Below.nextA X11.out y12
     have N12 := N11.out.below y12 N11.out.lt
     have E12 : SBox W12 wc.heap.size K W T m f a y3 := by rw [hW12]; exact SBox.new _ _ _ _ _ _ _ _
     obtain ⟨bo, oo, rfl, _, hcc⟩ := (OwnI.rd (OwnI.below OFr x12)) (by rw [HLL.out]; omega)
     have q1 := hcc i (by rw [HLL.out]; omega)
     rw [hval] at q1
     have B12 := Base.Below.nextA HB.out x12
     have H2 := Lib.hid (drn_next (w := w) hic HLI.out HNX.out HV3.out N12 B12 hwb4)
     unfold set7 at H2
     have hv0 : ((v1 : Int) < 0) = False := by simp
     have hv2 : (v1 : Int) < (n : Int) := by omega
     try clear c0 c1 c2 c3 c4 c5 c6
     have c0 := (E12).c0; have c1 := (E12).c1; have c2 := (E12).c2; have c3 := (E12).c3; have c4 := (E12).c4; have c5 := (E12).c5; have c6 := (E12).c6
     have d0 := (N12).c0; have d1 := (N12).c1; have d2 := (N12).c2; have d3 := (N12).c3; have d4 := (N12).c4; have d5 := (N12).c5; have d6 := (N12).c6
     have g0 := (N12).frz 0; have g1 := (N12).frz 1; have g2 := (N12).frz 2; have g3 := (N12).frz 3; have g4 := (N12).frz 4; have g5 := (N12).frz 5; have g6 := (N12).frz 6
     rw [hW12] at q1 c0 c1 c2 c3 c4 c5 c6 d0 d1 d2 d3 d4 d5 d6 g0 g1 g2 g3 g4 g5 g6 H2
     clear hW12 y12 x12 N12 E12 hcc B12 OFr bc hval
     go_wp2
     go_roundw
     case rel => exact H2.out
     case measure => simp [intOf]; omega
    ·obtain rfl : i = C0 := by omega
     have hfin := HFD.out
     rw [Nat.sub_self, facesA] at hfin
     injection hfin with hfin
     injection hfin with hf1 hf2
     subst hf2
     have N_R := HN
     have X_R := Lib.hid (X_W4.out.below HB.out X_W4.out.lt)
     have E_R := END_W4.out.below HB.out END_W4.out.lt
     have BB_R := Lib.hid (Base.Below.nextA BB_W4.out HB.out)
     try clear c0 c1 c2 c3 c4 c5 c6
     have c0 := (N_R.out).c0; have c1 := (N_R.out).c1; have c2 := (N_R.out).c2; have c3 := (N_R.out).c3; have c4 := (N_R.out).c4; have c5 := (N_R.out).c5; have c6 := (N_R.out).c6
     have d0 := (E_R).c0; have d1 := (E_R).c1; have d2 := (E_R).c2; have d3 := (E_R).c3; have d4 := (E_R).c4; have d5 := (E_R).c5; have d6 := (E_R).c6
     clear hf1 HFD HSV HN E_R hli
     go_wp2_with fail
     clear d0 d1 d2 d3 d4 d5 d6
     try clear c0 c1 c2 c3 c4 c5 c6
     refine (b10At_two A' c' w.heap.size ys _ HZ.out hl' (HY.out.below BB_R.out (Nat.le_refl _))).mono ?_
     rintro e w' ⟨p2, hp0, hp1, rfl, rfl⟩
     obtain ⟨N2, rfl⟩ := Int.eq_ofNat_of_zero_le hp0
     obtain ⟨n2, hn2⟩ : ∃ n, n = N2 + 1 := ⟨_, rfl⟩
     have hn20 : 0 < n2 := by omega
     have hn26 : n2 ≤ 6 := by omega
     have hnn2 : (1 + (N2 : Int)) = (n2 : Int) := by omega
     have HN2 := Lib.hid hnn2
     have hN2b : N2 ≤ 5 := by omega
     clear hp0 hp1 hn2 hnn2
     obtain ⟨R2, hR2⟩ : ∃ R, R = ordA K W T m f a (n2 - 1) s [] := ⟨_, rfl⟩
     have HOI := Lib.hid (fun w => implOrder_yes HBs.out n2 hn20 (by omega) w)
     have HOS := Lib.hid (fun w => specOrder_yes HBs.out n2 hn20 (by omega) w)
     rw [← hR2] at HOI HOS
     try clear c0 c1 c2 c3 c4 c5 c6
     have c0 := (X_R.out).c0; have c1 := (X_R.out).c1; have c2 := (X_R.out).c2; have c3 := (X_R.out).c3; have c4 := (X_R.out).c4; have c5 := (X_R.out).c5; have c6 := (X_R.out).c6
     go_wp2_with fail
     rw [HN2.out]
     cases hr2 : R2 with
     | none =>
      rw [hr2, show ordOf n2 none = none from rfl] at HOI HOS
      clear hR2 hr2
      replace HOI := Lib.hid (fun w => (HOI.out w).mono fun e w' h => fs_no h rfl)
      replace HOS := Lib.hid (fun w => (HOS.out w).mono fun e w' h => fs_no h rfl)
      refine (HOI.out _).mono ?_
      rintro e wa ⟨rfl, ba⟩
      obtain ⟨W21, hW21⟩ : ∃ V, V = wa.alloc (.cells #[.int .i64 0, .int .i64 0, .int .i64 0, .int .i64 0, .int .i64 0, .int .i64 0, .int .i64 0] 29) := ⟨_, rfl⟩
      have xW21 : Below wr.heap.size wr W21 := by rw [hW21]; exact ba.alloc ba.size _
      have X_W21 := Lib.hid (X_R.out.below xW21 X_R.out.lt)
      have NOW_W21 := Lib.hid (N_R.out.below xW21 N_R.out.lt)
      have BB_W21 := Lib.hid (Base.Below.nextA BB_R.out xW21)
      have HW21 := Lib.hid hW21
      try clear c0 c1 c2 c3 c4 c5 c6
      have c0 := (X_W21.out).c0; have c1 := (X_W21.out).c1; have c2 := (X_W21.out).c2; have c3 := (X_W21.out).c3; have c4 := (X_W21.out).c4; have c5 := (X_W21.out).c5; have c6 := (X_W21.out).c6
      rw [hW21] at c0 c1 c2 c3 c4 c5 c6
      clear hW21 xW21 ba
      go_wp2_with fail
      rw [← HW21.out]
      refine (HOS.out _).mono ?_
      rintro e wb ⟨rfl, bb⟩
      obtain ⟨W22, hW22⟩ : ∃ V, V = wb.alloc (.cells #[.int .i64 0, .int .i64 0, .int .i64 0, .int .i64 0, .int .i64 0, .int .i64 0, .int .i64 0] 29) := ⟨_, rfl⟩
      have xW22 : Below W21.heap.size W21 W22 := by rw [hW22]; exact bb.alloc bb.size _
      have X_W22 := Lib.hid (X_W21.out.below xW22 X_W21.out.lt)
      have NOW_W22 := Lib.hid (NOW_W21.out.below xW22 NOW_W21.out.lt)
      have BB_W22 := Lib.hid (Base.Below.nextA BB_W21.out xW22)
      have HW22 := Lib.hid hW22
      try clear c0 c1 c2 c3 c4 c5 c6
      clear hW22 xW22 bb
      go_wp2
      go_ret
      rw [← HW22.out]
      exact ⟨rfl, BB_W22.out⟩
     | some p =>
      obtain ⟨L2, y2⟩ := p
      rw [hr2, show ordOf n2 (some (L2, y2)) = some (shufTo n2 L2 L2.length, y2) from rfl] at HOI HOS
      have HR2 : Hid (ordA K W T m f a (n2 - 1) s [] = some (L2, y2)) := Lib.hid (by rw [← hR2, hr2])
      have HOK : Hid (okTo n2 L2 ∧ L2.length + 1 = n2) := Lib.hid (ord_ok (by omega) (n2 - 1) s [] (fun j hj => absurd hj (Nat.not_lt_zero j)) (by show 0 + (n2 - 1) + 1 = n2; omega) HR2.out)
      have hshl := shufTo_len n2 L2 L2.length
      have HSHL := Lib.hid hshl
      clear hR2 hr2 hshl
      replace HOI := Lib.hid (fun w => (HOI.out w).mono fun e w' h => fs_yes h rfl)
      replace HOS := Lib.hid (fun w => (HOS.out w).mono fun e w' h => fs_yes h rfl)
      refine (HOI.out _).mono ?_
      rintro e wa ⟨Ao, co, rfl, hoo, ba⟩
      rw [HSHL.out] at hoo ⊢
      have hla : bn < wa.heap.size := Nat.lt_of_lt_of_le N_R.out.lt ba.size
      have OO := Lib.hid (ownsRow_base hoo BB_R.out.size)
      clear hoo
      obtain ⟨W21, hW21⟩ : ∃ V, V = wa.alloc (.cells #[.int .i64 K, .int .i64 W, .int .i64 T, .int .i64 m, .int .i64 f, .int .i64 a, .int .i64 y2] 29) := ⟨_, rfl⟩
      have yW21 : Below wa.heap.size wa W21 := by rw [hW21]; exact (Below.refl _ _).alloc (Nat.le_refl _) _
      have xW21 : Below wr.heap.size wr W21 := by rw [hW21]; exact ba.alloc ba.size _
      have OO_W21 := Lib.hid (OwnI.below OO.out yW21)
      have X_W21 := Lib.hid (X_R.out.below xW21 X_R.out.lt)
      have NOW_W21 := Lib.hid (N_R.out.below xW21 N_R.out.lt)
      have BB_W21 := Lib.hid (Base.Below.nextA BB_R.out xW21)
      have N_LAST := Lib.hid (show SBox W21 wa.heap.size K W T m f a y2 by rw [hW21]; exact SBox.new _ _ _ _ _ _ _ _)
      have HW21 := Lib.hid hW21
      try clear c0 c1 c2 c3 c4 c5 c6
      have c0 := (X_W21.out).c0; have c1 := (X_W21.out).c1; have c2 := (X_W21.out).c2; have c3 := (X_W21.out).c3; have c4 := (X_W21.out).c4; have c5 := (X_W21.out).c5; have c6 := (X_W21.out).c6
      rw [hW21] at c0 c1 c2 c3 c4 c5 c6
      clear hW21 xW21 yW21 ba
      go_wp2_with fail
      rw [← HW21.out]
      refine (HOS.out _).mono ?_
      rintro e wb ⟨As, cs, rfl, hos, bb⟩
      rw [HSHL.out]
      clear hos
      obtain ⟨W22, hW22⟩ : ∃ V, V = wb.alloc (.cells #[.int .i64 K, .int .i64 W, .int .i64 T, .int .i64 m, .int .i64 f, .int .i64 a, .int .i64 y2] 29) := ⟨_, rfl⟩
      have xW22 : Below W21.heap.size W21 W22 := by rw [hW22]; exact bb.alloc bb.size _
      have X_W22 := Lib.hid (X_W21.out.below xW22 X_W21.out.lt)
      have NOW_W22 := Lib.hid (NOW_W21.out.below xW22 NOW_W21.out.lt)
      have LAST_W22 := Lib.hid (N_LAST.out.below xW22 N_LAST.out.lt)
      have OO_W22 := Lib.hid (OwnI.below OO_W21.out xW22)
      have BB_W22 := Lib.hid (Base.Below.nextA BB_W21.out xW22)
      have HW22 := Lib.hid hW22
      try clear c0 c1 c2 c3 c4 c5 c6
      clear hW22 xW22 bb
      have HCH := Lib.hid (SeqI.choicesOf_yes Ao co W22.heap.size n2 L2 W22 (OwnI.rd OO_W22.out) (Nat.le_refl _) HOK.out.2 (by omega) HOK.out.1)
      go_wp2_with fail
      rw [← HW22.out]
      refine HCH.out.mono ?_
      rintro e wc ⟨Ac, cc, rfl, hoc, bc⟩
      have OC := Lib.hid (ownsRow_base hoc BB_W22.out.size)
      have X_wc := Lib.hid (X_W22.out.below bc X_W22.out.lt)
      have NOW_wc := Lib.hid (NOW_W22.out.below bc NOW_W22.out.lt)
      have LAST_wc := Lib.hid (LAST_W22.out.below bc LAST_W22.out.lt)
      have OO_wc := Lib.hid (OwnI.below OO_W22.out bc)
      have BB_wc := Lib.hid (Base.Below.nextA BB_W22.out bc)
      try clear c0 c1 c2 c3 c4 c5 c6
      have c0 := (X_wc.out).c0; have c1 := (X_wc.out).c1; have c2 := (X_wc.out).c2; have c3 := (X_wc.out).c3; have c4 := (X_wc.out).c4; have c5 := (X_wc.out).c5; have c6 := (X_wc.out).c6
      have d0 := (NOW_wc.out).c0; have d1 := (NOW_wc.out).c1; have d2 := (NOW_wc.out).c2; have d3 := (NOW_wc.out).c3; have d4 := (NOW_wc.out).c4; have d5 := (NOW_wc.out).c5; have d6 := (NOW_wc.out).c6
      have g0 := (NOW_wc.out).frz 0; have g1 := (NOW_wc.out).frz 1; have g2 := (NOW_wc.out).frz 2; have g3 := (NOW_wc.out).frz 3; have g4 := (NOW_wc.out).frz 4; have g5 := (NOW_wc.out).frz 5; have g6 := (NOW_wc.out).frz 6
      have XN := Lib.hid (NOW_wc.out.set7 K W T m f a s)
      have XL := Lib.hid (LAST_wc.out.kept (grown_set7 wc bn K W T m f a s) (fun e => by injection e with e; have := LAST_wc.out.lt; omega))
      have XO := Lib.hid (own_set7 OO_wc.out NOW_wc.out K W T m f a s)
      have XC := Lib.hid (own_set7 OC.out NOW_wc.out K W T m f a s)
      have XB := Lib.hid (below_set7 BB_wc.out (by omega) BB_wc.out.size K W T m f a s)
      obtain ⟨W9, hW9⟩ : ∃ V, V = set7 wc bn K W T m f a s := ⟨_, rfl⟩
      rw [← hW9] at XN XL XO XC XB
      obtain ⟨bl, hbl⟩ : ∃ b, b = wa.heap.size := ⟨_, rfl⟩
      rw [← hbl] at XL hla ⊢
      unfold set7 at hW9
      have HW9 := Lib.hid hW9
      have H1 : Hid (OrnRel K W T m f a n2 L2 y2 bn bl (.slice Ac L2.length cc) (.slice Ao n2 co) w W9 (.int .i64 ((n2 : Int) - 1)) W9) := Lib.hid
       ⟨n2 - 1, s, [], by congr 1; omega, by show 0 + (n2 - 1) + 1 = n2; omega, HR2, HBs, XN, XL, XC, XO, XB⟩
      clear hW9 hbl XN XL XO XC XB hoc bc
      go_wp2
      rw [← HW9.out]
      clear c0 c1 c2 c3 c4 c5 c6 d0 d1 d2 d3 d4 d5 d6 g0 g1 g2 g3 g4 g5 g6
      go_loopw [33] (fun iv wr => OrnRel K W T m f a n2 L2 y2 bn bl (.slice Ac L2.length cc) (.slice Ao n2 co) w W9 iv wr) (fun iv _ => (intOf iv).toNat)
      case atStart => exact H1.out
      case round =>
       obtain ⟨k, y, Lk, rfl, hlk, HOD, HSV, HN, HLB, HCC, HOO, HB⟩ := hrel
       clear H1
       by_cases hk : 0 < k
       ·have hk2 : (0 : Int) < (k : Int) := by omega
        obtain ⟨v1, u, hf, hnx, hval⟩ := ord_step1 hk (by omega) HOD.out
        obtain ⟨y3, hy3⟩ : ∃ z, z = takeX K W T m f a y (u : Int) := ⟨_, rfl⟩
        have hone := one_face hf
        rw [← hy3] at hone hnx
        have HF := Lib.hid ((implFaces_yes HSV.out (k + 1) 1 (by omega) (by omega) (by omega) wr).mono fun e w' h => fs_yes h hone)
        have hk1 : (((k + 1 : Nat)) : Int) = (k : Int) + 1 := by omega
        rw [hk1] at HF
        have HV3 : Hid (streamB K W T m f a y3 = true) := Lib.hid (by rw [hy3]; exact streamB_takeX HSV.out)
        have HNX := Lib.hid hnx
        have HVAL := Lib.hid hval
        clear hf hnx hval hone hy3 hk1 HOD HSV
        try clear c0 c1 c2 c3 c4 c5 c6
        have c0 := (HN.out).c0; have c1 := (HN.out).c1; have c2 := (HN.out).c2; have c3 := (HN.out).c3; have c4 := (HN.out).c4; have c5 := (HN.out).c5; have c6 := (HN.out).c6
        go_wp2_with fail
        refine HF.out.mono ?_
        rintro e wd ⟨A5, ck5, rfl, ho5, b5⟩
        rw [show [(v1 : Int)].length = 1 from rfl] at ho5 ⊢
        obtain ⟨W10, hW10⟩ : ∃ V, V = wd.alloc (.cells #[.int .i64 K, .int .i64 W, .int .i64 T, .int .i64 m, .int .i64 f, .int .i64 a, .int .i64 y3] 29) := ⟨_, rfl⟩
        have x10 : Below wr.heap.size wr W10 := by rw [hW10]; exact b5.alloc b5.size _
        have y10 : Below wd.heap.size wd W10 := by rw [hW10]; exact (Below.refl _ _).alloc (Nat.le_refl _) _
        have N10 := HN.out.below x10 HN.out.lt
        have L10 := Lib.hid (HLB.out.below x10 HLB.out.lt)
        have C10 := Lib.hid (OwnI.below HCC.out x10)
        have O10 := Lib.hid (OwnI.below HOO.out x10)
        have B10 := Lib.hid (Base.Below.nextA HB.out x10)
        have E10 : SBox W10 wd.heap.size K W T m f a y3 := by rw [hW10]; exact SBox.new _ _ _ _ _ _ _ _
        have hlc : Lk.length < L2.length := by have := HOK.out.2; omega
        obtain ⟨bc, oc, rfl, hbc, hcc⟩ := (OwnI.rd C10.out) (by omega)
        have q1 := hcc Lk.length hlc
        rw [HVAL.out] at q1
        obtain ⟨bo, oo, rfl, hbo, hoo5⟩ := (OwnI.rd (OwnI.below ho5 y10)) (Nat.zero_lt_one)
        have q2 := hoo5 0 Nat.zero_lt_one
        rw [show [(v1 : Int)].getD 0 0 = (v1 : Int) from rfl, Nat.add_zero] at q2
        have hw1 : IntKind.i64.wrap ((n2 : Int) - 1) = (L2.length : Int) := by
         rw [show (n2 : Int) - 1 = (L2.length : Int) by have := HOK.out.2; omega, IntKind.wrap_i64]; have := HOK.out.2; omega
        have hw2 : IntKind.i64.wrap ((L2.length : Int) - (k : Int)) = (Lk.length : Int) := by
         rw [show (L2.length : Int) - (k : Int) = (Lk.length : Int) by have := HOK.out.2; omega, IntKind.wrap_i64]; have := HOK.out.2; omega
        have hq1 : ((L2.length : Int) != (L2.length : Int)) = false := by simp
        have hwb := E10.lt
        have hne2 : bl ≠ bn := by omega
        try clear c0 c1 c2 c3 c4 c5 c6
        have HW10 := Lib.hid hW10
        have NN10 := Lib.hid N10
        have EE10 := Lib.hid E10
        clear hcc hoo5 HN HLB HCC HOO HB HF b5 x10 y10 ho5 hW10 N10 E10
        generalize hjj : Lk.length = j at *
        have HJ := Lib.hid hjj
        clear hjj
        go_wp2
        rw [← HW10.out]
        (refine wp_region_below (by kernel_rfl) (by kernel_rfl) ?_; (repeat (with_reducible refine wpQuiet_step (fun K hK => ?_); go_simp; first | (with_reducible refine hK _ ?_; clear hK K) | (apply Exists.intro; refine ⟨fun wq hq => ?_, hK _ ?_⟩; (first | rfl | (have qa := (hq.cell (p := ⟨bc, oc + j, none⟩) hbc).trans q1; have qb := (hq.cell (p := ⟨bo, oo, none⟩) hbo).trans q2; first | (go_simp; done) | (go_simp; rfl) | fail)); clear hK K))); with_reducible refine wpQuiet_nil ?_; intro wq hq)
        all_goals
         clear hw1 hw2 hq1
         have x11 : Below W10.heap.size W10 wq := hq
         have N11 := NN10.out.below x11 NN10.out.lt
         have L11 := L10.out.below x11 L10.out.lt
         have E11 := EE10.out.below x11 EE10.out.lt
         have C11 := OwnI.below C10.out x11
         have O11 := OwnI.below O10.out x11
         have B11 := Base.Below.nextA B10.out x11
         have H2 := Lib.hid (orn_next (W9 := W9) hk (by rw [HJ.out]; exact hlk) HNX.out HV3.out N11 L11 C11 O11 B11 hbw hne2)
         unfold set7 at H2
         have d0 := (E11).c0; have d1 := (E11).c1; have d2 := (E11).c2; have d3 := (E11).c3; have d4 := (E11).c4; have d5 := (E11).c5; have d6 := (E11).c6
         have c0 := (N11).c0; have c1 := (N11).c1; have c2 := (N11).c2; have c3 := (N11).c3; have c4 := (N11).c4; have c5 := (N11).c5; have c6 := (N11).c6
         have g0 := (N11).frz 0; have g1 := (N11).frz 1; have g2 := (N11).frz 2; have g3 := (N11).frz 3; have g4 := (N11).frz 4; have g5 := (N11).frz 5; have g6 := (N11).frz 6
         clear x11 hq L11 C11 O11 B11 N11 E11 q1 q2
         go_wp2
         go_roundw
         case rel => exact H2.out
         case measure => simp [intOf]; omega
       ·obtain rfl : k = 0 := by omega
        have hfin := HOD.out
        rw [ordA] at hfin
        injection hfin with hfin
        injection hfin with hf1 hf2
        subst hf2
        have HIO := Lib.hid (SeqI.isOrder_yes Ao n2 co wr.heap.size (shufTo n2 L2 L2.length) wr (OwnI.rd HOO.out) (Nat.le_refl _) HSHL.out hn20 (by omega)
         (by rw [shuf_eq]; exact ChM.shufQ_nodup HOK.out.2 HOK.out.1 _ (Nat.le_refl _)) (fun z hz => by rw [shuf_eq] at hz; exact ChM.shufQ_mem HOK.out.2 HOK.out.1 _ (Nat.le_refl _) hz))
        have HNB := HN.out
        have HLX := HLB.out
        try clear c0 c1 c2 c3 c4 c5 c6
        have c0 := (HNB).c0; have c1 := (HNB).c1; have c2 := (HNB).c2; have c3 := (HNB).c3; have c4 := (HNB).c4; have c5 := (HNB).c5; have c6 := (HNB).c6
        have d0 := (HLX).c0; have d1 := (HLX).c1; have d2 := (HLX).c2; have d3 := (HLX).c3; have d4 := (HLX).c4; have d5 := (HLX).c5; have d6 := (HLX).c6
        have HBX := Lib.hid HB.out
        clear hf1 HOD HSV HN HLB HCC HOO HB HNB HLX
        go_wp2_with fail
        refine HIO.out.mono ?_
        rintro e wz ⟨rfl, bz⟩
        have HBZ := Lib.hid (Base.Below.nextA HBX.out bz)
        clear bz
        go_wp2
        go_ret
        exact ⟨rfl, HBZ.out⟩
theorem drawn_v {w : World} {v u : Value} (h : Open.IsBytes w v) (h' : Open.IsBytes w u) : Calls Tryz.prog 3 #[v, u] w fun e w' => e = .returned (.bool true) ∧ Below w.heap.size w w' := by
 obtain ⟨A, c, zs, rfl, hl, hz, hx⟩ := h.ex
 obtain ⟨A', c', ys, rfl, hl', hz', hx'⟩ := h'.ex
 exact drawn_any A A' c c' zs ys w hx hx' hl hl' hz hz'
end Go.Proofs.YthagenodiofgnaaGreatDoor.Drn
