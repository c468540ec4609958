/- A number drawn from a stream, of the program and of the reference. -/
import Derived.Test.YthagenodiofgnaaGreatDoorMgFnD15
import Derived.Test.YthagenodiofgnaaGreatDoorMgFnD14
namespace Go.Proofs.YthagenodiofgnaaGreatDoor.Face
open Go.RowKit Go.Proofs.YthagenodiofgnaaGreatDoor Go.Proofs.YthagenodiofgnaaGreatDoor.Base Go.Proofs.YthagenodiofgnaaGreatDoor.Mem Go.Proofs.YthagenodiofgnaaGreatDoor.Reg Go.Proofs.YthagenodiofgnaaGreatDoor.Str Go.Proofs.YthagenodiofgnaaGreatDoor.Take Go.Proofs.YthagenodiofgnaaGreatDoor.Skip Go.Proofs.YthagenodiofgnaaGreatDoor.Dice
set_option linter.unusedVariables false
theorem streamB_takeX {K W T m f a s c : Int} (h : streamB K W T m f a s = true) : streamB K W T m f a (takeX K W T m f a s c) = true := by
 unfold streamB at *
 by_cases h0 : K = 0
 ·subst h0
  rw [if_pos rfl, Bool.and_eq_true] at *
  refine ⟨h.1, ?_⟩
  obtain ⟨h1, h2, h3, h4, h5, h6⟩ := Reg.bothR_true h.2
  have ep : ((2 ^ W.toNat : Nat) : Int) = (2 : Int) ^ W.toNat := by simp
  have hlt := CycM.iter_lt (T := nextR W.toNat T.toNat) (M := 2 ^ W.toNat) (fun y hy => nextR_lt hy) (x := s.toNat) (by omega) c.toNat
  have hb := h.2
  unfold Reg.bothR at hb ⊢
  rw [Bool.and_eq_true] at hb ⊢
  refine ⟨hb.1, ?_⟩
  unfold stB
  refine inR_yes ?_
  simp only [takeX, if_pos]
  omega
 ·rw [if_neg h0] at *
  by_cases h1 : K = 1
  ·subst h1
   rw [if_pos rfl, Bool.and_eq_true] at *
   refine ⟨h.1, ?_⟩
   obtain ⟨h1, h2, h3, h4, h5, h6, h7, h8⟩ := Cong.bothB_true h.2
   have hlt := CycM.iter_lt (T := Cong.stepN m.toNat f.toNat a.toNat) (M := m.toNat) (fun y hy => Cong.stepN_lt (by omega) y) (x := s.toNat) (by omega) c.toNat
   have hb := h.2
   unfold Cong.bothB at hb ⊢
   rw [Bool.and_eq_true] at hb ⊢
   refine ⟨hb.1, inR_yes ?_⟩
   simp only [takeX, h0, if_false]
   omega
  ·rw [if_neg h1] at h; cases h
theorem outS_bits (nx bt : Nat → Nat) (hbt : ∀ y, bt y < 2) (x : Nat) : ∀ n, ∀ b ∈ outS nx bt x n, b.toNat = 48 ∨ b.toNat = 49
 | 0, b, h => by simp [outS] at h
 | n + 1, b, h => by
  rw [outS, List.mem_append] at h
  rcases h with h | h
  ·exact outS_bits nx bt hbt x n b h
  ·simp only [List.mem_singleton] at h
   subst h
   have := hbt (CycM.iter nx x n)
   rcases Nat.lt_or_ge (bt (CycM.iter nx x n)) 1 with h1 | h1
   ·rw [show bt (CycM.iter nx x n) = 0 by omega]; left; rfl
   ·rw [show bt (CycM.iter nx x n) = 1 by omega]; right; rfl
theorem takeL_bits (K W T m f a s c : Int) : BitsS ⟨(takeL K W T m f a s c).toArray⟩ := by
 have h : ∀ b ∈ takeL K W T m f a s c, b.toNat = 48 ∨ b.toNat = 49 := by
  unfold takeL
  split
  ·exact outS_bits _ _ (fun y => Nat.mod_lt _ (by decide)) _ _
  ·exact outS_bits _ _ (fun y => cbit_lt _ _ _ _) _ _
 intro u hu
 refine h _ ?_
 have hu' : u < (takeL K W T m f a s c).length := by simpa [ByteArray.size] using hu
 have e : (⟨(takeL K W T m f a s c).toArray⟩ : ByteArray)[u] = (takeL K W T m f a s c)[u] := rfl
 rw [e]
 exact List.getElem_mem hu'
theorem takeL_size (K W T m f a s c : Int) : (⟨(takeL K W T m f a s c).toArray⟩ : ByteArray).size = c.toNat := by
 show (takeL K W T m f a s c).toArray.size = _
 unfold takeL
 split <;> simp [outS_len]
def faceR (K W T m f a s : Int) (n : Nat) (hn : 0 < n) : Option (Nat × Nat) := diceR n hn ⟨(takeL K W T m f a s 400).toArray⟩ 1 0 0
def FaceRet (K W T m f a s : Int) (R : Option (Nat × Nat)) (w : World) (e : Ending) (w' : World) : Prop :=
 (∀ c u : Nat, R = some (c, u) → e = .returned (.tuple #[.int .i64 (c : Int), .agg #[.int .i64 K, .int .i64 W, .int .i64 T, .int .i64 m, .int .i64 f, .int .i64 a, .int .i64 (takeX K W T m f a s (u : Int))], .bool true])) ∧ (R = none → e = .returned (.tuple #[.int .i64 0, .agg #[.int .i64 0, .int .i64 0, .int .i64 0, .int .i64 0, .int .i64 0, .int .i64 0, .int .i64 0], .bool false])) ∧ Below w.heap.size w w'
theorem FaceRet.yes {K W T m f a s : Int} {R : Option (Nat × Nat)} {w w' : World} {e : Ending} {c u : Nat} (h : R = some (c, u)) (he : e = .returned (.tuple #[.int .i64 (c : Int), .agg #[.int .i64 K, .int .i64 W, .int .i64 T, .int .i64 m, .int .i64 f, .int .i64 a, .int .i64 (takeX K W T m f a s (u : Int))], .bool true])) (hd : Below w.heap.size w w') : FaceRet K W T m f a s R w e w' :=
 ⟨fun c' u' h2 => (by rw [h] at h2; injection h2 with h2; injection h2 with h3 h4; subst h3 h4; exact he), fun h2 => (by rw [h] at h2; cases h2), hd⟩
theorem FaceRet.no {K W T m f a s : Int} {R : Option (Nat × Nat)} {w w' : World} {e : Ending} (h : R = none) (he : e = .returned (.tuple #[.int .i64 0, .agg #[.int .i64 0, .int .i64 0, .int .i64 0, .int .i64 0, .int .i64 0, .int .i64 0, .int .i64 0], .bool false])) (hd : Below w.heap.size w w') : FaceRet K W T m f a s R w e w' :=
 ⟨fun c' u' h2 => (by rw [h] at h2; cases h2), fun _ => he, hd⟩
theorem faceR_bd {K W T m f a s : Int} {n : Nat} {hn : 0 < n} (hn2 : n ≤ 1000000) {c u : Nat} (h : faceR K W T m f a s n hn = some (c, u)) : c < n ∧ u ≤ 400 := by
 have := diceR_bd hn2 _ 1 0 0 (Nat.le_refl _) (Nat.zero_le _) h
 rw [takeL_size] at this
 exact this
set_option maxHeartbeats 1000000 in
set_option maxRecDepth 100000 in
theorem l11Face_any {K W T m f a s : Int} (hB : streamB K W T m f a s = true) (n : Nat) (hn : 0 < n) (hn2 : n ≤ 1000000) (w : World) :
  Calls Tryz.prog 23 #[.agg #[.int .i64 K, .int .i64 W, .int .i64 T, .int .i64 m, .int .i64 f, .int .i64 a, .int .i64 s], .int .i64 (n : Int)] w (FaceRet K W T m f a s (faceR K W T m f a s n hn) w) := by
 obtain ⟨W1, hW1, S, R, B⟩ := two w K W T m f a s
 have HT := Lib.hid (specTake_yes hB (c := 400) (inR_yes (by omega)) W1)
 have HDc := Lib.hid (fun w => specDice_yes n hn hn2 ⟨(takeL K W T m f a s 400).toArray⟩ (by rw [takeL_size]; decide) (takeL_bits _ _ _ _ _ _ _ _) w)
 have HSk := Lib.hid (fun (u : Nat) (hu : u ≤ 400) w => specSkip_yes hB (c := (u : Int)) (by omega) w)
 have hbd : ∀ c u, faceR K W T m f a s n hn = some (c, u) → c < n ∧ u ≤ 400 := fun c u h => faceR_bd hn2 h
 unfold faceR at hbd
 unfold faceR
 unfold TakeR at HT
 generalize takeX K W T m f a s 400 = x4 at *
 generalize (⟨(takeL K W T m f a s 400).toArray⟩ : ByteArray) = bs at *
 have HW := Lib.hid hW1
 have HS := Lib.hid S
 have HR := Lib.hid R
 have HB1 := Lib.hid B
 have hB0 := Lib.hid hB
 clear hW1 S R B hB
 cases hR : diceR n hn bs 1 0 0 with
 | none =>
  rw [hR] at HDc
  have HDn := Lib.hid (fun w => (HDc.out w).mono fun e w' h => (show e = .returned (.tuple #[.int .i64 0, .int .i64 0, .bool false]) ∧ Drawn w w' from ⟨h.2.1 rfl, h.2.2⟩))
  clear HDc hR hbd
  go_enter Tryz.func23, Tryz.ntmps23
  go_wp2_with fail
  rw [← HW.out]
  refine HT.out.mono ?_
  rintro e w1 ⟨rfl, b1⟩
  have HBb := Lib.hid b1
  clear b1
  go_wp2_with fail
  refine (HDn.out _).mono ?_
  rintro e w2 ⟨rfl, dd⟩
  have b2 : Below W1.heap.size W1 w2 := Base.Below.nextA HBb.out (((Below.refl _ _).alloc (Nat.le_refl _) _).trans ((dd.below (B := (w1.alloc (.cells #[.int .i64 K, .int .i64 W, .int .i64 T, .int .i64 m, .int .i64 f, .int .i64 a, .int .i64 x4] 29)).heap.size)).mono (by simp)))
  have r0 := HR.out.below b2 HR.out.lt
  have d0 := (r0).c0; have d1 := (r0).c1; have d2 := (r0).c2; have d3 := (r0).c3; have d4 := (r0).c4; have d5 := (r0).c5; have d6 := (r0).c6
  have g0 := (r0).frz 0; have g1 := (r0).frz 1; have g2 := (r0).frz 2; have g3 := (r0).frz 3; have g4 := (r0).frz 4; have g5 := (r0).frz 5; have g6 := (r0).frz 6
  have S8 := r0.set7 0 0 0 0 0 0 0
  have p0 := (S8).c0; have p1 := (S8).c1; have p2 := (S8).c2; have p3 := (S8).c3; have p4 := (S8).c4; have p5 := (S8).c5; have p6 := (S8).c6
  simp only [set7] at p0 p1 p2 p3 p4 p5 p6
  have HB2 := Lib.hid (below_set7 (b := w.heap.size + 1) (HB1.out.trans (b2.mono HB1.out.size)) (Nat.le_succ _) (Nat.le_trans HB1.out.size b2.size) 0 0 0 0 0 0 0)
  clear S8 r0 b2 dd
  go_wp2
  exact bodyPost_ret (v := .tuple #[.int .i64 0, .agg #[.int .i64 0, .int .i64 0, .int .i64 0, .int .i64 0, .int .i64 0, .int .i64 0, .int .i64 0], .bool false]) (by simp [results, Tryz.results23, go_sem, p0, p1, p2, p3, p4, p5, p6]) rfl (FaceRet.no rfl rfl HB2.out)
 | some p =>
  obtain ⟨c, u⟩ := p
  obtain ⟨hc, hu⟩ := hbd c u hR
  rw [hR] at HDc
  have HDn := Lib.hid (fun w => (HDc.out w).mono fun e w' h => (show e = .returned (.tuple #[.int .i64 (c : Int), .int .i64 (u : Int), .bool true]) ∧ Drawn w w' from ⟨h.1 c u rfl, h.2.2⟩))
  have HSu := Lib.hid (fun w => HSk.out u hu w)
  unfold SkipR at HSu
  obtain ⟨x, hx⟩ : ∃ x, takeX K W T m f a s (u : Int) = x := ⟨_, rfl⟩
  rw [hx] at HSu
  have HXX := Lib.hid hx
  clear HDc hR hbd HSk hx
  go_enter Tryz.func23, Tryz.ntmps23
  go_wp2_with fail
  rw [← HW.out]
  refine HT.out.mono ?_
  rintro e w1 ⟨rfl, b1⟩
  have HBb := Lib.hid b1
  clear b1
  go_wp2_with fail
  refine (HDn.out _).mono ?_
  rintro e w2 ⟨rfl, dd⟩
  have b2 : Below W1.heap.size W1 w2 := Base.Below.nextA HBb.out (((Below.refl _ _).alloc (Nat.le_refl _) _).trans ((dd.below (B := (w1.alloc (.cells #[.int .i64 K, .int .i64 W, .int .i64 T, .int .i64 m, .int .i64 f, .int .i64 a, .int .i64 x4] 29)).heap.size)).mono (by simp)))
  have t0 := HS.out.below b2 HS.out.lt
  have c0 := (t0).c0; have c1 := (t0).c1; have c2 := (t0).c2; have c3 := (t0).c3; have c4 := (t0).c4; have c5 := (t0).c5; have c6 := (t0).c6
  have HBw := Lib.hid b2
  clear dd b2 t0
  go_wp2_with fail
  refine (HSu.out _).mono ?_
  rintro e w3 ⟨rfl, b3⟩
  have b4 := Base.Below.nextA HBw.out b3
  have r0 := HR.out.below b4 HR.out.lt
  have d0 := (r0).c0; have d1 := (r0).c1; have d2 := (r0).c2; have d3 := (r0).c3; have d4 := (r0).c4; have d5 := (r0).c5; have d6 := (r0).c6
  have g0 := (r0).frz 0; have g1 := (r0).frz 1; have g2 := (r0).frz 2; have g3 := (r0).frz 3; have g4 := (r0).frz 4; have g5 := (r0).frz 5; have g6 := (r0).frz 6
  have S8 := r0.set7 K W T m f a x
  have p0 := (S8).c0; have p1 := (S8).c1; have p2 := (S8).c2; have p3 := (S8).c3; have p4 := (S8).c4; have p5 := (S8).c5; have p6 := (S8).c6
  simp only [set7] at p0 p1 p2 p3 p4 p5 p6
  have HB2 := Lib.hid (below_set7 (b := w.heap.size + 1) (HB1.out.trans (b4.mono HB1.out.size)) (Nat.le_succ _) (Nat.le_trans HB1.out.size b4.size) K W T m f a x)
  clear S8 r0 b3 b4 c0 c1 c2 c3 c4 c5 c6
  go_wp2
  exact bodyPost_ret (v := .tuple #[.int .i64 (c : Int), .agg #[.int .i64 K, .int .i64 W, .int .i64 T, .int .i64 m, .int .i64 f, .int .i64 a, .int .i64 x], .bool true]) (by simp [results, Tryz.results23, go_sem, p0, p1, p2, p3, p4, p5, p6]) rfl (FaceRet.yes rfl (by rw [HXX.out]) HB2.out)
set_option maxHeartbeats 1000000 in
set_option maxRecDepth 100000 in
theorem roll_any {K W T m f a s : Int} (hB : streamB K W T m f a s = true) (n : Nat) (hn : 0 < n) (hn2 : n ≤ 1000000) (w : World) :
  Calls Tryz.prog 20 #[.agg #[.int .i64 K, .int .i64 W, .int .i64 T, .int .i64 m, .int .i64 f, .int .i64 a, .int .i64 s], .int .i64 (n : Int)] w (FaceRet K W T m f a s (faceR K W T m f a s n hn) w) := by
 obtain ⟨W1, hW1, S, R, B⟩ := two w K W T m f a s
 have HT := Lib.hid (implTake_yes hB (c := 400) (inR_yes (by omega)) W1)
 have HDc := Lib.hid (fun w => rollDice_any n hn hn2 ⟨(takeL K W T m f a s 400).toArray⟩ (by rw [takeL_size]; decide) (takeL_bits _ _ _ _ _ _ _ _) w)
 have HSk := Lib.hid (fun (u : Nat) (hu : u ≤ 400) w => implTake_yes hB (c := (u : Int)) (inR_yes (by omega)) w)
 have hbd : ∀ c u, faceR K W T m f a s n hn = some (c, u) → c < n ∧ u ≤ 400 := fun c u h => faceR_bd hn2 h
 unfold faceR at hbd
 unfold faceR
 unfold TakeR at HT
 generalize takeX K W T m f a s 400 = x4 at *
 generalize (⟨(takeL K W T m f a s 400).toArray⟩ : ByteArray) = bs at *
 have HW := Lib.hid hW1
 have HS := Lib.hid S
 have HR := Lib.hid R
 have HB1 := Lib.hid B
 have hB0 := Lib.hid hB
 clear hW1 S R B hB
 cases hR : diceR n hn bs 1 0 0 with
 | none =>
  rw [hR] at HDc
  have HDn := Lib.hid (fun w => (HDc.out w).mono fun e w' h => (show e = .returned (.tuple #[.int .i64 0, .int .i64 0, .bool false]) ∧ Drawn w w' from ⟨h.2.1 rfl, h.2.2⟩))
  clear HDc hR hbd
  go_enter Tryz.func20, Tryz.ntmps20
  go_wp2_with fail
  rw [← HW.out]
  refine HT.out.mono ?_
  rintro e w1 ⟨rfl, b1⟩
  have HBb := Lib.hid b1
  clear b1
  go_wp2_with fail
  refine (HDn.out _).mono ?_
  rintro e w2 ⟨rfl, dd⟩
  have b2 : Below W1.heap.size W1 w2 := Base.Below.nextA HBb.out (((Below.refl _ _).alloc (Nat.le_refl _) _).trans ((dd.below (B := (w1.alloc (.cells #[.int .i64 K, .int .i64 W, .int .i64 T, .int .i64 m, .int .i64 f, .int .i64 a, .int .i64 x4] 29)).heap.size)).mono (by simp)))
  have r0 := HR.out.below b2 HR.out.lt
  have d0 := (r0).c0; have d1 := (r0).c1; have d2 := (r0).c2; have d3 := (r0).c3; have d4 := (r0).c4; have d5 := (r0).c5; have d6 := (r0).c6
  have g0 := (r0).frz 0; have g1 := (r0).frz 1; have g2 := (r0).frz 2; have g3 := (r0).frz 3; have g4 := (r0).frz 4; have g5 := (r0).frz 5; have g6 := (r0).frz 6
  have S8 := r0.set7 0 0 0 0 0 0 0
  have p0 := (S8).c0; have p1 := (S8).c1; have p2 := (S8).c2; have p3 := (S8).c3; have p4 := (S8).c4; have p5 := (S8).c5; have p6 := (S8).c6
  simp only [set7] at p0 p1 p2 p3 p4 p5 p6
  have HB2 := Lib.hid (below_set7 (b := w.heap.size + 1) (HB1.out.trans (b2.mono HB1.out.size)) (Nat.le_succ _) (Nat.le_trans HB1.out.size b2.size) 0 0 0 0 0 0 0)
  clear S8 r0 b2 dd
  go_wp2
  exact bodyPost_ret (v := .tuple #[.int .i64 0, .agg #[.int .i64 0, .int .i64 0, .int .i64 0, .int .i64 0, .int .i64 0, .int .i64 0, .int .i64 0], .bool false]) (by simp [results, Tryz.results20, go_sem, p0, p1, p2, p3, p4, p5, p6]) rfl (FaceRet.no rfl rfl HB2.out)
 | some p =>
  obtain ⟨c, u⟩ := p
  obtain ⟨hc, hu⟩ := hbd c u hR
  rw [hR] at HDc
  have HDn := Lib.hid (fun w => (HDc.out w).mono fun e w' h => (show e = .returned (.tuple #[.int .i64 (c : Int), .int .i64 (u : Int), .bool true]) ∧ Drawn w w' from ⟨h.1 c u rfl, h.2.2⟩))
  have HSu := Lib.hid (fun w => HSk.out u hu w)
  unfold TakeR at HSu
  generalize (⟨(takeL K W T m f a s (u : Int)).toArray⟩ : ByteArray) = bu at HSu
  obtain ⟨x, hx⟩ : ∃ x, takeX K W T m f a s (u : Int) = x := ⟨_, rfl⟩
  rw [hx] at HSu
  have HXX := Lib.hid hx
  clear HDc hR hbd HSk hx
  go_enter Tryz.func20, Tryz.ntmps20
  go_wp2_with fail
  rw [← HW.out]
  refine HT.out.mono ?_
  rintro e w1 ⟨rfl, b1⟩
  have HBb := Lib.hid b1
  clear b1
  go_wp2_with fail
  refine (HDn.out _).mono ?_
  rintro e w2 ⟨rfl, dd⟩
  have b2 : Below W1.heap.size W1 w2 := Base.Below.nextA HBb.out (((Below.refl _ _).alloc (Nat.le_refl _) _).trans ((dd.below (B := (w1.alloc (.cells #[.int .i64 K, .int .i64 W, .int .i64 T, .int .i64 m, .int .i64 f, .int .i64 a, .int .i64 x4] 29)).heap.size)).mono (by simp)))
  have t0 := HS.out.below b2 HS.out.lt
  have c0 := (t0).c0; have c1 := (t0).c1; have c2 := (t0).c2; have c3 := (t0).c3; have c4 := (t0).c4; have c5 := (t0).c5; have c6 := (t0).c6
  have HBw := Lib.hid b2
  clear dd b2 t0
  go_wp2_with fail
  refine (HSu.out _).mono ?_
  rintro e w3 ⟨rfl, b3⟩
  have b4 := Base.Below.nextA HBw.out b3
  have r0 := HR.out.below b4 HR.out.lt
  obtain ⟨w4, hw4⟩ : ∃ w4, w4 = w3.alloc (.cells #[.int .i64 K, .int .i64 W, .int .i64 T, .int .i64 m, .int .i64 f, .int .i64 a, .int .i64 x] 29) := ⟨_, rfl⟩
  have b5 : Below w3.heap.size w3 w4 := by rw [hw4]; exact (Below.refl _ _).alloc (Nat.le_refl _) _
  have u0 : SBox w4 w3.heap.size K W T m f a x := by rw [hw4]; exact SBox.new _ _ _ _ _ _ _ _
  have u1 := r0.below b5 r0.lt
  have HW4 := Lib.hid hw4
  have HB4 := Lib.hid (HB1.out.trans ((Base.Below.nextA b4 b5).mono HB1.out.size))
  have hlt := r0.lt
  have x0 := (u0).c0; have x1 := (u0).c1; have x2 := (u0).c2; have x3 := (u0).c3; have x4 := (u0).c4; have x5 := (u0).c5; have x6 := (u0).c6
  have h0 := (u1).c0; have h1 := (u1).c1; have h2 := (u1).c2; have h3 := (u1).c3; have h4 := (u1).c4; have h5 := (u1).c5; have h6 := (u1).c6
  have g0 := (u1).frz 0; have g1 := (u1).frz 1; have g2 := (u1).frz 2; have g3 := (u1).frz 3; have g4 := (u1).frz 4; have g5 := (u1).frz 5; have g6 := (u1).frz 6
  have S8 := u1.set7 K W T m f a x
  have p0 := (S8).c0; have p1 := (S8).c1; have p2 := (S8).c2; have p3 := (S8).c3; have p4 := (S8).c4; have p5 := (S8).c5; have p6 := (S8).c6
  simp only [set7] at p0 p1 p2 p3 p4 p5 p6
  have B7 := Lib.hid (HB4.out.trans (grown_below (grown_set7 w4 (w.heap.size + 1) K W T m f a x) (fun g e => by cases e; exact Nat.le_succ _) HB4.out.size))
  have mixed : Tryz.prog.follows .mixedOrders = true := by kernel_rfl
  clear r0 hw4 u0 u1 S8 b3 b4 b5 c0 c1 c2 c3 c4 c5 c6
  go_wp2_with fail
  rw [← HW4.out]
  go_region_o
  all_goals
   go_wp2
   exact bodyPost_ret (v := .tuple #[.int .i64 (c : Int), .agg #[.int .i64 K, .int .i64 W, .int .i64 T, .int .i64 m, .int .i64 f, .int .i64 a, .int .i64 x], .bool true]) (by simp [results, Tryz.results20, go_sem, p0, p1, p2, p3, p4, p5, p6]) rfl (FaceRet.yes rfl (by rw [HXX.out]) (Below.drew B7.out))
end Go.Proofs.YthagenodiofgnaaGreatDoor.Face
