/- The stream after many steps: l11Skip, skip, SkipStream; the law. -/
import Derived.Test.YthagenodiofgnaaGreatDoorMgFnD03
import Derived.Test.YthagenodiofgnaaGreatDoorMgFnD12
import Derived.Test.YthagenodiofgnaaGreatDoorMgFnD09
import Derived.Test.YthagenodiofgnaaGreatDoorMgFnD04
import Derived.Test.YthagenodiofgnaaGreatDoorMgFnD01
namespace Go.Proofs.YthagenodiofgnaaGreatDoor.Skip
open Go.RowKit Go.Proofs.YthagenodiofgnaaGreatDoor Go.Proofs.YthagenodiofgnaaGreatDoor.Base Go.Proofs.YthagenodiofgnaaGreatDoor.Mem Go.Proofs.YthagenodiofgnaaGreatDoor.Reg Go.Proofs.YthagenodiofgnaaGreatDoor.Str Go.Proofs.YthagenodiofgnaaGreatDoor.Take Go.Proofs.YthagenodiofgnaaGreatDoor.Blk Go.Proofs.YthagenodiofgnaaGreatDoor.Pow
set_option linter.unusedVariables false
theorem natsN {K W T m f a s c : Int} (hB : streamB K W T m f a s = true) (hc : 0 ≤ c ∧ c ≤ 1000000000000000000) : ∃ X N : Nat, s = X ∧ c = N ∧ N ≤ 1000000000000000000 ∧
  ((K = 0 ∧ ∃ V A : Nat, W = V ∧ T = A ∧ V ≤ 16 ∧ A < 2 ^ V ∧ X < 2 ^ V) ∨ (K = 1 ∧ ∃ M F A : Nat, m = M ∧ f = F ∧ a = A ∧ 2 ≤ M ∧ M ≤ 100000 ∧ F < M ∧ A < M ∧ X < M)) := by
 rcases streamB_true hB with ⟨rfl, hR⟩ | ⟨rfl, hC⟩
 ·obtain ⟨h1, h2, h3, h4, h5, h6⟩ := Reg.bothR_true hR
  have ep : ((2 ^ W.toNat : Nat) : Int) = (2 : Int) ^ W.toNat := by simp
  exact ⟨s.toNat, c.toNat, by omega, by omega, by omega, .inl ⟨rfl, W.toNat, T.toNat, by omega, by omega, by omega, by omega, by omega⟩⟩
 ·obtain ⟨h1, h2, h3, h4, h5, h6, h7', h8⟩ := Cong.bothB_true hC
  exact ⟨s.toNat, c.toNat, by omega, by omega, by omega, .inr ⟨rfl, m.toNat, f.toNat, a.toNat, by omega, by omega, by omega, by omega, by omega, by omega, by omega, by omega⟩⟩
def SkipR (K W T m f a s c : Int) (w : World) (e : Ending) (w' : World) : Prop := e = .returned (.agg #[.int .i64 K, .int .i64 W, .int .i64 T, .int .i64 m, .int .i64 f, .int .i64 a, .int .i64 (takeX K W T m f a s c)]) ∧ Below w.heap.size w w'
theorem specJump_q (W T x n : Nat) (w : World) (hW : W ≤ 16) (hT : T < 2 ^ W) (hx : x < 2 ^ W) (hn : n ≤ 1000000000000000000) {y : Int} (hy : ((CycM.iter (nextR W T) x n : Nat) : Int) = y) :
  Calls Tryz.prog 75 #[.agg #[.int .i64 W, .int .i64 T], .int .i64 x, .int .i64 n] w fun e w' => e = .returned (.tuple #[.int .i64 y, .bool true]) ∧ Below w.heap.size w w' := by
 subst hy; exact Jump.specJump_yes W T x n w hW hT hx hn
def SkR (K W T m f a y : Int) (w : World) (e : Ending) (w' : World) : Prop := e = .returned (.agg #[.int .i64 K, .int .i64 W, .int .i64 T, .int .i64 m, .int .i64 f, .int .i64 a, .int .i64 y]) ∧ Below w.heap.size w w'
theorem two (w : World) (K W T m f a s : Int) : ∃ W1, W1 = (w.alloc (.cells #[.int .i64 K, .int .i64 W, .int .i64 T, .int .i64 m, .int .i64 f, .int .i64 a, .int .i64 s] 29)).alloc (.cells #[.int .i64 0, .int .i64 0, .int .i64 0, .int .i64 0, .int .i64 0, .int .i64 0, .int .i64 0] 29) ∧ SBox W1 w.heap.size K W T m f a s ∧ SBox W1 (w.heap.size + 1) 0 0 0 0 0 0 0 ∧ Below w.heap.size w W1 := by
 refine ⟨_, rfl, ?_, ?_, ((Below.refl _ _).alloc (Nat.le_refl _) _).alloc (by simp) _⟩
 ·exact (SBox.new w K W T m f a s).below ((Below.refl (w.heap.size + 1) _).alloc (by simp) (.cells #[.int .i64 0, .int .i64 0, .int .i64 0, .int .i64 0, .int .i64 0, .int .i64 0, .int .i64 0] 29)) (Nat.lt_succ_self _)
 ·have := SBox.new (w.alloc (.cells #[.int .i64 K, .int .i64 W, .int .i64 T, .int .i64 m, .int .i64 f, .int .i64 a, .int .i64 s] 29)) 0 0 0 0 0 0 0
  rw [World.size_alloc] at this
  exact this
theorem below_set7 {B b : Nat} {w0 w : World} (h : Below B w0 w) (hB : B ≤ b) (hs : B ≤ w.heap.size) (K W T m f a s : Int) : Below B w0 (set7 w b K W T m f a s) :=
 h.trans (grown_below (grown_set7 w b K W T m f a s) (fun g e => by cases e; exact hB) hs)
theorem SBox.other {w : World} {b : Nat} {K W T m f a s : Int} (h : SBox w b K W T m f a s) {p : Addr} (v : Value) (hne : p.block ≠ b) : SBox (w.setCell p v) b K W T m f a s := h.kept (Src.grown_setCell w p v) fun e => hne (Option.some.inj e)
set_option maxHeartbeats 1000000 in
set_option maxRecDepth 100000 in
theorem l11Skip_reg (W T x n m f a y : Int) (w : World) (HJ : Hid (∀ w, Calls Tryz.prog 75 #[.agg #[.int .i64 W, .int .i64 T], .int .i64 x, .int .i64 n] w fun e w' => e = .returned (.tuple #[.int .i64 y, .bool true]) ∧ Below w.heap.size w w')) :
  Calls Tryz.prog 50 #[.agg #[.int .i64 0, .int .i64 W, .int .i64 T, .int .i64 m, .int .i64 f, .int .i64 a, .int .i64 x], .int .i64 n] w (SkR 0 W T m f a y w) := by
 obtain ⟨W1, hW1, S, R, B⟩ := two w 0 W T m f a x
 have HW := Lib.hid hW1
 have HS := Lib.hid S
 have HR := Lib.hid R
 have HB := Lib.hid B
 clear hW1 S R B
 go_enter Tryz.func50, Tryz.ntmps50
 go_wp2_with fail
 rw [← HW.out]
 refine (HJ.out _).mono ?_
 rintro e w1 ⟨rfl, hb1⟩
 have t0 := HS.out.below hb1 HS.out.lt
 have r0 := HR.out.below hb1 HR.out.lt
 have c0 := (t0).c0; have c1 := (t0).c1; have c2 := (t0).c2; have c3 := (t0).c3; have c4 := (t0).c4; have c5 := (t0).c5; have c6 := (t0).c6
 have d0 := (r0).c0; have d1 := (r0).c1; have d2 := (r0).c2; have d3 := (r0).c3; have d4 := (r0).c4; have d5 := (r0).c5; have d6 := (r0).c6
 have g0 := (r0).frz 0; have g1 := (r0).frz 1; have g2 := (r0).frz 2; have g3 := (r0).frz 3; have g4 := (r0).frz 4; have g5 := (r0).frz 5; have g6 := (r0).frz 6
 have f6 := t0.frz 6
 have B1 := HB.out.trans (hb1.mono HB.out.size)
 have t1 := t0.set6 y
 have r1 := SBox.other r0 (p := ⟨w.heap.size, 6, none⟩) (.int .i64 y) (by simp)
 have S8 := r1.set7 0 W T m f a y
 have p0 := (S8).c0; have p1 := (S8).c1; have p2 := (S8).c2; have p3 := (S8).c3; have p4 := (S8).c4; have p5 := (S8).c5; have p6 := (S8).c6
 simp only [set7] at p0 p1 p2 p3 p4 p5 p6
 have hz1 := r0.lt
 have HB2 := Lib.hid (below_set7 (b := w.heap.size + 1) (B1.setCell (p := ⟨w.heap.size, 6, none⟩) (Nat.le_refl _) (.int .i64 y)) (Nat.le_succ _) (by simp; omega) 0 W T m f a y)
 clear S8 r1 t1 t0 r0 B1 hb1
 go_wp2
 exact bodyPost_ret (v := .agg #[.int .i64 0, .int .i64 W, .int .i64 T, .int .i64 m, .int .i64 f, .int .i64 a, .int .i64 y]) (by simp [results, Tryz.results50, go_sem, p0, p1, p2, p3, p4, p5, p6]) rfl ⟨rfl, HB2.out⟩
set_option maxHeartbeats 1000000 in
set_option maxRecDepth 100000 in
theorem l11Skip_con (m f a x n : Nat) (W T : Int) {y : Int} (w : World) (hm : 2 ≤ m) (hm2 : m ≤ 100000) (hf : f < m) (ha : a < m) (hx : x < m) (hn : n ≤ 1000000000000000000) (hy : ((CycM.iter (Cong.stepN m f a) x n : Nat) : Int) = y) :
  Calls Tryz.prog 50 #[.agg #[.int .i64 1, .int .i64 W, .int .i64 T, .int .i64 m, .int .i64 f, .int .i64 a, .int .i64 x], .int .i64 n] w (SkR 1 W T m f a y w) := by
 obtain ⟨W1, hW1, S, R, B⟩ := two w 1 W T m f a x
 have hp := powOf (f := f) (a := a) hm n
 have hy2 : ((Cong.stepN m (powF m f a n) (powA m f a n) x : Nat) : Int) = y := by rw [hp.2.2 x hx]; exact hy
 have HC := Lib.hid (l03Power_any w.heap.size 3 m f a n W1 S.c3 S.c4 S.c5 S.lt hm hm2 hf ha hn)
 have HW := Lib.hid hW1
 have HS := Lib.hid S
 have HR := Lib.hid R
 have HB := Lib.hid B
 obtain ⟨q1, q2, _⟩ := hp
 have HY := Lib.hid hy2
 unfold PowRet at HC
 generalize powF m f a n = F at *
 generalize powA m f a n = A at *
 clear hW1 S R B hy hy2
 go_enter Tryz.func50, Tryz.ntmps50
 go_wp2_with fail
 rw [← HW.out]
 refine HC.out.mono ?_
 rintro e w1 ⟨rfl, hb1⟩
 have t0 := HS.out.below hb1 HS.out.lt
 have r0 := HR.out.below hb1 HR.out.lt
 have hz1 := r0.lt
 have hne : (w.heap.size == w1.heap.size) = false := by simp; omega
 have hne' : ¬ w.heap.size = w1.heap.size := by omega
 have n0 : (w1.alloc (.cells #[.int .i64 (m : Int), .int .i64 (F : Int), .int .i64 (A : Int)] 27)).cell? ⟨w1.heap.size, 0, none⟩ = some (.int .i64 (m : Int)) := by simp
 have n1 : (w1.alloc (.cells #[.int .i64 (m : Int), .int .i64 (F : Int), .int .i64 (A : Int)] 27)).cell? ⟨w1.heap.size, 1, none⟩ = some (.int .i64 (F : Int)) := by simp
 have n2 : (w1.alloc (.cells #[.int .i64 (m : Int), .int .i64 (F : Int), .int .i64 (A : Int)] 27)).cell? ⟨w1.heap.size, 2, none⟩ = some (.int .i64 (A : Int)) := by simp
 have HC2 := Lib.hid (Cong.l03Step_any w1.heap.size 0 m F A x _ n0 n1 n2 hm hm2 q1 q2 hx)
 rw [HY.out] at HC2
 have t1 := t0.below ((Below.refl w1.heap.size w1).alloc (Nat.le_refl _) (.cells #[.int .i64 (m : Int), .int .i64 (F : Int), .int .i64 (A : Int)] 27)) t0.lt
 have r1 := r0.below ((Below.refl w1.heap.size w1).alloc (Nat.le_refl _) (.cells #[.int .i64 (m : Int), .int .i64 (F : Int), .int .i64 (A : Int)] 27)) r0.lt
 have B1 := (HB.out.trans (hb1.mono HB.out.size)).alloc (by omega) (.cells #[.int .i64 (m : Int), .int .i64 (F : Int), .int .i64 (A : Int)] 27)
 have z6' := t1.c6
 have T1 := Lib.hid t1
 have R1 := Lib.hid r1
 have HB1 := Lib.hid B1
 clear n0 n1 n2 t0 r0 t1 r1 B1 hb1
 go_wp2_with fail
 refine HC2.out.mono ?_
 rintro e w2 ⟨rfl, k2, hw2⟩
 have t2 : SBox w2 w.heap.size 1 W T m f a x := by rw [hw2]; exact T1.out
 have r2 : SBox w2 (w.heap.size + 1) 0 0 0 0 0 0 0 := by rw [hw2]; exact R1.out
 have B2 : Below w.heap.size w w2 := by rw [hw2]; exact below_drewN HB1.out k2
 have c0 := (t2).c0; have c1 := (t2).c1; have c2 := (t2).c2; have c3 := (t2).c3; have c4 := (t2).c4; have c5 := (t2).c5; have c6 := (t2).c6
 have d0 := (r2).c0; have d1 := (r2).c1; have d2 := (r2).c2; have d3 := (r2).c3; have d4 := (r2).c4; have d5 := (r2).c5; have d6 := (r2).c6
 have g0 := (r2).frz 0; have g1 := (r2).frz 1; have g2 := (r2).frz 2; have g3 := (r2).frz 3; have g4 := (r2).frz 4; have g5 := (r2).frz 5; have g6 := (r2).frz 6
 have f6 := t2.frz 6
 have r3 := SBox.other r2 (p := ⟨w.heap.size, 6, none⟩) (.int .i64 y) (by simp)
 have S8 := r3.set7 1 W T m f a y
 have p0 := (S8).c0; have p1 := (S8).c1; have p2 := (S8).c2; have p3 := (S8).c3; have p4 := (S8).c4; have p5 := (S8).c5; have p6 := (S8).c6
 simp only [set7] at p0 p1 p2 p3 p4 p5 p6
 have hz2 := r2.lt
 have HB2 := Lib.hid (below_set7 (b := w.heap.size + 1) (B2.setCell (p := ⟨w.heap.size, 6, none⟩) (Nat.le_refl _) (.int .i64 y)) (Nat.le_succ _) (by simp; omega) 1 W T m f a y)
 clear S8 r3 r2 t2 B2 hw2
 go_wp2
 exact bodyPost_ret (v := .agg #[.int .i64 1, .int .i64 W, .int .i64 T, .int .i64 m, .int .i64 f, .int .i64 a, .int .i64 y]) (by simp [results, Tryz.results50, go_sem, p0, p1, p2, p3, p4, p5, p6]) rfl ⟨rfl, HB2.out⟩
set_option maxHeartbeats 1000000 in
set_option maxRecDepth 100000 in
theorem implSkip_reg (W T x n m f a y : Int) (w : World) (HJ : Hid (∀ w, Calls Tryz.prog 55 #[.agg #[.int .i64 W, .int .i64 T], .int .i64 x, .int .i64 n] w fun e w' => e = .returned (.int .i64 y) ∧ Below w.heap.size w w')) :
  Calls Tryz.prog 28 #[.agg #[.int .i64 0, .int .i64 W, .int .i64 T, .int .i64 m, .int .i64 f, .int .i64 a, .int .i64 x], .int .i64 n] w (SkR 0 W T m f a y w) := by
 obtain ⟨W1, hW1, S, R, B⟩ := two w 0 W T m f a x
 have HW := Lib.hid hW1
 have HS := Lib.hid S
 have HR := Lib.hid R
 have HB := Lib.hid B
 clear hW1 S R B
 go_enter Tryz.func28, Tryz.ntmps28
 go_wp2_with fail
 rw [← HW.out]
 refine (HJ.out _).mono ?_
 rintro e w1 ⟨rfl, hb1⟩
 have t0 := HS.out.below hb1 HS.out.lt
 have r0 := HR.out.below hb1 HR.out.lt
 have c0 := (t0).c0; have c1 := (t0).c1; have c2 := (t0).c2; have c3 := (t0).c3; have c4 := (t0).c4; have c5 := (t0).c5; have c6 := (t0).c6
 have d0 := (r0).c0; have d1 := (r0).c1; have d2 := (r0).c2; have d3 := (r0).c3; have d4 := (r0).c4; have d5 := (r0).c5; have d6 := (r0).c6
 have g0 := (r0).frz 0; have g1 := (r0).frz 1; have g2 := (r0).frz 2; have g3 := (r0).frz 3; have g4 := (r0).frz 4; have g5 := (r0).frz 5; have g6 := (r0).frz 6
 have f6 := t0.frz 6
 have B1 := HB.out.trans (hb1.mono HB.out.size)
 have t1 := t0.set6 y
 have r1 := SBox.other r0 (p := ⟨w.heap.size, 6, none⟩) (.int .i64 y) (by simp)
 have S8 := r1.set7 0 W T m f a y
 have p0 := (S8).c0; have p1 := (S8).c1; have p2 := (S8).c2; have p3 := (S8).c3; have p4 := (S8).c4; have p5 := (S8).c5; have p6 := (S8).c6
 simp only [set7] at p0 p1 p2 p3 p4 p5 p6
 have hz1 := r0.lt
 have HB2 := Lib.hid (below_set7 (b := w.heap.size + 1) (B1.setCell (p := ⟨w.heap.size, 6, none⟩) (Nat.le_refl _) (.int .i64 y)) (Nat.le_succ _) (by simp; omega) 0 W T m f a y)
 clear S8 r1 t1 t0 r0 B1 hb1
 go_wp2
 exact bodyPost_ret (v := .agg #[.int .i64 0, .int .i64 W, .int .i64 T, .int .i64 m, .int .i64 f, .int .i64 a, .int .i64 y]) (by simp [results, Tryz.results28, go_sem, p0, p1, p2, p3, p4, p5, p6]) rfl ⟨rfl, HB2.out⟩
set_option maxHeartbeats 1000000 in
set_option maxRecDepth 100000 in
theorem implSkip_con (m f a x n : Nat) (W T : Int) {y : Int} (w : World) (hm : 2 ≤ m) (hm2 : m ≤ 100000) (hf : f < m) (ha : a < m) (hx : x < m) (hn : n ≤ 1000000000000000000) (hy : ((CycM.iter (Cong.stepN m f a) x n : Nat) : Int) = y) :
  Calls Tryz.prog 28 #[.agg #[.int .i64 1, .int .i64 W, .int .i64 T, .int .i64 m, .int .i64 f, .int .i64 a, .int .i64 x], .int .i64 n] w (SkR 1 W T m f a y w) := by
 obtain ⟨W1, hW1, S, R, B⟩ := two w 1 W T m f a x
 have hp := powOf (f := f) (a := a) hm n
 have hy2 : ((Cong.stepN m (powF m f a n) (powA m f a n) x : Nat) : Int) = y := by rw [hp.2.2 x hx]; exact hy
 have HC := Lib.hid (fun w => implPower_any m f a n w hm hm2 hf ha hn)
 have HC2 := Lib.hid (fun w => Cong.congStep_any m (powF m f a n) (powA m f a n) x w hm hm2 hp.1 hp.2.1 hx)
 rw [hy2] at HC2
 have HW := Lib.hid hW1
 have HS := Lib.hid S
 have HR := Lib.hid R
 have HB := Lib.hid B
 unfold PowRet at HC
 clear hp
 generalize powF m f a n = F at *
 generalize powA m f a n = A at *
 clear hW1 S R B hy hy2
 go_enter Tryz.func28, Tryz.ntmps28
 go_wp2_with fail
 rw [← HW.out]
 (refine Tail.wp_region_below_tail 8 (by kernel_rfl) (by kernel_rfl) ?_; simp only [List.take_succ_cons, List.take_zero, List.drop_succ_cons, List.drop_zero]; (repeat (first | go_big_quiet_skip | (go_big_quiet_want; go_big_quiet_op; first | go_big_quiet_on | (refine ⟨_, fun _ _ => rfl, ?_⟩; go_big_quiet_on) | (apply Exists.intro; refine ⟨fun wq hq => ?_, ?_⟩; (have c3 := (HS.out.below hq HS.out.lt).c3; have c4 := (HS.out.below hq HS.out.lt).c4; have c5 := (HS.out.below hq HS.out.lt).c5; have c6 := (HS.out.below hq HS.out.lt).c6; first | (go_simp; done) | (go_simp; rfl) | (first | (go_at_call 56; refine (HC.out _).mono ?_; rintro e w1 ⟨rfl, hb1⟩; exact ⟨rfl, Base.Below.nextA hq hb1⟩) | (go_at_call 52; refine (HC2.out _).mono ?_; rintro e w1 ⟨rfl, hb1⟩; exact ⟨rfl, Base.Below.nextA hq hb1⟩))); go_big_quiet_on)))); refine wpQuiet_nil ?_; intro wq hq)
 have t2 := HS.out.below hq HS.out.lt
 have r2 := HR.out.below hq HR.out.lt
 have B2 := HB.out.trans (hq.mono HB.out.size)
 have c0 := (t2).c0; have c1 := (t2).c1; have c2 := (t2).c2; have c3 := (t2).c3; have c4 := (t2).c4; have c5 := (t2).c5; have c6 := (t2).c6
 have d0 := (r2).c0; have d1 := (r2).c1; have d2 := (r2).c2; have d3 := (r2).c3; have d4 := (r2).c4; have d5 := (r2).c5; have d6 := (r2).c6
 have g0 := (r2).frz 0; have g1 := (r2).frz 1; have g2 := (r2).frz 2; have g3 := (r2).frz 3; have g4 := (r2).frz 4; have g5 := (r2).frz 5; have g6 := (r2).frz 6
 have f6 := t2.frz 6
 have r3 := SBox.other r2 (p := ⟨w.heap.size, 6, none⟩) (.int .i64 y) (by simp)
 have S8 := r3.set7 1 W T m f a y
 have p0 := (S8).c0; have p1 := (S8).c1; have p2 := (S8).c2; have p3 := (S8).c3; have p4 := (S8).c4; have p5 := (S8).c5; have p6 := (S8).c6
 simp only [set7] at p0 p1 p2 p3 p4 p5 p6
 have hz2 := r2.lt
 have HB2 := Lib.hid (below_set7 (b := w.heap.size + 1) (B2.setCell (p := ⟨w.heap.size, 6, none⟩) (Nat.le_refl _) (.int .i64 y)) (Nat.le_succ _) (by simp; omega) 1 W T m f a y)
 clear S8 r3 r2 t2 B2 hq
 go_wp2
 exact bodyPost_ret (v := .agg #[.int .i64 1, .int .i64 W, .int .i64 T, .int .i64 m, .int .i64 f, .int .i64 a, .int .i64 y]) (by simp [results, Tryz.results28, go_sem, p0, p1, p2, p3, p4, p5, p6]) rfl ⟨rfl, HB2.out⟩
theorem takeX_r (V A X N : Nat) (m f a : Int) : takeX 0 V A m f a X N = ((CycM.iter (nextR V A) X N : Nat) : Int) := by simp [takeX]
theorem takeX_c (M F A X N : Nat) (W T : Int) : takeX 1 W T M F A X N = ((CycM.iter (Cong.stepN M F A) X N : Nat) : Int) := by simp [takeX]
theorem specSkip_yes {K W T m f a s c : Int} (hB : streamB K W T m f a s = true) (hc : 0 ≤ c ∧ c ≤ 1000000000000000000) (w : World) : Calls Tryz.prog 50 #[.agg #[.int .i64 K, .int .i64 W, .int .i64 T, .int .i64 m, .int .i64 f, .int .i64 a, .int .i64 s], .int .i64 c] w (SkipR K W T m f a s c w) := by
 obtain ⟨X, N, rfl, rfl, hN, ⟨rfl, V, A, rfl, rfl, hV, hA, hX⟩ | ⟨rfl, M, F, A, rfl, rfl, rfl, h1, h2, h3, h4, h5⟩⟩ := natsN hB hc
 ·exact l11Skip_reg V A X N m f a _ w (Lib.hid fun w => specJump_q V A X N w hV hA hX hN (takeX_r V A X N m f a).symm)
 ·exact l11Skip_con M F A X N W T w h1 h2 h3 h4 h5 hN (takeX_c M F A X N W T).symm
theorem implSkip_yes {K W T m f a s c : Int} (hB : streamB K W T m f a s = true) (hc : 0 ≤ c ∧ c ≤ 1000000000000000000) (w : World) : Calls Tryz.prog 28 #[.agg #[.int .i64 K, .int .i64 W, .int .i64 T, .int .i64 m, .int .i64 f, .int .i64 a, .int .i64 s], .int .i64 c] w (SkipR K W T m f a s c w) := by
 obtain ⟨X, N, rfl, rfl, hN, ⟨rfl, V, A, rfl, rfl, hV, hA, hX⟩ | ⟨rfl, M, F, A, rfl, rfl, rfl, h1, h2, h3, h4, h5⟩⟩ := natsN hB hc
 ·exact implSkip_reg V A X N m f a _ w (Lib.hid fun w => by rw [takeX_r]; exact Jump.jumpR_any V A X N w hV hA hX hN)
 ·exact implSkip_con M F A X N W T w h1 h2 h3 h4 h5 hN (takeX_c M F A X N W T).symm
end Go.Proofs.YthagenodiofgnaaGreatDoor.Skip
namespace Go.Proofs.YthagenodiofgnaaGreatDoor.Draw
open Go.RowKit Go.Proofs.YthagenodiofgnaaGreatDoor Go.Proofs.YthagenodiofgnaaGreatDoor.Base Go.Proofs.YthagenodiofgnaaGreatDoor.Mem Go.Proofs.YthagenodiofgnaaGreatDoor.Src Go.Proofs.YthagenodiofgnaaGreatDoor.Blk Go.Proofs.YthagenodiofgnaaGreatDoor.Pow
set_option linter.unusedVariables false
end Go.Proofs.YthagenodiofgnaaGreatDoor.Draw
set_option linter.unusedVariables false
namespace Go.Proofs.YthagenodiofgnaaGreatDoor.Hd
open Go.Proofs.YthagenodiofgnaaGreatDoor.CycM
def S (f : Nat) : Nat → Nat
 | 0 => 0
 | n + 1 => f * S f n + 1
theorem mod_one {f p : Nat} (h : f % p = 1) : ∃ t, f = 1 + p * t := ⟨f / p, by have := Nat.mod_add_div f p; omega⟩
end Go.Proofs.YthagenodiofgnaaGreatDoor.Hd
namespace Go.Proofs.YthagenodiofgnaaGreatDoor.Cycled
open Go.RowKit Go.Proofs.YthagenodiofgnaaGreatDoor Go.Proofs.YthagenodiofgnaaGreatDoor.Base Go.Proofs.YthagenodiofgnaaGreatDoor.Mem Go.Proofs.YthagenodiofgnaaGreatDoor.Src Go.Proofs.YthagenodiofgnaaGreatDoor.Blk Go.Proofs.YthagenodiofgnaaGreatDoor.Pow Go.Proofs.YthagenodiofgnaaGreatDoor.Cong Go.Proofs.YthagenodiofgnaaGreatDoor.CycM Go.Proofs.YthagenodiofgnaaGreatDoor.Draw
set_option linter.unusedVariables false
theorem bothB_yes {m f a x : Nat} (hm : 2 ≤ m) (hm2 : m ≤ 100000) (hf : f < m) (ha : a < m) (hx : x < m) : bothB m f a x = true := by
 rw [bothB, congB, inR_yes (by omega), inR_yes (by omega), inR_yes (by omega), inR_yes (by omega)]; rfl
def longB (n n' : Nat) : Bool := decide ((n : Int) > 1048576) || decide ((n' : Int) > 1048576)
theorem b10Long_any (A A' : Option Addr) (n c n' c' : Nat) (w : World) :
  Calls Tryz.prog 4 #[.slice A n c, .slice A' n' c'] w fun e w' => e = .returned (.bool (longB n n')) ∧ w = w' := by
 by_cases h1 : (n : Int) > 1048576
 ·go_enter Tryz.func4, Tryz.ntmps4
  go_wp2
  go_ret
  exact ⟨ret_bool (by simp only [longB, decide_eq_true h1, Bool.true_or]), rfl⟩
 ·go_enter Tryz.func4, Tryz.ntmps4
  go_wp2
  go_ret
  exact ⟨ret_bool (by rw [longB, decide_eq_false (show ¬ (n : Int) > 1048576 by omega), Bool.false_or]), rfl⟩
end Go.Proofs.YthagenodiofgnaaGreatDoor.Cycled
