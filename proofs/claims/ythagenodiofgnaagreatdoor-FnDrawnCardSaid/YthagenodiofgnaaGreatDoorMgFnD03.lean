/- The congruence of many steps, by doubling: of the program and of the reference. -/
import Derived.Test.YthagenodiofgnaaGreatDoorMgFnD01
import Derived.Test.YthagenodiofgnaaGreatDoorMgFnD02
import Derived.IntWalk
namespace Go.Proofs.YthagenodiofgnaaGreatDoor.Pow
open Go.RowKit Go.Proofs.YthagenodiofgnaaGreatDoor Go.Proofs.YthagenodiofgnaaGreatDoor.Base Go.Proofs.YthagenodiofgnaaGreatDoor.Mem Go.Proofs.YthagenodiofgnaaGreatDoor.Blk Go.Proofs.YthagenodiofgnaaGreatDoor.CycM Go.Proofs.YthagenodiofgnaaGreatDoor.Cong
set_option linter.unusedVariables false
def thF (m f1 f2 : Nat) : Nat := f1 * f2 % m
def thA (m a1 f2 a2 : Nat) : Nat := (f2 * a1 + a2) % m
theorem step_then (m f1 a1 f2 a2 x : Nat) : stepN m (thF m f1 f2) (thA m a1 f2 a2) x = stepN m f2 a2 (stepN m f1 a1 x) := by
 unfold stepN thF thA
 rw [Nat.add_mod, Nat.mul_mod, Nat.mod_mod, Nat.mod_mod, ← Nat.mul_mod, ← Nat.add_mod]
 conv => rhs; rw [Nat.add_mod, Nat.mul_mod, Nat.mod_mod, ← Nat.mul_mod, ← Nat.add_mod]
 congr 1
 grind
theorem iter_two {T U : Nat → Nat} {m : Nat} (hT : ∀ s, s < m → T s < m) (hU : ∀ s, s < m → U s = T (T s)) {x : Nat} (hx : x < m) : ∀ q, iter U x q = iter T x (2 * q)
 | 0 => rfl
 | q + 1 => by
  rw [iter_succ, iter_two hT hU hx q, hU _ (iter_lt hT hx _), show 2 * (q + 1) = 2 * q + 1 + 1 by omega, iter_succ, iter_succ]
def PowOf (m f a n F A : Nat) : Prop := F < m ∧ A < m ∧ ∀ x, x < m → stepN m F A x = iter (stepN m f a) x n
structure PInv (m f a n k Fo Ao Fc Ac : Nat) : Prop where
 h1 : Fo < m
 h2 : Ao < m
 h3 : Fc < m
 h4 : Ac < m
 is : ∀ x, x < m → iter (stepN m Fc Ac) (stepN m Fo Ao x) k = iter (stepN m f a) x n
theorem PInv.start {m f a n : Nat} (hm : 2 ≤ m) (hf : f < m) (ha : a < m) : PInv m f a n n 1 0 f a :=
 ⟨by omega, by omega, hf, ha, fun x hx => by rw [show stepN m 1 0 x = x by simp [stepN, Nat.mod_eq_of_lt hx]]⟩
theorem PInv.odd {m f a n q Fo Ao Fc Ac : Nat} (h : PInv m f a n (2 * q + 1) Fo Ao Fc Ac) : PInv m f a n q (thF m Fo Fc) (thA m Ao Fc Ac) (thF m Fc Fc) (thA m Ac Fc Ac) := by
 have h0 : 0 < m := by have := h.h1; omega
 have hT : ∀ s, s < m → stepN m Fc Ac s < m := fun s _ => Nat.mod_lt _ h0
 refine ⟨Nat.mod_lt _ h0, Nat.mod_lt _ h0, Nat.mod_lt _ h0, Nat.mod_lt _ h0, fun x hx => ?_⟩
 rw [step_then, ← h.is x hx, iter_two hT (fun s _ => step_then m Fc Ac Fc Ac s) (hT _ (stepN_lt h0 x)), show 2 * q + 1 = 1 + 2 * q by omega, iter_add]
 rfl
theorem PInv.even {m f a n q Fo Ao Fc Ac : Nat} (h : PInv m f a n (2 * q) Fo Ao Fc Ac) : PInv m f a n q Fo Ao (thF m Fc Fc) (thA m Ac Fc Ac) := by
 have h0 : 0 < m := by have := h.h1; omega
 have hT : ∀ s, s < m → stepN m Fc Ac s < m := fun s _ => Nat.mod_lt _ h0
 refine ⟨h.h1, h.h2, Nat.mod_lt _ h0, Nat.mod_lt _ h0, fun x hx => ?_⟩
 rw [← h.is x hx, iter_two hT (fun s _ => step_then m Fc Ac Fc Ac s) (stepN_lt h0 x)]
theorem PInv.done {m f a n Fo Ao Fc Ac : Nat} (h : PInv m f a n 0 Fo Ao Fc Ac) : PowOf m f a n Fo Ao := ⟨h.h1, h.h2, h.is⟩
theorem thF_int (m f1 f2 : Nat) : ((f1 : Int) * (f2 : Int)) % (m : Int) = ((thF m f1 f2 : Nat) : Int) := by unfold thF; simp
theorem thA_int (m a1 f2 a2 : Nat) : ((f2 : Int) * (a1 : Int) + (a2 : Int)) % (m : Int) = ((thA m a1 f2 a2 : Nat) : Int) := by unfold thA; simp
set_option maxHeartbeats 1000000 in
set_option maxRecDepth 100000 in
theorem l03Then_any (b o b' o' m f1 a1 f2 a2 : Nat) (m' : Int) (w : World) (h0 : w.cell? ⟨b, o, none⟩ = some (.int .i64 m)) (h1 : w.cell? ⟨b, o + 1, none⟩ = some (.int .i64 f1)) (h2 : w.cell? ⟨b, o + 2, none⟩ = some (.int .i64 a1))
  (g0 : w.cell? ⟨b', o', none⟩ = some (.int .i64 m')) (g1 : w.cell? ⟨b', o' + 1, none⟩ = some (.int .i64 f2)) (g2 : w.cell? ⟨b', o' + 2, none⟩ = some (.int .i64 a2)) (hb : b < w.heap.size) (hb' : b' < w.heap.size)
  (hm : 2 ≤ m) (hm2 : m ≤ 100000) (hf1 : f1 < m) (ha1 : a1 < m) (hf2 : f2 < m) (ha2 : a2 < m) :
  Calls Tryz.prog 98 #[.pointer (some ⟨b, o, none⟩), .pointer (some ⟨b', o', none⟩)] w fun e w' => e = .returned (.agg #[.int .i64 ((m : Nat) : Int), .int .i64 ((thF m f1 f2 : Nat) : Int), .int .i64 ((thA m a1 f2 a2 : Nat) : Int)]) ∧ Below w.heap.size w w' := by
 obtain ⟨p1, p2⟩ := prod_le hf1 hf2 hm2
 obtain ⟨p3, p4⟩ := prod_le hf2 ha1 hm2
 have hm0 : ((m : Int) == 0) = false := by simp; omega
 obtain ⟨W1, hW1⟩ : ∃ W1, W1 = w.alloc (.cells #[.int .i64 0, .int .i64 0, .int .i64 0] 27) := ⟨_, rfl⟩
 have B1 : Below w.heap.size w W1 := by rw [hW1]; exact (Below.refl _ _).alloc (Nat.le_refl _) _
 have K1 : Blk W1 w.heap.size 27 #[.int .i64 0, .int .i64 0, .int .i64 0] := by rw [hW1]; exact Blk.new _ _ _
 have c0 : W1.cell? ⟨b, o, none⟩ = some (.int .i64 m) := (B1.cell (p := ⟨b, o, none⟩) hb).trans h0
 have c1 : W1.cell? ⟨b, o + 1, none⟩ = some (.int .i64 f1) := (B1.cell (p := ⟨b, o + 1, none⟩) hb).trans h1
 have c2 : W1.cell? ⟨b, o + 2, none⟩ = some (.int .i64 a1) := (B1.cell (p := ⟨b, o + 2, none⟩) hb).trans h2
 have d0 : W1.cell? ⟨b', o', none⟩ = some (.int .i64 m') := (B1.cell (p := ⟨b', o', none⟩) hb').trans g0
 have d1 : W1.cell? ⟨b', o' + 1, none⟩ = some (.int .i64 f2) := (B1.cell (p := ⟨b', o' + 1, none⟩) hb').trans g1
 have d2 : W1.cell? ⟨b', o' + 2, none⟩ = some (.int .i64 a2) := (B1.cell (p := ⟨b', o' + 2, none⟩) hb').trans g2
 have HW := Lib.hid hW1
 have HK := Lib.hid K1
 have HB := Lib.hid B1
 have f0 := K1.frz 0
 have f1' := K1.frz 1
 have f2' := K1.frz 2
 have e0 := K1.at 0 (v := .int .i64 0) rfl
 have e1 := K1.at 1 (v := .int .i64 0) rfl
 have e2 := K1.at 2 (v := .int .i64 0) rfl
 have HF := Lib.hid (thF_int m f1 f2)
 have HA := Lib.hid (thA_int m a1 f2 a2)
 clear hW1 B1 K1 h0 h1 h2 g0 g1 g2
 generalize thF m f1 f2 = F at *
 generalize thA m a1 f2 a2 = A at *
 go_enter Tryz.func98, Tryz.ntmps98
 go_wp2_with fail
 rw [← HW.out]
 (refine Tail.wp_region_quiet_tail (C := fun w' => ∃ n, w' = World.drewN W1 n) 38 (by kernel_rfl) (by kernel_rfl) ⟨1, rfl⟩ ?_; simp only [List.take_succ_cons, List.take_zero, List.drop_succ_cons, List.drop_zero]; (repeat (go_big_quiet_step (fail))); refine wpQuiet_nil ?_; rintro _ ⟨nq, rfl⟩)
 go_wp2
 rw [HF.out, HA.out]
 have S := (((HK.out.drewN nq).setTo 0 (.int .i64 (m : Int)) rfl).setTo 1 (.int .i64 (F : Int)) rfl).setTo 2 (.int .i64 (A : Int)) rfl
 have q0 := S.at 0 rfl
 have q1 := S.at 1 rfl
 have q2 := S.at 2 rfl
 refine bodyPost_ret (v := .agg #[.int .i64 ((m : Nat) : Int), .int .i64 ((F : Nat) : Int), .int .i64 ((A : Nat) : Int)]) (by simp [results, Tryz.results98, go_sem, q0, q1, q2]) rfl ⟨rfl, ?_⟩
 exact (((below_drewN HB.out nq).setCell (by simp) _).setCell (by simp) _).setCell (by simp) _
set_option maxHeartbeats 1000000 in
set_option maxRecDepth 100000 in
theorem implThen_any (m f1 a1 f2 a2 : Nat) (w : World) (hm : 2 ≤ m) (hm2 : m ≤ 100000) (hf1 : f1 < m) (ha1 : a1 < m) (hf2 : f2 < m) (ha2 : a2 < m) :
  Calls Tryz.prog 89 #[.agg #[.int .i64 ((m : Nat) : Int), .int .i64 ((f1 : Nat) : Int), .int .i64 ((a1 : Nat) : Int)], .agg #[.int .i64 ((m : Nat) : Int), .int .i64 ((f2 : Nat) : Int), .int .i64 ((a2 : Nat) : Int)]] w fun e w' => e = .returned (.agg #[.int .i64 ((m : Nat) : Int), .int .i64 ((thF m f1 f2 : Nat) : Int), .int .i64 ((thA m a1 f2 a2 : Nat) : Int)]) ∧ Below w.heap.size w w' := by
 obtain ⟨p1, p2⟩ := prod_le hf1 hf2 hm2
 have hm0 : ((m : Int) == 0) = false := by simp; omega
 obtain ⟨W3, hW3⟩ : ∃ W3, W3 = ((w.alloc (.cells #[.int .i64 ((m : Nat) : Int), .int .i64 ((f1 : Nat) : Int), .int .i64 ((a1 : Nat) : Int)] 27)).alloc (.cells #[.int .i64 ((m : Nat) : Int), .int .i64 ((f2 : Nat) : Int), .int .i64 ((a2 : Nat) : Int)] 27)).alloc (.cells #[.int .i64 0, .int .i64 0, .int .i64 0] 27) := ⟨_, rfl⟩
 have B3 : Below w.heap.size w W3 := by rw [hW3]; exact (((Below.refl _ _).alloc (Nat.le_refl _) _).alloc (by simp) _).alloc (by simp; omega) _
 have k0 : Blk W3 w.heap.size 27 #[.int .i64 ((m : Nat) : Int), .int .i64 ((f1 : Nat) : Int), .int .i64 ((a1 : Nat) : Int)] := by rw [hW3]; exact ((Blk.new _ _ _).alloc _).alloc _
 have k1 : Blk W3 (w.heap.size + 1) 27 #[.int .i64 ((m : Nat) : Int), .int .i64 ((f2 : Nat) : Int), .int .i64 ((a2 : Nat) : Int)] := by rw [hW3]; exact (Blk.newAt _ _ (by simp)).alloc _
 have k2 : Blk W3 (w.heap.size + 1 + 1) 27 #[.int .i64 0, .int .i64 0, .int .i64 0] := by rw [hW3]; exact Blk.newAt _ _ (by simp)
 have HS : Hid (∀ w, Calls Tryz.prog 52 #[.agg #[.int .i64 ((m : Nat) : Int), .int .i64 ((f2 : Nat) : Int), .int .i64 ((a2 : Nat) : Int)], .int .i64 (a1 : Int)] w fun e w' => e = .returned (.int .i64 (thA m a1 f2 a2 : Nat)) ∧ Below w.heap.size w w') := Lib.hid fun w => congStep_any m f2 a2 a1 w hm hm2 hf2 ha2 ha1
 have HW := Lib.hid hW3
 have HB := Lib.hid B3
 have K0 := Lib.hid k0
 have K1 := Lib.hid k1
 have K2 := Lib.hid k2
 have HF := Lib.hid (thF_int m f1 f2)
 clear hW3 B3 k0 k1 k2
 generalize thF m f1 f2 = F at *
 generalize thA m a1 f2 a2 = A at *
 go_enter Tryz.func89, Tryz.ntmps89
 go_wp2_with fail
 rw [← HW.out]
 (refine Tail.wp_region_below_tail 15 (by kernel_rfl) (by kernel_rfl) ?_; simp only [List.take_succ_cons, List.take_zero, List.drop_succ_cons, List.drop_zero]; (repeat (first | go_big_quiet_skip | (go_big_quiet_want; go_big_quiet_op; first | go_big_quiet_on | (refine ⟨_, fun _ _ => rfl, ?_⟩; go_big_quiet_on) | (apply Exists.intro; refine ⟨fun wq hq => ?_, ?_⟩; (have x0 := (K0.out.belowS hq).at 0 (v := .int .i64 (m : Int)) rfl; have x1 := (K0.out.belowS hq).at 1 (v := .int .i64 (f1 : Int)) rfl; have x2 := (K0.out.belowS hq).at 2 (v := .int .i64 (a1 : Int)) rfl; have y0 := (K1.out.belowS hq).at 0 (v := .int .i64 (m : Int)) rfl; have y1 := (K1.out.belowS hq).at 1 (v := .int .i64 (f2 : Int)) rfl; have y2 := (K1.out.belowS hq).at 2 (v := .int .i64 (a2 : Int)) rfl; first | (go_simp; done) | (go_simp; rfl) | (go_at_call 52; refine (HS.out _).mono ?_; rintro e w1 ⟨rfl, hb1⟩; exact ⟨rfl, Base.Below.nextA hq hb1⟩)); go_big_quiet_on)))); refine wpQuiet_nil ?_; intro wq hq)
 have K2q := K2.out.belowS hq
 have g0 := K2q.frz 0
 have g1 := K2q.frz 1
 have g2 := K2q.frz 2
 have e0 := K2q.at 0 (v := .int .i64 0) rfl
 have e1 := K2q.at 1 (v := .int .i64 0) rfl
 have e2 := K2q.at 2 (v := .int .i64 0) rfl
 have HQ := Lib.hid (HB.out.trans (hq.mono HB.out.size))
 have KQ := Lib.hid K2q
 clear hq K2q
 go_wp2
 rw [HF.out]
 have S := ((KQ.out.setTo 0 (.int .i64 (m : Int)) rfl).setTo 1 (.int .i64 (F : Int)) rfl).setTo 2 (.int .i64 (A : Int)) rfl
 have q0 := S.at 0 rfl
 have q1 := S.at 1 rfl
 have q2 := S.at 2 rfl
 refine bodyPost_ret (v := .agg #[.int .i64 ((m : Nat) : Int), .int .i64 ((F : Nat) : Int), .int .i64 ((A : Nat) : Int)]) (by simp [results, Tryz.results89, go_sem, q0, q1, q2]) rfl ⟨rfl, ?_⟩
 exact ((HQ.out.setCell (by simp; omega) _).setCell (by simp; omega) _).setCell (by simp; omega) _
def powA (m f a n : Nat) : Nat := iter (stepN m f a) 0 n
def powF (m f a n : Nat) : Nat := (iter (stepN m f a) 1 n + m - iter (stepN m f a) 0 n) % m
theorem PowOf.eq {m f a n F A : Nat} (hm : 2 ≤ m) (h : PowOf m f a n F A) : F = powF m f a n ∧ A = powA m f a n := by
 obtain ⟨h1, h2, h3⟩ := h
 have e0 := h3 0 (by omega)
 have e1 := h3 1 (by omega)
 unfold powF powA
 rw [← e0, ← e1]
 simp only [stepN, Nat.mul_zero, Nat.zero_add, Nat.mul_one, Nat.mod_eq_of_lt h2, and_true]
 by_cases hlt : F + A < m
 ·rw [Nat.mod_eq_of_lt hlt, show F + A + m - A = F + m by omega, Nat.add_mod_right, Nat.mod_eq_of_lt h1]
 ·have e3 : (F + A) % m = F + A - m := by rw [Nat.mod_eq_sub_mod (by omega), Nat.mod_eq_of_lt (by omega)]
  rw [e3, show F + A - m + m - A = F by omega, Nat.mod_eq_of_lt h1]
theorem PowOf.zero {m f a : Nat} (hm : 2 ≤ m) : PowOf m f a 0 1 0 := ⟨by omega, by omega, fun x hx => by simp [stepN, iter, Nat.mod_eq_of_lt hx]⟩
theorem PowOf.succ {m f a n F A : Nat} (hm : 2 ≤ m) (h : PowOf m f a n F A) : PowOf m f a (n + 1) (thF m F f) (thA m A f a) :=
 ⟨Nat.mod_lt _ (by omega), Nat.mod_lt _ (by omega), fun x hx => by rw [step_then, h.2.2 x hx]; rfl⟩
theorem powOf {m f a : Nat} (hm : 2 ≤ m) : ∀ n, PowOf m f a n (powF m f a n) (powA m f a n)
 | 0 => by
  have h := PowOf.zero (f := f) (a := a) hm
  obtain ⟨e1, e2⟩ := h.eq hm
  rw [← e1, ← e2]; exact h
 | n + 1 => by
  have h := (powOf (f := f) (a := a) hm n).succ hm
  obtain ⟨e1, e2⟩ := h.eq hm
  rw [← e1, ← e2]; exact h
def PowRet (m f a n : Nat) (w : World) (e : Ending) (w' : World) : Prop := e = .returned (.agg #[.int .i64 ((m : Nat) : Int), .int .i64 ((powF m f a n : Nat) : Int), .int .i64 ((powA m f a n : Nat) : Int)]) ∧ Below w.heap.size w w'
theorem PowRet.of {m f a n F A : Nat} {w w' : World} {e : Ending} (hm : 2 ≤ m) (h : PowOf m f a n F A) (he : e = .returned (.agg #[.int .i64 ((m : Nat) : Int), .int .i64 ((F : Nat) : Int), .int .i64 ((A : Nat) : Int)])) (hb : Below w.heap.size w w') : PowRet m f a n w e w' := by
 obtain ⟨e1, e2⟩ := h.eq hm
 subst e1 e2
 exact ⟨he, hb⟩
def PRel (m f a n r p q : Nat) (w : World) (nv : Value) (wr : World) : Prop :=
 ∃ k Fo Ao Fc Ac : Nat, k ≤ n ∧ nv = .int .i64 (k : Int) ∧ PInv m f a n k Fo Ao Fc Ac ∧ Blk wr r 27 #[.int .i64 0, .int .i64 0, .int .i64 0] ∧
  Blk wr p 27 #[.int .i64 ((m : Nat) : Int), .int .i64 ((Fo : Nat) : Int), .int .i64 ((Ao : Nat) : Int)] ∧ Blk wr q 27 #[.int .i64 ((m : Nat) : Int), .int .i64 ((Fc : Nat) : Int), .int .i64 ((Ac : Nat) : Int)] ∧ Below w.heap.size w wr
set_option maxHeartbeats 1000000 in
set_option maxRecDepth 100000 in
theorem l03Power_any (b o m f a n : Nat) (w : World) (h0 : w.cell? ⟨b, o, none⟩ = some (.int .i64 m)) (h1 : w.cell? ⟨b, o + 1, none⟩ = some (.int .i64 f)) (h2 : w.cell? ⟨b, o + 2, none⟩ = some (.int .i64 a))
  (hb : b < w.heap.size) (hm : 2 ≤ m) (hm2 : m ≤ 100000) (hf : f < m) (ha : a < m) (hn : n ≤ 1000000000000000000) :
  Calls Tryz.prog 76 #[.pointer (some ⟨b, o, none⟩), .int .i64 (n : Int)] w (PowRet m f a n w) := by
 have HI := Lib.hid (PInv.start (n := n) hm hf ha)
 go_enter Tryz.func76, Tryz.ntmps76
 go_wp2
 go_loopw [1] (fun nv wr => PRel m f a n w.heap.size (w.heap.size + 1) (w.heap.size + 1 + 1) w nv wr) (fun nv _ => (intOf nv).toNat)
 case atStart =>
  exact ⟨n, 1, 0, f, a, Nat.le_refl _, rfl, HI.out, ((Blk.new _ _ _).alloc _).alloc _, (Blk.newAt _ _ (by simp)).alloc _, Blk.newAt _ _ (by simp), (((Below.refl _ _).alloc (Nat.le_refl _) _).alloc (by simp) _).alloc (by simp; omega) _⟩
 case round =>
  obtain ⟨k, Fo, Ao, Fc, Ac, hk, rfl, hP, k0, kp, kq, hbel⟩ := hrel
  have K0 := Lib.hid k0
  have KP := Lib.hid kp
  have KQ := Lib.hid kq
  have HB := Lib.hid hbel
  have hlq := kq.lt
  have hP' := Lib.hid hP
  obtain ⟨b1, b2, b3, b4, _⟩ := hP
  have hz := hbel.size
  clear hbel k0 h0 h1 h2
  by_cases hk0 : k = 0
  ·subst hk0
   have p0 := kp.at 0 (v := .int .i64 (m : Int)) rfl
   have p1 := kp.at 1 (v := .int .i64 (Fo : Int)) rfl
   have p2 := kp.at 2 (v := .int .i64 (Ao : Int)) rfl
   have r0 := K0.out.at 0 (v := .int .i64 0) rfl
   have r1 := K0.out.at 1 (v := .int .i64 0) rfl
   have r2 := K0.out.at 2 (v := .int .i64 0) rfl
   have f0 := K0.out.frz 0
   have f1 := K0.out.frz 1
   have f2 := K0.out.frz 2
   clear kp kq
   go_wp2
   have S := K0.out.set3 (.int .i64 (m : Int)) (.int .i64 (Fo : Int)) (.int .i64 (Ao : Int))
   have q0 := S.at 0 rfl
   have q1 := S.at 1 rfl
   have q2 := S.at 2 rfl
   simp only [put3] at q0 q1 q2
   refine bodyPost_ret (v := .agg #[.int .i64 ((m : Nat) : Int), .int .i64 ((Fo : Nat) : Int), .int .i64 ((Ao : Nat) : Int)]) (by simp [results, Tryz.results76, go_sem, q0, q1, q2]) rfl (PowRet.of hm hP'.out.done rfl ?_)
   exact below_put3 HB.out (Nat.le_refl _) _ _ _
  ·have c0 := kq.at 0 (v := .int .i64 (m : Int)) rfl
   have c1 := kq.at 1 (v := .int .i64 (Fc : Int)) rfl
   have c2 := kq.at 2 (v := .int .i64 (Ac : Int)) rfl
   by_cases hodd : k % 2 = 1
   ·obtain ⟨q, rfl⟩ : ∃ q, k = 2 * q + 1 := ⟨k / 2, by omega⟩
    have p0 := kp.at 0 (v := .int .i64 (m : Int)) rfl
    have p1 := kp.at 1 (v := .int .i64 (Fo : Int)) rfl
    have p2 := kp.at 2 (v := .int .i64 (Ao : Int)) rfl
    have HC := Lib.hid (l03Then_any _ 0 _ 0 m Fo Ao Fc Ac m wr p0 p1 p2 c0 c1 c2 kp.lt kq.lt hm hm2 b1 b2 b3 b4)
    have HN := Lib.hid hP'.out.odd
    clear kp kq p0 p1 p2 c0 c1 c2
    go_wp2_with fail
    refine HC.out.mono ?_
    rintro e w1 ⟨rfl, hb1⟩
    have s0 := KP.out.belowS hb1
    have t0 := KQ.out.belowS hb1
    have n0 := Lib.hid (K0.out.belowS hb1)
    have hb1' := Lib.hid (HB.out.trans (hb1.mono hz))
    obtain ⟨w2, hw2⟩ : ∃ w2, w2 = put3 w1 (w.heap.size + 1) (.int .i64 (m : Int)) (.int .i64 (thF m Fo Fc : Nat)) (.int .i64 (thA m Ao Fc Ac : Nat)) := ⟨_, rfl⟩
    have S2 : Blk w2 (w.heap.size + 1) 27 _ := hw2 ▸ s0.set3 _ _ _
    have T2 : Blk w2 (w.heap.size + 1 + 1) 27 _ := hw2 ▸ t0.oth3 _ _ _ (by omega)
    have N2 := Lib.hid (show Blk w2 w.heap.size 27 _ from hw2 ▸ n0.out.oth3 _ _ _ (by omega))
    have B2 := Lib.hid (show Below w.heap.size w w2 from hw2 ▸ below_put3 hb1'.out (by omega) _ _ _)
    have HS2 := Lib.hid S2
    have HT2 := Lib.hid T2
    unfold put3 at hw2
    have HW2 := Lib.hid hw2
    have f0 := s0.frz 0
    have f1 := s0.frz 1
    have f2 := s0.frz 2
    have u0 := s0.at 0 (v := .int .i64 (m : Int)) rfl
    have u1 := s0.at 1 (v := .int .i64 (Fo : Int)) rfl
    have u2 := s0.at 2 (v := .int .i64 (Ao : Int)) rfl
    have c0 := T2.at 0 (v := .int .i64 (m : Int)) rfl
    have c1 := T2.at 1 (v := .int .i64 (Fc : Int)) rfl
    have c2 := T2.at 2 (v := .int .i64 (Ac : Int)) rfl
    have HC2 := Lib.hid (l03Then_any _ 0 _ 0 m Fc Ac Fc Ac m w2 c0 c1 c2 c0 c1 c2 T2.lt T2.lt hm hm2 b3 b4 b3 b4)
    clear S2 T2 c0 c1 c2 hw2 s0 t0 hb1
    generalize thF m Fo Fc = Fo2 at *
    generalize thA m Ao Fc Ac = Ao2 at *
    generalize thF m Fc Fc = Fc2 at *
    generalize thA m Ac Fc Ac = Ac2 at *
    go_wp2_with fail
    rw [← HW2.out]
    refine HC2.out.mono ?_
    rintro e w3 ⟨rfl, hb3⟩
    have s3 := HS2.out.belowS hb3
    have t3 := HT2.out.belowS hb3
    have g0 := t3.frz 0
    have g1 := t3.frz 1
    have g2 := t3.frz 2
    have v0 := t3.at 0 (v := .int .i64 (m : Int)) rfl
    have v1 := t3.at 1 (v := .int .i64 (Fc : Int)) rfl
    have v2 := t3.at 2 (v := .int .i64 (Ac : Int)) rfl
    have HS3 := Lib.hid s3
    have HT3 := Lib.hid t3
    have HN3 := Lib.hid (N2.out.belowS hb3)
    have HB3 := Lib.hid (B2.out.trans (hb3.mono B2.out.size))
    clear s3 t3 hb3
    go_wp2
    go_roundw
    case rel => exact ⟨q, Fo2, Ao2, Fc2, Ac2, by omega, by go_num, HN.out, HN3.out.oth3 _ _ _ (by omega), HS3.out.oth3 _ _ _ (by omega), HT3.out.set3 _ _ _, below_put3 HB3.out (by omega) _ _ _⟩
    case measure => simp [intOf]; omega
   ·obtain ⟨q, rfl⟩ : ∃ q, k = 2 * q := ⟨k / 2, by omega⟩
    have HC2 := Lib.hid (l03Then_any _ 0 _ 0 m Fc Ac Fc Ac m wr c0 c1 c2 c0 c1 c2 kq.lt kq.lt hm hm2 b3 b4 b3 b4)
    have HN := Lib.hid hP'.out.even
    clear kp kq c0 c1 c2
    generalize thF m Fc Fc = Fc2 at *
    generalize thA m Ac Fc Ac = Ac2 at *
    go_wp2_with fail
    refine HC2.out.mono ?_
    rintro e w3 ⟨rfl, hb3⟩
    have s3 := KP.out.belowS hb3
    have t3 := KQ.out.belowS hb3
    have g0 := t3.frz 0
    have g1 := t3.frz 1
    have g2 := t3.frz 2
    have v0 := t3.at 0 (v := .int .i64 (m : Int)) rfl
    have v1 := t3.at 1 (v := .int .i64 (Fc : Int)) rfl
    have v2 := t3.at 2 (v := .int .i64 (Ac : Int)) rfl
    have HS3 := Lib.hid s3
    have HT3 := Lib.hid t3
    have HN3 := Lib.hid (K0.out.belowS hb3)
    have HB3 := Lib.hid (HB.out.trans (hb3.mono hz))
    clear s3 t3 hb3
    go_wp2
    go_roundw
    case rel => exact ⟨q, Fo, Ao, Fc2, Ac2, by omega, by go_num, HN.out, HN3.out.oth3 _ _ _ (by omega), HS3.out.oth3 _ _ _ (by omega), HT3.out.set3 _ _ _, below_put3 HB3.out (by omega) _ _ _⟩
    case measure => simp [intOf]; omega
set_option maxHeartbeats 1000000 in
set_option maxRecDepth 100000 in
theorem implPower_any (m f a n : Nat) (w : World) (hm : 2 ≤ m) (hm2 : m ≤ 100000) (hf : f < m) (ha : a < m) (hn : n ≤ 1000000000000000000) :
  Calls Tryz.prog 56 #[.agg #[.int .i64 ((m : Nat) : Int), .int .i64 ((f : Nat) : Int), .int .i64 ((a : Nat) : Int)], .int .i64 (n : Int)] w (PowRet m f a n w) := by
 have HI := Lib.hid (PInv.start (n := n) hm hf ha)
 have hm0 : ((m : Int) == 0) = false := by simp; omega
 have h1m : (1 : Int) % (m : Int) = 1 := Int.emod_eq_of_lt (by omega) (by omega)
 go_enter Tryz.func56, Tryz.ntmps56
 go_wp2
 go_region
 all_goals
  go_wp2
  clear h1m
  go_loopw [1] (fun nv wr => PRel m f a n (w.heap.size + 1) (w.heap.size + 1 + 1) w.heap.size w nv wr) (fun nv _ => (intOf nv).toNat)
 case atStart =>
  have B3 := ((((Below.refl w.heap.size w).alloc (Nat.le_refl _) (.cells #[.int .i64 ((m : Nat) : Int), .int .i64 ((f : Nat) : Int), .int .i64 ((a : Nat) : Int)] 27)).alloc (by simp) (.cells #[.int .i64 0, .int .i64 0, .int .i64 0] 27)).alloc (by simp; omega) (.cells #[.int .i64 ((m : Nat) : Int), .int .i64 ((1 : Nat) : Int), .int .i64 ((0 : Nat) : Int)] 27)).drew
  exact ⟨n, 1, 0, f, a, Nat.le_refl _, rfl, HI.out, ((Blk.newAt _ _ (by simp)).alloc _).drew, (Blk.newAt _ _ (by simp)).drew, (((Blk.new _ _ _).alloc _).alloc _).drew, B3⟩
 case round =>
  obtain ⟨k, Fo, Ao, Fc, Ac, hk, rfl, hP, k0, kp, kq, hbel⟩ := hrel
  have K0 := Lib.hid k0
  have KP := Lib.hid kp
  have KQ := Lib.hid kq
  have HB := Lib.hid hbel
  have hlp := kp.lt
  have hP' := Lib.hid hP
  obtain ⟨b1, b2, b3, b4, _⟩ := hP
  have hz := hbel.size
  clear hbel k0
  have p0 := kp.at 0 (v := .int .i64 (m : Int)) rfl
  have p1 := kp.at 1 (v := .int .i64 (Fo : Int)) rfl
  have p2 := kp.at 2 (v := .int .i64 (Ao : Int)) rfl
  by_cases hk0 : k = 0
  ·subst hk0
   have r0 := K0.out.at 0 (v := .int .i64 0) rfl
   have r1 := K0.out.at 1 (v := .int .i64 0) rfl
   have r2 := K0.out.at 2 (v := .int .i64 0) rfl
   have f0 := K0.out.frz 0
   have f1 := K0.out.frz 1
   have f2 := K0.out.frz 2
   clear kp kq
   go_wp2
   have S := K0.out.set3 (.int .i64 (m : Int)) (.int .i64 (Fo : Int)) (.int .i64 (Ao : Int))
   have q0 := S.at 0 rfl
   have q1 := S.at 1 rfl
   have q2 := S.at 2 rfl
   simp only [put3] at q0 q1 q2
   refine bodyPost_ret (v := .agg #[.int .i64 ((m : Nat) : Int), .int .i64 ((Fo : Nat) : Int), .int .i64 ((Ao : Nat) : Int)]) (by simp [results, Tryz.results56, go_sem, q0, q1, q2]) rfl (PowRet.of hm hP'.out.done rfl ?_)
   exact below_put3 HB.out (by simp) _ _ _
  ·have c0 := kq.at 0 (v := .int .i64 (m : Int)) rfl
   have c1 := kq.at 1 (v := .int .i64 (Fc : Int)) rfl
   have c2 := kq.at 2 (v := .int .i64 (Ac : Int)) rfl
   clear kp kq
   by_cases hodd : k % 2 = 1
   ·obtain ⟨q, rfl⟩ : ∃ q, k = 2 * q + 1 := ⟨k / 2, by omega⟩
    have HC := Lib.hid (implThen_any m Fo Ao Fc Ac wr hm hm2 b1 b2 b3 b4)
    have HN := Lib.hid hP'.out.odd
    go_wp2_with fail
    refine HC.out.mono ?_
    rintro e w1 ⟨rfl, hb1⟩
    clear p0 p1 p2 c0 c1 c2
    have s0 := KP.out.belowS hb1
    have t0 := KQ.out.belowS hb1
    have n0 := Lib.hid (K0.out.belowS hb1)
    have hb1' := Lib.hid (HB.out.trans (hb1.mono hz))
    obtain ⟨w2, hw2⟩ : ∃ w2, w2 = put3 w1 (w.heap.size + 1 + 1) (.int .i64 (m : Int)) (.int .i64 (thF m Fo Fc : Nat)) (.int .i64 (thA m Ao Fc Ac : Nat)) := ⟨_, rfl⟩
    have S2 : Blk w2 (w.heap.size + 1 + 1) 27 _ := hw2 ▸ s0.set3 _ _ _
    have T2 : Blk w2 w.heap.size 27 _ := hw2 ▸ t0.oth3 _ _ _ (by omega)
    have N2 := Lib.hid (show Blk w2 (w.heap.size + 1) 27 _ from hw2 ▸ n0.out.oth3 _ _ _ (by omega))
    have B2 := Lib.hid (show Below w.heap.size w w2 from hw2 ▸ below_put3 hb1'.out (by omega) _ _ _)
    have HS2 := Lib.hid S2
    have HT2 := Lib.hid T2
    unfold put3 at hw2
    have HW2 := Lib.hid hw2
    have f0 := s0.frz 0
    have f1 := s0.frz 1
    have f2 := s0.frz 2
    have u0 := s0.at 0 (v := .int .i64 (m : Int)) rfl
    have u1 := s0.at 1 (v := .int .i64 (Fo : Int)) rfl
    have u2 := s0.at 2 (v := .int .i64 (Ao : Int)) rfl
    have c0 := t0.at 0 (v := .int .i64 (m : Int)) rfl
    have c1 := t0.at 1 (v := .int .i64 (Fc : Int)) rfl
    have c2 := t0.at 2 (v := .int .i64 (Ac : Int)) rfl
    have HC2 := Lib.hid (implThen_any m Fc Ac Fc Ac w2 hm hm2 b3 b4 b3 b4)
    clear S2 T2 hw2 s0 t0 hb1
    generalize thF m Fo Fc = Fo2 at *
    generalize thA m Ao Fc Ac = Ao2 at *
    generalize thF m Fc Fc = Fc2 at *
    generalize thA m Ac Fc Ac = Ac2 at *
    go_wp2_with fail
    rw [← HW2.out]
    refine HC2.out.mono ?_
    rintro e w3 ⟨rfl, hb3⟩
    clear c0 c1 c2 u0 u1 u2 f0 f1 f2
    have s3 := HS2.out.belowS hb3
    have t3 := HT2.out.belowS hb3
    have g0 := t3.frz 0
    have g1 := t3.frz 1
    have g2 := t3.frz 2
    have v0 := t3.at 0 (v := .int .i64 (m : Int)) rfl
    have v1 := t3.at 1 (v := .int .i64 (Fc : Int)) rfl
    have v2 := t3.at 2 (v := .int .i64 (Ac : Int)) rfl
    have HS3 := Lib.hid s3
    have HT3 := Lib.hid t3
    have HN3 := Lib.hid (N2.out.belowS hb3)
    have HB3 := Lib.hid (B2.out.trans (hb3.mono B2.out.size))
    clear s3 t3 hb3
    go_wp2
    go_roundw
    case rel => exact ⟨q, Fo2, Ao2, Fc2, Ac2, by omega, by go_num, HN.out, HN3.out.oth3 _ _ _ (by omega), HS3.out.oth3 _ _ _ (by omega), HT3.out.set3 _ _ _, below_put3 HB3.out (by omega) _ _ _⟩
    case measure => simp [intOf]; omega
   ·obtain ⟨q, rfl⟩ : ∃ q, k = 2 * q := ⟨k / 2, by omega⟩
    have HC2 := Lib.hid (implThen_any m Fc Ac Fc Ac wr hm hm2 b3 b4 b3 b4)
    have HN := Lib.hid hP'.out.even
    generalize thF m Fc Fc = Fc2 at *
    generalize thA m Ac Fc Ac = Ac2 at *
    go_wp2_with fail
    refine HC2.out.mono ?_
    rintro e w3 ⟨rfl, hb3⟩
    clear p0 p1 p2 c0 c1 c2
    have s3 := KP.out.belowS hb3
    have t3 := KQ.out.belowS hb3
    have g0 := t3.frz 0
    have g1 := t3.frz 1
    have g2 := t3.frz 2
    have v0 := t3.at 0 (v := .int .i64 (m : Int)) rfl
    have v1 := t3.at 1 (v := .int .i64 (Fc : Int)) rfl
    have v2 := t3.at 2 (v := .int .i64 (Ac : Int)) rfl
    have HS3 := Lib.hid s3
    have HT3 := Lib.hid t3
    have HN3 := Lib.hid (K0.out.belowS hb3)
    have HB3 := Lib.hid (HB.out.trans (hb3.mono hz))
    clear s3 t3 hb3
    go_wp2
    go_roundw
    case rel => exact ⟨q, Fo, Ao, Fc2, Ac2, by omega, by go_num, HN.out, HN3.out.oth3 _ _ _ (by omega), HS3.out.oth3 _ _ _ (by omega), HT3.out.set3 _ _ _, below_put3 HB3.out (by omega) _ _ _⟩
    case measure => simp [intOf]; omega
end Go.Proofs.YthagenodiofgnaaGreatDoor.Pow
