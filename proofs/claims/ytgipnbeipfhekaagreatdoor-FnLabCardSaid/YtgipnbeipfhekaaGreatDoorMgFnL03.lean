/- The stream after many steps: l11Skip, skip, SkipStream; the law. -/
import Derived.Test.YtgipnbeipfhekaaGreatDoorMgFnL00
import Derived.Test.YtgipnbeipfhekaaGreatDoorMgFnL02
import Derived.Test.YtgipnbeipfhekaaGreatDoorMgFnL01
import Derived.Lib.ItoaNum
import Derived.Lib.UnsafeStr
import Derived.Lib.AppendIntMem
import Derived.Laws.IdiomStrings
import Derived.Lib.BufferRead
import Derived.Shelf.Lay
import Derived.Shelf.Strconv.Itoa4
import Derived.Laws.Concat
import Derived.Deep.RegionWith
set_option linter.unusedVariables false
set_option linter.unusedSimpArgs false
set_option maxRecDepth 100000
set_option maxHeartbeats 2000000
namespace Go.Proofs.YtgipnbeipfhekaaGreatDoor
namespace Skip
open Go.RowKit Base Mem Reg Str Take Blk YtgipnbeipfhekaaGreatDoor.Pow
theorem natsN {K W T m f a s c : Int} (hB : streamB K W T m f a s = true) (hc : 0 ≤ c ∧ c ≤ 1000000000000000000) : ∃ X N : Nat, s = X ∧ c = N ∧ N ≤ 1000000000000000000 ∧
  ((K = 0 ∧ ∃ V A : Nat, W = V ∧ T = A ∧ V ≤ 16 ∧ A < 2 ^ V ∧ X < 2 ^ V) ∨ (K = 1 ∧ ∃ M F A : Nat, m = M ∧ f = F ∧ a = A ∧ 2 ≤ M ∧ M ≤ 100000 ∧ F < M ∧ A < M ∧ X < M)) := by
 rcases streamB_true hB with ⟨rfl, hR⟩ | ⟨rfl, hC⟩
 ·obtain ⟨h1, h2, h3, h4, h5, h6⟩ := Reg.bothR_true hR
  have ep : ((2 ^ W.toNat : Nat) : Int) = (2 : Int) ^ W.toNat := by simp
  exact ⟨s.toNat, c.toNat, by omega, by omega, by omega, .inl ⟨rfl, W.toNat, T.toNat, by omega, by omega, by omega, by omega, by omega⟩⟩
 ·obtain ⟨h1, h2, h3, h4, h5, h6, h7', h8⟩ := Cong.bothB_true hC
  exact ⟨s.toNat, c.toNat, by omega, by omega, by omega, .inr ⟨rfl, m.toNat, f.toNat, a.toNat, by omega, by omega, by omega, by omega, by omega, by omega, by omega, by omega⟩⟩
def SkipR (K W T m f a s c : Int) (w : World) (e : Ending) (w' : World) : Prop := e = .returned (.agg #[.int .i64 K, .int .i64 W, .int .i64 T, .int .i64 m, .int .i64 f, .int .i64 a, .int .i64 (takeX K W T m f a s c)]) ∧ Below w.heap.size w w'
def SkR (K W T m f a y : Int) (w : World) (e : Ending) (w' : World) : Prop := e = .returned (.agg #[.int .i64 K, .int .i64 W, .int .i64 T, .int .i64 m, .int .i64 f, .int .i64 a, .int .i64 y]) ∧ Below w.heap.size w w'
theorem two (w : World) (K W T m f a s : Int) : ∃ W1, W1 = (w.alloc (.cells #[.int .i64 K, .int .i64 W, .int .i64 T, .int .i64 m, .int .i64 f, .int .i64 a, .int .i64 s] 29)).alloc (.cells #[.int .i64 0, .int .i64 0, .int .i64 0, .int .i64 0, .int .i64 0, .int .i64 0, .int .i64 0] 29) ∧ SBox W1 w.heap.size K W T m f a s ∧ SBox W1 (w.heap.size + 1) 0 0 0 0 0 0 0 ∧ Below w.heap.size w W1 := by
 refine ⟨_, rfl, ?_, ?_, ((Below.refl _ _).alloc (Nat.le_refl _) _).alloc (by simp) _⟩
 ·exact (SBox.new w K W T m f a s).below ((Below.refl (w.heap.size + 1) _).alloc (by simp) (.cells #[.int .i64 0, .int .i64 0, .int .i64 0, .int .i64 0, .int .i64 0, .int .i64 0, .int .i64 0] 29)) (Nat.lt_succ_self _)
 ·have := SBox.new (w.alloc (.cells #[.int .i64 K, .int .i64 W, .int .i64 T, .int .i64 m, .int .i64 f, .int .i64 a, .int .i64 s] 29)) 0 0 0 0 0 0 0
  rw [World.size_alloc] at this
  exact this
theorem below_set7 {B b : Nat} {w0 w : World} (h : Below B w0 w) (hB : B ≤ b) (hs : B ≤ w.heap.size) (K W T m f a s : Int) : Below B w0 (set7 w b K W T m f a s) :=
 h.trans (grown_below (grown_set7 w b K W T m f a s) (fun g e => by cases e; exact hB) hs)
theorem SBox.other {w : World} {b : Nat} {K W T m f a s : Int} (h : SBox w b K W T m f a s) {p : Addr} (v : Value) (hne : p.block ≠ b) : SBox (w.setCell p v) b K W T m f a s := h.kept (Src.grown_setCell w p v) fun e => hne (Option.some.inj e)
theorem implSkip_reg (W T x n m f a y : Int) (w : World) (HJ : Hid (∀ w, Calls Tryz.prog 71 #[.agg #[.int .i64 W, .int .i64 T], .int .i64 x, .int .i64 n] w fun e w' => e = .returned (.int .i64 y) ∧ Below w.heap.size w w')) :
  Calls Tryz.prog 33 #[.agg #[.int .i64 0, .int .i64 W, .int .i64 T, .int .i64 m, .int .i64 f, .int .i64 a, .int .i64 x], .int .i64 n] w (SkR 0 W T m f a y w) := by
 obtain ⟨W1, hW1, S, R, B⟩ := two w 0 W T m f a x
 have HW := J hW1
 have HS := J S
 have HR := J R
 have HB := J B
 clear hW1 S R B
 go_enter Tryz.func33, Tryz.ntmps33
 go_wp2_with fail
 rw [← HW.out]
 refine (HJ.out _).mono ?_
 rintro e w1 ⟨rfl, hb1⟩
 have t0 := HS.out.below hb1 HS.out.lt
 have r0 := HR.out.below hb1 HR.out.lt
 have c0 := (t0).c0; have c1 := (t0).c1; have c2 := (t0).c2; have c3 := (t0).c3; have c4 := (t0).c4; have c5 := (t0).c5; have c6 := (t0).c6
 have d0 := (r0).c0; have d1 := (r0).c1; have d2 := (r0).c2; have d3 := (r0).c3; have d4 := (r0).c4; have d5 := (r0).c5; have d6 := (r0).c6
 have g0 := (r0).frz 0; have g1 := (r0).frz 1; have g2 := (r0).frz 2; have g3 := (r0).frz 3; have g4 := (r0).frz 4; have g5 := (r0).frz 5; have g6 := (r0).frz 6
 have f6 := t0.frz 6
 have B1 := HB.out.trans (hb1.mono HB.out.size)
 have t1 := t0.set6 y
 have r1 := SBox.other r0 (p := ⟨w.heap.size, 6, none⟩) (.int .i64 y) (by simp)
 have S8 := r1.set7 0 W T m f a y
 have p0 := (S8).c0; have p1 := (S8).c1; have p2 := (S8).c2; have p3 := (S8).c3; have p4 := (S8).c4; have p5 := (S8).c5; have p6 := (S8).c6
 simp only [set7] at p0 p1 p2 p3 p4 p5 p6
 have hz1 := r0.lt
 have HB2 := J (below_set7 (b := w.heap.size + 1) (B1.setCell (p := ⟨w.heap.size, 6, none⟩) (Nat.le_refl _) (.int .i64 y)) (Nat.le_succ _) (by simp; omega) 0 W T m f a y)
 clear S8 r1 t1 t0 r0 B1 hb1
 go_wp2
 exact bodyPost_ret (v := .agg #[.int .i64 0, .int .i64 W, .int .i64 T, .int .i64 m, .int .i64 f, .int .i64 a, .int .i64 y]) (by simp [results, Tryz.results33, go_sem, p0, p1, p2, p3, p4, p5, p6]) rfl ⟨rfl, HB2.out⟩
theorem implSkip_con (m f a x n : Nat) (W T : Int) {y : Int} (w : World) (hm : 2 ≤ m) (hm2 : m ≤ 100000) (hf : f < m) (ha : a < m) (hx : x < m) (hn : n ≤ 1000000000000000000) (hy : ((CycM.iter (Cong.stepN m f a) x n : Nat) : Int) = y) :
  Calls Tryz.prog 33 #[.agg #[.int .i64 1, .int .i64 W, .int .i64 T, .int .i64 m, .int .i64 f, .int .i64 a, .int .i64 x], .int .i64 n] w (SkR 1 W T m f a y w) := by
 obtain ⟨W1, hW1, S, R, B⟩ := two w 1 W T m f a x
 have hp := powOf (f := f) (a := a) hm n
 have hy2 : ((Cong.stepN m (powF m f a n) (powA m f a n) x : Nat) : Int) = y := by rw [hp.2.2 x hx]; exact hy
 have HC := J (fun w => implPower_any m f a n w hm hm2 hf ha hn)
 have HC2 := J (fun w => Cong.congStep_any m (powF m f a n) (powA m f a n) x w hm hm2 hp.1 hp.2.1 hx)
 rw [hy2] at HC2
 have HW := J hW1
 have HS := J S
 have HR := J R
 have HB := J B
 unfold PowRet at HC
 clear hp
 generalize powF m f a n = F at *
 generalize powA m f a n = A at *
 clear hW1 S R B hy hy2
 go_enter Tryz.func33, Tryz.ntmps33
 go_wp2_with fail
 rw [← HW.out]
 (refine Tail.wp_region_below_tail 8 (by kernel_rfl) (by kernel_rfl) ?_; simp only [List.take_succ_cons, List.take_zero, List.drop_succ_cons, List.drop_zero]; (repeat (first | go_big_quiet_skip | (go_big_quiet_want; go_big_quiet_op; first | go_big_quiet_on | (refine ⟨_, fun _ _ => rfl, ?_⟩; go_big_quiet_on) | (apply Exists.intro; refine ⟨fun wq hq => ?_, ?_⟩; (have c3 := (HS.out.below hq HS.out.lt).c3; have c4 := (HS.out.below hq HS.out.lt).c4; have c5 := (HS.out.below hq HS.out.lt).c5; have c6 := (HS.out.below hq HS.out.lt).c6; first | (go_simp; done) | (go_simp; rfl) | (first | (go_at_call 72; refine (HC.out _).mono ?_; rintro e w1 ⟨rfl, hb1⟩; exact ⟨rfl, Base.Below.nextA hq hb1⟩) | (go_at_call 69; refine (HC2.out _).mono ?_; rintro e w1 ⟨rfl, hb1⟩; exact ⟨rfl, Base.Below.nextA hq hb1⟩))); go_big_quiet_on)))); refine wpQuiet_nil ?_; intro wq hq)
 have t2 := HS.out.below hq HS.out.lt
 have r2 := HR.out.below hq HR.out.lt
 have B2 := HB.out.trans (hq.mono HB.out.size)
 have c0 := (t2).c0; have c1 := (t2).c1; have c2 := (t2).c2; have c3 := (t2).c3; have c4 := (t2).c4; have c5 := (t2).c5; have c6 := (t2).c6
 have d0 := (r2).c0; have d1 := (r2).c1; have d2 := (r2).c2; have d3 := (r2).c3; have d4 := (r2).c4; have d5 := (r2).c5; have d6 := (r2).c6
 have g0 := (r2).frz 0; have g1 := (r2).frz 1; have g2 := (r2).frz 2; have g3 := (r2).frz 3; have g4 := (r2).frz 4; have g5 := (r2).frz 5; have g6 := (r2).frz 6
 have f6 := t2.frz 6
 have r3 := SBox.other r2 (p := ⟨w.heap.size, 6, none⟩) (.int .i64 y) (by simp)
 have S8 := r3.set7 1 W T m f a y
 have p0 := (S8).c0; have p1 := (S8).c1; have p2 := (S8).c2; have p3 := (S8).c3; have p4 := (S8).c4; have p5 := (S8).c5; have p6 := (S8).c6
 simp only [set7] at p0 p1 p2 p3 p4 p5 p6
 have hz2 := r2.lt
 have HB2 := J (below_set7 (b := w.heap.size + 1) (B2.setCell (p := ⟨w.heap.size, 6, none⟩) (Nat.le_refl _) (.int .i64 y)) (Nat.le_succ _) (by simp; omega) 1 W T m f a y)
 clear S8 r3 r2 t2 B2 hq
 go_wp2
 exact bodyPost_ret (v := .agg #[.int .i64 1, .int .i64 W, .int .i64 T, .int .i64 m, .int .i64 f, .int .i64 a, .int .i64 y]) (by simp [results, Tryz.results33, go_sem, p0, p1, p2, p3, p4, p5, p6]) rfl ⟨rfl, HB2.out⟩
theorem takeX_r (V A X N : Nat) (m f a : Int) : takeX 0 V A m f a X N = ((CycM.iter (nextR V A) X N : Nat) : Int) := by simp [takeX]
theorem takeX_c (M F A X N : Nat) (W T : Int) : takeX 1 W T M F A X N = ((CycM.iter (Cong.stepN M F A) X N : Nat) : Int) := by simp [takeX]
theorem implSkip_yes {K W T m f a s c : Int} (hB : streamB K W T m f a s = true) (hc : 0 ≤ c ∧ c ≤ 1000000000000000000) (w : World) : Calls Tryz.prog 33 #[.agg #[.int .i64 K, .int .i64 W, .int .i64 T, .int .i64 m, .int .i64 f, .int .i64 a, .int .i64 s], .int .i64 c] w (SkipR K W T m f a s c w) := by
 obtain ⟨X, N, rfl, rfl, hN, ⟨rfl, V, A, rfl, rfl, hV, hA, hX⟩ | ⟨rfl, M, F, A, rfl, rfl, rfl, h1, h2, h3, h4, h5⟩⟩ := natsN hB hc
 ·exact implSkip_reg V A X N m f a _ w (J fun w => by rw [takeX_r]; exact Jump.jumpR_any V A X N w hV hA hX hN)
 ·exact implSkip_con M F A X N W T w h1 h2 h3 h4 h5 hN (takeX_c M F A X N W T).symm
end Skip
namespace Draw
open Go.RowKit Base Mem YtgipnbeipfhekaaGreatDoor.Src Blk YtgipnbeipfhekaaGreatDoor.Pow
end Draw
namespace Hd
open CycM
def S (f : Nat) : Nat → Nat
 | 0 => 0
 | n + 1 => f * S f n + 1
theorem reach {m j n : Nat} {T : Nat → Nat} (hm : 2 ≤ m) (hT : ∀ s, T s < m) (h : IsCyc T 0 j n) (hf : n - j = m) (y : Nat) (hy : y < m) : ∃ k, 1 ≤ k ∧ iter T 0 k = y := by
 have hle := h.le (M := m) (fun s _ => hT s) (by omega)
 obtain ⟨h1, h2, h3⟩ := h
 obtain rfl : j = 0 := by omega
 obtain rfl : n = m := by omega
 rcases Classical.em (∃ k, k < n ∧ iter T 0 k = y) with ⟨k, hk, e⟩ | hno
 ·rcases Nat.eq_zero_or_pos k with h0 | h0
  ·subst h0
   exact ⟨n, by omega, h2.symm.trans e⟩
  ·exact ⟨k, h0, e⟩
 ·have hlt : ∀ k, iter T 0 k < n := iter_lt (fun s _ => hT s) (by omega)
  have := pigeon n (n + 1) (fun i => if i < n then iter T 0 i else y) (fun i hi => by
   show (if i < n then iter T 0 i else y) < n
   split
   ·exact hlt i
   ·exact hy) (fun a b hab hb => by
   show (if a < n then iter T 0 a else y) ≠ (if b < n then iter T 0 b else y)
   rw [if_pos (by omega)]
   split
   ·exact h3 a b hab (by assumption)
   ·exact fun e => hno ⟨a, by omega, e⟩)
  omega
end Hd
namespace Cycled
open Go.RowKit Base Mem YtgipnbeipfhekaaGreatDoor.Src Blk YtgipnbeipfhekaaGreatDoor.Pow Cong CycM Draw
theorem cyc_or {T : Nat → Nat} {x : Nat} : ∀ k, (∃ j n, IsCyc T x j n) ∨ ∀ a b, a < b → b < k → iter T x a ≠ iter T x b
 | 0 => .inr fun a b _ h => absurd h (Nat.not_lt_zero b)
 | k + 1 => by
  rcases cyc_or (T := T) (x := x) k with h | h
  ·exact .inl h
  ·by_cases hj : ∃ j, j < k ∧ iter T x j = iter T x k
   ·obtain ⟨j, h1, h2⟩ := hj
    exact .inl ⟨j, k, h1, h2, h⟩
   ·refine .inr fun a b hab hb => ?_
    rcases Nat.lt_or_ge b k with h1 | h1
    ·exact h a b hab h1
    ·obtain rfl : b = k := by omega
     exact fun e => hj ⟨a, hab, e⟩
theorem cyc_ex {T : Nat → Nat} {M x : Nat} (hT : ∀ s, s < M → T s < M) (hx : x < M) : ∃ j n, IsCyc T x j n := by
 rcases cyc_or (T := T) (x := x) (M + 1) with h | h
 ·exact h
 ·have := pigeon M (M + 1) (iter T x) (fun i _ => iter_lt hT hx i) h
  omega
theorem bothB_yes {m f a x : Nat} (hm : 2 ≤ m) (hm2 : m ≤ 100000) (hf : f < m) (ha : a < m) (hx : x < m) : bothB m f a x = true := by
 rw [bothB, congB, inR_yes (by omega), inR_yes (by omega), inR_yes (by omega), inR_yes (by omega)]; rfl
def longB (n n' : Nat) : Bool := decide ((n : Int) > 1048576) || decide ((n' : Int) > 1048576)
theorem b10Long_any (A A' : Option Addr) (n c n' c' : Nat) (w : World) :
  Calls Tryz.prog 5 #[.slice A n c, .slice A' n' c'] w fun e w' => e = .returned (.bool (longB n n')) ∧ w = w' := by
 by_cases h1 : (n : Int) > 1048576
 ·go_enter Tryz.func5, Tryz.ntmps5
  go_wp2
  go_ret
  exact ⟨ret_bool (by simp only [longB, decide_eq_true h1, Bool.true_or]), rfl⟩
 ·go_enter Tryz.func5, Tryz.ntmps5
  go_wp2
  go_ret
  exact ⟨ret_bool (by rw [longB, decide_eq_false (show ¬ (n : Int) > 1048576 by omega), Bool.false_or]), rfl⟩
end Cycled
namespace Draw
open Go.RowKit Base Mem YtgipnbeipfhekaaGreatDoor.Src Blk Str Take
def StrRet (p K : Nat) (w : World) (e : Ending) (w' : World) : Prop := ∃ C W T m f a s : Int, streamB C W T m f a s = true ∧ e = .returned (.agg #[.int .i64 C, .int .i64 W, .int .i64 T, .int .i64 m, .int .i64 f, .int .i64 a, .int .i64 s]) ∧ Src w' p K ∧ Beside p w w'
theorem rowed {p b : Nat} {w w1 w2 : World} (h : Beside p w w1) (g : w1.grownBy w2 (some b)) (hb : w.heap.size ≤ b) : Beside p w w2 :=
 ⟨g.os.trans h.os, g.tape.trans h.tape, g.output.trans h.output, Nat.le_trans h.size g.size, fun q h1 h2 => (g.block q (Nat.lt_of_lt_of_le h1 h.size) fun e => by have := Option.some.inj e; omega).trans (h.same q h1 h2)⟩
theorem regStream {V T X : Nat} (hV : V ≤ 16) (hT : T < 2 ^ V) (hX : X < 2 ^ V) : streamB 0 V T 0 0 0 X = true := by
 unfold streamB
 rw [if_pos rfl, Jump.bothR_yes hV hT hX]
 decide
theorem conStream {m f a X : Nat} (hm : 2 ≤ m) (hm2 : m ≤ 100000) (hf : f < m) (ha : a < m) (hX : X < m) : streamB 1 0 0 m f a X = true := by
 unfold streamB
 rw [if_neg (show ¬ (1 : Int) = 0 by decide), if_pos rfl, Cycled.bothB_yes hm hm2 hf ha hX]
 decide
theorem shlN {V : Nat} (hV : V ≤ 16) : IntKind.i64.wrap (2 ^ min (IntKind.u64.wrap (V : Int)).toNat 64) = ((2 ^ V : Nat) : Int) := by
 have e : min (IntKind.u64.wrap (V : Int)).toNat 64 = V := by
  rw [IntKind.wrap_u64]; omega
 have hp : 2 ^ V ≤ 2 ^ 16 := Nat.pow_le_pow_right (by decide) hV
 rw [e, show (2 : Int) ^ V = ((2 ^ V : Nat) : Int) by simp]
 generalize 2 ^ V = N at *
 rw [IntKind.wrap_i64]; omega
theorem EndS {p K : Nat} {C W T m f a s : Int} {w w8 : World} (hB : streamB C W T m f a s = true) (hb : Beside p w w8) (hr : SBox w8 w.heap.size 0 0 0 0 0 0 0) (hs : Src w8 p K) (hp : p < w.heap.size) :
  let w9 := set7 w8 w.heap.size C W T m f a s
  SBox w9 w.heap.size C W T m f a s ∧ StrRet p K w (.returned (.agg #[.int .i64 C, .int .i64 W, .int .i64 T, .int .i64 m, .int .i64 f, .int .i64 a, .int .i64 s])) w9 := by
 have g := grown_set7 w8 w.heap.size C W T m f a s
 exact ⟨hr.set7 C W T m f a s, C, W, T, m, f, a, s, hB, rfl, hs.kept g (fun q e => by cases e; exact hp), rowed hb g (Nat.le_refl _)⟩
theorem off7 {w : World} {b q i : Nat} {v v0 v1 v2 v3 v4 v5 v6 : Value} (h : w.cell? ⟨b, i, none⟩ = some v) (hne : q ≠ b) : (((((((w.setCell ⟨q, 0, none⟩ v0).setCell ⟨q, 1, none⟩ v1).setCell ⟨q, 2, none⟩ v2).setCell ⟨q, 3, none⟩ v3).setCell ⟨q, 4, none⟩ v4).setCell ⟨q, 5, none⟩ v5).setCell ⟨q, 6, none⟩ v6).cell? ⟨b, i, none⟩ = some v := by
 have hn : ∀ j, (⟨q, j, none⟩ : Addr) ≠ ⟨b, i, none⟩ := fun j e => hne (congrArg Addr.block e)
 rw [World.cell?_setCell_other _ _ _ _ (hn 6), World.cell?_setCell_other _ _ _ _ (hn 5), World.cell?_setCell_other _ _ _ _ (hn 4), World.cell?_setCell_other _ _ _ _ (hn 3), World.cell?_setCell_other _ _ _ _ (hn 2), World.cell?_setCell_other _ _ _ _ (hn 1), World.cell?_setCell_other _ _ _ _ (hn 0)]
 exact h
theorem l11DrawOk_any (p K : Nat) (w : World) (h : Src w p K) (hK : K ≤ 10000000000) :
  Calls Tryz.prog 28 #[.pointer (some ⟨p, 0, none⟩)] w (StrRet p (K + 16) w) := by
 have hp := h.lt
 obtain ⟨W0, hW0⟩ : ∃ W0, W0 = w.alloc (.cells #[.int .i64 0, .int .i64 0, .int .i64 0, .int .i64 0, .int .i64 0, .int .i64 0, .int .i64 0] 29) := ⟨_, rfl⟩
 have B0 : Beside p w W0 := by rw [hW0]; exact (Beside.refl p w).alloc _
 have R0 : SBox W0 w.heap.size 0 0 0 0 0 0 0 := by rw [hW0]; exact SBox.new _ _ _ _ _ _ _ _
 have S0 : Src W0 p K := by rw [hW0]; exact h.below ((Below.refl _ _).alloc (Nat.le_refl _) _)
 have HW := J hW0
 have HB0 := J B0
 have HR0 := J R0
 have HP := J (one_any p K 2 W0 S0 (by omega))
 clear hW0 B0 R0 S0 h
 go_enter Tryz.func28, Tryz.ntmps28
 go_wp2_with fail
 rw [← HW.out]
 refine HP.out.mono ?_
 rintro e w1 ⟨r1, rfl, s1, g1⟩
 have B1 := HB0.out.trans (Beside.grown g1)
 have R1 := HR0.out.kept g1 (fun e => by have := Option.some.inj e; omega)
 have hz1 := R1.lt
 have HR1 := J R1
 have HB1 := J B1
 have HS1 := J s1
 clear s1 g1 R1 B1 HR0 HB0 HW
 cases r1 with
 | true =>
  have HD := J (l02DrawOk_any p (K + 2) w1 HS1.out (by omega))
  go_wp2_with fail
  refine HD.out.mono ?_
  rintro e w2 ⟨V, T, hV, hT, rfl, s2, b2⟩
  have hpw := J (wrap_pow hV)
  have B2 := HB1.out.trans b2
  have R2 : SBox w2 w.heap.size 0 0 0 0 0 0 0 := Blk.beside (t := 29) HR1.out b2 (by omega)
  obtain ⟨W2, hW2⟩ : ∃ W2, W2 = w2.alloc (.cells #[.int .i64 ((V : Nat) : Int), .int .i64 ((T : Nat) : Int)] 25) := ⟨_, rfl⟩
  have hz2 : w.heap.size < w2.heap.size := SBox.lt R2
  have B3 : Beside p w W2 := by rw [hW2]; exact B2.alloc _
  have R3 : SBox W2 w.heap.size 0 0 0 0 0 0 0 := by rw [hW2]; exact Blk.alloc (t := 29) R2 _
  have N3 : Blk W2 w2.heap.size 25 #[.int .i64 ((V : Nat) : Int), .int .i64 ((T : Nat) : Int)] := by rw [hW2]; exact Blk.new _ _ _
  have S3 : Src W2 p (K + 14) := by rw [hW2]; exact s2.below ((Below.refl _ _).alloc (Nat.le_refl _) _)
  have HW2 := J hW2
  have HB3 := J B3
  have HR3 := J R3
  have HN3 := J N3
  have HSd := J (show Src W2.drew p (K + 14) from S3.below (Below.refl _ _).drew)
  have c0 := N3.at 0 (v := .int .i64 (V : Int)) rfl
  have c1 := N3.at 1 (v := .int .i64 (T : Int)) rfl
  have d0 : W2.drew.cell? ⟨w2.heap.size, 0, none⟩ = some (.int .i64 (V : Int)) := c0
  have d1 : W2.drew.cell? ⟨w2.heap.size, 1, none⟩ = some (.int .i64 (T : Int)) := c1
  obtain ⟨b, hb⟩ : ∃ b, b = w2.heap.size := ⟨_, rfl⟩
  rw [← hb] at c0 c1 d0 d1 HN3
  have hbn : b ≠ p := by omega
  have hnb : w.heap.size ≠ b := by omega
  have hnb' : b ≠ w.heap.size := by omega
  have FA : Hid (∀ w6, W2.drew.grownBy w6 (some p) → w6.cell? ⟨b, 0, none⟩ = some (.int .i64 (V : Int)) ∧ w6.cell? ⟨b, 1, none⟩ = some (.int .i64 (T : Int)) ∧ Hid (Beside p w w6) ∧ Hid (SBox w6 w.heap.size 0 0 0 0 0 0 0)) := J fun w6 g => by
   have n := HN3.out.drew.src g hbn
   exact ⟨n.at 0 rfl, n.at 1 rfl, J (HB3.out.drew.trans (Beside.grown g)), J (Blk.src (t := 29) (Blk.drew (t := 29) HR3.out) g (by omega))⟩
  have hb' := J hb
  clear hW2 B3 R3 N3 S3 b2 B2 R2 s2 hb
  go_wp2_with fail
  rw [← hb'.out, ← HW2.out]
  go_region_held3 (fun w' => w'.cell? ⟨b, 0, none⟩ = some (.int .i64 (V : Int)) ∧ w'.cell? ⟨b, 1, none⟩ = some (.int .i64 (T : Int)))
   (first
    | go_keep
    | exact ⟨k0, k1⟩
    | exact ⟨off7 k0 hnb, off7 k1 hnb⟩)
   (first
    | (go_at_call 60; refine (pick_any p (K + 14) _ _ HSd.out (by omega)).mono ?_; rintro e w6 ⟨x, rfl, hx, s6, g6⟩; obtain ⟨k0, k1, hb6, hr6⟩ := FA.out w6 g6; have HS6 := J s6; clear s6 g6; have q0 := (hr6.out).c0; have q1 := (hr6.out).c1; have q2 := (hr6.out).c2; have q3 := (hr6.out).c3; have q4 := (hr6.out).c4; have q5 := (hr6.out).c5; have q6 := (hr6.out).c6; have z0 := (hr6.out).frz 0; have z1 := (hr6.out).frz 1; have z2 := (hr6.out).frz 2; have z3 := (hr6.out).frz 3; have z4 := (hr6.out).frz 4; have z5 := (hr6.out).frz 5; have z6 := (hr6.out).frz 6))
  all_goals
   have hx2 : x < 2 ^ V := by
    have := Nat.two_pow_pos V
    rw [shlN hV] at hx
    omega
   obtain ⟨hS, hR⟩ := EndS (regStream hV hT hx2) hb6.out hr6.out HS6.out hp
   have q0 := (hS).c0; have q1 := (hS).c1; have q2 := (hS).c2; have q3 := (hS).c3; have q4 := (hS).c4; have q5 := (hS).c5; have q6 := (hS).c6
   simp only [set7] at q0 q1 q2 q3 q4 q5 q6
   have HR := J hR
   clear hR hS
   go_wp2
   exact bodyPost_ret (v := .agg #[.int .i64 0, .int .i64 V, .int .i64 T, .int .i64 0, .int .i64 0, .int .i64 0, .int .i64 x]) (by simp [results, Tryz.results28, go_sem, q0, q1, q2, q3, q4, q5, q6]) rfl HR.out
 | false =>
  have HD := J (l03DrawOk_any p (K + 2) w1 HS1.out (by omega))
  go_wp2_with fail
  refine HD.out.mono ?_
  rintro e w2 ⟨m, f, a, hm, hm2, hf, ha, rfl, s2, b2⟩
  have B2 := HB1.out.trans b2
  have R2 : SBox w2 w.heap.size 0 0 0 0 0 0 0 := Blk.beside (t := 29) HR1.out b2 (by omega)
  obtain ⟨W2, hW2⟩ : ∃ W2, W2 = w2.alloc (.cells #[.int .i64 ((m : Nat) : Int), .int .i64 ((f : Nat) : Int), .int .i64 ((a : Nat) : Int)] 27) := ⟨_, rfl⟩
  have hz2 : w.heap.size < w2.heap.size := SBox.lt R2
  have B3 : Beside p w W2 := by rw [hW2]; exact B2.alloc _
  have R3 : SBox W2 w.heap.size 0 0 0 0 0 0 0 := by rw [hW2]; exact Blk.alloc (t := 29) R2 _
  have N3 : Blk W2 w2.heap.size 27 #[.int .i64 ((m : Nat) : Int), .int .i64 ((f : Nat) : Int), .int .i64 ((a : Nat) : Int)] := by rw [hW2]; exact Blk.new _ _ _
  have S3 : Src W2 p (K + 14) := by rw [hW2]; exact s2.below ((Below.refl _ _).alloc (Nat.le_refl _) _)
  have HW2 := J hW2
  have HB3 := J B3
  have HR3 := J R3
  have HN3 := J N3
  have HSd := J (show Src W2.drew p (K + 14) from S3.below (Below.refl _ _).drew)
  have c0 := N3.at 0 (v := .int .i64 (m : Int)) rfl
  have c1 := N3.at 1 (v := .int .i64 (f : Int)) rfl
  have c2 := N3.at 2 (v := .int .i64 (a : Int)) rfl
  have d0 : W2.drew.cell? ⟨w2.heap.size, 0, none⟩ = some (.int .i64 (m : Int)) := c0
  have d1 : W2.drew.cell? ⟨w2.heap.size, 1, none⟩ = some (.int .i64 (f : Int)) := c1
  have d2 : W2.drew.cell? ⟨w2.heap.size, 2, none⟩ = some (.int .i64 (a : Int)) := c2
  obtain ⟨b, hb⟩ : ∃ b, b = w2.heap.size := ⟨_, rfl⟩
  rw [← hb] at c0 c1 c2 d0 d1 d2 HN3
  have hbn : b ≠ p := by omega
  have hnb : w.heap.size ≠ b := by omega
  have hnb' : b ≠ w.heap.size := by omega
  have FA : Hid (∀ w6, W2.drew.grownBy w6 (some p) → w6.cell? ⟨b, 0, none⟩ = some (.int .i64 (m : Int)) ∧ w6.cell? ⟨b, 1, none⟩ = some (.int .i64 (f : Int)) ∧ w6.cell? ⟨b, 2, none⟩ = some (.int .i64 (a : Int)) ∧ Hid (Beside p w w6) ∧ Hid (SBox w6 w.heap.size 0 0 0 0 0 0 0)) := J fun w6 g => by
   have n := HN3.out.drew.src g hbn
   exact ⟨n.at 0 rfl, n.at 1 rfl, n.at 2 rfl, J (HB3.out.drew.trans (Beside.grown g)), J (Blk.src (t := 29) (Blk.drew (t := 29) HR3.out) g (by omega))⟩
  have hb' := J hb
  clear hW2 B3 R3 N3 S3 b2 B2 R2 s2 hb
  go_wp2_with fail
  rw [← hb'.out, ← HW2.out]
  go_region_held3 (fun w' => w'.cell? ⟨b, 0, none⟩ = some (.int .i64 (m : Int)) ∧ w'.cell? ⟨b, 1, none⟩ = some (.int .i64 (f : Int)) ∧ w'.cell? ⟨b, 2, none⟩ = some (.int .i64 (a : Int)))
   (first
    | go_keep
    | exact ⟨k0, k1, k2⟩
    | exact ⟨off7 k0 hnb, off7 k1 hnb, off7 k2 hnb⟩)
   (first
    | (go_at_call 60; refine (pick_any p (K + 14) _ _ HSd.out (by omega)).mono ?_; rintro e w6 ⟨x, rfl, hx, s6, g6⟩; obtain ⟨k0, k1, k2, hb6, hr6⟩ := FA.out w6 g6; have HS6 := J s6; clear s6 g6; have q0 := (hr6.out).c0; have q1 := (hr6.out).c1; have q2 := (hr6.out).c2; have q3 := (hr6.out).c3; have q4 := (hr6.out).c4; have q5 := (hr6.out).c5; have q6 := (hr6.out).c6; have z0 := (hr6.out).frz 0; have z1 := (hr6.out).frz 1; have z2 := (hr6.out).frz 2; have z3 := (hr6.out).frz 3; have z4 := (hr6.out).frz 4; have z5 := (hr6.out).frz 5; have z6 := (hr6.out).frz 6))
  all_goals
   have hx2 : x < m := by omega
   obtain ⟨hS, hR⟩ := EndS (conStream hm (by omega) hf ha hx2) hb6.out hr6.out HS6.out hp
   have q0 := (hS).c0; have q1 := (hS).c1; have q2 := (hS).c2; have q3 := (hS).c3; have q4 := (hS).c4; have q5 := (hS).c5; have q6 := (hS).c6
   simp only [set7] at q0 q1 q2 q3 q4 q5 q6
   have HR := J hR
   clear hR hS
   go_wp2
   exact bodyPost_ret (v := .agg #[.int .i64 1, .int .i64 0, .int .i64 0, .int .i64 m, .int .i64 f, .int .i64 a, .int .i64 x]) (by simp [results, Tryz.results28, go_sem, q0, q1, q2, q3, q4, q5, q6]) rfl HR.out
end Draw
namespace Dec
open Go.RowKit Base Mem
abbrev tx (l : List UInt8) : ByteArray := ⟨l.toArray⟩
theorem tx_ext {a b : ByteArray} (h : a.data.toList = b.data.toList) : a = b := by
 cases a with | mk a => cases b with | mk b => simp at h; rw [h]
theorem tx_list (a : ByteArray) : tx a.data.toList = a := tx_ext (by simp)
theorem list_tx (l : List UInt8) : (tx l).data.toList = l := by simp
theorem size_tx (l : List UInt8) : (tx l).size = l.length := by simp [ByteArray.size]
theorem app_list (a b : ByteArray) : (a ++ b).data.toList = a.data.toList ++ b.data.toList := by simp
theorem infoByte : (Tryz.prog.info? 5).map (fun i => (i.zero, i.size, i.bytes)) = some (some (.int .u8 0), 1, 1) := by kernel_rfl
theorem convT_own {w : World} {B g n cap : Nat} {l : List UInt8} (h : w.ownsRow B 5 1 (.slice (some ⟨g, 0, none⟩) n cap) n (Lib.byteCells l)) (hl : l.length = n) :
  (convert 22 9 (.slice (some ⟨g, 0, none⟩) n cap)).run Tryz.prog w = .ok (.string ⟨l.toArray⟩) w := by
 subst hl
 refine run_convert_bytes_back w 22 9 5 ⟨g, 0, none⟩ cap l Tryz.underlying22 Tryz.underlying5 Tryz.underlying9 ?_
 intro j hj
 have := h.cells (g := g) rfl j (.int .u8 (l[j].toNat : Int)) (by simp [Lib.byteCells, hj])
 simpa [Addr.add] using this
theorem convT_any {w : World} {B n : Nat} {v : Value} {l : List UInt8} (h : w.ownsRow B 5 1 v n (Lib.byteCells l)) (hl : l.length = n) :
  (convert 22 9 v).run Tryz.prog w = .ok (.string ⟨l.toArray⟩) w := by
 rcases h.2 with ⟨rfl, h0⟩ | ⟨g, cap, cur, rfl, _⟩
 ·obtain rfl : l = [] := List.eq_nil_of_length_eq_zero (by omega)
  exact Lib.run_convert_nil_bytes w 22 9 5 0 Tryz.underlying22 Tryz.underlying5 Tryz.underlying9
 ·exact convT_own h hl
def rd (u : Nat) : List UInt8 := if h : u = 0 then [] else UInt8.ofNat (48 + u % 10) :: rd (u / 10)
termination_by u
decreasing_by omega
theorem rd_zero : rd 0 = [] := by rw [rd, dif_pos rfl]
theorem rd_pos {u : Nat} (h : 0 < u) : rd u = UInt8.ofNat (48 + u % 10) :: rd (u / 10) := by rw [rd, dif_neg (by omega)]
theorem rd_rev : ∀ (u : Nat), 0 < u → (rd u).reverse = Lib.decDigits u := by
 intro u
 induction u using Nat.strongRecOn with
 | _ u ih =>
  intro h
  rw [rd_pos h, List.reverse_cons, Lib.decDigits]
  by_cases h10 : u < 10
  ·rw [dif_pos h10, show u / 10 = 0 by omega, rd_zero, Nat.mod_eq_of_lt h10]; rfl
  ·rw [dif_neg h10, ih (u / 10) (by omega) (by omega)]
theorem rd_len : ∀ (k u : Nat), u < 10 ^ k → (rd u).length ≤ k
  | 0, u, h => by obtain rfl : u = 0 := by simpa using h
                  rw [rd_zero]; simp
  | k + 1, u, h => by
    by_cases h0 : u = 0
    · subst h0; rw [rd_zero]; simp
    · rw [rd_pos (by omega), List.length_cons]
      have := rd_len k (u / 10) (by rw [Nat.pow_succ] at h; omega)
      omega
theorem byte_small {x : Nat} (h : x < 256) : (UInt8.ofNat x).toNat = x := by simp; omega
def DigTo (u : Nat) (w : World) (v i : Value) (wr : World) : Prop :=
 ∃ (r : Nat) (D : List UInt8), i = .int .i64 (r : Int) ∧ r ≤ u ∧ D.length ≤ 20 ∧ Hid (D ++ rd r = rd u) ∧ Hid (wr.ownsRow w.heap.size 5 1 v D.length (Lib.byteCells D)) ∧ Hid (Below w.heap.size w wr)
theorem own_byte {w3 : World} {B : Nat} {v' : Value} {D : List UInt8} {x : Nat} (hx : x < 256) (h : w3.ownsRow B 5 1 v' (D.length + 1) (Lib.byteCells D ++ [.int .u8 (x : Int)])) : w3.ownsRow B 5 1 v' (D ++ [UInt8.ofNat x]).length (Lib.byteCells (D ++ [UInt8.ofNat x])) := by
 have e : Lib.byteCells (D ++ [UInt8.ofNat x]) = Lib.byteCells D ++ [.int .u8 (x : Int)] := by
  rw [Lib.byteCells_append]
  simp [Lib.byteCells]
  omega
 rw [e]
 simpa using h
theorem DigTo.next {u r : Nat} {w wr w3 : World} {v v' : Value} {D : List UInt8} {o : Obj} (hr : 0 < r) (hru : r ≤ u) (hu : u < 10 ^ 20) (hD : D ++ rd r = rd u) (hO : wr.ownsRow w.heap.size 5 1 v D.length (Lib.byteCells D)) (hb : Below w.heap.size w wr)
  (h1 : w3.ownsRow w.heap.size 5 1 v' (D.length + 1) (Lib.byteCells D ++ [.int .u8 ((48 + r % 10 : Nat) : Int)])) (h2 : (wr.alloc o).grownBy w3 v.ownBlock) : DigTo u w v' (.int .i64 ((r / 10 : Nat) : Int)) w3 := by
 rw [rd_pos hr] at hD
 have hl := congrArg List.length hD
 have hu2 := rd_len 20 u hu
 simp only [List.length_append, List.length_cons] at hl
 refine ⟨r / 10, D ++ [UInt8.ofNat (48 + r % 10)], rfl, by omega, by simp; omega, J (by rw [← hD]; simp), J (own_byte (by omega) h1), J ?_⟩
 exact hb.trans (((Below.refl wr.heap.size wr).alloc (Nat.le_refl _) _ |>.mono hb.size).trans (grown_below h2 (fun g e => by obtain ⟨_, _, q, _⟩ := ownsRow_block hO e; exact q) (by have := hb.size; simp; omega)))
def DigBack (L : List UInt8) (w0 : World) (v i : Value) (wr : World) : Prop :=
 ∃ j : Nat, j ≤ L.length ∧ i = .int .i64 ((j : Int) - 1) ∧ Hid (wr.ownsRow w0.heap.size 5 1 v (L.length - j) (Lib.byteCells (L.drop j).reverse)) ∧ Hid (Below w0.heap.size w0 wr)
theorem DigBack.next {L : List UInt8} {j : Nat} {w0 wr w3 : World} {v v' : Value} {o : Obj} (hj : j < L.length) (hO : wr.ownsRow w0.heap.size 5 1 v (L.length - (j + 1)) (Lib.byteCells (L.drop (j + 1)).reverse)) (hb : Below w0.heap.size w0 wr)
  (h1 : w3.ownsRow w0.heap.size 5 1 v' (L.length - (j + 1) + 1) (Lib.byteCells (L.drop (j + 1)).reverse ++ [.int .u8 ((L[j]'hj).toNat : Int)])) (h2 : (wr.alloc o).grownBy w3 v.ownBlock) : DigBack L w0 v' (.int .i64 ((j : Int) - 1)) w3 := by
 refine ⟨j, by omega, rfl, J ?_, J ?_⟩
 ·have e : (L.drop j).reverse = (L.drop (j + 1)).reverse ++ [L[j]'hj] := by rw [List.drop_eq_getElem_cons hj, List.reverse_cons]
  rw [e, Lib.byteCells_append, show L.length - j = L.length - (j + 1) + 1 by omega]
  exact h1
 ·exact hb.trans (((Below.refl wr.heap.size wr).alloc (Nat.le_refl _) _ |>.mono hb.size).trans (grown_below h2 (fun g e => by obtain ⟨_, _, q, _⟩ := ownsRow_block hO e; exact q) (by have := hb.size; simp; omega)))
theorem l01Dec_any (u : Nat) (hu : u ≤ 9223372036854775807) (w : World) : Calls Tryz.prog 114 #[.int .i64 (u : Int)] w fun e w' => e = .returned (.string (tx (Lib.decDigits u))) ∧ Below w.heap.size w w' := by
 by_cases hz : u = 0
 ·subst hz
  go_enter Tryz.func114, Tryz.ntmps114
  go_wp2
  go_ret
  exact ⟨by rw [Lib.decDigits_one (by decide)]; rfl, Below.refl _ _⟩
 obtain ⟨i0, hi, hz0, hz1, hz2⟩ := info_parts infoByte
 have hu0 : 0 < u := by omega
 have hu20 : u < 10 ^ 20 := by omega
 have hz' : ((u : Int) == 0) = false := by simp only [beq_eq_false_iff_ne]; omega
 have HR := J (rd_rev u hu0)
 have HLn := J (rd_len 20 u hu20)
 have H0 : Hid (DigTo u w (.slice (some ⟨w.heap.size, 0, none⟩) 0 0) (.int .i64 (u : Int)) (w.alloc (.cells #[] 5))) := J ⟨u, [], rfl, Nat.le_refl _, by simp, J (by simp), J (World.ownsRow_made w #[] 0 (Nat.le_refl _) (Nat.zero_le _) (by simp)), J ((Below.refl _ _).alloc (Nat.le_refl _) _)⟩
 have HU20 := J hu20
 clear hu20 hz
 go_enter Tryz.func114, Tryz.ntmps114
 go_wp2
 go_loopw [3, 4] (fun v i wr => DigTo u w v i wr) (fun _ i _ => (intOf i).toNat)
 case atStart => exact H0.out
 case round =>
  obtain ⟨r, D, rfl, hru, hD20, HD, HO, HB⟩ := hrel
  clear H0
  by_cases hr : r = 0
  ·subst hr
   have HDu : Hid (D = rd u) := J (by have := HD.out; rwa [rd_zero, List.append_nil] at this)
   have hDl : D.length ≤ 20 := hD20
   obtain ⟨A0, c0, e0, hf0⟩ := ownsRow_form HO.out
   have HF0 := J hf0
   clear hf0
   subst e0
   have hneg : ¬ ((u : Int) < 0) := by omega
   have H1 : Hid (DigBack D wr (.slice (some ⟨wr.heap.size, 0, none⟩) 0 0) (.int .i64 ((D.length : Int) - 1)) (wr.alloc (.cells #[] 5))) := J ⟨D.length, Nat.le_refl _, rfl, J (by rw [Nat.sub_self, List.drop_length]; exact World.ownsRow_made wr #[] 0 (Nat.le_refl _) (Nat.zero_le _) (by simp)), J ((Below.refl _ _).alloc (Nat.le_refl _) _)⟩
   go_wp2
   obtain ⟨W0, hW0⟩ : ∃ W0, W0 = wr := ⟨_, rfl⟩
   rw [← hW0] at H1 HO HB HF0
   have HW0 := J hW0
   clear hW0
   go_loopw [6, 7] (fun v i w2 => DigBack D W0 v i w2) (fun _ i _ => (intOf i + 1).toNat)
   case atStart => rw [← HW0.out]; exact H1.out
   case round =>
    obtain ⟨j, hj, rfl, HO2, HB2⟩ := hrel
    clear H1
    by_cases hj0 : j = 0
    ·subst hj0
     have hC := convT_any HO2.out (by simp)
     have HRs : Hid ((D.drop 0).reverse = Lib.decDigits u) := J (by rw [List.drop_zero, HDu.out, HR.out])
     rw [HRs.out] at hC
     go_wp2
     go_ret
     exact ⟨rfl, HB.out.trans (HB2.out.mono HB.out.size)⟩
    ·obtain ⟨k, rfl⟩ : ∃ k, j = k + 1 := ⟨j - 1, by omega⟩
     have hk : k < D.length := by omega
     obtain ⟨g, hg0, hg1, hg2⟩ := HF0.out (by omega)
     subst hg0
     have hcell0 := HO.out.cellAt k (by omega)
     have hcell : wr.cell? ⟨g, k, none⟩ = some (.int .u8 ((D[k]'hk).toNat : Int)) := by
      have h3 := (HB2.out.cell (p := ⟨g, k, none⟩) (show g < W0.heap.size from hg2)).trans hcell0
      rw [h3]
      simp [Lib.byteCells, hk]
     have HNx := J (fun v' w3 h1 h2 => DigBack.next (o := .cells #[.int .u8 ((D[k]'hk).toNat : Int)] 5) (v' := v') (w3 := w3) hk HO2.out HB2.out h1 h2)
     have hby : (D[k]'hk).toNat < 256 := (D[k]'hk).toNat_lt
     have hws := HB2.out.size
     have HW2 := J (World.ownsRow.alloc HO2.out (.cells #[.int .u8 ((D[k]'hk).toNat : Int)] 5))
     clear hcell0
     generalize (D[k]'hk).toNat = y at *
     go_wp2_with (at_builtin; refine wpList_append_own_at _ rfl (.tmp 41) (.tmp 46) 22 rfl W0.heap.size 5 i0 (.int .u8 0) 1 1 Tryz.underlying22 hi hz0 hz1 hz2 rfl (by decide) _ _ _ rfl HW2.out ⟨wr.heap.size, 0, none⟩ 1 1 [.int .u8 (y : Int)] rfl rfl ?p1b ?p2b ?p3b ?p4b ?p5b ?_)
     try case p1b => exact news_one _ _ _ (by simp)
     try case p2b => first | rfl | (intro u hu; simp at hu; subst hu; rfl)
     try case p3b => first | (simp only [maxLen]; omega) | omega
     try case p4b => omega
     try case p5b => first | (simp only [World.size_alloc]; omega) | omega
     intro v' w3 hown' hg' _ he
     have HN := J (HNx.out v' w3 hown' hg')
     clear hown' hg' he hcell
     go_wp2_with fail
     go_roundw
     case rel => exact HN.out
     case measure => simp [intOf]
  ·have hr0 : 0 < r := by omega
   have hne : ((r : Int) != 0) = true := by simp only [bne_iff_ne, ne_eq]; omega
   have hws := HB.out.size
   have HNx := J (fun v' w3 h1 h2 => DigTo.next (o := .cells #[.int .u8 ((48 + r % 10 : Nat) : Int)] 5) (v' := v') (w3 := w3) hr0 hru HU20.out HD.out HO.out HB.out h1 h2)
   have HW := J (World.ownsRow.alloc HO.out (.cells #[.int .u8 ((48 + r % 10 : Nat) : Int)] 5))
   obtain ⟨x, hx⟩ : ∃ x, r % 10 = x := ⟨_, rfl⟩
   obtain ⟨q, hq⟩ : ∃ q, r / 10 = q := ⟨_, rfl⟩
   have hm : (r : Int) % 10 = (x : Int) := by omega
   have hmt : (r : Int).tmod 10 = (x : Int) := by rw [Int.tmod_eq_emod_of_nonneg (by omega)]; exact hm
   have hd : (r : Int) / 10 = (q : Int) := by omega
   have hdt : (r : Int).tdiv 10 = (q : Int) := by rw [Int.tdiv_eq_ediv_of_nonneg (by omega)]; exact hd
   have hx10 : x < 10 := by omega
   have hqr : q < r := by omega
   rw [hx, hq] at HNx
   rw [hx] at HW
   have hcast : ((48 + x : Nat) : Int) = 48 + (x : Int) := by omega
   rw [hcast] at HW HNx
   have hxn : ¬ ((x : Int) < 0) := by omega
   clear hx hq
   go_wp2_with (at_builtin; refine wpList_append_own_at _ rfl (.tmp 22) (.tmp 26) 22 rfl w.heap.size 5 i0 (.int .u8 0) 1 1 Tryz.underlying22 hi hz0 hz1 hz2 rfl (by decide) _ _ _ rfl HW.out ⟨wr.heap.size, 0, none⟩ 1 1 [.int .u8 (48 + (x : Int))] rfl rfl ?p1a ?p2a ?p3a ?p4a ?p5a ?_)
   try case p1a => exact news_one _ _ _ (by simp)
   try case p2a => first | rfl | (intro u hu; simp at hu; subst hu; rfl)
   try case p3a => first | (simp only [maxLen]; omega) | omega
   try case p4a => omega
   try case p5a => first | (simp only [World.size_alloc]; omega) | omega
   intro v' w3 hown' hg' _ he
   have HN := J (HNx.out v' w3 hown' hg')
   clear hown' hg' he
   go_wp2_with fail
   go_roundw
   case rel => exact HN.out
   case measure => simp [intOf]; omega
end Dec
end Go.Proofs.YtgipnbeipfhekaaGreatDoor
namespace Go.Proofs
open Go.Shelf
def YtgipnbeipfhekaaGreatDoor.lays173_ren : Go.Shelf.Ren := ⟨fun | 173 => 40 | 246 => 81 | 283 => 132 | 284 => 133 | 285 => 134 | 286 => 135 | 129 => 179 | 317 => 178 | 318 => 180 | 319 => 181 | 320 => 182 | 337 => 216 | 338 => 217 | n => n, fun | 2 => 2 | 3 => 3 | 9 => 9 | 4 => 4 | 171 => 177 | 0 => 0 | 53 => 114 | 37 => 22 | 5 => 5 | 173 => 180 | 212 => 220 | 51 => 221 | 20 => 20 | 213 => 222 | 46 => 118 | 232 => 260 | 233 => 261 | n => n, fun | 17 => 1 | 18 => 4 | 19 => 5 | n => n⟩
theorem YtgipnbeipfhekaaGreatDoor.lays173 : Go.Proofs.LaysM.n173 Tryz.prog YtgipnbeipfhekaaGreatDoor.lays173_ren := {
 mixed := by kernel_rfl
 f129 := Tryz.func179.trans (congrArg some (by kernel_rfl))
 f173 := Tryz.func40.trans (congrArg some (by kernel_rfl))
 f246 := Tryz.func81.trans (congrArg some (by kernel_rfl))
 f283 := Tryz.func132.trans (congrArg some (by kernel_rfl))
 f284 := Tryz.func133.trans (congrArg some (by kernel_rfl))
 f285 := Tryz.func134.trans (congrArg some (by kernel_rfl))
 f286 := Tryz.func135.trans (congrArg some (by kernel_rfl))
 f317 := Tryz.func178.trans (congrArg some (by kernel_rfl))
 f318 := Tryz.func180.trans (congrArg some (by kernel_rfl))
 f319 := Tryz.func181.trans (congrArg some (by kernel_rfl))
 f320 := Tryz.func182.trans (congrArg some (by kernel_rfl))
 f337 := Tryz.func216.trans (congrArg some (by kernel_rfl))
 f338 := Tryz.func217.trans (congrArg some (by kernel_rfl))
 t0 := Tryz.underlying0
 a0 := Tryz.isAgg0
 z0 := Tryz.sizeOf0
 v0 := Tryz.zeroValue0
 t2 := Tryz.underlying2
 a2 := Tryz.isAgg2
 z2 := Tryz.sizeOf2
 v2 := Tryz.zeroValue2
 t3 := Tryz.underlying3
 a3 := Tryz.isAgg3
 z3 := Tryz.sizeOf3
 v3 := Tryz.zeroValue3
 t4 := Tryz.underlying4
 a4 := Tryz.isAgg4
 z4 := Tryz.sizeOf4
 v4 := Tryz.zeroValue4
 t5 := Tryz.underlying5
 a5 := Tryz.isAgg5
 z5 := Tryz.sizeOf5
 v5 := Tryz.zeroValue5
 t9 := Tryz.underlying9
 a9 := Tryz.isAgg9
 z9 := Tryz.sizeOf9
 v9 := Tryz.zeroValue9
 t20 := Tryz.underlying20
 a20 := Tryz.isAgg20
 z20 := Tryz.sizeOf20
 v20 := Tryz.zeroValue20
 t37 := Tryz.underlying22
 a37 := Tryz.isAgg22
 z37 := Tryz.sizeOf22
 v37 := Tryz.zeroValue22
 t46 := Tryz.underlying118
 a46 := Tryz.isAgg118
 z46 := Tryz.sizeOf118
 v46 := Tryz.zeroValue118
 t51 := Tryz.underlying221
 a51 := Tryz.isAgg221
 z51 := Tryz.sizeOf221
 v51 := Tryz.zeroValue221
 t53 := Tryz.underlying114
 a53 := Tryz.isAgg114
 z53 := Tryz.sizeOf114
 v53 := Tryz.zeroValue114
 t171 := Tryz.underlying177
 a171 := Tryz.isAgg177
 z171 := Tryz.sizeOf177
 v171 := Tryz.zeroValue177
 t173 := Tryz.underlying180
 a173 := Tryz.isAgg180
 z173 := Tryz.sizeOf180
 v173 := Tryz.zeroValue180
 t212 := Tryz.underlying220
 a212 := Tryz.isAgg220
 z212 := Tryz.sizeOf220
 v212 := Tryz.zeroValue220
 t213 := Tryz.underlying222
 a213 := Tryz.isAgg222
 z213 := Tryz.sizeOf222
 t232 := Tryz.underlying260
 a232 := Tryz.isAgg260
 z232 := Tryz.sizeOf260
 v232 := Tryz.zeroValue260
 t233 := Tryz.underlying261
 a233 := Tryz.isAgg261
 z233 := Tryz.sizeOf261
 v233 := Tryz.zeroValue261
 g17 := by kernel_rfl
 g18 := by kernel_rfl
 g19 := by kernel_rfl
 i0 := by kernel_rfl
 i2 := by kernel_rfl
 i3 := by kernel_rfl
 i4 := by kernel_rfl
 i5 := by kernel_rfl
 i9 := by kernel_rfl
 i20 := by kernel_rfl
 i37 := by kernel_rfl
 i46 := by kernel_rfl
 i51 := by kernel_rfl
 i53 := by kernel_rfl
 i171 := by kernel_rfl
 i173 := by kernel_rfl
 i212 := by kernel_rfl
 i232 := by kernel_rfl
 i233 := by kernel_rfl
 m17 := by kernel_rfl
 m18 := by kernel_rfl
 m19 := by kernel_rfl }
end Go.Proofs
namespace Go.Proofs.YtgipnbeipfhekaaGreatDoor
namespace Dec
open Go.RowKit Base Mem
def Pow (B : Nat) (w : World) : Prop := Lib.TabBelow Tryz.prog B w "internal/strconv.uint64pow10" .u64 Lib.pow10Tab
theorem Pow.on {B : Nat} {w w' : World} (h : Pow B w) (hb : Below B w w') : Pow B w' := Lib.TabBelow.on h hb
theorem below_grow (B : Nat) (w : World) (k : Nat) (os : Array Obj) (hB : B ≤ w.heap.size) : Below B w (Sort.grow (w.drewN k) os) :=
 ⟨rfl, rfl, rfl, by show w.heap.size ≤ (w.heap ++ os).size; rw [Array.size_append]; omega, fun j hj => by
  show (w.heap ++ os)[j]? = w.heap[j]?
  rw [Array.getElem?_append_left (by omega)]⟩
theorem formatInt_any (u : Nat) (hu : u ≤ 9223372036854775807) (B : Nat) (w : World) (hp : Pow B w) (hB : B ≤ w.heap.size) : Calls Tryz.prog 40 #[.int .i64 (u : Int), .int .i64 10] w fun e w' => e = .returned (.string (tx (Lib.decDigits u))) ∧ Below w.heap.size w w' := by
 refine (Any.strconv_FormatInt_10 YtgipnbeipfhekaaGreatDoor.lays173 (u : Int) (by omega) (by omega) w (Lib.TabBelow.here hp)).mono ?_
 rintro e w' ⟨rfl, k, os, rfl⟩
 refine ⟨?_, below_grow _ w k os (Nat.le_refl _)⟩
 rw [Lib.itoa, if_neg (by omega), Int.toNat_natCast]
theorem decimal_any (u : Nat) (hu : u ≤ 9223372036854775807) (B : Nat) (w : World) (hp : Pow B w) (hB : B ≤ w.heap.size) : Calls Tryz.prog 15 #[.int .i64 (u : Int)] w fun e w' => e = .returned (.string (tx (Lib.decDigits u))) ∧ Below w.heap.size w w' := by
 have HC := J (formatInt_any u hu B w hp hB)
 clear hp
 go_enter Tryz.func15, Tryz.ntmps15
 go_wp2_with fail
 refine HC.out.mono ?_
 rintro e w' ⟨rfl, hb⟩
 go_wp2
 go_ret
 exact ⟨rfl, hb⟩
end Dec
namespace MemS
open Go.RowKit Base Mem Take
def RdS (w : World) (B : Nat) (A : Option Addr) (n : Nat) (fs : List Int) : Prop :=
 0 < n → ∃ b off, A = some ⟨b, off, none⟩ ∧ b < B ∧ ∀ i, i < 7 * n → w.cell? ⟨b, off + i, none⟩ = some (.int .i64 (fs.getD i 0))
theorem RdS.below {w w' : World} {B C n : Nat} {A : Option Addr} {fs : List Int} (h : RdS w B A n fs) (hb : Below C w w') (hBC : B ≤ C) : RdS w' B A n fs := fun h0 => by
 obtain ⟨b, off, e, hlt, hc⟩ := h h0
 exact ⟨b, off, e, hlt, fun i hi => (hb.cell (p := ⟨b, off + i, none⟩) (by show b < C; omega)).trans (hc i hi)⟩
theorem RdS.more {w : World} {B C n : Nat} {A : Option Addr} {fs : List Int} (h : RdS w B A n fs) (hBC : B ≤ C) : RdS w C A n fs := fun h0 => by
 obtain ⟨b, off, e, hlt, hc⟩ := h h0
 exact ⟨b, off, e, by omega, hc⟩
def OwnS (w : World) (B : Nat) (v : Value) (n : Nat) (fs : List Int) : Prop := w.ownsRow B 29 7 v n (ints fs)
theorem OwnS.len {w : World} {B n : Nat} {v : Value} {fs : List Int} (h : OwnS w B v n fs) : fs.length = 7 * n := by
 have := h.1
 rw [ints_len] at this
 omega
theorem OwnS.form {w : World} {B n : Nat} {v : Value} {fs : List Int} (h : OwnS w B v n fs) : ∃ A c, v = .slice A n c ∧ (0 < n → ∃ g, A = some ⟨g, 0, none⟩ ∧ B ≤ g ∧ g < w.heap.size) := ownsRow_form h
theorem OwnS.rd {w : World} {B n m c : Nat} {A : Option Addr} {fs : List Int} (h : OwnS w B (.slice A m c) n fs) : RdS w w.heap.size A n fs := fun h0 => by
 obtain ⟨A', c', e, hf⟩ := ownsRow_form h
 injection e with e1 e2 e3
 subst e1 e2 e3
 obtain ⟨g, rfl, _, hlt⟩ := hf h0
 refine ⟨g, 0, rfl, hlt, fun i hi => ?_⟩
 have hl := h.len
 rw [Nat.zero_add, World.ownsRow.cellAt h i (by omega), ints_get fs i (by omega)]
theorem OwnS.below {w w' : World} {B n : Nat} {v : Value} {fs : List Int} (h : OwnS w B v n fs) (hb : Below w.heap.size w w') : OwnS w' B v n fs := ownsRow_below h hb
theorem RdS.at {w : World} {B n : Nat} {A : Option Addr} {fs : List Int} (h : RdS w B A n fs) {j : Nat} (hj : j < n) : ∃ b off, A = some ⟨b, off, none⟩ ∧ b < B ∧ ∀ i, i < 7 → w.cell? ⟨b, off + j * 7 + i, none⟩ = some (.int .i64 (fs.getD (7 * j + i) 0)) := by
 obtain ⟨b, off, e, hlt, hc⟩ := h (by omega)
 exact ⟨b, off, e, hlt, fun i hi => by have := hc (7 * j + i) (by omega); rw [← Nat.add_assoc] at this; rw [Nat.mul_comm j 7]; exact this⟩
structure At7 (w : World) (b q : Nat) (a : Nat → Int) : Prop where
 c0 : w.cell? ⟨b, q, none⟩ = some (.int .i64 (a 0))
 c1 : w.cell? ⟨b, q + 1, none⟩ = some (.int .i64 (a 1))
 c2 : w.cell? ⟨b, q + 2, none⟩ = some (.int .i64 (a 2))
 c3 : w.cell? ⟨b, q + 3, none⟩ = some (.int .i64 (a 3))
 c4 : w.cell? ⟨b, q + 4, none⟩ = some (.int .i64 (a 4))
 c5 : w.cell? ⟨b, q + 5, none⟩ = some (.int .i64 (a 5))
 c6 : w.cell? ⟨b, q + 6, none⟩ = some (.int .i64 (a 6))
theorem At7.below {w w' : World} {b q C : Nat} {a : Nat → Int} (h : At7 w b q a) (hb : Below C w w') (hC : b < C) : At7 w' b q a :=
 ⟨(hb.cell (p := ⟨b, q, none⟩) hC).trans h.c0, (hb.cell (p := ⟨b, q + 1, none⟩) hC).trans h.c1, (hb.cell (p := ⟨b, q + 2, none⟩) hC).trans h.c2, (hb.cell (p := ⟨b, q + 3, none⟩) hC).trans h.c3, (hb.cell (p := ⟨b, q + 4, none⟩) hC).trans h.c4, (hb.cell (p := ⟨b, q + 5, none⟩) hC).trans h.c5, (hb.cell (p := ⟨b, q + 6, none⟩) hC).trans h.c6⟩
theorem RdS.at7 {w : World} {B n : Nat} {A : Option Addr} {fs : List Int} (h : RdS w B A n fs) {j : Nat} (hj : j < n) : ∃ b off, A = some ⟨b, off, none⟩ ∧ b < B ∧ At7 w b (off + j * 7) (fun i => fs.getD (7 * j + i) 0) := by
 obtain ⟨b, off, e, hlt, hc⟩ := h.at hj
 exact ⟨b, off, e, hlt, hc 0 (by decide), hc 1 (by decide), hc 2 (by decide), hc 3 (by decide), hc 4 (by decide), hc 5 (by decide), hc 6 (by decide)⟩
end MemS
namespace StTx
open Go.RowKit Base Mem Dec Str Take
def nAt (xs : List Int) (i : Nat) : Nat := (xs.getD i 0).toNat
def joinTo (l : List UInt8) (xs : List Int) : Nat → List UInt8
 | 0 => l
 | i + 1 => joinTo l xs i ++ ([58] ++ Lib.decDigits (nAt xs i))
theorem decS_len {u : Nat} (h : u < 1000000) : (Lib.decDigits u).length ≤ 6 := by
 by_cases h0 : u = 0
 ·subst h0; rw [Lib.decDigits_one (by decide)]; simp
 ·rw [← rd_rev u (by omega), List.length_reverse]
  exact rd_len 6 u h
def Fit (xs : List Int) : Prop := xs.length ≤ 4 ∧ ∀ i, i < xs.length → 0 ≤ xs.getD i 0 ∧ xs.getD i 0 < 1000000
theorem joinTo_len {xs : List Int} (h : Fit xs) (l : List UInt8) : ∀ i, i ≤ xs.length → (joinTo l xs i).length ≤ l.length + 7 * i
 | 0, _ => Nat.le_refl _
 | i + 1, hi => by
  have h1 := joinTo_len h l i (by omega)
  have h2 := h.2 i (by omega)
  have h3 := decS_len (u := nAt xs i) (by unfold nAt; omega)
  rw [joinTo, List.length_append, List.length_append]
  simp only [List.length_cons, List.length_nil]
  omega
theorem strAddS {a b c : ByteArray} (h : a ++ b = c) (hs : a.size + b.size ≤ 9223372036854775807) (w : World) : (Op.stringOp .add a b).run Tryz.prog w = .ok (.string c) w := by
 rw [run_string_add_sum w a b (by omega), h]
theorem joinStep {xs : List Int} (h : Fit xs) (l : List UInt8) (hl : l.length ≤ 1) (k : Nat) (hk : k < xs.length) : ∃ (u : Nat) (d o a1 a2 : ByteArray), xs.getD k 0 = (u : Int) ∧ u < 1000000 ∧ tx (Lib.decDigits u) = d ∧ tx (joinTo l xs k) = o ∧
  (∀ w : World, (Op.stringOp .add ⟨#[58]⟩ d).run Tryz.prog w = .ok (.string a1) w) ∧ (∀ w : World, (Op.stringOp .add o a1).run Tryz.prog w = .ok (.string a2) w) ∧ tx (joinTo l xs (k + 1)) = a2 := by
 have h2 := h.2 k hk
 have hj := joinTo_len h l k (by omega)
 have hx4 := h.1
 obtain ⟨u, hu⟩ := Int.eq_ofNat_of_zero_le h2.1
 have hu6 : u < 1000000 := by omega
 have h3 := decS_len hu6
 have hn : nAt xs k = u := by rw [nAt, hu]; rfl
 refine ⟨u, _, _, (⟨#[58]⟩ : ByteArray) ++ tx (Lib.decDigits u), _, hu, hu6, rfl, rfl, strAddS rfl ?_, strAddS rfl ?_, ?_⟩
 ·have := size_tx (Lib.decDigits u); show 1 + _ ≤ _; omega
 ·have h8 := size_tx (Lib.decDigits u)
  have h9 := size_tx (joinTo l xs k)
  rw [ByteArray.size_append]; show _ + (1 + _) ≤ _; omega
 ·apply tx_ext
  rw [joinTo, hn]
  simp
theorem l11Join_any (l : List UInt8) (A : Option Addr) (c B : Nat) (xs : List Int) (w : World) (hx : RdI w B A xs) (hB : B ≤ w.heap.size) (hf : Fit xs) (hl : l.length ≤ 1) :
  Calls Tryz.prog 171 #[.string (tx l), .slice A xs.length c] w fun e w' => e = .returned (.string (tx (joinTo l xs xs.length))) ∧ Below w.heap.size w w' := by
 have HX := J hx
 have HF := J hf
 obtain ⟨n, hn⟩ : ∃ n, n = xs.length := ⟨_, rfl⟩
 have hn4 := hf.1
 rw [← hn] at hn4 ⊢
 have HN := J hn
 clear hx hf hn
 go_enter Tryz.func171, Tryz.ntmps171
 go_wp2
 go_loopw [0, 5] (fun o i wr => ∃ k : Nat, k ≤ n ∧ i = .int .i64 (k : Int) ∧ o = .string (tx (joinTo l xs k)) ∧ Hid (Below w.heap.size w wr)) (fun _ i _ => n - (intOf i).toNat)
 case atStart => exact ⟨0, Nat.zero_le _, rfl, rfl, J (Below.refl _ _)⟩
 case round =>
  obtain ⟨k, hk, rfl, rfl, HB⟩ := hrel
  by_cases hlt : k < n
  ·obtain ⟨b, off, rfl, hbB, hc⟩ := HX.out (by have := HN.out; omega)
   have g0 := (HB.out.cell (p := ⟨b, off + k, none⟩) (show b < w.heap.size by omega)).trans (hc k (by have := HN.out; omega))
   obtain ⟨u, d, o, a1, a2, e1, e2, e3, e4, r1, r2, e5⟩ := joinStep HF.out l hl k (by have := HN.out; omega)
   have HD := J (fun w => l01Dec_any u (by omega) w)
   have hws := HB.out.size
   rw [e3] at HD
   rw [e1] at g0
   have E5 := J e5
   rw [e4]
   clear hc e1 e3 e4 e5
   go_wp2_with (go_at_call 114; refine (HD.out _).mono ?_; rintro e w1 ⟨rfl, hb1⟩)
   go_roundw
   case rel => exact ⟨k + 1, hlt, by go_num, by rw [E5.out], J (HB.out.trans (hb1.mono hws))⟩
   case measure => simp [intOf]; omega
  ·obtain rfl : k = n := by omega
   go_wp2
   go_ret
   exact ⟨rfl, HB.out⟩
theorem rd3 (w0 : World) (x y z : Int) : RdI (w0.alloc (.cells #[.int .i64 x, .int .i64 y, .int .i64 z] 2)) (w0.alloc (.cells #[.int .i64 x, .int .i64 y, .int .i64 z] 2)).heap.size (some ⟨w0.heap.size, 0, none⟩) [x, y, z] := fun _ =>
 ⟨_, 0, rfl, by simp, fun i hi => by
  rw [Nat.zero_add, World.cell?_alloc_new w0 _ _ i]
  match i, hi with
  | 0, _ => rfl
  | 1, _ => rfl
  | 2, _ => rfl
  | i + 3, h => exact absurd h (by simp)⟩
theorem rd4 (w0 : World) (x y z u : Int) : RdI (w0.alloc (.cells #[.int .i64 x, .int .i64 y, .int .i64 z, .int .i64 u] 2)) (w0.alloc (.cells #[.int .i64 x, .int .i64 y, .int .i64 z, .int .i64 u] 2)).heap.size (some ⟨w0.heap.size, 0, none⟩) [x, y, z, u] := fun _ =>
 ⟨_, 0, rfl, by simp, fun i hi => by
  rw [Nat.zero_add, World.cell?_alloc_new w0 _ _ i]
  match i, hi with
  | 0, _ => rfl
  | 1, _ => rfl
  | 2, _ => rfl
  | 3, _ => rfl
  | i + 4, h => exact absurd h (by simp)⟩
def textS (K W T m f a s : Int) : List UInt8 := if K = 0 then joinTo [114] [W, T, s] 3 else joinTo [99] [m, f, a, s] 4
theorem fit3 {W T s : Int} (h : Reg.bothR W T s = true) : Fit [W, T, s] := by
 obtain ⟨h1, h2, h3, h4, h5, h6⟩ := Reg.bothR_true h
 have hp : (2 : Int) ^ W.toNat ≤ 2 ^ 16 := by
  have : 2 ^ W.toNat ≤ 2 ^ 16 := Nat.pow_le_pow_right (by decide) (by omega)
  have h7 : ((2 ^ W.toNat : Nat) : Int) ≤ ((2 ^ 16 : Nat) : Int) := Int.ofNat_le.2 this
  simpa using h7
 refine ⟨by simp, fun i hi => ?_⟩
 match i, hi with
 | 0, _ => show 0 ≤ W ∧ W < 1000000; omega
 | 1, _ => show 0 ≤ T ∧ T < 1000000; omega
 | 2, _ => show 0 ≤ s ∧ s < 1000000; omega
 | i + 3, h => exact absurd h (by simp)
theorem fit4 {m f a s : Int} (h : Cong.bothB m f a s = true) : Fit [m, f, a, s] := by
 obtain ⟨h1, h2, h3, h4, h5, h6, h7, h8⟩ := Cong.bothB_true h
 refine ⟨by simp, fun i hi => ?_⟩
 match i, hi with
 | 0, _ => show 0 ≤ m ∧ m < 1000000; omega
 | 1, _ => show 0 ≤ f ∧ f < 1000000; omega
 | 2, _ => show 0 ≤ a ∧ a < 1000000; omega
 | 3, _ => show 0 ≤ s ∧ s < 1000000; omega
 | i + 4, h => exact absurd h (by simp)
theorem l11Text_any (b : Nat) (K W T m f a s : Int) (w : World) (hs : SBox w b K W T m f a s) (hv : streamB K W T m f a s = true) :
  Calls Tryz.prog 113 #[.pointer (some ⟨b, 0, none⟩)] w fun e w' => e = .returned (.string (tx (textS K W T m f a s))) ∧ Below w.heap.size w w' := by
 have c0 := hs.c0
 have c1 := hs.c1
 have c2 := hs.c2
 have c3 := hs.c3
 have c4 := hs.c4
 have c5 := hs.c5
 have c6 := hs.c6
 clear hs
 by_cases hK : K = 0
 ·subst hK
  have hf : Fit [W, T, s] := fit3 (by simp [streamB] at hv; exact hv.2)
  have HJ : Hid (∀ w0 : World, Calls Tryz.prog 171 #[.string { data := #[114] }, .slice (some ⟨w0.heap.size, 0, none⟩) 3 3] (w0.alloc (.cells #[.int .i64 W, .int .i64 T, .int .i64 s] 2)).drew fun e w' => e = .returned (.string (tx (textS 0 W T m f a s))) ∧ Below w0.heap.size w0 w') :=
   J fun w0 => (l11Join_any [114] _ 3 _ [W, T, s] _ ((rd3 w0 W T s).below ((Below.refl _ _).drew) (Nat.le_refl _)) (Nat.le_refl _) hf (by decide)).mono fun e w' h => ⟨h.1, Base.Below.boxed (((Below.refl _ _).drew).trans (h.2.mono (Nat.le_refl _)))⟩
  generalize textS 0 W T m f a s = R at *
  clear hv hf
  go_enter Tryz.func113, Tryz.ntmps113
  go_wp2
  go_region_with (go_at_call 171; refine (HJ.out _).mono ?_; rintro e w1 ⟨rfl, hb1⟩)
  all_goals (try go_wp2)
  all_goals go_ret
  all_goals exact ⟨rfl, hb1⟩
 ·have hK1 : K = 1 := by
   by_cases h : K = 1
   ·exact h
   ·simp [streamB, hK, h] at hv
  subst hK1
  have hf : Fit [m, f, a, s] := fit4 (by simp [streamB] at hv; exact hv.2)
  have HJ : Hid (∀ w0 : World, Calls Tryz.prog 171 #[.string { data := #[99] }, .slice (some ⟨w0.heap.size, 0, none⟩) 4 4] (w0.alloc (.cells #[.int .i64 m, .int .i64 f, .int .i64 a, .int .i64 s] 2)).drew fun e w' => e = .returned (.string (tx (textS 1 W T m f a s))) ∧ Below w0.heap.size w0 w') :=
   J fun w0 => (l11Join_any [99] _ 4 _ [m, f, a, s] _ ((rd4 w0 m f a s).below ((Below.refl _ _).drew) (Nat.le_refl _)) (Nat.le_refl _) hf (by decide)).mono fun e w' h => ⟨h.1, Base.Below.boxed (((Below.refl _ _).drew).trans (h.2.mono (Nat.le_refl _)))⟩
  generalize textS 1 W T m f a s = R at *
  clear hv hf hK
  go_enter Tryz.func113, Tryz.ntmps113
  go_wp2
  go_region_with (go_at_call 171; refine (HJ.out _).mono ?_; rintro e w1 ⟨rfl, hb1⟩)
  all_goals (try go_wp2)
  all_goals go_ret
  all_goals exact ⟨rfl, hb1⟩
end StTx
namespace LabM
open Go.RowKit Base Mem Cpy MemS Str
theorem infoT : (Tryz.prog.info? 9).map (fun i => (i.zero, i.size, i.bytes)) = some (some (.string ByteArray.empty), 1, 16) := by kernel_rfl
def texts (ss : List ByteArray) : List Value := ss.map Value.string
def RdT (w : World) (B : Nat) (A : Option Addr) (ss : List ByteArray) : Prop :=
 0 < ss.length → ∃ b off, A = some ⟨b, off, none⟩ ∧ b < B ∧ ∀ i, i < ss.length → w.cell? ⟨b, off + i, none⟩ = some (.string (ss.getD i ByteArray.empty))
theorem RdT.below {w w' : World} {B C : Nat} {A : Option Addr} {ss : List ByteArray} (h : RdT w B A ss) (hb : Below C w w') (hBC : B ≤ C) : RdT w' B A ss := fun h0 => by
 obtain ⟨b, off, e, hlt, hc⟩ := h h0
 exact ⟨b, off, e, hlt, fun i hi => (hb.cell (p := ⟨b, off + i, none⟩) (by show b < C; omega)).trans (hc i hi)⟩
theorem RdT.more {w : World} {B C : Nat} {A : Option Addr} {ss : List ByteArray} (h : RdT w B A ss) (hBC : B ≤ C) : RdT w C A ss := fun h0 => by
 obtain ⟨b, off, e, hlt, hc⟩ := h h0
 exact ⟨b, off, e, by omega, hc⟩
def OwnT (w : World) (B : Nat) (v : Value) (ss : List ByteArray) : Prop := w.ownsRow B 9 1 v ss.length (texts ss)
theorem OwnT.rd {w : World} {B n c : Nat} {A : Option Addr} {ss : List ByteArray} (h : OwnT w B (.slice A n c) ss) : RdT w w.heap.size A ss := fun h0 => by
 obtain ⟨A', c', e, hf⟩ := ownsRow_form h
 injection e with e1 e2 e3
 subst e1 e2 e3
 obtain ⟨g, rfl, _, hlt⟩ := hf h0
 refine ⟨g, 0, rfl, hlt, fun i hi => ?_⟩
 rw [Nat.zero_add, World.ownsRow.cellAt h i (by omega)]
 simp [texts, List.getD, hi]
def put7 (w : World) (g q : Nat) (f : Nat → Int) : World :=
 ((((((w.setCell ⟨g, q, none⟩ (.int .i64 (f 0))).setCell ⟨g, q + 1, none⟩ (.int .i64 (f 1))).setCell ⟨g, q + 2, none⟩ (.int .i64 (f 2))).setCell ⟨g, q + 3, none⟩ (.int .i64 (f 3))).setCell ⟨g, q + 4, none⟩ (.int .i64 (f 4))).setCell ⟨g, q + 5, none⟩ (.int .i64 (f 5))).setCell ⟨g, q + 6, none⟩ (.int .i64 (f 6))
theorem infoSt7 : (Tryz.prog.info? 29).map (fun i => (i.zero, i.size, i.bytes)) = some (some (.agg #[.int .i64 0, .int .i64 0, .int .i64 0, .int .i64 0, .int .i64 0, .int .i64 0, .int .i64 0]), 7, 56) := by kernel_rfl
end LabM
namespace LabD
open Go.RowKit Base Mem Dec LabM Str Take StTx YtgipnbeipfhekaaGreatDoor.Src Blk Draw
def Gd (n : Nat) (t : ByteArray) : Prop := t.size ≤ n ∧ ∀ x ∈ t.data.toList, x ≠ 10
theorem Gd.app {n m : Nat} {a b : ByteArray} (h : Gd n a) (k : Gd m b) : Gd (n + m) (a ++ b) := by
 refine ⟨by rw [ByteArray.size_append]; have := h.1; have := k.1; omega, fun x hx => ?_⟩
 rw [app_list] at hx
 rcases List.mem_append.1 hx with h1 | h1
 ·exact h.2 x h1
 ·exact k.2 x h1
theorem Gd.more {n m : Nat} {a : ByteArray} (h : Gd n a) (hm : n ≤ m) : Gd m a := ⟨Nat.le_trans h.1 hm, h.2⟩
theorem Gd.dec {u : Nat} (h : u < 10 ^ 10) : Gd 10 (tx (Lib.decDigits u)) := by
 have hd : ∀ (u : Nat) (x : UInt8), x ∈ Lib.decDigits u → 48 ≤ x.toNat := by
  intro u
  induction u using Nat.strongRecOn with
  | _ u ih =>
   intro x hx
   rw [Lib.decDigits] at hx
   by_cases h10 : u < 10
   ·rw [dif_pos h10] at hx
    obtain rfl := List.mem_singleton.1 hx
    rw [byte_small (by omega)]; omega
   ·rw [dif_neg h10] at hx
    rcases List.mem_append.1 hx with h | h
    ·exact ih (u / 10) (by omega) x h
    ·obtain rfl := List.mem_singleton.1 h
     rw [byte_small (by omega)]; omega
 refine ⟨?_, fun x hx e => ?_⟩
 ·rw [size_tx]
  by_cases h0 : u = 0
  ·subst h0; rw [Lib.decDigits_one (by decide)]; simp
  ·rw [← rd_rev u (by omega), List.length_reverse]
   exact rd_len 10 u h
 ·rw [list_tx] at hx
  have := hd u x hx
  rw [e] at this
  exact absurd this (by decide)
def TextRet (p K : Nat) (ss : List ByteArray) (w : World) (e : Ending) (w' : World) : Prop := ∃ r : Nat, e = .returned (.string (ss.getD r ByteArray.empty)) ∧ r < ss.length ∧ Src w' p K ∧ w.grownBy w' (some p)
theorem text_any (p K b off c : Nat) (ss : List ByteArray) (w : World) (h : Src w p K) (hK : K ≤ 1000000000000) (hb : b ≠ p) (hlt : b < w.heap.size) (hl : 1 ≤ ss.length) (hm : ss.length ≤ 1000000) (hc : ∀ i, i < ss.length → w.cell? ⟨b, off + i, none⟩ = some (.string (ss.getD i ByteArray.empty))) :
  Calls Tryz.prog 110 #[.pointer (some ⟨p, 0, none⟩), .slice (some ⟨b, off, none⟩) ss.length c] w (TextRet p (K + 2) ss w) := by
 have HP := J (pick_any p K ss.length w h hK)
 have HCc := J hc
 clear h hc
 go_enter Tryz.func110, Tryz.ntmps110
 go_wp2_with fail
 refine HP.out.mono ?_
 rintro e w1 ⟨r, rfl, hr, s1, g1⟩
 have hr' : r < ss.length := by omega
 have hcell : w1.cell? ⟨b, off + r, none⟩ = some (.string (ss.getD r ByteArray.empty)) := (World.cell?_of_block (a := ⟨b, off + r, none⟩) (g1.block b hlt fun e => hb (Option.some.inj e))).trans (HCc.out r hr')
 have S1 := J s1
 have G1 := J g1
 clear s1 g1 hr
 have HR : Hid (∀ v, v = ss.getD r ByteArray.empty → TextRet p (K + 2) ss w (.returned (.string v)) w1) := J fun v hv => ⟨r, by rw [hv], hr', S1.out, G1.out⟩
 generalize ss.getD r ByteArray.empty = v at *
 go_wp2
 go_ret
 exact HR.out _ rfl
def PickT (p K n : Nat) (w : World) (e : Ending) (w' : World) : Prop := ∃ t : ByteArray, Gd n t ∧ e = .returned (.string t) ∧ Src w' p K ∧ w.grownBy w' (some p)
theorem text_good (p K b off c n : Nat) (ss : List ByteArray) (w : World) (h : Src w p K) (hK : K ≤ 1000000000000) (hb : b ≠ p) (hlt : b < w.heap.size) (hl : 1 ≤ ss.length) (hm : ss.length ≤ 1000000) (hc : ∀ i, i < ss.length → w.cell? ⟨b, off + i, none⟩ = some (.string (ss.getD i ByteArray.empty))) (hg : ∀ i, i < ss.length → Gd n (ss.getD i ByteArray.empty)) :
  Calls Tryz.prog 110 #[.pointer (some ⟨p, 0, none⟩), .slice (some ⟨b, off, none⟩) ss.length c] w (PickT p (K + 2) n w) :=
 (text_any p K b off c ss w h hK hb hlt hl hm hc).mono fun e w' ⟨r, h1, h2, h3, h4⟩ => ⟨_, hg r h2, h1, h3, h4⟩
end LabD
end Go.Proofs.YtgipnbeipfhekaaGreatDoor
