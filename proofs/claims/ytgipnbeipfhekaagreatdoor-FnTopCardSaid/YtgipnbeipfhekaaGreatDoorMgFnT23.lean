/- The laws of fair bits of the program are valid; levels, ones, texts of fractions. -/
import Derived.Test.YtgipnbeipfhekaaGreatDoorMgFnT22
import Derived.Test.YtgipnbeipfhekaaGreatDoorMgFnT15
import Derived.Test.YtgipnbeipfhekaaGreatDoorMgFnT19
import Derived.Test.YtgipnbeipfhekaaGreatDoorMgFnT03
import Derived.Test.YtgipnbeipfhekaaGreatDoorMgFnT05
import Derived.Test.YtgipnbeipfhekaaGreatDoorMgFnT14
import Derived.Test.YtgipnbeipfhekaaGreatDoorMgFnT18
import Derived.Test.YtgipnbeipfhekaaGreatDoorMgFnT13
import Derived.Test.YtgipnbeipfhekaaGreatDoorMgFnT06
namespace Go.Proofs.YtgipnbeipfhekaaGreatDoor.TlA
open Go.RowKit Go.Proofs.YtgipnbeipfhekaaGreatDoor Go.Proofs.YtgipnbeipfhekaaGreatDoor.Base Go.Proofs.YtgipnbeipfhekaaGreatDoor.Mem Go.Proofs.YtgipnbeipfhekaaGreatDoor.MemF Go.Proofs.YtgipnbeipfhekaaGreatDoor.GiveM Go.Proofs.YtgipnbeipfhekaaGreatDoor.NatM Go.Proofs.YtgipnbeipfhekaaGreatDoor.Nat32 Go.Proofs.YtgipnbeipfhekaaGreatDoor.RatM Go.Proofs.YtgipnbeipfhekaaGreatDoor.Ratio Go.Proofs.YtgipnbeipfhekaaGreatDoor.ValF Go.Proofs.YtgipnbeipfhekaaGreatDoor.LvM Go.Proofs.YtgipnbeipfhekaaGreatDoor.LvQ Go.Proofs.YtgipnbeipfhekaaGreatDoor.LvO Go.Proofs.YtgipnbeipfhekaaGreatDoor.LvT Go.Proofs.YtgipnbeipfhekaaGreatDoor.LvW Go.Proofs.YtgipnbeipfhekaaGreatDoor.LvF Go.Proofs.YtgipnbeipfhekaaGreatDoor.LvG Go.Proofs.YtgipnbeipfhekaaGreatDoor.LpK
open Go.Proofs.YtgipnbeipfhekaaGreatDoor.Blk (Blk)
open Go.Proofs.YtgipnbeipfhekaaGreatDoor.Inv (not_slice not_bool)
set_option linter.unusedVariables false
set_option maxRecDepth 100000 in
theorem add_d {n x y : Nat} (hn : n ≤ 50) (hs : x + y ≤ 2 ^ n) (w : World) :
  Calls Tryz.prog 168 #[.agg #[.int .i64 (nD n x), .int .i64 (dD n x)], .agg #[.int .i64 (nD n y), .int .i64 (dD n y)]] w fun e w' => e = .returned (.tuple #[.agg #[.int .i64 (nD n (x + y)), .int .i64 (dD n (x + y))], .bool true]) ∧ Below w.heap.size w w' := by
 have HC := Lib.hid (fun W => comb_d hn hs W)
 generalize nD n x = x1 at *
 generalize dD n x = x2 at *
 generalize nD n y = y1 at *
 generalize dD n y = y2 at *
 generalize nD n (x + y) = z1 at *
 generalize dD n (x + y) = z2 at *
 clear hs
 obtain ⟨W3, hW3⟩ : ∃ W2, W2 = ((w.alloc (.cells #[.int .i64 x1, .int .i64 x2] 49)).alloc (.cells #[.int .i64 y1, .int .i64 y2] 49)).alloc (.cells #[.int .i64 0, .int .i64 0] 49) := ⟨_, rfl⟩
 have b3 : Below w.heap.size w W3 := by rw [hW3]; exact (((Below.refl _ _).alloc (Nat.le_refl _) _).alloc (by simp) _).alloc (by simp; omega) _
 have K0 : Blk W3 w.heap.size 49 #[.int .i64 x1, .int .i64 x2] := by rw [hW3]; exact ((Blk.new w _ _).alloc _).alloc _
 have K1 : Blk W3 (w.heap.size + 1) 49 #[.int .i64 y1, .int .i64 y2] := by rw [hW3]; exact (Blk.newAt _ _ (by simp)).alloc _
 have KR : Hid (Blk W3 (w.heap.size + 2) 49 #[.int .i64 0, .int .i64 0]) := Lib.hid (by rw [hW3]; exact Blk.newAt _ _ (by simp))
 have HB := Lib.hid b3
 have d0 := K0.at 0 (v := .int .i64 x1) rfl
 have d1 := K0.at 1 (v := .int .i64 x2) rfl
 have d2 := K1.at 0 (v := .int .i64 y1) rfl
 have d3 := K1.at 1 (v := .int .i64 y2) rfl
 rw [hW3] at d0 d1 d2 d3
 have HW := Lib.hid hW3
 clear hW3 b3 K0 K1
 go_enter Tryz.func168, Tryz.ntmps168
 go_wp2_with fail
 rw [← HW.out]
 refine (HC.out W3).mono ?_
 rintro e w4 ⟨rfl, hb4⟩
 have KRq := KR.out.belowS hb4
 have HBq := Base.Below.nextA HB.out hb4
 have z0 := KRq.frz 0
 have z3 := KRq.frz 1
 have c0 := KRq.at 0 (v := .int .i64 0) rfl
 have c1 := KRq.at 1 (v := .int .i64 0) rfl
 have KK := (KRq.setTo 0 (.int .i64 z1) rfl).setTo 1 (.int .i64 z2) rfl
 have k0 := KK.at 0 (v := .int .i64 z1) rfl
 have k1 := KK.at 1 (v := .int .i64 z2) rfl
 have HFIN := Lib.hid ((HBq.setCell (p := ⟨w.heap.size + 2, 0, none⟩) (by simp) (.int .i64 z1)).setCell (p := ⟨w.heap.size + 2, 1, none⟩) (by simp) (.int .i64 z2))
 clear KK HBq KRq hb4 KR HB HC HW d0 d1 d2 d3
 go_wp2
 refine bodyPost_ret (v := .tuple #[.agg #[.int .i64 z1, .int .i64 z2], .bool true]) (by simp [results, Tryz.results168, go_sem, k0, k1]) rfl ?_
 exact ⟨rfl, HFIN.out⟩
theorem outD_at (C : Cnt) (n : Nat) {N j : Nat} (hj : j < N) : (outF (fD C n) N).getD (2 * j) 0 = nD n (C.c j) ∧ (outF (fD C n) N).getD (2 * j + 1) 0 = dD n (C.c j) := out_at (fD C n) hj
def SmRel (C : Cnt) (n b N : Nat) (w : World) (iv : Value) (wr : World) : Prop :=
 ∃ i : Nat, i ≤ N ∧ iv = .int .i64 (i : Int) ∧ Hid (Blk wr b 49 #[.int .i64 (nD n (sm i C.c)), .int .i64 (dD n (sm i C.c))]) ∧ Hid (Blk wr w.heap.size 49 #[.int .i64 0, .int .i64 0]) ∧ Hid (Below w.heap.size w wr)
set_option maxHeartbeats 4000000 in
set_option maxRecDepth 100000 in
theorem sum_d {A : Option Addr} {c B n N : Nat} {C : Cnt} (hC : C.ok n) (hN : N = C.many) (hn : n ≤ 50) (w : World) (hx : RdF w B A N (outF (fD C n) N)) (hB : B ≤ w.heap.size) :
  Calls Tryz.prog 109 #[.slice A N c] w fun e w' => e = .returned (.tuple #[.agg #[.int .i64 1, .int .i64 1], .bool true]) ∧ Below w.heap.size w w' := by
 have HX := Lib.hid (hx.more hB)
 have HV : Hid (∀ j, j < N → ∀ W, Calls Tryz.prog 168 #[.agg #[.int .i64 (nD n (sm j C.c)), .int .i64 (dD n (sm j C.c))], .agg #[.int .i64 (nD n (C.c j)), .int .i64 (dD n (C.c j))]] W fun e w' => e = .returned (.tuple #[.agg #[.int .i64 (nD n (sm (j + 1) C.c)), .int .i64 (dD n (sm (j + 1) C.c))], .bool true]) ∧ Below W.heap.size W w') := Lib.hid fun j hj W =>
  add_d hn (Cnt.sum_le hC (k := j + 1) (by omega)) W
 have HOne : Hid (nD n (sm N C.c) = 1 ∧ dD n (sm N C.c) = 1) := Lib.hid (by
  rw [hN, hC.2.2.2]
  unfold nD dD
  rw [dy_one]
  exact ⟨by decide +kernel, by decide +kernel⟩)
 have hN60 : N ≤ 60 := by have := hC.2.1; omega
 have hvf : ∀ j, j < N → vfB ((outF (fD C n) N).getD (2 * j) 0) ((outF (fD C n) N).getD (2 * j + 1) 0) = true := fun j hj => by
  rw [(outD_at C n hj).1, (outD_at C n hj).2]
  exact vf_d (Cnt.one_le hC (by omega)) hn
 obtain ⟨W1, hW1⟩ : ∃ W2, W2 = w.alloc (.cells #[.int .i64 0, .int .i64 0] 49) := ⟨_, rfl⟩
 have b1 : Below w.heap.size w W1 := by rw [hW1]; exact (Below.refl _ _).alloc (Nat.le_refl _) _
 have HAr := Lib.hid (arF_yes (c := c) W1 ((hx.more hB).below b1 (Nat.le_refl _)) b1.size (by omega) hvf)
 have K1 : Hid (Blk W1 w.heap.size 49 #[.int .i64 0, .int .i64 0]) := Lib.hid (by rw [hW1]; exact Blk.new _ _ _)
 have HB1 := Lib.hid b1
 have HW1 := Lib.hid hW1
 clear hx hC hN hvf b1 hW1
 go_enter Tryz.func109, Tryz.ntmps109
 go_wp2_with fail
 rw [← HW1.out]
 refine HAr.out.mono ?_
 rintro e w2 ⟨rfl, b2⟩
 have K2 := K1.out.belowS b2
 have hl2 := K2.lt
 have B2 := Base.Below.nextA HB1.out b2
 have H0 : Hid (SmRel C n w2.heap.size N w (.int .i64 0) (w2.alloc (.cells #[.int .i64 0, .int .i64 1] 49))) := Lib.hid (by
  refine ⟨0, Nat.zero_le _, rfl, Lib.hid ?_, Lib.hid (K2.alloc _), Lib.hid (B2.alloc B2.size _)⟩
  rw [show sm 0 C.c = 0 from rfl, (nD_zero n).1, (nD_zero n).2]
  exact Blk.new _ _ _)
 clear K2 B2 b2 K1 HB1 HW1 HAr
 go_wp2
 go_loopw [20] (fun iv wr => SmRel C n w2.heap.size N w iv wr) (fun iv _ => N - (intOf iv).toNat)
 case atStart => exact H0.out
 case round =>
  obtain ⟨i, hi, rfl, KB, KR, HB⟩ := hrel
  obtain ⟨wp, rfl⟩ : ∃ x, x = wr := ⟨_, rfl⟩
  clear H0
  by_cases hlt : i < N
  ·obtain ⟨b, off, rfl, hb, g1, g2⟩ := rdD (HX.out.below HB.out (Nat.le_refl _)) hlt
   have HVi := Lib.hid (HV.out i hlt)
   have HN : Hid (∀ w5, Blk w5 w2.heap.size 49 #[.int .i64 (nD n (sm (i + 1) C.c)), .int .i64 (dD n (sm (i + 1) C.c))] → Blk w5 w.heap.size 49 #[.int .i64 0, .int .i64 0] → Below w.heap.size w w5 → SmRel C n w2.heap.size N w (.int .i64 ((i : Int) + 1)) w5) := Lib.hid fun w5 h1 h2 h3 => ⟨i + 1, hlt, by simp, Lib.hid h1, Lib.hid h2, Lib.hid h3⟩
   generalize nD n (sm (i + 1) C.c) = P at *
   generalize dD n (sm (i + 1) C.c) = Q at *
   generalize nD n (sm i C.c) = p at *
   generalize dD n (sm i C.c) = q at *
   generalize nD n (C.c i) = p' at *
   generalize dD n (C.c i) = q' at *
   obtain ⟨W3, hW3⟩ : ∃ W3, W3 = wp.alloc (.cells #[.int .i64 p', .int .i64 q'] 49) := ⟨_, rfl⟩
   have KB3 : Hid (Blk W3 w2.heap.size 49 #[.int .i64 p, .int .i64 q]) := Lib.hid (by rw [hW3]; exact KB.out.alloc _)
   have KR3 : Hid (Blk W3 w.heap.size 49 #[.int .i64 0, .int .i64 0]) := Lib.hid (by rw [hW3]; exact KR.out.alloc _)
   have KF3 : Blk W3 wp.heap.size 49 #[.int .i64 p', .int .i64 q'] := by rw [hW3]; exact Blk.new _ _ _
   have HB3 : Hid (Below w.heap.size w W3) := Lib.hid (by rw [hW3]; exact HB.out.alloc HB.out.size _)
   have s0 := KB3.out.at 0 (v := .int .i64 p) rfl
   have s1 := KB3.out.at 1 (v := .int .i64 q) rfl
   have s2 := KF3.at 0 (v := .int .i64 p') rfl
   have s3 := KF3.at 1 (v := .int .i64 q') rfl
   rw [hW3] at s0 s1 s2 s3
   have HW3 := Lib.hid hW3
   clear hW3 KF3
   go_wp2_with fail
   rw [← HW3.out]
   refine (HVi.out W3).mono ?_
   rintro e w4 ⟨rfl, hb4⟩
   have KB4 := KB3.out.belowS hb4
   have KR4 := KR3.out.belowS hb4
   have HB4 := Base.Below.nextA HB3.out hb4
   have t0 := KB4.at 0 (v := .int .i64 p) rfl
   have t1 := KB4.at 1 (v := .int .i64 q) rfl
   have t2 := KB4.frz 0
   have t3 := KB4.frz 1
   have HNb := Lib.hid (HN.out ((w4.setCell ⟨w2.heap.size, 0, none⟩ (.int .i64 P)).setCell ⟨w2.heap.size, 1, none⟩ (.int .i64 Q)) ((KB4.setTo 0 _ rfl).setTo 1 _ rfl) ((KR4.other _ (by simp; omega)).other _ (by simp; omega)) ((HB4.setCell (p := ⟨w2.heap.size, 0, none⟩) (by show w.heap.size ≤ w2.heap.size; omega) _).setCell (p := ⟨w2.heap.size, 1, none⟩) (by show w.heap.size ≤ w2.heap.size; omega) _))
   clear KB4 KR4 HB4 hb4 KB3 KR3 HB3 HW3 s0 s1 s2 s3 g1 g2 KB KR HB HN HVi
   go_wp2
   go_roundw
   case rel => exact HNb.out
   case measure => simp [intOf]; omega
  ·obtain rfl : i = N := by omega
   rw [HOne.out.1, HOne.out.2] at KB
   have s0 := KB.out.at 0 (v := .int .i64 1) rfl
   have s1 := KB.out.at 1 (v := .int .i64 1) rfl
   have r0 := KR.out.at 0 (v := .int .i64 0) rfl
   have r1 := KR.out.at 1 (v := .int .i64 0) rfl
   have f0 := KR.out.frz 0
   have f1 := KR.out.frz 1
   have SS := (KR.out.setTo 0 (.int .i64 1) rfl).setTo 1 (.int .i64 1) rfl
   have k0 := SS.at 0 (v := .int .i64 1) rfl
   have k1 := SS.at 1 (v := .int .i64 1) rfl
   have HBF := Lib.hid ((HB.out.setCell (p := ⟨w.heap.size, 0, none⟩) (Nat.le_refl _) (.int .i64 1)).setCell (p := ⟨w.heap.size, 1, none⟩) (Nat.le_refl _) (.int .i64 1))
   clear SS KB KR HB HX HV
   go_wp2
   refine bodyPost_ret (v := .tuple #[.agg #[.int .i64 1, .int .i64 1], .bool true]) (by simp [results, Tryz.results109, go_sem, k0, k1]) rfl ⟨rfl, HBF.out⟩
end Go.Proofs.YtgipnbeipfhekaaGreatDoor.TlA
namespace Go.Proofs.YtgipnbeipfhekaaGreatDoor.TlA
open Go.RowKit Go.Proofs.YtgipnbeipfhekaaGreatDoor Go.Proofs.YtgipnbeipfhekaaGreatDoor.Base Go.Proofs.YtgipnbeipfhekaaGreatDoor.Mem Go.Proofs.YtgipnbeipfhekaaGreatDoor.MemF Go.Proofs.YtgipnbeipfhekaaGreatDoor.GiveM Go.Proofs.YtgipnbeipfhekaaGreatDoor.NatM Go.Proofs.YtgipnbeipfhekaaGreatDoor.Nat32 Go.Proofs.YtgipnbeipfhekaaGreatDoor.RatM Go.Proofs.YtgipnbeipfhekaaGreatDoor.Ratio Go.Proofs.YtgipnbeipfhekaaGreatDoor.ValF Go.Proofs.YtgipnbeipfhekaaGreatDoor.LvM Go.Proofs.YtgipnbeipfhekaaGreatDoor.LvQ Go.Proofs.YtgipnbeipfhekaaGreatDoor.LvO Go.Proofs.YtgipnbeipfhekaaGreatDoor.LvT Go.Proofs.YtgipnbeipfhekaaGreatDoor.LvW Go.Proofs.YtgipnbeipfhekaaGreatDoor.LvF Go.Proofs.YtgipnbeipfhekaaGreatDoor.LvG Go.Proofs.YtgipnbeipfhekaaGreatDoor.LpK
open Go.Proofs.YtgipnbeipfhekaaGreatDoor.Blk (Blk)
set_option linter.unusedVariables false
set_option maxHeartbeats 1000000 in
theorem incr_d {A : Option Addr} {B c N : Nat} {C : Cnt} (hf : C.first ≤ 1) (hN : N ≤ 60) (w : World) (hx : RdI w B A (fl N (vD C))) :
  Calls Tryz.prog 105 #[.slice A N c] w fun e w' => e = .returned (.bool true) ∧ Below w.heap.size w w' := by
 have HX := Lib.hid hx
 clear hx
 go_enter Tryz.func105, Tryz.ntmps105
 go_wp2
 go_loopw [3] (fun iv wr => ∃ i : Nat, iv = .int .i64 (i : Int) ∧ 1 ≤ i ∧ i ≤ N + 1 ∧ Hid (Below w.heap.size w wr) ∧ Hid (RdI wr B A (fl N (vD C)))) (fun iv _ => N + 1 - (intOf iv).toNat)
 case atStart => exact ⟨1, rfl, Nat.le_refl _, by omega, Lib.hid (Below.refl _ _), HX⟩
 case round =>
  obtain ⟨i, rfl, h1, hi, HB, HR⟩ := hrel
  by_cases hlt : i < N
  ·obtain ⟨b, off, rfl, hbl, hc⟩ := rdV HR.out hlt
   obtain ⟨j, rfl⟩ : ∃ j, i = j + 1 := ⟨i - 1, by omega⟩
   have g0 := hc j (by omega)
   have g1 := hc (j + 1) hlt
   have e1 : ((j + 1 : Nat) : Int) - 1 = (j : Int) := by omega
   have HN : Hid (∀ k, Below w.heap.size w (wr.drewN k) ∧ RdI (wr.drewN k) B (some ⟨b, off, none⟩) (fl N (vD C))) := Lib.hid fun k => ⟨below_drewN HB.out k, HR.out.below (below_drewN (Below.refl B wr) k) (Nat.le_refl _)⟩
   clear hc HR HB HX
   go_wp2
   go_quiet (fail)
   go_wp2
   go_roundw
   case rel => exact ⟨j + 2, by simp; omega, by omega, by omega, Lib.hid (HN.out _).1, Lib.hid (HN.out _).2⟩
   case measure => simp [intOf]; omega
  ·go_wp2
   go_ret
   exact ⟨rfl, HB.out⟩
set_option maxHeartbeats 2000000 in
set_option maxRecDepth 100000 in
theorem valid_d {n : Nat} {C : Cnt} {v : Value} (hC : C.ok n) (h1 : 1 ≤ C.many) (hn : n ≤ 50) (w : World) (hv : LawIs C n w v) :
  Calls Tryz.prog 58 #[v] w fun e w' => e = .returned (.bool true) ∧ Below w.heap.size w w' := by
 obtain ⟨A, c, A', c', rfl, hx, hy⟩ := hv
 obtain ⟨N, hN⟩ : ∃ N, N = C.many := ⟨_, rfl⟩
 rw [← hN] at hx hy h1 ⊢
 have hN60 : N ≤ 60 := by have := hC.2.1; omega
 obtain ⟨W1, hW1⟩ : ∃ W2, W2 = w.alloc (.cells #[.slice A N c, .slice A' N c'] 60) := ⟨_, rfl⟩
 have b1 : Below w.heap.size w W1 := by rw [hW1]; exact (Below.refl _ _).alloc (Nat.le_refl _) _
 have KL : Hid (Blk W1 w.heap.size 60 #[.slice A N c, .slice A' N c']) := Lib.hid (by rw [hW1]; exact Blk.new _ _ _)
 have HX : Hid (∀ W, Below w.heap.size w W → RdI W W.heap.size A (fl N (vD C))) := Lib.hid fun W hb => (hx.below hb (Nat.le_refl _)).more hb.size
 have HY : Hid (∀ W, Below w.heap.size w W → RdF W W.heap.size A' N (outF (fD C n) N)) := Lib.hid fun W hb => (hy.below hb (Nat.le_refl _)).more hb.size
 have hvf : ∀ j, j < N → vfB ((outF (fD C n) N).getD (2 * j) 0) ((outF (fD C n) N).getD (2 * j + 1) 0) = true := fun j hj => by
  rw [(outD_at C n hj).1, (outD_at C n hj).2]
  exact vf_d (Cnt.one_le hC (by omega)) hn
 have hall : AllIn.allInB (fl N (vD C)) (-1000000000000000) 1000000000000000 = true := AllIn.allInB_of fun i hi => by
  rw [fl_len] at hi
  rw [fl_at _ hi]
  have := hC.1
  unfold vD
  exact inR_yes (by omega)
 have HLn := Lib.hid (fun W => AllIn.lenI_any A N c W (by omega))
 have HIn : Hid (∀ W, Calls Tryz.prog 31 #[.int .i64 (N : Int), .int .i64 1, .int .i64 64] W fun e w' => e = .returned (.bool true) ∧ W = w') := Lib.hid fun W => by
  have := inRange_any (N : Int) 1 64 W
  rw [inR_yes (by omega)] at this
  exact this
 have HAl : Hid (∀ W, Below w.heap.size w W → Calls Tryz.prog 104 #[.slice A N c, .int .i64 (-1000000000000000), .int .i64 1000000000000000] W fun e w' => e = .returned (.bool true) ∧ Below W.heap.size W w') := Lib.hid fun W hb => by
  have := AllIn.allIn_any A c W.heap.size (fl N (vD C)) (-1000000000000000) 1000000000000000 W (HX.out W hb) (Nat.le_refl _) (by rw [fl_len]; omega)
  rw [hall, fl_len] at this
  exact this
 have HIc := Lib.hid (fun W hb => incr_d (c := c) hC.1 hN60 W (HX.out W hb))
 have HAr := Lib.hid (fun W hb => arF_yes (c := c') W (HY.out W hb) (Nat.le_refl _) (by omega) hvf)
 have HPs := Lib.hid (fun W hb => ctP_no (c := c') W (HY.out W hb) (Nat.le_refl _) (by omega) fun j hj W' => closP_any _ _ (by rw [(outD_at C n hj).1]; exact nD_pos (hC.2.2.1 j (by omega)) (Cnt.one_le hC (by omega)) hn) W')
 have HSu := Lib.hid (fun W hb => sum_d (c := c') hC hN hn W (HY.out W hb) (Nat.le_refl _))
 have HB := Lib.hid b1
 have HW := Lib.hid hW1
 have d0 := KL.out.at 0 (v := .slice A N c) rfl
 have d1 := KL.out.at 1 (v := .slice A' N c') rfl
 rw [hW1] at d0 d1
 clear hx hy hC hvf hall b1 hW1 HX HY hN hn
 go_enter Tryz.func58, Tryz.ntmps58
 go_wp2_with fail
 rw [← HW.out]
 refine (HLn.out _).mono ?_
 rintro e w1 ⟨rfl, rfl⟩
 rw [HW.out]
 go_wp2_with fail
 refine (HIn.out _).mono ?_
 rintro e w1 ⟨rfl, rfl⟩
 go_wp2_with fail
 rw [← HW.out]
 refine (HAl.out _ HB.out).mono ?_
 rintro e w2 ⟨rfl, b2⟩
 have KL2 := Lib.hid (KL.out.belowS b2)
 have HB2 := Lib.hid (Base.Below.nextA HB.out b2)
 clear b2 d0 d1 KL HB
 have d0 := KL2.out.at 0 (v := .slice A N c) rfl
 have d1 := KL2.out.at 1 (v := .slice A' N c') rfl
 go_wp2_with fail
 refine (HIc.out _ HB2.out).mono ?_
 rintro e w3 ⟨rfl, b3⟩
 have KL3 := Lib.hid (KL2.out.belowS b3)
 have HB3 := Lib.hid (Base.Below.nextA HB2.out b3)
 clear b3 d0 d1 KL2 HB2
 have d0 := KL3.out.at 0 (v := .slice A N c) rfl
 have d1 := KL3.out.at 1 (v := .slice A' N c') rfl
 go_wp2_with fail
 refine (HAr.out _ HB3.out).mono ?_
 rintro e w4 ⟨rfl, b4⟩
 have KL4 := Lib.hid (KL3.out.belowS b4)
 have HB4 := Lib.hid (Base.Below.nextA HB3.out b4)
 clear b4 d0 d1 KL3 HB3
 have d0 := KL4.out.at 0 (v := .slice A N c) rfl
 have d1 := KL4.out.at 1 (v := .slice A' N c') rfl
 go_wp2_with fail
 refine (HPs.out _ HB4.out).mono ?_
 rintro e w5 ⟨rfl, b5⟩
 have KL5 := Lib.hid (KL4.out.belowS b5)
 have HB5 := Lib.hid (Base.Below.nextA HB4.out b5)
 clear b5 d0 d1 KL4 HB4
 have d0 := KL5.out.at 0 (v := .slice A N c) rfl
 have d1 := KL5.out.at 1 (v := .slice A' N c') rfl
 go_wp2_with fail
 refine (HSu.out _ HB5.out).mono ?_
 rintro e w6 ⟨rfl, b6⟩
 have HB6 := Lib.hid (Base.Below.nextA HB5.out b6)
 clear b6 d0 d1
 go_wp2
 go_ret
 exact ⟨ret_bool (by simp), HB6.out.alloc HB6.out.size _⟩
end Go.Proofs.YtgipnbeipfhekaaGreatDoor.TlA
namespace Go.Proofs.YtgipnbeipfhekaaGreatDoor.TlA
open Go.RowKit Go.Proofs.YtgipnbeipfhekaaGreatDoor Go.Proofs.YtgipnbeipfhekaaGreatDoor.Base Go.Proofs.YtgipnbeipfhekaaGreatDoor.Mem Go.Proofs.YtgipnbeipfhekaaGreatDoor.MemF Go.Proofs.YtgipnbeipfhekaaGreatDoor.Blk Go.Proofs.YtgipnbeipfhekaaGreatDoor.LvM Go.Proofs.YtgipnbeipfhekaaGreatDoor.LvQ Go.Proofs.YtgipnbeipfhekaaGreatDoor.LvO Go.Proofs.YtgipnbeipfhekaaGreatDoor.LvR Go.Proofs.YtgipnbeipfhekaaGreatDoor.LvT Go.Proofs.YtgipnbeipfhekaaGreatDoor.LvW Go.Proofs.YtgipnbeipfhekaaGreatDoor.LvJ Go.Proofs.YtgipnbeipfhekaaGreatDoor.LvK Go.Proofs.YtgipnbeipfhekaaGreatDoor.LpR Go.Proofs.YtgipnbeipfhekaaGreatDoor.Dice Go.Proofs.YtgipnbeipfhekaaGreatDoor.ValF Go.Proofs.YtgipnbeipfhekaaGreatDoor.LvG Go.Proofs.YtgipnbeipfhekaaGreatDoor.LvF
open Go.Proofs.YtgipnbeipfhekaaGreatDoor.Blk (Blk)
open Go.Proofs.YtgipnbeipfhekaaGreatDoor.LcG (Tabs fracText_any)
open Go.Proofs.YtgipnbeipfhekaaGreatDoor.CarM (fracR)
open Go.Proofs.YtgipnbeipfhekaaGreatDoor.Dec (tx)
set_option linter.unusedVariables false
set_option maxRecDepth 100000 in
theorem levelOf_d {n p : Nat} {C : Cnt} {v : Value} (hC : C.ok n) (hp : p < C.many) (hn : n ≤ 50) (w : World) (hv : LawIs C n w v) :
  Calls Tryz.prog 21 #[v, .int .i64 ((C.first + p : Nat) : Int)] w fun e w' => e = .returned (.tuple #[.agg #[.int .i64 (nD n (upS C (C.c p) C.many)), .int .i64 (dD n (upS C (C.c p) C.many))], .bool true]) ∧ Below w.heap.size w w' := by
 have hv0 := hv
 obtain ⟨A, c, A', c', rfl, hx, hy⟩ := hv
 obtain ⟨W3, hW3⟩ : ∃ W2, W2 = (w.alloc (.cells #[.slice A C.many c, .slice A' C.many c'] 60)).alloc (.cells #[.int .i64 0, .int .i64 0] 49) := ⟨_, rfl⟩
 have b3 : Below w.heap.size w W3 := by rw [hW3]; exact ((Below.refl _ _).alloc (Nat.le_refl _) _).alloc (by simp) _
 have KL : Hid (Blk W3 w.heap.size 60 #[.slice A C.many c, .slice A' C.many c']) := Lib.hid (by rw [hW3]; exact (Blk.new w _ _).alloc _)
 have KR : Hid (Blk W3 (w.heap.size + 1) 49 #[.int .i64 0, .int .i64 0]) := Lib.hid (by rw [hW3]; exact Blk.newAt _ _ (by simp))
 have HV := Lib.hid (fun W hb => valid_d hC (by omega) hn W (LawIs.below (w' := W) hv0 hb))
 have HL := Lib.hid (fun W hb => LpL.levelI_d hC hp hn W (LawIs.below (w' := W) hv0 hb))
 have HB := Lib.hid b3
 have HW := Lib.hid hW3
 have d0 := KL.out.at 0 (v := .slice A C.many c) rfl
 have d1 := KL.out.at 1 (v := .slice A' C.many c') rfl
 rw [hW3] at d0 d1
 clear hv0 hx hy b3 hW3
 generalize nD n (upS C (C.c p) C.many) = z1 at *
 generalize dD n (upS C (C.c p) C.many) = z2 at *
 generalize ((C.first + p : Nat) : Int) = q at *
 go_enter Tryz.func21, Tryz.ntmps21
 go_wp2_with fail
 rw [← HW.out]
 refine (HV.out _ HB.out).mono ?_
 rintro e w4 ⟨rfl, b4⟩
 have KL4 := Lib.hid (KL.out.belowS b4)
 have KR4 := Lib.hid (KR.out.belowS b4)
 have HB4 := Lib.hid (Base.Below.nextA HB.out b4)
 clear b4 d0 d1 KL KR HB HW
 have d0 := KL4.out.at 0 (v := .slice A C.many c) rfl
 have d1 := KL4.out.at 1 (v := .slice A' C.many c') rfl
 go_wp2_with fail
 refine (HL.out _ HB4.out).mono ?_
 rintro e w5 ⟨rfl, b5⟩
 have KRq := KR4.out.belowS b5
 have HBq := Base.Below.nextA HB4.out b5
 have z0 := KRq.frz 0
 have z3 := KRq.frz 1
 have c0 := KRq.at 0 (v := .int .i64 0) rfl
 have c1 := KRq.at 1 (v := .int .i64 0) rfl
 have KK := (KRq.setTo 0 (.int .i64 z1) rfl).setTo 1 (.int .i64 z2) rfl
 have k0 := KK.at 0 (v := .int .i64 z1) rfl
 have k1 := KK.at 1 (v := .int .i64 z2) rfl
 have HFIN := Lib.hid ((HBq.setCell (p := ⟨w.heap.size + 1, 0, none⟩) (by simp) (.int .i64 z1)).setCell (p := ⟨w.heap.size + 1, 1, none⟩) (by simp) (.int .i64 z2))
 clear KK HBq KRq KR4 HB4 HV HL b5 d0 d1
 go_wp2
 refine bodyPost_ret (v := .tuple #[.agg #[.int .i64 z1, .int .i64 z2], .bool true]) (by simp [results, Tryz.results21, go_sem, k0, k1]) rfl ?_
 exact ⟨rfl, HFIN.out⟩
theorem levelA {s : ByteArray} (hs : s.size ≤ 50) {v : Value} (w : World) (hv : LawIs (onesC s.size) s.size w v) : Calls Tryz.prog 21 #[v, .int .i64 ((onesTo (byt s) s.size : Nat) : Int)] w (LvK.FrRet (nD s.size (LvK.lvA s)) (dD s.size (LvK.lvA s)) w) := by
 have h := levelOf_d (p := onesTo (byt s) s.size) (onesC_ok s.size) (by have := ones_le (byt s) s.size; show _ < s.size + 1; omega) hs w hv
 rw [show (onesC s.size).first + onesTo (byt s) s.size = onesTo (byt s) s.size from Nat.zero_add _] at h
 exact h
set_option maxRecDepth 100000 in
theorem onesOf_d (s : ByteArray) (hs : s.size ≤ 400) (hB : BitsS s) (w : World) : Calls Tryz.prog 19 #[.string s] w fun e w' => e = .returned (.tuple #[.int .i64 ((onesTo (byt s) s.size : Nat) : Int), .bool true]) ∧ Below w.heap.size w w' := by
 have HI := Lib.hid (fun W => isBits_yes s hs hB W)
 have HC := Lib.hid (fun W => LpT.count_d s W)
 clear hB
 generalize ((onesTo (byt s) s.size : Nat) : Int) = q at *
 go_enter Tryz.func19, Tryz.ntmps19
 go_wp2_with fail
 refine (HI.out _).mono ?_
 rintro e w1 ⟨rfl, b1⟩
 have HB := Lib.hid b1
 clear b1
 go_wp2_with fail
 refine (HC.out _).mono ?_
 rintro e w2 ⟨rfl, rfl⟩
 go_wp2
 refine bodyPost_ret (v := .tuple #[.int .i64 q, .bool true]) (by simp [results, Tryz.results19, go_sem]) rfl ⟨rfl, HB.out⟩
set_option maxRecDepth 100000 in
theorem onesLaw_d (n : Nat) (h1 : 1 ≤ n) (hn : n ≤ 50) (w : World) : Calls Tryz.prog 20 #[.int .i64 (n : Int)] w fun e w' => ∃ v, e = .returned (.tuple #[v, .bool true]) ∧ LawIs (onesC n) n w' v ∧ Below w.heap.size w w' := by
 have HF := Lib.hid (fun W => isFair_d (n : Int) W)
 rw [inR_yes (by omega)] at HF
 have HO := Lib.hid (fun W => LpX.onesI_d n hn W)
 obtain ⟨W1, hW1⟩ : ∃ W2, W2 = w.alloc (.cells #[.slice none 0 0, .slice none 0 0] 60) := ⟨_, rfl⟩
 have KR : Hid (Blk W1 w.heap.size 60 #[.slice none 0 0, .slice none 0 0]) := Lib.hid (by rw [hW1]; exact Blk.new _ _ _)
 have HB : Hid (Below w.heap.size w W1) := Lib.hid (by rw [hW1]; exact (Below.refl _ _).alloc (Nat.le_refl _) _)
 have HW := Lib.hid hW1
 clear hW1
 go_enter Tryz.func20, Tryz.ntmps20
 go_wp2_with fail
 rw [← HW.out]
 refine (HF.out _).mono ?_
 rintro e w2 ⟨rfl, rfl⟩
 go_wp2_with fail
 refine (HO.out _).mono ?_
 rintro e w3 ⟨v, rfl, hO, b3⟩
 obtain ⟨A, c, A', c', rfl, o1, o2⟩ := hO
 have HK := Lib.hid (KR.out.belowS b3)
 have hlt := HK.out.lt
 have HBq := Lib.hid (Base.Below.nextA HB.out b3)
 have hsz : w.heap.size < W1.heap.size := KR.out.lt
 have z0 := HK.out.frz 0
 have z3 := HK.out.frz 1
 have c0 := HK.out.at 0 (v := .slice none 0 0) rfl
 have c1 := HK.out.at 1 (v := .slice none 0 0) rfl
 have KK := (HK.out.setTo 0 (.slice A (onesC n).many c) rfl).setTo 1 (.slice A' (onesC n).many c') rfl
 have k0 := KK.at 0 (v := .slice A (onesC n).many c) rfl
 have k1 := KK.at 1 (v := .slice A' (onesC n).many c') rfl
 have HFIN : Hid (LawIs (onesC n) n ((w3.setCell ⟨w.heap.size, 0, none⟩ (.slice A (onesC n).many c)).setCell ⟨w.heap.size, 1, none⟩ (.slice A' (onesC n).many c')) (.agg #[.slice A (onesC n).many c, .slice A' (onesC n).many c']) ∧ Below w.heap.size w ((w3.setCell ⟨w.heap.size, 0, none⟩ (.slice A (onesC n).many c)).setCell ⟨w.heap.size, 1, none⟩ (.slice A' (onesC n).many c'))) := Lib.hid ⟨?hlaw, (HBq.out.setCell (p := ⟨w.heap.size, 0, none⟩) (Nat.le_refl _) _).setCell (p := ⟨w.heap.size, 1, none⟩) (Nat.le_refl _) _⟩
 case hlaw =>
  refine LawOwn.is (B := W1.heap.size) ⟨A, c, A', c', rfl, ?_, ?_⟩
  ·exact ownsRow_setCell_below (ownsRow_setCell_below o1 (a := ⟨w.heap.size, 0, none⟩) hsz _) (a := ⟨w.heap.size, 1, none⟩) hsz _
  ·exact ownsRow_setCell_below (ownsRow_setCell_below o2 (a := ⟨w.heap.size, 0, none⟩) hsz _) (a := ⟨w.heap.size, 1, none⟩) hsz _
 clear KK o1 o2 HK HBq KR HB HW HF HO b3
 go_wp2
 refine bodyPost_ret (v := .tuple #[.agg #[.slice A (onesC n).many c, .slice A' (onesC n).many c'], .bool true]) (by simp [results, Tryz.results20, go_sem, k0, k1]) rfl ?_
 exact ⟨_, rfl, HFIN.out.1, HFIN.out.2⟩
set_option maxRecDepth 100000 in
theorem fracT_d (p q : Nat) (hv : vfB (p : Int) (q : Int) = true) (w : World) (ht : Tabs w) : Calls Tryz.prog 16 #[.agg #[.int .i64 (p : Int), .int .i64 (q : Int)]] w fun e w' => e = .returned (.tuple #[.string (tx (fracR p q)), .bool true]) ∧ Below w.heap.size w w' := by
 have hvf := vfB_true.1 hv
 have HV := Lib.hid (fun W => validI_any (p : Int) (q : Int) W)
 rw [hv] at HV
 have HT := Lib.hid (fun W hb => fracText_any p q (by have := hvf.2.2.2.1; omega) (by have := hvf.2.1; omega) W (ht.on hb))
 obtain ⟨W1, hW1⟩ : ∃ W2, W2 = w.alloc (.cells #[.int .i64 (p : Int), .int .i64 (q : Int)] 49) := ⟨_, rfl⟩
 have KR : Hid (Blk W1 w.heap.size 49 #[.int .i64 (p : Int), .int .i64 (q : Int)]) := Lib.hid (by rw [hW1]; exact Blk.new _ _ _)
 have HB : Hid (Below w.heap.size w W1) := Lib.hid (by rw [hW1]; exact (Below.refl _ _).alloc (Nat.le_refl _) _)
 have HW := Lib.hid hW1
 clear hW1 hvf hv ht
 generalize tx (fracR p q) = t at *
 generalize (p : Int) = p' at *
 generalize (q : Int) = q' at *
 go_enter Tryz.func16, Tryz.ntmps16
 go_wp2_with fail
 rw [← HW.out]
 refine (HV.out _).mono ?_
 rintro e w2 ⟨rfl, b2⟩
 have KR2 := KR.out.belowS b2
 have HB2 := Lib.hid (Base.Below.nextA HB.out b2)
 have c0 := KR2.at 0 (v := .int .i64 p') rfl
 have c1 := KR2.at 1 (v := .int .i64 q') rfl
 clear KR2 b2 KR HB HW
 go_wp2_with fail
 refine (HT.out _ HB2.out).mono ?_
 rintro e w3 ⟨rfl, b3⟩
 have HB3 := Lib.hid (Base.Below.nextA HB2.out b3)
 clear b3 HB2
 go_wp2
 refine bodyPost_ret (v := .tuple #[.string t, .bool true]) (by simp [results, Tryz.results16, go_sem]) rfl ⟨rfl, HB3.out⟩
end Go.Proofs.YtgipnbeipfhekaaGreatDoor.TlA
namespace Go.Proofs.YtgipnbeipfhekaaGreatDoor.TlA
open Go.RowKit Go.Proofs.YtgipnbeipfhekaaGreatDoor Go.Proofs.YtgipnbeipfhekaaGreatDoor.Base Go.Proofs.YtgipnbeipfhekaaGreatDoor.Mem Go.Proofs.YtgipnbeipfhekaaGreatDoor.MemF
set_option linter.unusedVariables false
set_option maxHeartbeats 1000000 in
theorem equalF_yes {A A' : Option Addr} {c c' n : Nat} {fs : List Int} (hn : n ≤ 1000) (w : World) (hx : RdF w w.heap.size A n fs) (hy : RdF w w.heap.size A' n fs) :
  Calls Tryz.prog 22 #[.slice A n c, .slice A' n c'] w fun e w' => e = .returned (.bool true) ∧ ∃ k, w' = w.drewN k := by
 have HX := Lib.hid hx
 have HY := Lib.hid hy
 clear hx hy
 go_enter Tryz.func22, Tryz.ntmps22
 go_wp2
 go_loopw [5] (fun iv wr => ∃ i : Nat, iv = .int .i64 (i : Int) ∧ i ≤ n ∧ Hid (∃ k, wr = w.drewN k)) (fun iv _ => n - (intOf iv).toNat)
 case atStart => exact ⟨0, rfl, Nat.zero_le _, Lib.hid ⟨0, rfl⟩⟩
 case round =>
  obtain ⟨i, rfl, hi, HK⟩ := hrel
  have HB : Hid (Below w.heap.size w wr) := Lib.hid (by obtain ⟨k0, hk0⟩ := HK.out; rw [hk0]; exact below_drewN (Below.refl _ _) k0)
  by_cases hlt : i < n
  ·obtain ⟨b, off, rfl, hbl, g1, g2⟩ := (HX.out.below HB.out (Nat.le_refl _)).at hlt
   obtain ⟨b', off', rfl, hbl', p1, p2⟩ := (HY.out.below HB.out (Nat.le_refl _)).at hlt
   generalize fs.getD (2 * i) 0 = x0 at *
   generalize fs.getD (2 * i + 1) 0 = x1 at *
   clear HX HY HB
   go_wp2
   go_quiet (fail)
   go_wp2
   go_roundw
   case rel => obtain ⟨k0, hk0⟩ := HK.out; exact ⟨i + 1, by simp, hlt, Lib.hid ⟨_, by rw [hk0]; exact World.drewN_drewN _ _ _⟩⟩
   case measure => simp [intOf]; omega
  ·go_wp2
   go_ret
   exact ⟨rfl, HK.out⟩
end Go.Proofs.YtgipnbeipfhekaaGreatDoor.TlA
namespace Go.Proofs.YtgipnbeipfhekaaGreatDoor.TopC
open Go.RowKit Go.Proofs.YtgipnbeipfhekaaGreatDoor Go.Proofs.YtgipnbeipfhekaaGreatDoor.Base Go.Proofs.YtgipnbeipfhekaaGreatDoor.Mem Go.Proofs.YtgipnbeipfhekaaGreatDoor.MemS Go.Proofs.YtgipnbeipfhekaaGreatDoor.LabM Go.Proofs.YtgipnbeipfhekaaGreatDoor.LabV Go.Proofs.YtgipnbeipfhekaaGreatDoor.StM Go.Proofs.YtgipnbeipfhekaaGreatDoor.Str Go.Proofs.YtgipnbeipfhekaaGreatDoor.StTx Go.Proofs.YtgipnbeipfhekaaGreatDoor.Dec Go.Proofs.YtgipnbeipfhekaaGreatDoor.Val Go.Proofs.YtgipnbeipfhekaaGreatDoor.Rd Go.Proofs.YtgipnbeipfhekaaGreatDoor.Skip Go.Proofs.YtgipnbeipfhekaaGreatDoor.Take Go.Proofs.YtgipnbeipfhekaaGreatDoor.Face Go.Proofs.YtgipnbeipfhekaaGreatDoor.CutP Go.Proofs.YtgipnbeipfhekaaGreatDoor.RecJ Go.Proofs.YtgipnbeipfhekaaGreatDoor.CarM Go.Proofs.YtgipnbeipfhekaaGreatDoor.LcA Go.Proofs.YtgipnbeipfhekaaGreatDoor.LcC Go.Proofs.YtgipnbeipfhekaaGreatDoor.LcG Go.Proofs.YtgipnbeipfhekaaGreatDoor.TopM Go.Proofs.YtgipnbeipfhekaaGreatDoor.StrM
open Go.Proofs.YtgipnbeipfhekaaGreatDoor.LvQ Go.Proofs.YtgipnbeipfhekaaGreatDoor.LvW Go.Proofs.YtgipnbeipfhekaaGreatDoor.LvR Go.Proofs.YtgipnbeipfhekaaGreatDoor.LvK Go.Proofs.YtgipnbeipfhekaaGreatDoor.LvN
set_option linter.unusedVariables false
theorem part_nat {n x : Nat} (hx : x ≤ 2 ^ n) (hn : n ≤ 50) : ∃ p q : Nat, nD n x = (p : Int) ∧ dD n x = (q : Int) ∧ p ≤ 1000000000000000000 ∧ q ≤ 1000000000000000000 := by
 obtain ⟨e1, e2⟩ := dy_numQ hx hn
 obtain ⟨p1, p2⟩ := dy_parts n x
 have hv := TlA.vf_d hx hn
 have hvf := ValF.vfB_true.1 hv
 have h1 : nD n x = ((x / Nat.gcd x (2 ^ n) : Nat) : Int) := by unfold nD; rw [e1, p1]
 have h2 : dD n x = ((2 ^ n / Nat.gcd x (2 ^ n) : Nat) : Int) := by unfold dD; rw [e2, p2]
 have r1 := hvf.2.2.2.1
 have r2 := hvf.2.1
 rw [h1] at r1
 rw [h2] at r2
 exact ⟨_, _, h1, h2, by omega, by omega⟩
theorem bits_size (x : St) (n : Nat) : (tx (takeL x.K x.W x.T x.m x.f x.a x.s (n : Int))).size = n := by rw [size_tx, takeL_len]
theorem join_three (a b c : Tx) : joinR [32] [a, b, c] = a ++ 32 :: (b ++ 32 :: c) := by simp [joinR, Lib.join]
theorem fracs_three (a b c d e f : Int) : fracsR [a, b, c, d, e, f] 3 = [fracR a b, fracR c d, fracR e f] := rfl
theorem fracR_len {p q : Nat} (hp : p ≤ 1000000000000000000) (hq : q ≤ 1000000000000000000) : (fracR (p : Int) (q : Int)).length ≤ 50 := by
 have h1 := dec_len (u := p) (by omega)
 have h2 := dec_len (u := q) (by omega)
 unfold fracR decI
 rw [Int.toNat_natCast, Int.toNat_natCast]
 split
 ·omega
 ·simp; omega
structure Six (s : ByteArray) (n : Nat) (a1 a2 b1 b2 c1 c2 : Nat) : Prop where
 size : s.size = n
 eq : lvF s = [(a1 : Int), (a2 : Int), (b1 : Int), (b2 : Int), (c1 : Int), (c2 : Int)]
 h1 : a1 ≤ 1000000000000000000 ∧ a2 ≤ 1000000000000000000
 h2 : b1 ≤ 1000000000000000000 ∧ b2 ≤ 1000000000000000000
 h3 : c1 ≤ 1000000000000000000 ∧ c2 ≤ 1000000000000000000
 v1 : ValF.vfB (a1 : Int) (a2 : Int) = true
 v2 : ValF.vfB (b1 : Int) (b2 : Int) = true
 v3 : ValF.vfB (c1 : Int) (c2 : Int) = true
 first : nD n (lvA s) = (a1 : Int) ∧ dD n (lvA s) = (a2 : Int)
theorem six {s : ByteArray} {n : Nat} (hs : s.size = n) (h1 : 1 ≤ n) (hn : n ≤ 50) : ∃ a1 a2 b1 b2 c1 c2, Six s n a1 a2 b1 b2 c1 c2 := by
 subst hs
 have hA : lvA s ≤ 2 ^ s.size := upS_le (onesC_ok s.size) _ (Nat.le_refl _)
 have hB : lvB s ≤ 2 ^ s.size := upS_le (runsC_ok h1) _ (Nat.le_refl _)
 have hC : lvC s ≤ 2 ^ s.size := upS_le (lenC_ok h1) _ (Nat.le_refl _)
 obtain ⟨a1, a2, x1, x2, x3, x4⟩ := part_nat hA hn
 obtain ⟨b1, b2, y1, y2, y3, y4⟩ := part_nat hB hn
 obtain ⟨c1, c2, z1, z2, z3, z4⟩ := part_nat hC hn
 have v1 := TlA.vf_d hA hn
 have v2 := TlA.vf_d hB hn
 have v3 := TlA.vf_d hC hn
 rw [x1, x2] at v1
 rw [y1, y2] at v2
 rw [z1, z2] at v3
 exact ⟨a1, a2, b1, b2, c1, c2, rfl, by unfold lvF; rw [x1, x2, y1, y2, z1, z2], ⟨x3, x4⟩, ⟨y3, y4⟩, ⟨z3, z4⟩, v1, v2, v3, x1, x2⟩
theorem six_in {a1 a2 b1 b2 c1 c2 : Nat} (h1 : a1 ≤ 1000000000000000000 ∧ a2 ≤ 1000000000000000000) (h2 : b1 ≤ 1000000000000000000 ∧ b2 ≤ 1000000000000000000) (h3 : c1 ≤ 1000000000000000000 ∧ c2 ≤ 1000000000000000000) :
  ∀ i, 0 ≤ ([(a1 : Int), a2, b1, b2, c1, c2] : List Int).getD i 0 ∧ ([(a1 : Int), a2, b1, b2, c1, c2] : List Int).getD i 0 ≤ 1000000000000000000
 | 0 => by simp; omega
 | 1 => by simp; omega
 | 2 => by simp; omega
 | 3 => by simp; omega
 | 4 => by simp; omega
 | 5 => by simp; omega
 | i + 6 => by simp
theorem one_face {K W T m f a s : Int} {n : Nat} (hB : streamB K W T m f a s = true) (h1 : 1 ≤ n) (hn : n ≤ 16) :
  facesR K W T m f a s (n : Int) 1 = none ∨ ∃ (c : Nat) (y : Int), c < n ∧ facesR K W T m f a s (n : Int) 1 = some ([(c : Int)], y) := by
 have e := facesR_yes (K := K) (W := W) (T := T) (m := m) (f := f) (a := a) (s := s) (n := n) (c := 1) h1 (by rw [hB, inR_yes (by omega), inR_yes (by decide)]; rfl)
 rw [show ((1 : Nat) : Int) = 1 from rfl] at e
 cases hf : faceR K W T m f a s n h1 with
 | none => exact .inl (by rw [e]; exact facesA_none hf)
 | some q =>
  obtain ⟨c, u⟩ := q
  refine .inr ⟨c, takeX K W T m f a s (u : Int), (faceR_bd (by omega) hf).1, ?_⟩
  rw [e, facesA_some hf]
  rfl
noncomputable def lvT (a1 a2 b1 b2 c1 c2 : Nat) : Tx := fracR (a1 : Int) (a2 : Int) ++ 32 :: (fracR (b1 : Int) (b2 : Int) ++ 32 :: fracR (c1 : Int) (c2 : Int))
theorem lvT_len {s : ByteArray} {n a1 a2 b1 b2 c1 c2 : Nat} (S : Six s n a1 a2 b1 b2 c1 c2) : (lvT a1 a2 b1 b2 c1 c2).length ≤ 1000 := by
 have g1 := fracR_len S.h1.1 S.h1.2
 have g2 := fracR_len S.h2.1 S.h2.2
 have g3 := fracR_len S.h3.1 S.h3.2
 unfold lvT
 simp
 omega
theorem five_yes {x x1 z : St} {n f a1 a2 b1 b2 c1 c2 : Nat} {o : Tx} (hx : x.ok = true) (hx1 : x1.ok = true) (e1 : x1 = x.to (takeX x.K x.W x.T x.m x.f x.a x.s n)) (h1 : 1 ≤ n) (hn : n ≤ 30)
  (S : Six (tx (takeL x1.K x1.W x1.T x1.m x1.f x1.a x1.s n)) n a1 a2 b1 b2 c1 c2) (hr : lineR (L1 x1) (lN wRoll f) = (L1 z, o)) (hc : CarC (L1 x1) (lN wRoll f)) : Five x x1 z n f (takeL x.K x.W x.T x.m x.f x.a x.s n) (lvT a1 a2 b1 b2 c1 c2) o := by
 have hok : okL x1.K x1.W x1.T x1.m x1.f x1.a x1.s n = true := by
  unfold okL
  rw [show streamB x1.K x1.W x1.T x1.m x1.f x1.a x1.s = true from hx1, inR_yes (by omega)]; rfl
 have hR : resL x1.K x1.W x1.T x1.m x1.f x1.a x1.s n = [(a1 : Int), (a2 : Int), (b1 : Int), (b2 : Int), (c1 : Int), (c2 : Int)] := by
  unfold resL
  rw [if_pos hok]
  exact S.eq
 have hj : joinR [32] (fracsR (resL x1.K x1.W x1.T x1.m x1.f x1.a x1.s n) 3) = lvT a1 a2 b1 b2 c1 c2 := by rw [hR, fracs_three, join_three]; rfl
 have hl := lvT_len S
 have h4 := levels_line hn hok
 rw [hj] at h4
 have h3 := bits_line hx h1 hn
 rw [← e1] at h3
 exact ⟨line_set hx fun y hy => ne32 (text_byte _ _ _ _ _ _ _ y hy), line_cycle x, h3, h4, hr, car_set hx, car_cycle hx, car_bits hx h1 hn,
  car_levels hn hok (by rw [hR]; rfl) (by rw [hR]; exact six_in S.h1 S.h2 S.h3) (by have : (Lib.join (fracsR (resL x1.K x1.W x1.T x1.m x1.f x1.a x1.s n) 3) [32]) = lvT a1 a2 b1 b2 c1 c2 := hj; rw [this]; omega), hc⟩
end Go.Proofs.YtgipnbeipfhekaaGreatDoor.TopC
namespace Go.Proofs.YtgipnbeipfhekaaGreatDoor.MemS
open Go.RowKit Go.Proofs.YtgipnbeipfhekaaGreatDoor Go.Proofs.YtgipnbeipfhekaaGreatDoor.Base Go.Proofs.YtgipnbeipfhekaaGreatDoor.Mem Go.Proofs.YtgipnbeipfhekaaGreatDoor.Take
end Go.Proofs.YtgipnbeipfhekaaGreatDoor.MemS
namespace Go.Proofs.YtgipnbeipfhekaaGreatDoor.Split
open Go.RowKit Go.Proofs.YtgipnbeipfhekaaGreatDoor Go.Proofs.YtgipnbeipfhekaaGreatDoor.Base Go.Proofs.YtgipnbeipfhekaaGreatDoor.Mem Go.Proofs.YtgipnbeipfhekaaGreatDoor.Str Go.Proofs.YtgipnbeipfhekaaGreatDoor.Take Go.Proofs.YtgipnbeipfhekaaGreatDoor.Skip Go.Proofs.YtgipnbeipfhekaaGreatDoor.MemS
set_option linter.unusedVariables false
end Go.Proofs.YtgipnbeipfhekaaGreatDoor.Split
namespace Go.Proofs.YtgipnbeipfhekaaGreatDoor.StrM
open Go.RowKit Go.Proofs.YtgipnbeipfhekaaGreatDoor Go.Proofs.YtgipnbeipfhekaaGreatDoor.Base Go.Proofs.YtgipnbeipfhekaaGreatDoor.Mem Go.Proofs.YtgipnbeipfhekaaGreatDoor.Dec Go.Proofs.YtgipnbeipfhekaaGreatDoor.LabM Go.Proofs.YtgipnbeipfhekaaGreatDoor.RecJ Go.Proofs.YtgipnbeipfhekaaGreatDoor.CutP Go.Proofs.YtgipnbeipfhekaaGreatDoor.Val Go.Proofs.YtgipnbeipfhekaaGreatDoor.Str Go.Proofs.YtgipnbeipfhekaaGreatDoor.Take Go.Proofs.YtgipnbeipfhekaaGreatDoor.Skip Go.Proofs.YtgipnbeipfhekaaGreatDoor.Rd Go.Proofs.YtgipnbeipfhekaaGreatDoor.StTx Go.Proofs.YtgipnbeipfhekaaGreatDoor.CycM Go.Proofs.YtgipnbeipfhekaaGreatDoor.MemS Go.Proofs.YtgipnbeipfhekaaGreatDoor.Split
set_option linter.unusedVariables false
theorem take_yes {K W T m f a s : Int} (hB : streamB K W T m f a s = true) {n : Nat} (hn : n ≤ 400) {y : Int} (hy : takeX K W T m f a s (n : Int) = y) {t : ByteArray} (ht : tx (takeL K W T m f a s (n : Int)) = t) (w : World) :
  Calls Tryz.prog 9 #[.agg #[.int .i64 K, .int .i64 W, .int .i64 T, .int .i64 m, .int .i64 f, .int .i64 a, .int .i64 s], .int .i64 (n : Int)] w fun e w' => e = .returned (.tuple #[.string t, .agg #[.int .i64 K, .int .i64 W, .int .i64 T, .int .i64 m, .int .i64 f, .int .i64 a, .int .i64 y], .bool true]) ∧ Below w.heap.size w w' := by
 refine (implTB_any K W T m f a s (n : Int) w).mono fun e w' hr => ⟨?_, hr.2.2⟩
 subst ht
 rw [hr.1 (by rw [okB, hB, inR_yes (by omega)]; rfl), hy]
theorem skip_yesI {K W T m f a s : Int} (hB : streamB K W T m f a s = true) {n : Nat} (hn : n ≤ 1000000000000000000) {y : Int} (hy : takeX K W T m f a s (n : Int) = y) (w : World) :
  Calls Tryz.prog 10 #[.agg #[.int .i64 K, .int .i64 W, .int .i64 T, .int .i64 m, .int .i64 f, .int .i64 a, .int .i64 s], .int .i64 (n : Int)] w fun e w' => e = .returned (.tuple #[.agg #[.int .i64 K, .int .i64 W, .int .i64 T, .int .i64 m, .int .i64 f, .int .i64 a, .int .i64 y], .bool true]) ∧ Below w.heap.size w w' := by
 refine (implSS_any K W T m f a s (n : Int) w).mono fun e w' hr => ⟨?_, hr.2.2⟩
 rw [hr.1 (by rw [okS, hB, inR_yes (by omega)]; rfl), hy]
theorem text_yes {K W T m f a s : Int} (hB : streamB K W T m f a s = true) {t : ByteArray} (ht : tx (textS K W T m f a s) = t) (w : World) (hp : Pow w.heap.size w) :
  Calls Tryz.prog 8 #[.agg #[.int .i64 K, .int .i64 W, .int .i64 T, .int .i64 m, .int .i64 f, .int .i64 a, .int .i64 s]] w fun e w' => e = .returned (.tuple #[.string t, .bool true]) ∧ Below w.heap.size w w' := by
 refine (implText_any K W T m f a s w hp).mono fun e w' hr => ⟨?_, hr.2⟩
 rw [hr.1, hB, if_pos rfl, ht]
end Go.Proofs.YtgipnbeipfhekaaGreatDoor.StrM
namespace Go.Proofs.YtgipnbeipfhekaaGreatDoor.Face
open Go.RowKit Go.Proofs.YtgipnbeipfhekaaGreatDoor Go.Proofs.YtgipnbeipfhekaaGreatDoor.Base Go.Proofs.YtgipnbeipfhekaaGreatDoor.Mem Go.Proofs.YtgipnbeipfhekaaGreatDoor.Reg Go.Proofs.YtgipnbeipfhekaaGreatDoor.Str Go.Proofs.YtgipnbeipfhekaaGreatDoor.Take Go.Proofs.YtgipnbeipfhekaaGreatDoor.Skip Go.Proofs.YtgipnbeipfhekaaGreatDoor.Dice
set_option linter.unusedVariables false
set_option maxHeartbeats 2000000 in
set_option maxRecDepth 100000 in
theorem specFaces_any (K W T m f a s n c : Int) (w : World) : Calls Tryz.prog 14 #[.agg #[.int .i64 K, .int .i64 W, .int .i64 T, .int .i64 m, .int .i64 f, .int .i64 a, .int .i64 s], .int .i64 n, .int .i64 c] w (FsRet K W T m f a (facesR K W T m f a s n c) w) := by
 obtain ⟨W1, hW1, S, R, B⟩ := two w K W T m f a s
 have HI := Lib.hid (l11Is_any w.heap.size K W T m f a s W1 S.c0 S.c1 S.c2 S.c3 S.c4 S.c5 S.c6)
 have HN := Lib.hid (fun w => l00In_any n 1 16 w)
 have HC := Lib.hid (fun w => l00In_any c 0 40 w)
 have HZ := Lib.hid (show W1.heap.size = w.heap.size + 2 by rw [hW1]; simp)
 have HW := Lib.hid hW1
 have HS := Lib.hid S
 have HR := Lib.hid R
 have HB1 := Lib.hid B
 clear hW1 S R B
 cases hB : streamB K W T m f a s with
 | false =>
  rw [hB] at HI
  have HNo := Lib.hid (facesR_no (K := K) (W := W) (T := T) (m := m) (f := f) (a := a) (s := s) (n := n) (c := c) (by rw [hB]; rfl))
  clear hB
  go_enter Tryz.func14, Tryz.ntmps14
  go_wp2_with fail
  rw [← HW.out]
  refine HI.out.mono ?_
  rintro e w1 ⟨rfl, k1, hw1⟩
  have b1 : Below W1.heap.size W1 w1 := by rw [hw1]; exact below_drewN (Below.refl _ _) k1
  have RZ := HR.out.below b1 HR.out.lt
  have BB := Lib.hid (HB1.out.trans (b1.mono HB1.out.size))
  clear b1 hw1
  have d0 := (RZ).c0; have d1 := (RZ).c1; have d2 := (RZ).c2; have d3 := (RZ).c3; have d4 := (RZ).c4; have d5 := (RZ).c5; have d6 := (RZ).c6
  have g0 := (RZ).frz 0; have g1 := (RZ).frz 1; have g2 := (RZ).frz 2; have g3 := (RZ).frz 3; have g4 := (RZ).frz 4; have g5 := (RZ).frz 5; have g6 := (RZ).frz 6
  have S8 := RZ.set7 0 0 0 0 0 0 0
  have p0 := (S8).c0; have p1 := (S8).c1; have p2 := (S8).c2; have p3 := (S8).c3; have p4 := (S8).c4; have p5 := (S8).c5; have p6 := (S8).c6
  simp only [set7] at p0 p1 p2 p3 p4 p5 p6
  have HBN := Lib.hid (below_set7 (b := w.heap.size + 1) BB.out (Nat.le_succ _) (BB.out).size 0 0 0 0 0 0 0)
  clear S8 RZ
  go_wp2
  exact bodyPost_ret (v := .tuple #[.slice none 0 0, .agg #[.int .i64 0, .int .i64 0, .int .i64 0, .int .i64 0, .int .i64 0, .int .i64 0, .int .i64 0], .bool false]) (by simp [results, Tryz.results14, go_sem, p0, p1, p2, p3, p4, p5, p6]) rfl (FsRet.no HNo.out rfl HBN.out)
 | true =>
  rw [hB] at HI
  cases hN : inR n 1 16 with
  | false =>
   rw [hN] at HN
   have HNo := Lib.hid (facesR_no (K := K) (W := W) (T := T) (m := m) (f := f) (a := a) (s := s) (n := n) (c := c) (by rw [hB, hN]; rfl))
   clear hB hN
   go_enter Tryz.func14, Tryz.ntmps14
   go_wp2_with fail
   rw [← HW.out]
   refine HI.out.mono ?_
   rintro e w1 ⟨rfl, k1, hw1⟩
   have b1 : Below W1.heap.size W1 w1 := by rw [hw1]; exact below_drewN (Below.refl _ _) k1
   have RZ := HR.out.below b1 HR.out.lt
   have BB := Lib.hid (HB1.out.trans (b1.mono HB1.out.size))
   clear b1 hw1
   go_wp2_with fail
   refine (HN.out _).mono ?_
   rintro e w' ⟨rfl, rfl⟩
   have d0 := (RZ).c0; have d1 := (RZ).c1; have d2 := (RZ).c2; have d3 := (RZ).c3; have d4 := (RZ).c4; have d5 := (RZ).c5; have d6 := (RZ).c6
   have g0 := (RZ).frz 0; have g1 := (RZ).frz 1; have g2 := (RZ).frz 2; have g3 := (RZ).frz 3; have g4 := (RZ).frz 4; have g5 := (RZ).frz 5; have g6 := (RZ).frz 6
   have S8 := RZ.set7 0 0 0 0 0 0 0
   have p0 := (S8).c0; have p1 := (S8).c1; have p2 := (S8).c2; have p3 := (S8).c3; have p4 := (S8).c4; have p5 := (S8).c5; have p6 := (S8).c6
   simp only [set7] at p0 p1 p2 p3 p4 p5 p6
   have HBN := Lib.hid (below_set7 (b := w.heap.size + 1) BB.out (Nat.le_succ _) (BB.out).size 0 0 0 0 0 0 0)
   clear S8 RZ
   go_wp2
   exact bodyPost_ret (v := .tuple #[.slice none 0 0, .agg #[.int .i64 0, .int .i64 0, .int .i64 0, .int .i64 0, .int .i64 0, .int .i64 0, .int .i64 0], .bool false]) (by simp [results, Tryz.results14, go_sem, p0, p1, p2, p3, p4, p5, p6]) rfl (FsRet.no HNo.out rfl HBN.out)
  | true =>
   rw [hN] at HN
   cases hC : inR c 0 40 with
   | false =>
    rw [hC] at HC
    have HNo := Lib.hid (facesR_no (K := K) (W := W) (T := T) (m := m) (f := f) (a := a) (s := s) (n := n) (c := c) (by rw [hB, hN, hC]; rfl))
    clear hB hN hC
    go_enter Tryz.func14, Tryz.ntmps14
    go_wp2_with fail
    rw [← HW.out]
    refine HI.out.mono ?_
    rintro e w1 ⟨rfl, k1, hw1⟩
    have b1 : Below W1.heap.size W1 w1 := by rw [hw1]; exact below_drewN (Below.refl _ _) k1
    have RZ := HR.out.below b1 HR.out.lt
    have BB := Lib.hid (HB1.out.trans (b1.mono HB1.out.size))
    clear b1 hw1
    go_wp2_with fail
    refine (HN.out _).mono ?_
    rintro e w' ⟨rfl, rfl⟩
    go_wp2_with fail
    refine (HC.out _).mono ?_
    rintro e w' ⟨rfl, rfl⟩
    have d0 := (RZ).c0; have d1 := (RZ).c1; have d2 := (RZ).c2; have d3 := (RZ).c3; have d4 := (RZ).c4; have d5 := (RZ).c5; have d6 := (RZ).c6
    have g0 := (RZ).frz 0; have g1 := (RZ).frz 1; have g2 := (RZ).frz 2; have g3 := (RZ).frz 3; have g4 := (RZ).frz 4; have g5 := (RZ).frz 5; have g6 := (RZ).frz 6
    have S8 := RZ.set7 0 0 0 0 0 0 0
    have p0 := (S8).c0; have p1 := (S8).c1; have p2 := (S8).c2; have p3 := (S8).c3; have p4 := (S8).c4; have p5 := (S8).c5; have p6 := (S8).c6
    simp only [set7] at p0 p1 p2 p3 p4 p5 p6
    have HBN := Lib.hid (below_set7 (b := w.heap.size + 1) BB.out (Nat.le_succ _) (BB.out).size 0 0 0 0 0 0 0)
    clear S8 RZ
    go_wp2
    exact bodyPost_ret (v := .tuple #[.slice none 0 0, .agg #[.int .i64 0, .int .i64 0, .int .i64 0, .int .i64 0, .int .i64 0, .int .i64 0, .int .i64 0], .bool false]) (by simp [results, Tryz.results14, go_sem, p0, p1, p2, p3, p4, p5, p6]) rfl (FsRet.no HNo.out rfl HBN.out)
   | true =>
    obtain ⟨n1, n2⟩ := inR_true hN
    obtain ⟨c1, c2⟩ := inR_true hC
    obtain ⟨N, rfl⟩ := Int.eq_ofNat_of_zero_le (show 0 ≤ n by omega)
    obtain ⟨C, rfl⟩ := Int.eq_ofNat_of_zero_le c1
    rw [facesR_yes (show 0 < N by omega) (by rw [hB, hN, hC]; rfl)]
    exact specFaces_yes hB N C (by omega) (by omega) (by omega) w
end Go.Proofs.YtgipnbeipfhekaaGreatDoor.Face
namespace Go.Proofs.YtgipnbeipfhekaaGreatDoor.TopC
open Go.RowKit Go.Proofs.YtgipnbeipfhekaaGreatDoor Go.Proofs.YtgipnbeipfhekaaGreatDoor.Base Go.Proofs.YtgipnbeipfhekaaGreatDoor.Mem Go.Proofs.YtgipnbeipfhekaaGreatDoor.MemS Go.Proofs.YtgipnbeipfhekaaGreatDoor.MemF Go.Proofs.YtgipnbeipfhekaaGreatDoor.LabM Go.Proofs.YtgipnbeipfhekaaGreatDoor.LabV Go.Proofs.YtgipnbeipfhekaaGreatDoor.StM Go.Proofs.YtgipnbeipfhekaaGreatDoor.Str Go.Proofs.YtgipnbeipfhekaaGreatDoor.StTx Go.Proofs.YtgipnbeipfhekaaGreatDoor.Dec Go.Proofs.YtgipnbeipfhekaaGreatDoor.Val Go.Proofs.YtgipnbeipfhekaaGreatDoor.Rd Go.Proofs.YtgipnbeipfhekaaGreatDoor.Skip Go.Proofs.YtgipnbeipfhekaaGreatDoor.Take Go.Proofs.YtgipnbeipfhekaaGreatDoor.CutP Go.Proofs.YtgipnbeipfhekaaGreatDoor.RecJ Go.Proofs.YtgipnbeipfhekaaGreatDoor.CarM Go.Proofs.YtgipnbeipfhekaaGreatDoor.LcA Go.Proofs.YtgipnbeipfhekaaGreatDoor.LcC Go.Proofs.YtgipnbeipfhekaaGreatDoor.LcG Go.Proofs.YtgipnbeipfhekaaGreatDoor.TopM Go.Proofs.YtgipnbeipfhekaaGreatDoor.StrM
open Go.Proofs.YtgipnbeipfhekaaGreatDoor.Face hiding FsRet
open Go.Proofs.YtgipnbeipfhekaaGreatDoor.LvQ Go.Proofs.YtgipnbeipfhekaaGreatDoor.LvW Go.Proofs.YtgipnbeipfhekaaGreatDoor.LvR Go.Proofs.YtgipnbeipfhekaaGreatDoor.LvK Go.Proofs.YtgipnbeipfhekaaGreatDoor.LvN Go.Proofs.YtgipnbeipfhekaaGreatDoor.LvT Go.Proofs.YtgipnbeipfhekaaGreatDoor.Dice
set_option linter.unusedVariables false
def F6 (w : World) (g : Nat) (fs : List Int) : Prop := g < w.heap.size ∧ ∀ i, i < 6 → w.cell? ⟨g, i, none⟩ = some (.int .i64 (fs.getD i 0))
theorem F6.below {w w' : World} {g B : Nat} {fs : List Int} (h : F6 w g fs) (hb : Below B w w') (hB : g < B) : F6 w' g fs := ⟨Nat.lt_of_lt_of_le h.1 hb.size, fun i hi => (hb.cell (p := ⟨g, i, none⟩) hB).trans (h.2 i hi)⟩
theorem F6.rd {w : World} {g : Nat} {fs : List Int} (h : F6 w g fs) : RdF w w.heap.size (some ⟨g, 0, none⟩) 3 fs := fun _ => ⟨g, 0, rfl, h.1, fun i hi => by rw [Nat.zero_add]; exact h.2 i hi⟩
def Sev (w : World) (g off : Nat) (fs : List Int) : Prop := g < w.heap.size ∧ ∀ i, i < 7 → w.cell? ⟨g, off + i, none⟩ = some (.int .i64 (fs.getD i 0))
theorem Sev.below {w w' : World} {g off B : Nat} {fs : List Int} (h : Sev w g off fs) (hb : Below B w w') (hB : g < B) : Sev w' g off fs := ⟨Nat.lt_of_lt_of_le h.1 hb.size, fun i hi => (hb.cell (p := ⟨g, off + i, none⟩) hB).trans (h.2 i hi)⟩
theorem F6.kept {w w' : World} {g : Nat} {row : Option Nat} {fs : List Int} (h : F6 w g fs) (hg : w.grownBy w' row) (hne : row ≠ some g) : F6 w' g fs := ⟨Nat.lt_of_lt_of_le h.1 hg.size, fun i hi => (World.cell?_of_block (a := ⟨g, i, none⟩) (hg.block g h.1 fun e => hne e.symm)).trans (h.2 i hi)⟩
def One (w : World) (g : Nat) (v : Value) : Prop := g < w.heap.size ∧ w.cell? ⟨g, 0, none⟩ = some v
theorem One.below {w w' : World} {g B : Nat} {v : Value} (h : One w g v) (hb : Below B w w') (hB : g < B) : One w' g v := ⟨Nat.lt_of_lt_of_le h.1 hb.size, (hb.cell (p := ⟨g, 0, none⟩) hB).trans h.2⟩
structure TopS (w : World) (K W T m f a s y1 y2 N F o1 : Int) (a1 a2 b1 b2 j1 j2 p q nL : Nat) (tt ta tb pt qt nt ft at1 at2 at3 T1 T2 T3 T4 T5 T6 T7 A1 A2 A3 A4 A5 S1 S2 S3 S4 S5 S6 S7 S8 : ByteArray) (LIs : World → Value → Prop) : Prop where
 text : ∀ V, Below w.heap.size w V → Calls Tryz.prog 8 #[.agg #[.int .i64 K, .int .i64 W, .int .i64 T, .int .i64 m, .int .i64 f, .int .i64 a, .int .i64 s]] V fun e w' => e = .returned (.tuple #[.string tt, .bool true]) ∧ Below V.heap.size V w'
 take : ∀ V, Calls Tryz.prog 9 #[.agg #[.int .i64 K, .int .i64 W, .int .i64 T, .int .i64 m, .int .i64 f, .int .i64 a, .int .i64 s], .int .i64 N] V fun e w' => e = .returned (.tuple #[.string ta, .agg #[.int .i64 K, .int .i64 W, .int .i64 T, .int .i64 m, .int .i64 f, .int .i64 a, .int .i64 y1], .bool true]) ∧ Below V.heap.size V w'
 skip : ∀ V, Calls Tryz.prog 10 #[.agg #[.int .i64 K, .int .i64 W, .int .i64 T, .int .i64 m, .int .i64 f, .int .i64 a, .int .i64 s], .int .i64 N] V fun e w' => e = .returned (.tuple #[.agg #[.int .i64 K, .int .i64 W, .int .i64 T, .int .i64 m, .int .i64 f, .int .i64 a, .int .i64 y1], .bool true]) ∧ Below V.heap.size V w'
 lev : ∀ V, Calls Tryz.prog 11 #[.agg #[.int .i64 K, .int .i64 W, .int .i64 T, .int .i64 m, .int .i64 f, .int .i64 a, .int .i64 y1], .int .i64 N] V fun e w' => ∃ g c, e = .returned (.tuple #[.slice (some ⟨g, 0, none⟩) 3 c, .bool true]) ∧ F6 w' g [(a1 : Int), (a2 : Int), (b1 : Int), (b2 : Int), (j1 : Int), (j2 : Int)] ∧ Below V.heap.size V w'
 cyc : ∀ V, Calls Tryz.prog 12 #[.agg #[.int .i64 K, .int .i64 W, .int .i64 T, .int .i64 m, .int .i64 f, .int .i64 a, .int .i64 s]] V fun e w' => e = .returned (.tuple #[.int .i64 (p : Int), .int .i64 (q : Int), .bool true]) ∧ Below V.heap.size V w'
 dp : ∀ V, Below w.heap.size w V → Calls Tryz.prog 15 #[.int .i64 (p : Int)] V fun e w' => e = .returned (.string pt) ∧ Below V.heap.size V w'
 dq : ∀ V, Below w.heap.size w V → Calls Tryz.prog 15 #[.int .i64 (q : Int)] V fun e w' => e = .returned (.string qt) ∧ Below V.heap.size V w'
 dn : ∀ V, Below w.heap.size w V → Calls Tryz.prog 15 #[.int .i64 N] V fun e w' => e = .returned (.string nt) ∧ Below V.heap.size V w'
 df : ∀ V, Below w.heap.size w V → Calls Tryz.prog 15 #[.int .i64 F] V fun e w' => e = .returned (.string ft) ∧ Below V.heap.size V w'
 f1 : ∀ V, Below w.heap.size w V → Calls Tryz.prog 16 #[.agg #[.int .i64 (a1 : Int), .int .i64 (a2 : Int)]] V fun e w' => e = .returned (.tuple #[.string at1, .bool true]) ∧ Below V.heap.size V w'
 f2 : ∀ V, Below w.heap.size w V → Calls Tryz.prog 16 #[.agg #[.int .i64 (b1 : Int), .int .i64 (b2 : Int)]] V fun e w' => e = .returned (.tuple #[.string at2, .bool true]) ∧ Below V.heap.size V w'
 f3 : ∀ V, Below w.heap.size w V → Calls Tryz.prog 16 #[.agg #[.int .i64 (j1 : Int), .int .i64 (j2 : Int)]] V fun e w' => e = .returned (.tuple #[.string at3, .bool true]) ∧ Below V.heap.size V w'
 take2 : ∀ V, Calls Tryz.prog 9 #[.agg #[.int .i64 K, .int .i64 W, .int .i64 T, .int .i64 m, .int .i64 f, .int .i64 a, .int .i64 y1], .int .i64 N] V fun e w' => e = .returned (.tuple #[.string tb, .agg #[.int .i64 K, .int .i64 W, .int .i64 T, .int .i64 m, .int .i64 f, .int .i64 a, .int .i64 y2], .bool true]) ∧ Below V.heap.size V w'
 tl : ∀ V, Calls Tryz.prog 18 #[.string tb] V fun e w' => ∃ A c, e = .returned (.tuple #[.slice A 3 c, .bool true]) ∧ RdF w' w'.heap.size A 3 [(a1 : Int), (a2 : Int), (b1 : Int), (b2 : Int), (j1 : Int), (j2 : Int)] ∧ Below V.heap.size V w'
 oo : ∀ V, Calls Tryz.prog 19 #[.string tb] V fun e w' => e = .returned (.tuple #[.int .i64 o1, .bool true]) ∧ Below V.heap.size V w'
 ol : ∀ V, Calls Tryz.prog 20 #[.int .i64 N] V fun e w' => ∃ A c A' c', e = .returned (.tuple #[.agg #[.slice A nL c, .slice A' nL c'], .bool true]) ∧ LIs w' (.agg #[.slice A nL c, .slice A' nL c']) ∧ Below V.heap.size V w'
 lo : ∀ V v, LIs V v → Calls Tryz.prog 21 #[v, .int .i64 o1] V fun e w' => e = .returned (.tuple #[.agg #[.int .i64 (a1 : Int), .int .i64 (a2 : Int)], .bool true]) ∧ Below V.heap.size V w'
 lb : ∀ V V' v, LIs V v → Below V.heap.size V V' → LIs V' v
 eq : ∀ V A A' c c', RdF V V.heap.size A 3 [(a1 : Int), (a2 : Int), (b1 : Int), (b2 : Int), (j1 : Int), (j2 : Int)] → RdF V V.heap.size A' 3 [(a1 : Int), (a2 : Int), (b1 : Int), (b2 : Int), (j1 : Int), (j2 : Int)] → Calls Tryz.prog 22 #[.slice A 3 c, .slice A' 3 c'] V fun e w' => e = .returned (.bool true) ∧ ∃ k, w' = V.drewN k
 sz : (ta.size : Int) = N
 q1 : ¬ ((q : Int) < 1)
 r1 : ∀ V : World, (Op.stringOp .add ⟨#[111, 107, 10]⟩ pt).run Tryz.prog V = .ok (.string T1) V
 r2 : ∀ V : World, (Op.stringOp .add T1 ⟨#[32]⟩).run Tryz.prog V = .ok (.string T2) V
 r3 : ∀ V : World, (Op.stringOp .add T2 qt).run Tryz.prog V = .ok (.string T3) V
 r4 : ∀ V : World, (Op.stringOp .add T3 ⟨#[10]⟩).run Tryz.prog V = .ok (.string T4) V
 r5 : ∀ V : World, (Op.stringOp .add T4 ta).run Tryz.prog V = .ok (.string T5) V
 r6 : ∀ V : World, (Op.stringOp .add T5 ⟨#[10]⟩).run Tryz.prog V = .ok (.string T6) V
 r7 : ∀ V : World, (Op.stringOp .add at1 ⟨#[32]⟩).run Tryz.prog V = .ok (.string A1) V
 r8 : ∀ V : World, (Op.stringOp .add A1 at2).run Tryz.prog V = .ok (.string A2) V
 r9 : ∀ V : World, (Op.stringOp .add A2 ⟨#[32]⟩).run Tryz.prog V = .ok (.string A3) V
 r10 : ∀ V : World, (Op.stringOp .add A3 at3).run Tryz.prog V = .ok (.string A4) V
 r11 : ∀ V : World, (Op.stringOp .add A4 ⟨#[10]⟩).run Tryz.prog V = .ok (.string A5) V
 r12 : ∀ V : World, (Op.stringOp .add T6 A5).run Tryz.prog V = .ok (.string T7) V
 r13 : ∀ V : World, (Op.stringOp .add ⟨#[115, 101, 116, 32, 120, 32]⟩ tt).run Tryz.prog V = .ok (.string S1) V
 r14 : ∀ V : World, (Op.stringOp .add S1 ⟨#[10, 99, 121, 99, 108, 101, 32, 120, 10, 98, 105, 116, 115, 32, 120, 32]⟩).run Tryz.prog V = .ok (.string S2) V
 r15 : ∀ V : World, (Op.stringOp .add S2 nt).run Tryz.prog V = .ok (.string S3) V
 r16 : ∀ V : World, (Op.stringOp .add S3 ⟨#[10, 108, 101, 118, 101, 108, 115, 32, 120, 32]⟩).run Tryz.prog V = .ok (.string S4) V
 r17 : ∀ V : World, (Op.stringOp .add S4 nt).run Tryz.prog V = .ok (.string S5) V
 r18 : ∀ V : World, (Op.stringOp .add S5 ⟨#[10, 114, 111, 108, 108, 32, 120, 32]⟩).run Tryz.prog V = .ok (.string S6) V
 r19 : ∀ V : World, (Op.stringOp .add S6 ft).run Tryz.prog V = .ok (.string S7) V
 r20 : ∀ V : World, (Op.stringOp .add S7 ⟨#[10]⟩).run Tryz.prog V = .ok (.string S8) V
structure TopY (w : World) (K W T m f a y1 yz F : Int) (d : Nat) (T7 S8 dt R1 T8 : ByteArray) : Prop where
 dc : ∀ V, Below w.heap.size w V → Calls Tryz.prog 15 #[.int .i64 (d : Int)] V fun e w' => e = .returned (.string dt) ∧ Below V.heap.size V w'
 fi : ∀ V, Calls Tryz.prog 13 #[.agg #[.int .i64 K, .int .i64 W, .int .i64 T, .int .i64 m, .int .i64 f, .int .i64 a, .int .i64 y1], .int .i64 F, .int .i64 1] V fun e w' => ∃ g c, e = .returned (.tuple #[.slice (some ⟨g, 0, none⟩) 1 c, .agg #[.int .i64 K, .int .i64 W, .int .i64 T, .int .i64 m, .int .i64 f, .int .i64 a, .int .i64 yz], .bool true]) ∧ One w' g (.int .i64 (d : Int)) ∧ Below V.heap.size V w'
 fs : ∀ V, Calls Tryz.prog 14 #[.agg #[.int .i64 K, .int .i64 W, .int .i64 T, .int .i64 m, .int .i64 f, .int .i64 a, .int .i64 y1], .int .i64 F, .int .i64 1] V fun e w' => ∃ A c, e = .returned (.tuple #[.slice A 1 c, .agg #[.int .i64 K, .int .i64 W, .int .i64 T, .int .i64 m, .int .i64 f, .int .i64 a, .int .i64 yz], .bool true]) ∧ Below V.heap.size V w'
 run : ∀ V, Below w.heap.size w V → Calls Tryz.prog 17 #[.agg #[.slice none 0 0, .slice none 0 0], .string S8] V fun e w' => ∃ A1' e1 gb go e2, e = .returned (.tuple #[.agg #[.slice A1' 1 e1, .slice (some ⟨gb, go, none⟩) 1 e2], .string T8, .bool true]) ∧ Sev w' gb go [K, W, T, m, f, a, yz] ∧ Below V.heap.size V w'
 r21 : ∀ V : World, (Op.stringOp .add dt ⟨#[10]⟩).run Tryz.prog V = .ok (.string R1) V
 r22 : ∀ V : World, (Op.stringOp .add T7 R1).run Tryz.prog V = .ok (.string T8) V
structure TopN (w : World) (K W T m f a y1 F : Int) (T7 S8 T8 : ByteArray) : Prop where
 fi : ∀ V, Calls Tryz.prog 13 #[.agg #[.int .i64 K, .int .i64 W, .int .i64 T, .int .i64 m, .int .i64 f, .int .i64 a, .int .i64 y1], .int .i64 F, .int .i64 1] V fun e w' => e = .returned (.tuple #[.slice none 0 0, .agg #[.int .i64 0, .int .i64 0, .int .i64 0, .int .i64 0, .int .i64 0, .int .i64 0, .int .i64 0], .bool false]) ∧ Below V.heap.size V w'
 fs : ∀ V, Calls Tryz.prog 14 #[.agg #[.int .i64 K, .int .i64 W, .int .i64 T, .int .i64 m, .int .i64 f, .int .i64 a, .int .i64 y1], .int .i64 F, .int .i64 1] V fun e w' => e = .returned (.tuple #[.slice none 0 0, .agg #[.int .i64 0, .int .i64 0, .int .i64 0, .int .i64 0, .int .i64 0, .int .i64 0, .int .i64 0], .bool false]) ∧ Below V.heap.size V w'
 run : ∀ V, Below w.heap.size w V → Calls Tryz.prog 17 #[.agg #[.slice none 0 0, .slice none 0 0], .string S8] V fun e w' => ∃ A1' e1 gb go e2, e = .returned (.tuple #[.agg #[.slice A1' 1 e1, .slice (some ⟨gb, go, none⟩) 1 e2], .string T8, .bool true]) ∧ Sev w' gb go [K, W, T, m, f, a, y1] ∧ Below V.heap.size V w'
 r21 : ∀ V : World, (Op.stringOp .add T7 ⟨#[110, 111, 10]⟩).run Tryz.prog V = .ok (.string T8) V
end Go.Proofs.YtgipnbeipfhekaaGreatDoor.TopC
