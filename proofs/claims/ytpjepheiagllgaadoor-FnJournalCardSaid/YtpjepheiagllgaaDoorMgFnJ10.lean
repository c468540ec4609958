/- What is drawn is valid: a register. -/
import Derived.Test.YtpjepheiagllgaaDoorMgFnJ09
import Derived.Test.YtpjepheiagllgaaDoorMgFnJ02
import Derived.Test.YtpjepheiagllgaaDoorMgFnJ08
import Derived.Test.YtpjepheiagllgaaDoorMgFnJ04
namespace Go.Proofs.YtpjepheiagllgaaDoor.Draw
open Go.RowKit Go.Proofs.YtpjepheiagllgaaDoor Go.Proofs.YtpjepheiagllgaaDoor.Base Go.Proofs.YtpjepheiagllgaaDoor.Mem Go.Proofs.YtpjepheiagllgaaDoor.Src Go.Proofs.YtpjepheiagllgaaDoor.Blk Go.Proofs.YtpjepheiagllgaaDoor.Bits
set_option linter.unusedVariables false
def RegRet (p K : Nat) (w : World) (e : Ending) (w' : World) : Prop := ∃ V T : Nat, V ≤ 16 ∧ T < 2 ^ V ∧ e = .returned (.agg #[.int .i64 ((V : Nat) : Int), .int .i64 ((T : Nat) : Int)]) ∧ Src w' p K ∧ Beside p w w'
theorem EndR {p K V T : Nat} {w w8 : World} (hV : V ≤ 16) (hT : T < 2 ^ V) (hb : Beside p w w8) (hr : Blk w8 w.heap.size 63 #[.int .i64 0, .int .i64 0]) (hs : Src w8 p K) (hp : p < w.heap.size) :
  let w9 := (w8.setCell ⟨w.heap.size, 0, none⟩ (.int .i64 (V : Int))).setCell ⟨w.heap.size, 1, none⟩ (.int .i64 (T : Int))
  w9.cell? ⟨w.heap.size, 0, none⟩ = some (.int .i64 (V : Int)) ∧ w9.cell? ⟨w.heap.size, 1, none⟩ = some (.int .i64 (T : Int)) ∧ RegRet p K w (.returned (.agg #[.int .i64 ((V : Nat) : Int), .int .i64 ((T : Nat) : Int)])) w9 := by
 have S := (hr.setTo 0 (.int .i64 (V : Int)) (cs' := #[.int .i64 (V : Int), .int .i64 0]) rfl).setTo 1 (.int .i64 (T : Int)) (cs' := #[.int .i64 ((V : Nat) : Int), .int .i64 ((T : Nat) : Int)]) rfl
 refine ⟨S.at 0 rfl, S.at 1 rfl, V, T, hV, hT, rfl, ?_, ?_⟩
 ·exact Src.set' (Src.set' hs (a := ⟨w.heap.size, 0, none⟩) hp _) (a := ⟨w.heap.size, 1, none⟩) hp _
 ·exact (hb.set (a := ⟨w.heap.size, 0, none⟩) (Nat.le_refl _) _).set (a := ⟨w.heap.size, 1, none⟩) (Nat.le_refl _) _
theorem or1 {V T : Nat} (hV : V ≤ 16) (hT : T < 2 ^ V) : ∃ U : Nat, U < 2 ^ V ∧ bits .or .i64 (T : Int) (bits .and .i64 1 (wrap64 (wrap64 (2 ^ V) - 1))) = (U : Int) := by
 have hp : 2 ^ V ≤ 2 ^ 16 := Nat.pow_le_pow_right (by decide) hV
 have h0 := Nat.two_pow_pos V
 have e1 : wrap64 (wrap64 ((2 : Int) ^ V) - 1) = ((2 ^ V - 1 : Nat) : Int) := by
  rw [show (2 : Int) ^ V = ((2 ^ V : Nat) : Int) by simp]
  generalize 2 ^ V = N at *
  simp only [wrap64]; omega
 rw [e1, show (1 : Int) = ((1 : Nat) : Int) from rfl, i64_and_nat 1 (2 ^ V - 1) (by decide) (by omega)]
 have ha : 1 &&& (2 ^ V - 1) ≤ 1 := Nat.and_le_left
 rw [i64_or_nat T (1 &&& (2 ^ V - 1)) (by omega) (by omega)]
 refine ⟨_, Nat.or_lt_two_pow hT ?_, rfl⟩
 have hb : 1 &&& (2 ^ V - 1) ≤ 2 ^ V - 1 := Nat.and_le_right
 omega
theorem wrap_pow {V : Nat} (hV : V ≤ 16) : wrap64 ((2 : Int) ^ V) = ((2 ^ V : Nat) : Int) := by
 have hp : 2 ^ V ≤ 2 ^ 16 := Nat.pow_le_pow_right (by decide) hV
 rw [show (2 : Int) ^ V = ((2 ^ V : Nat) : Int) by simp]
 generalize 2 ^ V = N at *
 simp only [wrap64]; omega
structure Mid (p K r V T : Nat) (w w' : World) : Prop where
 beside : Beside p w w'
 res : Blk w' w.heap.size 63 #[.int .i64 0, .int .i64 0]
 reg : Blk w' r 63 #[.int .i64 ((V : Nat) : Int), .int .i64 ((T : Nat) : Int)]
 src : Src w' p K
theorem Mid.go {p K L r V T : Nat} {w w1 w2 : World} (h : Mid p K r V T w w1) (hs : Src w2 p L) (g : w1.grownBy w2 (some p)) (hp : p < w.heap.size) (hr : w.heap.size < r) : Mid p L r V T w w2 :=
 ⟨h.beside.trans (Beside.grown g), h.res.src g (by omega), h.reg.src g (by omega), hs⟩
theorem Mid.more {p K L r V T : Nat} {w w1 : World} (h : Mid p K r V T w w1) (hL : K ≤ L) : Mid p L r V T w w1 := ⟨h.beside, h.res, h.reg, h.src.more hL⟩
theorem Mid.setV {p K r V T U : Nat} {w w1 : World} (h : Mid p K r V T w w1) (hp : p < w.heap.size) (hr : w.heap.size < r) : Mid p K r U T w (w1.setCell ⟨r, 0, none⟩ (.int .i64 (U : Int))) :=
 ⟨h.beside.set (a := ⟨r, 0, none⟩) (Nat.le_of_lt hr) _, h.res.other (a := ⟨r, 0, none⟩) _ (by show r ≠ _; omega), h.reg.setTo 0 _ rfl, Src.set' h.src (a := ⟨r, 0, none⟩) (by show p < r; omega) _⟩
theorem Mid.setT {p K r V T U : Nat} {w w1 : World} (h : Mid p K r V T w w1) (hp : p < w.heap.size) (hr : w.heap.size < r) : Mid p K r V U w (w1.setCell ⟨r, 1, none⟩ (.int .i64 (U : Int))) :=
 ⟨h.beside.set (a := ⟨r, 1, none⟩) (Nat.le_of_lt hr) _, h.res.other (a := ⟨r, 1, none⟩) _ (by show r ≠ _; omega), h.reg.setTo 1 _ rfl, Src.set' h.src (a := ⟨r, 1, none⟩) (by show p < r; omega) _⟩
theorem Mid.alloc {p K r V T : Nat} {w w1 : World} (h : Mid p K r V T w w1) (o : Obj) : Mid p K r V T w (w1.alloc o) := ⟨h.beside.alloc o, h.res.alloc o, h.reg.alloc o, h.src.below ((Below.refl _ _).alloc (Nat.le_refl _) _)⟩
theorem Mid.fin {p K r V T : Nat} {w w1 : World} (h : Mid p K r V T w w1) (hp : p < w.heap.size) (hV : V ≤ 16) (hT : T < 2 ^ V) :
  let w9 := (w1.setCell ⟨w.heap.size, 0, none⟩ (.int .i64 (V : Int))).setCell ⟨w.heap.size, 1, none⟩ (.int .i64 (T : Int))
  w9.cell? ⟨w.heap.size, 0, none⟩ = some (.int .i64 (V : Int)) ∧ w9.cell? ⟨w.heap.size, 1, none⟩ = some (.int .i64 (T : Int)) ∧ RegRet p K w (.returned (.agg #[.int .i64 ((V : Nat) : Int), .int .i64 ((T : Nat) : Int)])) w9 := EndR hV hT h.beside h.res h.src hp
set_option maxHeartbeats 1000000 in
set_option maxRecDepth 100000 in
theorem l02DrawOk_any (p K : Nat) (w : World) (h : Src w p K) (hK : K ≤ 100000000000) :
  Calls Tryd.prog 33 #[.pointer (some ⟨p, 0, none⟩)] w (RegRet p (K + 12) w) := by
 have hp := h.lt
 obtain ⟨W0, hW0⟩ : ∃ W0, W0 = w.alloc (.cells #[.int .i64 0, .int .i64 0] 63) := ⟨_, rfl⟩
 have B0 : Beside p w W0 := by rw [hW0]; exact (Beside.refl p w).alloc _
 have R0 : Blk W0 w.heap.size 63 #[.int .i64 0, .int .i64 0] := by rw [hW0]; exact Blk.new _ _ _
 have S0 : Src W0 p K := by rw [hW0]; exact h.below ((Below.refl _ _).alloc (Nat.le_refl _) _)
 have HW := Lib.hid hW0
 have HB0 := Lib.hid B0
 have HR0 := Lib.hid R0
 have HP := Lib.hid (pick_any p K 9 W0 S0 (by omega))
 clear hW0 B0 R0 S0 h
 go_enter Tryd.func33, Tryd.ntmps33
 go_wp2_with fail
 rw [← HW.out]
 refine HP.out.mono ?_
 rintro e w1 ⟨r1, rfl, hr1, s1, g1⟩
 have hV1 : r1 ≤ 16 := by omega
 have R1 := HR0.out.src g1 (by omega)
 have hz1 := R1.lt
 obtain ⟨W1, hW1⟩ : ∃ W1, W1 = w1.alloc (.cells #[.int .i64 (r1 : Int), .int .i64 0] 63) := ⟨_, rfl⟩
 have M1 : Mid p (K + 2) w1.heap.size r1 0 w W1 := by
  rw [hW1]
  exact ⟨(HB0.out.trans (Beside.grown g1)).alloc _, R1.alloc _, Blk.new _ _ _, s1.below ((Below.refl _ _).alloc (Nat.le_refl _) _)⟩
 have hrr : w.heap.size < w1.heap.size := hz1
 have HW1 := Lib.hid hW1
 have HM1 := Lib.hid M1
 have HP2 := Lib.hid (one_any p (K + 2) 14 W1 M1.src (by omega))
 obtain ⟨r, hr⟩ : ∃ r, r = w1.heap.size := ⟨_, rfl⟩
 rw [← hr] at HM1 hrr
 have HRr := Lib.hid hr
 clear s1 g1 hW1 M1 R1 HB0 HR0 HW hr1 hz1 hr
 go_wp2_with fail
 rw [← HRr.out, ← HW1.out]
 refine HP2.out.mono ?_
 rintro e w2 ⟨r2, rfl, s2, g2⟩
 have HM2 := Lib.hid (HM1.out.go s2 g2 hp hrr)
 clear s2 g2 HM1 HW1 HRr HP2
 rcases r2 with _ | _
 ·obtain ⟨V, hVV⟩ : ∃ V, V = r1 := ⟨_, rfl⟩
  rw [← hVV] at HM2 hV1
  have hV : V ≤ 16 := hV1
  obtain ⟨w4, hw4⟩ : ∃ w4, w4 = w2 := ⟨_, rfl⟩
  rw [← hw4] at HM2
  have HM4 := Lib.hid (HM2.out.more (show K + 4 ≤ K + 6 by omega))
  have HW4 := Lib.hid hw4
  clear HM2 hVV hw4
  have hpw := Lib.hid (wrap_pow hV)
  have n0 := HM4.out.reg.at 0 (v := .int .i64 (V : Int)) rfl
  rw [HW4.out] at n0
  have HP4 := Lib.hid (pick_any p (K + 6) (wrap64 (2 ^ V)) w4 HM4.out.src (by omega))
  go_wp2_with fail
  rw [← HW4.out]
  refine HP4.out.mono ?_
  rintro e w5 ⟨T, rfl, hT, s5, g5⟩
  have hT2 : T < 2 ^ V := by
   have := Nat.two_pow_pos V
   rw [hpw.out] at hT
   omega
  have M5 := HM4.out.go s5 g5 hp hrr
  have c1 := M5.reg.at 1 (v := .int .i64 0) rfl
  have f1 := M5.reg.frz 1
  obtain ⟨w6, hw6⟩ : ∃ w6, w6 = w5.setCell ⟨r, 1, none⟩ (.int .i64 (T : Int)) := ⟨_, rfl⟩
  have M6 : Mid p (K + 8) r V T w w6 := by rw [hw6]; exact M5.setT hp hrr
  have HW6 := Lib.hid hw6
  have HM6 := Lib.hid M6
  have HP6 := Lib.hid (one_any p (K + 8) 2 w6 M6.src (by omega))
  clear hw6 M5 M6 s5 g5 hT n0 HM4 HW4 HP4 hpw
  go_wp2_with fail
  rw [← HW6.out]
  refine HP6.out.mono ?_
  rintro e w7 ⟨r7, rfl, s7, g7⟩
  have M7 := (HM6.out.go s7 g7 hp hrr).more (show K + 8 + 2 ≤ K + 12 by omega)
  have c0 := M7.reg.at 0 (v := .int .i64 (V : Int)) rfl
  have c1 := M7.reg.at 1 (v := .int .i64 (T : Int)) rfl
  have e0 := M7.res.at 0 (v := .int .i64 0) rfl
  have e1 := M7.res.at 1 (v := .int .i64 0) rfl
  have f0 := M7.res.frz 0
  have f1 := M7.res.frz 1
  have f2 := M7.reg.frz 1
  have hne : r ≠ w.heap.size := by omega
  have hne' : w.heap.size ≠ r := by omega
  obtain ⟨U, hU, hor⟩ := or1 hV hT2
  have HE := Lib.hid (M7.fin hp hV hT2)
  have HE2 := Lib.hid ((M7.setT (U := U) hp hrr).fin hp hV hU)
  clear M7 s7 g7 HM6 HW6 HP6
  cases r7 with
  | false =>
   go_wp2
   obtain ⟨q0, q1, q3⟩ := HE.out
   exact bodyPost_ret (v := .agg #[.int .i64 ((V : Nat) : Int), .int .i64 ((T : Nat) : Int)]) (by simp [results, Tryd.results33, go_sem, q0, q1]) rfl q3
  | true =>
   go_wp2
   obtain ⟨q0, q1, q3⟩ := HE2.out
   exact bodyPost_ret (v := .agg #[.int .i64 ((V : Nat) : Int), .int .i64 ((U : Nat) : Int)]) (by simp [results, Tryd.results33, go_sem, q0, q1]) rfl q3
 ·obtain ⟨W2, hW2⟩ : ∃ W2, W2 = w2.alloc (.cells #[.int .i64 14, .int .i64 15, .int .i64 16] 2) := ⟨_, rfl⟩
  have hz2 := HM2.out.res.lt
  have M2' : Mid p (K + 4) r r1 0 w W2 := by rw [hW2]; exact HM2.out.alloc _
  have hcs : ∀ i, i < [14, 15, 16].length → W2.cell? ⟨w2.heap.size, i, none⟩ = some (.int .i64 (([14, 15, 16] : List Int).getD i 0)) := by
   rw [hW2]; exact lits_cell (xs := [14, 15, 16]) (Blk.new w2 2 _)
  have HP3 := Lib.hid (among_any p (K + 4) w2.heap.size 3 [14, 15, 16] W2 M2'.src (by omega) (by omega) (by rw [hW2]; simp) (by decide) (by decide) hcs)
  have HW2 := Lib.hid hW2
  have HM2' := Lib.hid M2'
  clear hW2 M2' hcs HM2
  go_wp2_with fail
  rw [← HW2.out]
  refine HP3.out.mono ?_
  rintro e w3 ⟨r3, rfl, hr3, s3, g3⟩
  have hv : ∀ r, r < 3 → 0 ≤ ([14, 15, 16] : List Int).getD r 0 ∧ ([14, 15, 16] : List Int).getD r 0 ≤ 16 := by decide
  obtain ⟨hv1, hv2⟩ := hv r3 hr3
  generalize ([14, 15, 16] : List Int).getD r3 0 = v at *
  obtain ⟨V, rfl⟩ := Int.eq_ofNat_of_zero_le hv1
  have hV : V ≤ 16 := by omega
  have M3 := HM2'.out.go s3 g3 hp hrr
  have c0 := M3.reg.at 0 (v := .int .i64 (r1 : Int)) rfl
  have f0 := M3.reg.frz 0
  obtain ⟨w4, hw4⟩ : ∃ w4, w4 = w3.setCell ⟨r, 0, none⟩ (.int .i64 (V : Int)) := ⟨_, rfl⟩
  have HM4 := Lib.hid (show Mid p (K + 6) r V 0 w w4 by rw [hw4]; exact M3.setV hp hrr)
  have HW4 := Lib.hid hw4
  clear M3 hw4 s3 g3 hr3 hv hv1 hv2 HM2' HW2 HP3 hz2
  have hpw := Lib.hid (wrap_pow hV)
  have n0 := HM4.out.reg.at 0 (v := .int .i64 (V : Int)) rfl
  rw [HW4.out] at n0
  have HP4 := Lib.hid (pick_any p (K + 6) (wrap64 (2 ^ V)) w4 HM4.out.src (by omega))
  go_wp2_with fail
  rw [← HW4.out]
  refine HP4.out.mono ?_
  rintro e w5 ⟨T, rfl, hT, s5, g5⟩
  have hT2 : T < 2 ^ V := by
   have := Nat.two_pow_pos V
   rw [hpw.out] at hT
   omega
  have M5 := HM4.out.go s5 g5 hp hrr
  have c1 := M5.reg.at 1 (v := .int .i64 0) rfl
  have f1 := M5.reg.frz 1
  obtain ⟨w6, hw6⟩ : ∃ w6, w6 = w5.setCell ⟨r, 1, none⟩ (.int .i64 (T : Int)) := ⟨_, rfl⟩
  have M6 : Mid p (K + 8) r V T w w6 := by rw [hw6]; exact M5.setT hp hrr
  have HW6 := Lib.hid hw6
  have HM6 := Lib.hid M6
  have HP6 := Lib.hid (one_any p (K + 8) 2 w6 M6.src (by omega))
  clear hw6 M5 M6 s5 g5 hT n0 HM4 HW4 HP4 hpw
  go_wp2_with fail
  rw [← HW6.out]
  refine HP6.out.mono ?_
  rintro e w7 ⟨r7, rfl, s7, g7⟩
  have M7 := (HM6.out.go s7 g7 hp hrr).more (show K + 8 + 2 ≤ K + 12 by omega)
  have c0 := M7.reg.at 0 (v := .int .i64 (V : Int)) rfl
  have c1 := M7.reg.at 1 (v := .int .i64 (T : Int)) rfl
  have e0 := M7.res.at 0 (v := .int .i64 0) rfl
  have e1 := M7.res.at 1 (v := .int .i64 0) rfl
  have f0 := M7.res.frz 0
  have f1 := M7.res.frz 1
  have f2 := M7.reg.frz 1
  have hne : r ≠ w.heap.size := by omega
  have hne' : w.heap.size ≠ r := by omega
  obtain ⟨U, hU, hor⟩ := or1 hV hT2
  have HE := Lib.hid (M7.fin hp hV hT2)
  have HE2 := Lib.hid ((M7.setT (U := U) hp hrr).fin hp hV hU)
  clear M7 s7 g7 HM6 HW6 HP6
  cases r7 with
  | false =>
   go_wp2
   obtain ⟨q0, q1, q3⟩ := HE.out
   exact bodyPost_ret (v := .agg #[.int .i64 ((V : Nat) : Int), .int .i64 ((T : Nat) : Int)]) (by simp [results, Tryd.results33, go_sem, q0, q1]) rfl q3
  | true =>
   go_wp2
   obtain ⟨q0, q1, q3⟩ := HE2.out
   exact bodyPost_ret (v := .agg #[.int .i64 ((V : Nat) : Int), .int .i64 ((U : Nat) : Int)]) (by simp [results, Tryd.results33, go_sem, q0, q1]) rfl q3
end Go.Proofs.YtpjepheiagllgaaDoor.Draw
namespace Go.Proofs.YtpjepheiagllgaaDoor.Skip
open Go.RowKit Go.Proofs.YtpjepheiagllgaaDoor Go.Proofs.YtpjepheiagllgaaDoor.Base Go.Proofs.YtpjepheiagllgaaDoor.Mem Go.Proofs.YtpjepheiagllgaaDoor.Reg Go.Proofs.YtpjepheiagllgaaDoor.Str Go.Proofs.YtpjepheiagllgaaDoor.Take Go.Proofs.YtpjepheiagllgaaDoor.Blk Go.Proofs.YtpjepheiagllgaaDoor.Pow
set_option linter.unusedVariables false
theorem SBox.other {w : World} {b : Nat} {K W T m f a s : Int} (h : SBox w b K W T m f a s) {p : Addr} (v : Value) (hne : p.block ≠ b) : SBox (w.setCell p v) b K W T m f a s := h.kept (Src.grown_setCell w p v) fun e => hne (Option.some.inj e)
end Go.Proofs.YtpjepheiagllgaaDoor.Skip
namespace Go.Proofs.YtpjepheiagllgaaDoor.Draw
open Go.RowKit Go.Proofs.YtpjepheiagllgaaDoor Go.Proofs.YtpjepheiagllgaaDoor.Base Go.Proofs.YtpjepheiagllgaaDoor.Mem Go.Proofs.YtpjepheiagllgaaDoor.Src Go.Proofs.YtpjepheiagllgaaDoor.Blk Go.Proofs.YtpjepheiagllgaaDoor.Pow
set_option linter.unusedVariables false
end Go.Proofs.YtpjepheiagllgaaDoor.Draw
set_option linter.unusedVariables false
namespace Go.Proofs.YtpjepheiagllgaaDoor.Hd
open Go.Proofs.YtpjepheiagllgaaDoor.CycM
def S (f : Nat) : Nat → Nat
 | 0 => 0
 | n + 1 => f * S f n + 1
end Go.Proofs.YtpjepheiagllgaaDoor.Hd
namespace Go.Proofs.YtpjepheiagllgaaDoor.Cycled
open Go.RowKit Go.Proofs.YtpjepheiagllgaaDoor Go.Proofs.YtpjepheiagllgaaDoor.Base Go.Proofs.YtpjepheiagllgaaDoor.Mem Go.Proofs.YtpjepheiagllgaaDoor.Src Go.Proofs.YtpjepheiagllgaaDoor.Blk Go.Proofs.YtpjepheiagllgaaDoor.Pow Go.Proofs.YtpjepheiagllgaaDoor.Cong Go.Proofs.YtpjepheiagllgaaDoor.CycM Go.Proofs.YtpjepheiagllgaaDoor.Draw
set_option linter.unusedVariables false
theorem bothB_yes {m f a x : Nat} (hm : 2 ≤ m) (hm2 : m ≤ 100000) (hf : f < m) (ha : a < m) (hx : x < m) : bothB m f a x = true := by
 rw [bothB, congB, inR_yes (by omega), inR_yes (by omega), inR_yes (by omega), inR_yes (by omega)]; rfl
def longB (n n' : Nat) : Bool := decide ((n : Int) > 1048576) || decide ((n' : Int) > 1048576)
theorem b10Long_any (A A' : Option Addr) (n c n' c' : Nat) (w : World) :
  Calls Tryd.prog 4 #[.slice A n c, .slice A' n' c'] w fun e w' => e = .returned (.bool (longB n n')) ∧ w = w' := by
 by_cases h1 : (n : Int) > 1048576
 ·go_enter Tryd.func4, Tryd.ntmps4
  go_wp2
  go_ret
  exact ⟨ret_bool (by simp only [longB, decide_eq_true h1, Bool.true_or]), rfl⟩
 ·go_enter Tryd.func4, Tryd.ntmps4
  go_wp2
  go_ret
  exact ⟨ret_bool (by rw [longB, decide_eq_false (show ¬ (n : Int) > 1048576 by omega), Bool.false_or]), rfl⟩
end Go.Proofs.YtpjepheiagllgaaDoor.Cycled
