/- What is drawn is valid: a register. -/
import Derived.Test.YthagenodiofgnaaGreatDoorMgFnD04
import Derived.Test.YthagenodiofgnaaGreatDoorMgFnD05
import Derived.Test.YthagenodiofgnaaGreatDoorMgFnD00
import Derived.Lib.Builder
import Derived.Lib.UnsafeStr
import Derived.Lib.Strings
import Derived.Lib.Walk
import Derived.Laws.Externs
import Derived.Shelf.RegionOpenPlain
namespace Go.Proofs.YthagenodiofgnaaGreatDoor.Draw
open Go.RowKit Go.Proofs.YthagenodiofgnaaGreatDoor Go.Proofs.YthagenodiofgnaaGreatDoor.Base Go.Proofs.YthagenodiofgnaaGreatDoor.Mem Go.Proofs.YthagenodiofgnaaGreatDoor.Src Go.Proofs.YthagenodiofgnaaGreatDoor.Blk Go.Proofs.YthagenodiofgnaaGreatDoor.Bits
set_option linter.unusedVariables false
def RegRet (p K : Nat) (w : World) (e : Ending) (w' : World) : Prop := ∃ V T : Nat, V ≤ 16 ∧ T < 2 ^ V ∧ e = .returned (.agg #[.int .i64 ((V : Nat) : Int), .int .i64 ((T : Nat) : Int)]) ∧ Src w' p K ∧ Beside p w w'
theorem EndR {p K V T : Nat} {w w8 : World} (hV : V ≤ 16) (hT : T < 2 ^ V) (hb : Beside p w w8) (hr : Blk w8 w.heap.size 25 #[.int .i64 0, .int .i64 0]) (hs : Src w8 p K) (hp : p < w.heap.size) :
  let w9 := (w8.setCell ⟨w.heap.size, 0, none⟩ (.int .i64 (V : Int))).setCell ⟨w.heap.size, 1, none⟩ (.int .i64 (T : Int))
  w9.cell? ⟨w.heap.size, 0, none⟩ = some (.int .i64 (V : Int)) ∧ w9.cell? ⟨w.heap.size, 1, none⟩ = some (.int .i64 (T : Int)) ∧ RegRet p K w (.returned (.agg #[.int .i64 ((V : Nat) : Int), .int .i64 ((T : Nat) : Int)])) w9 := by
 have S := (hr.setTo 0 (.int .i64 (V : Int)) (cs' := #[.int .i64 (V : Int), .int .i64 0]) rfl).setTo 1 (.int .i64 (T : Int)) (cs' := #[.int .i64 ((V : Nat) : Int), .int .i64 ((T : Nat) : Int)]) rfl
 refine ⟨S.at 0 rfl, S.at 1 rfl, V, T, hV, hT, rfl, ?_, ?_⟩
 ·exact Src.set' (Src.set' hs (a := ⟨w.heap.size, 0, none⟩) hp _) (a := ⟨w.heap.size, 1, none⟩) hp _
 ·exact (hb.set (a := ⟨w.heap.size, 0, none⟩) (Nat.le_refl _) _).set (a := ⟨w.heap.size, 1, none⟩) (Nat.le_refl _) _
theorem or1 {V T : Nat} (hV : V ≤ 16) (hT : T < 2 ^ V) : ∃ U : Nat, U < 2 ^ V ∧ bits .or .i64 (T : Int) (bits .and .i64 1 (wrap64 (wrap64 (2 ^ V) - 1))) = (U : Int) := by
 have hp : 2 ^ V ≤ 2 ^ 16 := Nat.pow_le_pow_right (by decide) hV
 have h0 := Nat.two_pow_pos V
 have e1 : wrap64 (wrap64 ((2 : Int) ^ V) - 1) = ((2 ^ V - 1 : Nat) : Int) := by
  rw [show (2 : Int) ^ V = ((2 ^ V : Nat) : Int) by simp]
  generalize 2 ^ V = N at *
  simp only [wrap64]; omega
 rw [e1, show (1 : Int) = ((1 : Nat) : Int) from rfl, i64_and_nat 1 (2 ^ V - 1) (by decide) (by omega)]
 have ha : 1 &&& (2 ^ V - 1) ≤ 1 := Nat.and_le_left
 rw [i64_or_nat T (1 &&& (2 ^ V - 1)) (by omega) (by omega)]
 refine ⟨_, Nat.or_lt_two_pow hT ?_, rfl⟩
 have hb : 1 &&& (2 ^ V - 1) ≤ 2 ^ V - 1 := Nat.and_le_right
 omega
theorem wrap_pow {V : Nat} (hV : V ≤ 16) : wrap64 ((2 : Int) ^ V) = ((2 ^ V : Nat) : Int) := by
 have hp : 2 ^ V ≤ 2 ^ 16 := Nat.pow_le_pow_right (by decide) hV
 rw [show (2 : Int) ^ V = ((2 ^ V : Nat) : Int) by simp]
 generalize 2 ^ V = N at *
 simp only [wrap64]; omega
structure Mid (p K r V T : Nat) (w w' : World) : Prop where
 beside : Beside p w w'
 res : Blk w' w.heap.size 25 #[.int .i64 0, .int .i64 0]
 reg : Blk w' r 25 #[.int .i64 ((V : Nat) : Int), .int .i64 ((T : Nat) : Int)]
 src : Src w' p K
theorem Mid.go {p K L r V T : Nat} {w w1 w2 : World} (h : Mid p K r V T w w1) (hs : Src w2 p L) (g : w1.grownBy w2 (some p)) (hp : p < w.heap.size) (hr : w.heap.size < r) : Mid p L r V T w w2 :=
 ⟨h.beside.trans (Beside.grown g), h.res.src g (by omega), h.reg.src g (by omega), hs⟩
theorem Mid.more {p K L r V T : Nat} {w w1 : World} (h : Mid p K r V T w w1) (hL : K ≤ L) : Mid p L r V T w w1 := ⟨h.beside, h.res, h.reg, h.src.more hL⟩
theorem Mid.setV {p K r V T U : Nat} {w w1 : World} (h : Mid p K r V T w w1) (hp : p < w.heap.size) (hr : w.heap.size < r) : Mid p K r U T w (w1.setCell ⟨r, 0, none⟩ (.int .i64 (U : Int))) :=
 ⟨h.beside.set (a := ⟨r, 0, none⟩) (Nat.le_of_lt hr) _, h.res.other (a := ⟨r, 0, none⟩) _ (by show r ≠ _; omega), h.reg.setTo 0 _ rfl, Src.set' h.src (a := ⟨r, 0, none⟩) (by show p < r; omega) _⟩
theorem Mid.setT {p K r V T U : Nat} {w w1 : World} (h : Mid p K r V T w w1) (hp : p < w.heap.size) (hr : w.heap.size < r) : Mid p K r V U w (w1.setCell ⟨r, 1, none⟩ (.int .i64 (U : Int))) :=
 ⟨h.beside.set (a := ⟨r, 1, none⟩) (Nat.le_of_lt hr) _, h.res.other (a := ⟨r, 1, none⟩) _ (by show r ≠ _; omega), h.reg.setTo 1 _ rfl, Src.set' h.src (a := ⟨r, 1, none⟩) (by show p < r; omega) _⟩
theorem Mid.alloc {p K r V T : Nat} {w w1 : World} (h : Mid p K r V T w w1) (o : Obj) : Mid p K r V T w (w1.alloc o) := ⟨h.beside.alloc o, h.res.alloc o, h.reg.alloc o, h.src.below ((Below.refl _ _).alloc (Nat.le_refl _) _)⟩
theorem Mid.fin {p K r V T : Nat} {w w1 : World} (h : Mid p K r V T w w1) (hp : p < w.heap.size) (hV : V ≤ 16) (hT : T < 2 ^ V) :
  let w9 := (w1.setCell ⟨w.heap.size, 0, none⟩ (.int .i64 (V : Int))).setCell ⟨w.heap.size, 1, none⟩ (.int .i64 (T : Int))
  w9.cell? ⟨w.heap.size, 0, none⟩ = some (.int .i64 (V : Int)) ∧ w9.cell? ⟨w.heap.size, 1, none⟩ = some (.int .i64 (T : Int)) ∧ RegRet p K w (.returned (.agg #[.int .i64 ((V : Nat) : Int), .int .i64 ((T : Nat) : Int)])) w9 := EndR hV hT h.beside h.res h.src hp
set_option maxHeartbeats 1000000 in
set_option maxRecDepth 100000 in
theorem l02DrawOk_any (p K : Nat) (w : World) (h : Src w p K) (hK : K ≤ 100000000000) :
  Calls Tryz.prog 41 #[.pointer (some ⟨p, 0, none⟩)] w (RegRet p (K + 12) w) := by
 have hp := h.lt
 obtain ⟨W0, hW0⟩ : ∃ W0, W0 = w.alloc (.cells #[.int .i64 0, .int .i64 0] 25) := ⟨_, rfl⟩
 have B0 : Beside p w W0 := by rw [hW0]; exact (Beside.refl p w).alloc _
 have R0 : Blk W0 w.heap.size 25 #[.int .i64 0, .int .i64 0] := by rw [hW0]; exact Blk.new _ _ _
 have S0 : Src W0 p K := by rw [hW0]; exact h.below ((Below.refl _ _).alloc (Nat.le_refl _) _)
 have HW := Lib.hid hW0
 have HB0 := Lib.hid B0
 have HR0 := Lib.hid R0
 have HP := Lib.hid (pick_any p K 9 W0 S0 (by omega))
 clear hW0 B0 R0 S0 h
 go_enter Tryz.func41, Tryz.ntmps41
 go_wp2_with fail
 rw [← HW.out]
 refine HP.out.mono ?_
 rintro e w1 ⟨r1, rfl, hr1, s1, g1⟩
 have hV1 : r1 ≤ 16 := by omega
 have R1 := HR0.out.src g1 (by omega)
 have hz1 := R1.lt
 obtain ⟨W1, hW1⟩ : ∃ W1, W1 = w1.alloc (.cells #[.int .i64 (r1 : Int), .int .i64 0] 25) := ⟨_, rfl⟩
 have M1 : Mid p (K + 2) w1.heap.size r1 0 w W1 := by
  rw [hW1]
  exact ⟨(HB0.out.trans (Beside.grown g1)).alloc _, R1.alloc _, Blk.new _ _ _, s1.below ((Below.refl _ _).alloc (Nat.le_refl _) _)⟩
 have hrr : w.heap.size < w1.heap.size := hz1
 have HW1 := Lib.hid hW1
 have HM1 := Lib.hid M1
 have HP2 := Lib.hid (one_any p (K + 2) 14 W1 M1.src (by omega))
 obtain ⟨r, hr⟩ : ∃ r, r = w1.heap.size := ⟨_, rfl⟩
 rw [← hr] at HM1 hrr
 have HRr := Lib.hid hr
 clear s1 g1 hW1 M1 R1 HB0 HR0 HW hr1 hz1 hr
 go_wp2_with fail
 rw [← HRr.out, ← HW1.out]
 refine HP2.out.mono ?_
 rintro e w2 ⟨r2, rfl, s2, g2⟩
 have HM2 := Lib.hid (HM1.out.go s2 g2 hp hrr)
 clear s2 g2 HM1 HW1 HRr HP2
 rcases r2 with _ | _
 ·obtain ⟨V, hVV⟩ : ∃ V, V = r1 := ⟨_, rfl⟩
  rw [← hVV] at HM2 hV1
  have hV : V ≤ 16 := hV1
  obtain ⟨w4, hw4⟩ : ∃ w4, w4 = w2 := ⟨_, rfl⟩
  rw [← hw4] at HM2
  have HM4 := Lib.hid (HM2.out.more (show K + 4 ≤ K + 6 by omega))
  have HW4 := Lib.hid hw4
  clear HM2 hVV hw4
  have hpw := Lib.hid (wrap_pow hV)
  have n0 := HM4.out.reg.at 0 (v := .int .i64 (V : Int)) rfl
  rw [HW4.out] at n0
  have HP4 := Lib.hid (pick_any p (K + 6) (wrap64 (2 ^ V)) w4 HM4.out.src (by omega))
  go_wp2_with fail
  rw [← HW4.out]
  refine HP4.out.mono ?_
  rintro e w5 ⟨T, rfl, hT, s5, g5⟩
  have hT2 : T < 2 ^ V := by
   have := Nat.two_pow_pos V
   rw [hpw.out] at hT
   omega
  have M5 := HM4.out.go s5 g5 hp hrr
  have c1 := M5.reg.at 1 (v := .int .i64 0) rfl
  have f1 := M5.reg.frz 1
  obtain ⟨w6, hw6⟩ : ∃ w6, w6 = w5.setCell ⟨r, 1, none⟩ (.int .i64 (T : Int)) := ⟨_, rfl⟩
  have M6 : Mid p (K + 8) r V T w w6 := by rw [hw6]; exact M5.setT hp hrr
  have HW6 := Lib.hid hw6
  have HM6 := Lib.hid M6
  have HP6 := Lib.hid (one_any p (K + 8) 2 w6 M6.src (by omega))
  clear hw6 M5 M6 s5 g5 hT n0 HM4 HW4 HP4 hpw
  go_wp2_with fail
  rw [← HW6.out]
  refine HP6.out.mono ?_
  rintro e w7 ⟨r7, rfl, s7, g7⟩
  have M7 := (HM6.out.go s7 g7 hp hrr).more (show K + 8 + 2 ≤ K + 12 by omega)
  have c0 := M7.reg.at 0 (v := .int .i64 (V : Int)) rfl
  have c1 := M7.reg.at 1 (v := .int .i64 (T : Int)) rfl
  have e0 := M7.res.at 0 (v := .int .i64 0) rfl
  have e1 := M7.res.at 1 (v := .int .i64 0) rfl
  have f0 := M7.res.frz 0
  have f1 := M7.res.frz 1
  have f2 := M7.reg.frz 1
  have hne : r ≠ w.heap.size := by omega
  have hne' : w.heap.size ≠ r := by omega
  obtain ⟨U, hU, hor⟩ := or1 hV hT2
  have HE := Lib.hid (M7.fin hp hV hT2)
  have HE2 := Lib.hid ((M7.setT (U := U) hp hrr).fin hp hV hU)
  clear M7 s7 g7 HM6 HW6 HP6
  cases r7 with
  | false =>
   go_wp2
   obtain ⟨q0, q1, q3⟩ := HE.out
   exact bodyPost_ret (v := .agg #[.int .i64 ((V : Nat) : Int), .int .i64 ((T : Nat) : Int)]) (by simp [results, Tryz.results41, go_sem, q0, q1]) rfl q3
  | true =>
   go_wp2
   obtain ⟨q0, q1, q3⟩ := HE2.out
   exact bodyPost_ret (v := .agg #[.int .i64 ((V : Nat) : Int), .int .i64 ((U : Nat) : Int)]) (by simp [results, Tryz.results41, go_sem, q0, q1]) rfl q3
 ·obtain ⟨W2, hW2⟩ : ∃ W2, W2 = w2.alloc (.cells #[.int .i64 14, .int .i64 15, .int .i64 16] 2) := ⟨_, rfl⟩
  have hz2 := HM2.out.res.lt
  have M2' : Mid p (K + 4) r r1 0 w W2 := by rw [hW2]; exact HM2.out.alloc _
  have hcs : ∀ i, i < [14, 15, 16].length → W2.cell? ⟨w2.heap.size, i, none⟩ = some (.int .i64 (([14, 15, 16] : List Int).getD i 0)) := by
   rw [hW2]; exact lits_cell (xs := [14, 15, 16]) (Blk.new w2 2 _)
  have HP3 := Lib.hid (among_any p (K + 4) w2.heap.size 3 [14, 15, 16] W2 M2'.src (by omega) (by omega) (by rw [hW2]; simp) (by decide) (by decide) hcs)
  have HW2 := Lib.hid hW2
  have HM2' := Lib.hid M2'
  clear hW2 M2' hcs HM2
  go_wp2_with fail
  rw [← HW2.out]
  refine HP3.out.mono ?_
  rintro e w3 ⟨r3, rfl, hr3, s3, g3⟩
  have hv : ∀ r, r < 3 → 0 ≤ ([14, 15, 16] : List Int).getD r 0 ∧ ([14, 15, 16] : List Int).getD r 0 ≤ 16 := by decide
  obtain ⟨hv1, hv2⟩ := hv r3 hr3
  generalize ([14, 15, 16] : List Int).getD r3 0 = v at *
  obtain ⟨V, rfl⟩ := Int.eq_ofNat_of_zero_le hv1
  have hV : V ≤ 16 := by omega
  have M3 := HM2'.out.go s3 g3 hp hrr
  have c0 := M3.reg.at 0 (v := .int .i64 (r1 : Int)) rfl
  have f0 := M3.reg.frz 0
  obtain ⟨w4, hw4⟩ : ∃ w4, w4 = w3.setCell ⟨r, 0, none⟩ (.int .i64 (V : Int)) := ⟨_, rfl⟩
  have HM4 := Lib.hid (show Mid p (K + 6) r V 0 w w4 by rw [hw4]; exact M3.setV hp hrr)
  have HW4 := Lib.hid hw4
  clear M3 hw4 s3 g3 hr3 hv hv1 hv2 HM2' HW2 HP3 hz2
  have hpw := Lib.hid (wrap_pow hV)
  have n0 := HM4.out.reg.at 0 (v := .int .i64 (V : Int)) rfl
  rw [HW4.out] at n0
  have HP4 := Lib.hid (pick_any p (K + 6) (wrap64 (2 ^ V)) w4 HM4.out.src (by omega))
  go_wp2_with fail
  rw [← HW4.out]
  refine HP4.out.mono ?_
  rintro e w5 ⟨T, rfl, hT, s5, g5⟩
  have hT2 : T < 2 ^ V := by
   have := Nat.two_pow_pos V
   rw [hpw.out] at hT
   omega
  have M5 := HM4.out.go s5 g5 hp hrr
  have c1 := M5.reg.at 1 (v := .int .i64 0) rfl
  have f1 := M5.reg.frz 1
  obtain ⟨w6, hw6⟩ : ∃ w6, w6 = w5.setCell ⟨r, 1, none⟩ (.int .i64 (T : Int)) := ⟨_, rfl⟩
  have M6 : Mid p (K + 8) r V T w w6 := by rw [hw6]; exact M5.setT hp hrr
  have HW6 := Lib.hid hw6
  have HM6 := Lib.hid M6
  have HP6 := Lib.hid (one_any p (K + 8) 2 w6 M6.src (by omega))
  clear hw6 M5 M6 s5 g5 hT n0 HM4 HW4 HP4 hpw
  go_wp2_with fail
  rw [← HW6.out]
  refine HP6.out.mono ?_
  rintro e w7 ⟨r7, rfl, s7, g7⟩
  have M7 := (HM6.out.go s7 g7 hp hrr).more (show K + 8 + 2 ≤ K + 12 by omega)
  have c0 := M7.reg.at 0 (v := .int .i64 (V : Int)) rfl
  have c1 := M7.reg.at 1 (v := .int .i64 (T : Int)) rfl
  have e0 := M7.res.at 0 (v := .int .i64 0) rfl
  have e1 := M7.res.at 1 (v := .int .i64 0) rfl
  have f0 := M7.res.frz 0
  have f1 := M7.res.frz 1
  have f2 := M7.reg.frz 1
  have hne : r ≠ w.heap.size := by omega
  have hne' : w.heap.size ≠ r := by omega
  obtain ⟨U, hU, hor⟩ := or1 hV hT2
  have HE := Lib.hid (M7.fin hp hV hT2)
  have HE2 := Lib.hid ((M7.setT (U := U) hp hrr).fin hp hV hU)
  clear M7 s7 g7 HM6 HW6 HP6
  cases r7 with
  | false =>
   go_wp2
   obtain ⟨q0, q1, q3⟩ := HE.out
   exact bodyPost_ret (v := .agg #[.int .i64 ((V : Nat) : Int), .int .i64 ((T : Nat) : Int)]) (by simp [results, Tryz.results41, go_sem, q0, q1]) rfl q3
  | true =>
   go_wp2
   obtain ⟨q0, q1, q3⟩ := HE2.out
   exact bodyPost_ret (v := .agg #[.int .i64 ((V : Nat) : Int), .int .i64 ((U : Nat) : Int)]) (by simp [results, Tryz.results41, go_sem, q0, q1]) rfl q3
end Go.Proofs.YthagenodiofgnaaGreatDoor.Draw
namespace Go.Proofs.YthagenodiofgnaaGreatDoor.Bld
open Go.RowKit Go.Proofs.YthagenodiofgnaaGreatDoor Go.Proofs.YthagenodiofgnaaGreatDoor.Base Go.Proofs.YthagenodiofgnaaGreatDoor.Mem
set_option linter.unusedVariables false
theorem sizeBuilder : (Tryz.prog.info? 107).map (·.size) = some 2 := by kernel_rfl
theorem liesBuilder : liesAt Tryz.prog Tryz.prog.depth 107 (2 / Tryz.prog.cellsOf 107) 0 107 1 = true := by kernel_rfl
theorem infoByte : (Tryz.prog.info? 5).map (fun i => (i.zero, i.size, i.bytes)) = some (some (.int .u8 0), 1, 1) := by kernel_rfl
theorem cellsByte : Tryz.prog.cellsOf 5 = 1 := by kernel_rfl
set_option maxHeartbeats 1000000 in
set_option maxRecDepth 100000 in
theorem copyCheck_used (b : Nat) (w : World) (h0 : w.cell? ⟨b, 0, none⟩ = some (.pointer (some ⟨b, 0, none⟩))) :
  Calls Tryz.prog 100 #[.pointer (some ⟨b, 0, none⟩)] w fun e w' => e = .returned (.tuple #[]) ∧ w' = w := by
 obtain ⟨j, hj, _⟩ := Option.map_eq_some_iff.1 sizeBuilder
 go_enter Tryz.func100, Tryz.ntmps100
 go_wp2
 rw [Lib.run_neq_ptr_same w _ Tryz.underlying105 hj]
 go_wp2
 go_end0
 exact ⟨rfl, rfl⟩
set_option maxHeartbeats 1000000 in
set_option maxRecDepth 100000 in
theorem copyCheck_fresh (b : Nat) (w : World) (h0 : w.cell? ⟨b, 0, none⟩ = some (.pointer none)) (hsh : w.shape? b = some (107, 2)) (hfz : w.frozen? ⟨b, 0, none⟩ = false) :
  Calls Tryz.prog 100 #[.pointer (some ⟨b, 0, none⟩)] w fun e w' => e = .returned (.tuple #[]) ∧ w' = w.setCell ⟨b, 0, none⟩ (.pointer (some ⟨b, 0, none⟩)) := by
 obtain ⟨j, hj, hjs⟩ := Option.map_eq_some_iff.1 sizeBuilder
 go_enter Tryz.func100, Tryz.ntmps100
 go_wp2
 rw [Lib.run_to_unsafe w ⟨b, 0, none⟩ Tryz.underlying105 Tryz.underlying147 hj (by rw [hjs]; decide) hsh (Nat.zero_lt_succ 1)]
 simp only [Result.andThen]
 rw [Oper.upon_value]
 go_wp2
 rw [run_callFunc_extern Tryz.func121 (by kernel_rfl) (by kernel_rfl) (by kernel_rfl) (e := Extern.AbiNoEscape.same) (by kernel_rfl)]
 rw [Lib.run_noEscape]
 simp only [Result.andThen]
 rw [Oper.upon_value]
 go_wp2
 rw [Lib.run_from_unsafe w ⟨b, 0, none⟩ Tryz.underlying147 Tryz.underlying105 hj hsh liesBuilder]
 simp only [Result.andThen]
 rw [Oper.upon_value]
 go_wp2
 go_end0
 exact ⟨rfl, rfl⟩
def IsB (B b : Nat) (bs : List Value) (w : World) : Prop := Lib.IsBuilder 107 5 B b bs w
theorem copyCheck_any (B b : Nat) (bs : List Value) (w : World) (h : IsB B b bs w) :
  Calls Tryz.prog 100 #[.pointer (some ⟨b, 0, none⟩)] w fun e w' => e = .returned (.tuple #[]) ∧ (Lib.BuilderAt 107 5 B b (.pointer (some ⟨b, 0, none⟩)) bs w' ∧ Below B w w') := by
 rcases h with h | h
 ·refine (copyCheck_fresh b w h.cell0 h.shape h.frozen0).mono ?_
  rintro e w' ⟨rfl, rfl⟩
  exact ⟨rfl, h.used _, (Below.refl B w).setCell (p := ⟨b, 0, none⟩) h.1 _⟩
 ·refine (copyCheck_used b w h.cell0).mono ?_
  rintro e w' ⟨rfl, rfl⟩
  exact ⟨rfl, h, Below.refl B _⟩
def WroteB (B b : Nat) (bs : List Value) (w : World) (e : Ending) (w' : World) : Prop := e = .returned .nilIface ∧ IsB B b bs w' ∧ Below B w w'
set_option maxHeartbeats 2000000 in
set_option maxRecDepth 100000 in
theorem writeByte_any (B b : Nat) (bs : List Value) (c : Int) (w : World) (h : IsB B b bs w) (hlen : bs.length + 1 ≤ 1099511627776) (hBw : B ≤ w.heap.size) :
  Calls Tryz.prog 79 #[.pointer (some ⟨b, 0, none⟩), .int .u8 c] w (WroteB B b (bs ++ [.int .u8 c]) w) := by
 obtain ⟨i0, hi, hz0, hz1, hz2⟩ := info_parts infoByte
 go_enter Tryz.func79, Tryz.ntmps79
 go_wp2_with fail
 refine (copyCheck_any B b bs _ h).mono ?_
 rintro e w1 ⟨rfl, h1, hb1⟩
 obtain ⟨hB, v, hbk, hown, hne⟩ := h1
 have c0 : w1.cell? ⟨b, 0, none⟩ = some (.pointer (some ⟨b, 0, none⟩)) := by rw [Lib.cell_of_heap hbk]; rfl
 have c1 : w1.cell? ⟨b, 1, none⟩ = some v := by rw [Lib.cell_of_heap hbk]; rfl
 go_wp2_with (at_builtin; refine wpList_append_own _ rfl _ _ 22 rfl B 5 i0 (.int .u8 0) 1 1 Tryz.underlying22 hi hz0 hz1 hz2 rfl (by decide) _ _ _ rfl (hown.alloc _) ⟨w1.heap.size, 0, none⟩ 1 1 [.int .u8 c] rfl rfl ?c1 ?c2 ?c3 ?c4 ?c5 ?_)
 case c1 =>
  intro j u hj
  match j, hj with
  | 0, hj => simp at hj; subst hj; simp [Addr.add]
 case c2 => intro u hu; simp at hu; subst hu; rfl
 case c3 => unfold maxLen; omega
 case c4 => omega
 case c5 => have := hb1.size; simp; omega
 intro v' w2 hown' hgrow _
 have hlt : b < w1.heap.size := by
  rcases Nat.lt_or_ge b w1.heap.size with h' | h'
  ·exact h'
  ·simp [Array.getElem?_eq_none h'] at hbk
 have hb2 : w2.heap[b]? = some (.cells #[.pointer (some ⟨b, 0, none⟩), v] 107 (0, 0)) := by
  rw [hgrow.block b (by simp; omega) (fun e => hne e.symm), Lib.alloc_old w1 _ b hlt]
  exact hbk
 have d0 : w2.cell? ⟨b, 0, none⟩ = some (.pointer (some ⟨b, 0, none⟩)) := by rw [Lib.cell_of_heap hb2]; rfl
 have d1 : w2.cell? ⟨b, 1, none⟩ = some v := by rw [Lib.cell_of_heap hb2]; rfl
 have f1 : w2.frozen? ⟨b, 1, none⟩ = false := Lib.frozen_of_heap hb2 1
 obtain ⟨g, cap, rfl⟩ : ∃ g cap, v' = .slice (some ⟨g, 0, none⟩) (bs.length + 1) cap := by
  rcases hown'.2 with ⟨_, h0⟩ | ⟨g, cap, cur, hv, _⟩
  ·omega
  ·exact ⟨g, cap, hv⟩
 go_wp2
 go_ret
 refine ⟨rfl, .inr ?_, ?_⟩
 ·exact Lib.BuilderAt.put (T := 107) (e := 5) hB hb2 (bs' := bs ++ [.int .u8 c]) (by simpa using hown') (by decide)
 ·exact ((hb1.alloc (by have := hb1.size; omega) _).grown hgrow (by have := hb1.size; simp; omega) (fun k hk => (hown.lt k hk).1)).setCell (p := ⟨b, 1, none⟩) hB _
set_option maxHeartbeats 1000000 in
set_option maxRecDepth 100000 in
theorem string_some (B b : Nat) (l : List UInt8) (w : World) (h : IsB B b (Lib.byteCells l) w) (h0 : l ≠ []) :
  Calls Tryz.prog 80 #[.pointer (some ⟨b, 0, none⟩)] w fun e w' => e = .returned (.string ⟨l.toArray⟩) ∧ Below B w w' := by
 obtain ⟨p, hB, v, hbk, hown, hne⟩ : ∃ p, Lib.BuilderAt 107 5 B b p (Lib.byteCells l) w := by
  rcases h with h | h
  ·exact ⟨_, h⟩
  ·exact ⟨_, h⟩
 have hl0 : l.length ≠ 0 := by simpa using h0
 rw [Lib.byteCells_length] at hown
 obtain ⟨g, cap, cur, rfl, hbg, hg, hnc, hcm, hcs, htake⟩ : ∃ g cap cur, v = .slice (some ⟨g, 0, none⟩) l.length cap ∧ B ≤ g ∧ w.heap[g]? = some (.cells cur 5 (0, 0)) ∧ l.length ≤ cap ∧ cap ≤ maxLen ∧ cur.size = cap * 1 ∧ cur.toList.take (l.length * 1) = Lib.byteCells l := by
  rcases hown.2 with ⟨_, hz⟩ | ⟨g, cap, cur, hv, r⟩
  ·exact absurd hz hl0
  ·exact ⟨g, cap, cur, hv, r⟩
 have c1 : w.drew.cell? ⟨b, 1, none⟩ = some (.slice (some ⟨g, 0, none⟩) l.length cap) := by
  have : w.drew.heap[b]? = some (.cells #[p, .slice (some ⟨g, 0, none⟩) l.length cap] 107 (0, 0)) := hbk
  rw [Lib.cell_of_heap this]; rfl
 have hSD : (Builtin.unsafeSliceData_ #[22] 129 #[.slice (some ⟨g, 0, none⟩) l.length cap]).run Tryz.prog w.drew = .ok (.pointer (some ⟨g, 0, none⟩)) w.drew :=
  Lib.run_unsafeSliceData_row _ _ _ _ _ _ (by omega)
 have hUS : (Builtin.unsafeString_ #[129, 3] 9 #[.pointer (some ⟨g, 0, none⟩), .int .i64 l.length]).run Tryz.prog w.drew = .ok (.string ⟨l.toArray⟩) (w.drew.freeze ⟨g, 0, none⟩ l.length) := by
  refine Lib.run_unsafeString_row w.drew 129 3 9 5 Tryz.underlying129 cellsByte g cur.size (by have hg' : w.drew.heap[g]? = some (.cells cur 5 (0, 0)) := hg; simp [World.shape?, hg']) l h0 (by omega) (by unfold maxLen at hcm; omega) ?_
  intro j x hx
  have := hown.cells (g := g) rfl j (.int .u8 x.toNat) (by simp [Lib.byteCells, hx])
  exact this
 have mixed : Tryz.prog.follows .mixedOrders = true := by kernel_rfl
 go_enter Tryz.func80, Tryz.ntmps80
 go_wp2
 go_region_o
 all_goals (go_wp2; go_ret; exact ⟨rfl, Lib.below_freeze (Below.drew (Below.refl B w)) (p := ⟨g, 0, none⟩) hbg _⟩)
end Go.Proofs.YthagenodiofgnaaGreatDoor.Bld
