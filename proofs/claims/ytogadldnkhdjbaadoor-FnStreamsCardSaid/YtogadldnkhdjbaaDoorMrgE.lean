/- What is drawn is valid: a register. -/
import Derived.Test.YtogadldnkhdjbaaDoorMrgD
import Derived.Test.YtogadldnkhdjbaaDoorPopMath
import Derived.Test.YtogadldnkhdjbaaDoorBits
import Derived.Test.YtogadldnkhdjbaaDoorMrgC
import Derived.Test.YtogadldnkhdjbaaDoorStrCyc
import Derived.Test.YtogadldnkhdjbaaDoorMemS
import Derived.Test.YtogadldnkhdjbaaDoorOpen
import Derived.Test.YtogadldnkhdjbaaDoorRevNet
namespace Go.Proofs.YtogadldnkhdjbaaDoor.Draw
open Go.RowKit Go.Proofs.YtogadldnkhdjbaaDoor Go.Proofs.YtogadldnkhdjbaaDoor.Base Go.Proofs.YtogadldnkhdjbaaDoor.Mem Go.Proofs.YtogadldnkhdjbaaDoor.Src Go.Proofs.YtogadldnkhdjbaaDoor.Blk Go.Proofs.YtogadldnkhdjbaaDoor.Bits
set_option linter.unusedVariables false
def RegRet (p K : Nat) (w : World) (e : Ending) (w' : World) : Prop := ∃ V T : Nat, V ≤ 16 ∧ T < 2 ^ V ∧ e = .returned (.agg #[.int .i64 ((V : Nat) : Int), .int .i64 ((T : Nat) : Int)]) ∧ Src w' p K ∧ Beside p w w'
theorem EndR {p K V T : Nat} {w w8 : World} (hV : V ≤ 16) (hT : T < 2 ^ V) (hb : Beside p w w8) (hr : Blk w8 w.heap.size 36 #[.int .i64 0, .int .i64 0]) (hs : Src w8 p K) (hp : p < w.heap.size) :
    let w9 := (w8.setCell ⟨w.heap.size, 0, none⟩ (.int .i64 (V : Int))).setCell ⟨w.heap.size, 1, none⟩ (.int .i64 (T : Int))
    w9.cell? ⟨w.heap.size, 0, none⟩ = some (.int .i64 (V : Int)) ∧ w9.cell? ⟨w.heap.size, 1, none⟩ = some (.int .i64 (T : Int)) ∧ RegRet p K w (.returned (.agg #[.int .i64 ((V : Nat) : Int), .int .i64 ((T : Nat) : Int)])) w9 := by
  have S := (hr.setTo 0 (.int .i64 (V : Int)) (cs' := #[.int .i64 (V : Int), .int .i64 0]) rfl).setTo 1 (.int .i64 (T : Int)) (cs' := #[.int .i64 ((V : Nat) : Int), .int .i64 ((T : Nat) : Int)]) rfl
  refine ⟨S.at 0 rfl, S.at 1 rfl, V, T, hV, hT, rfl, ?_, ?_⟩
  · exact Src.set' (Src.set' hs (a := ⟨w.heap.size, 0, none⟩) hp _) (a := ⟨w.heap.size, 1, none⟩) hp _
  · exact (hb.set (a := ⟨w.heap.size, 0, none⟩) (Nat.le_refl _) _).set (a := ⟨w.heap.size, 1, none⟩) (Nat.le_refl _) _
theorem or1 {V T : Nat} (hV : V ≤ 16) (hT : T < 2 ^ V) : ∃ U : Nat, U < 2 ^ V ∧ bits .or .i64 (T : Int) (bits .and .i64 1 (wrap64 (wrap64 (2 ^ V) - 1))) = (U : Int) := by
  have hp : 2 ^ V ≤ 2 ^ 16 := Nat.pow_le_pow_right (by decide) hV
  have h0 := Nat.two_pow_pos V
  have e1 : wrap64 (wrap64 ((2 : Int) ^ V) - 1) = ((2 ^ V - 1 : Nat) : Int) := by
    rw [show (2 : Int) ^ V = ((2 ^ V : Nat) : Int) by simp]
    generalize 2 ^ V = N at *
    simp only [wrap64]; omega
  rw [e1, show (1 : Int) = ((1 : Nat) : Int) from rfl, i64_and_nat 1 (2 ^ V - 1) (by decide) (by omega)]
  have ha : 1 &&& (2 ^ V - 1) ≤ 1 := Nat.and_le_left
  rw [i64_or_nat T (1 &&& (2 ^ V - 1)) (by omega) (by omega)]
  refine ⟨_, Nat.or_lt_two_pow hT ?_, rfl⟩
  have hb : 1 &&& (2 ^ V - 1) ≤ 2 ^ V - 1 := Nat.and_le_right
  omega
theorem wrap_pow {V : Nat} (hV : V ≤ 16) : wrap64 ((2 : Int) ^ V) = ((2 ^ V : Nat) : Int) := by
  have hp : 2 ^ V ≤ 2 ^ 16 := Nat.pow_le_pow_right (by decide) hV
  rw [show (2 : Int) ^ V = ((2 ^ V : Nat) : Int) by simp]
  generalize 2 ^ V = N at *
  simp only [wrap64]; omega
/-- the state behind the width: block r holds it -/
structure Mid (p K r V T : Nat) (w w' : World) : Prop where
  beside : Beside p w w'
  res : Blk w' w.heap.size 36 #[.int .i64 0, .int .i64 0]
  reg : Blk w' r 36 #[.int .i64 ((V : Nat) : Int), .int .i64 ((T : Nat) : Int)]
  src : Src w' p K
theorem Mid.go {p K L r V T : Nat} {w w1 w2 : World} (h : Mid p K r V T w w1) (hs : Src w2 p L) (g : w1.grownBy w2 (some p)) (hp : p < w.heap.size) (hr : w.heap.size < r) : Mid p L r V T w w2 :=
  ⟨h.beside.trans (Beside.grown g), h.res.src g (by omega), h.reg.src g (by omega), hs⟩
theorem Mid.more {p K L r V T : Nat} {w w1 : World} (h : Mid p K r V T w w1) (hL : K ≤ L) : Mid p L r V T w w1 := ⟨h.beside, h.res, h.reg, h.src.more hL⟩
theorem Mid.setV {p K r V T U : Nat} {w w1 : World} (h : Mid p K r V T w w1) (hp : p < w.heap.size) (hr : w.heap.size < r) : Mid p K r U T w (w1.setCell ⟨r, 0, none⟩ (.int .i64 (U : Int))) :=
  ⟨h.beside.set (a := ⟨r, 0, none⟩) (Nat.le_of_lt hr) _, h.res.other (a := ⟨r, 0, none⟩) _ (by show r ≠ _; omega), h.reg.setTo 0 _ rfl, Src.set' h.src (a := ⟨r, 0, none⟩) (by show p < r; omega) _⟩
theorem Mid.setT {p K r V T U : Nat} {w w1 : World} (h : Mid p K r V T w w1) (hp : p < w.heap.size) (hr : w.heap.size < r) : Mid p K r V U w (w1.setCell ⟨r, 1, none⟩ (.int .i64 (U : Int))) :=
  ⟨h.beside.set (a := ⟨r, 1, none⟩) (Nat.le_of_lt hr) _, h.res.other (a := ⟨r, 1, none⟩) _ (by show r ≠ _; omega), h.reg.setTo 1 _ rfl, Src.set' h.src (a := ⟨r, 1, none⟩) (by show p < r; omega) _⟩
theorem Mid.alloc {p K r V T : Nat} {w w1 : World} (h : Mid p K r V T w w1) (o : Obj) : Mid p K r V T w (w1.alloc o) := ⟨h.beside.alloc o, h.res.alloc o, h.reg.alloc o, h.src.below ((Below.refl _ _).alloc (Nat.le_refl _) _)⟩
theorem Mid.fin {p K r V T : Nat} {w w1 : World} (h : Mid p K r V T w w1) (hp : p < w.heap.size) (hV : V ≤ 16) (hT : T < 2 ^ V) :
    let w9 := (w1.setCell ⟨w.heap.size, 0, none⟩ (.int .i64 (V : Int))).setCell ⟨w.heap.size, 1, none⟩ (.int .i64 (T : Int))
    w9.cell? ⟨w.heap.size, 0, none⟩ = some (.int .i64 (V : Int)) ∧ w9.cell? ⟨w.heap.size, 1, none⟩ = some (.int .i64 (T : Int)) ∧ RegRet p K w (.returned (.agg #[.int .i64 ((V : Nat) : Int), .int .i64 ((T : Nat) : Int)])) w9 := EndR hV hT h.beside h.res h.src hp
set_option maxHeartbeats 1000000 in
set_option maxRecDepth 100000 in
theorem l02DrawOk_any (p K : Nat) (w : World) (h : Src w p K) (hK : K ≤ 100000000000) :
    Calls Tryd.prog 61 #[.pointer (some ⟨p, 0, none⟩)] w (RegRet p (K + 12) w) := by
  have hp := h.lt
  obtain ⟨W0, hW0⟩ : ∃ W0, W0 = w.alloc (.cells #[.int .i64 0, .int .i64 0] 36) := ⟨_, rfl⟩
  have B0 : Beside p w W0 := by rw [hW0]; exact (Beside.refl p w).alloc _
  have R0 : Blk W0 w.heap.size 36 #[.int .i64 0, .int .i64 0] := by rw [hW0]; exact Blk.new _ _ _
  have S0 : Src W0 p K := by rw [hW0]; exact h.below ((Below.refl _ _).alloc (Nat.le_refl _) _)
  have HW := Lib.hid hW0
  have HB0 := Lib.hid B0
  have HR0 := Lib.hid R0
  have HP := Lib.hid (pick_any p K 9 W0 S0 (by omega))
  clear hW0 B0 R0 S0 h
  go_enter Tryd.func61, Tryd.ntmps61
  go_wp2_with fail
  rw [← HW.out]
  refine HP.out.mono ?_
  rintro e w1 ⟨r1, rfl, hr1, s1, g1⟩
  have hV1 : r1 ≤ 16 := by omega
  have R1 := HR0.out.src g1 (by omega)
  have hz1 := R1.lt
  obtain ⟨W1, hW1⟩ : ∃ W1, W1 = w1.alloc (.cells #[.int .i64 (r1 : Int), .int .i64 0] 36) := ⟨_, rfl⟩
  have M1 : Mid p (K + 2) w1.heap.size r1 0 w W1 := by
    rw [hW1]
    exact ⟨(HB0.out.trans (Beside.grown g1)).alloc _, R1.alloc _, Blk.new _ _ _, s1.below ((Below.refl _ _).alloc (Nat.le_refl _) _)⟩
  have hrr : w.heap.size < w1.heap.size := hz1
  have HW1 := Lib.hid hW1
  have HM1 := Lib.hid M1
  have HP2 := Lib.hid (one_any p (K + 2) 14 W1 M1.src (by omega))
  obtain ⟨r, hr⟩ : ∃ r, r = w1.heap.size := ⟨_, rfl⟩
  rw [← hr] at HM1 hrr
  have HRr := Lib.hid hr
  clear s1 g1 hW1 M1 R1 HB0 HR0 HW hr1 hz1 hr
  go_wp2_with fail
  rw [← HRr.out, ← HW1.out]
  refine HP2.out.mono ?_
  rintro e w2 ⟨r2, rfl, s2, g2⟩
  have HM2 := Lib.hid (HM1.out.go s2 g2 hp hrr)
  clear s2 g2 HM1 HW1 HRr HP2
  rcases r2 with _ | _
  · obtain ⟨V, hVV⟩ : ∃ V, V = r1 := ⟨_, rfl⟩
    rw [← hVV] at HM2 hV1
    have hV : V ≤ 16 := hV1
    obtain ⟨w4, hw4⟩ : ∃ w4, w4 = w2 := ⟨_, rfl⟩
    rw [← hw4] at HM2
    have HM4 := Lib.hid (HM2.out.more (show K + 4 ≤ K + 6 by omega))
    have HW4 := Lib.hid hw4
    clear HM2 hVV hw4
    have hpw := Lib.hid (wrap_pow hV)
    have n0 := HM4.out.reg.at 0 (v := .int .i64 (V : Int)) rfl
    rw [HW4.out] at n0
    have HP4 := Lib.hid (pick_any p (K + 6) (wrap64 (2 ^ V)) w4 HM4.out.src (by omega))
    go_wp2_with fail
    rw [← HW4.out]
    refine HP4.out.mono ?_
    rintro e w5 ⟨T, rfl, hT, s5, g5⟩
    have hT2 : T < 2 ^ V := by
      have := Nat.two_pow_pos V
      rw [hpw.out] at hT
      omega
    have M5 := HM4.out.go s5 g5 hp hrr
    have c1 := M5.reg.at 1 (v := .int .i64 0) rfl
    have f1 := M5.reg.frz 1
    obtain ⟨w6, hw6⟩ : ∃ w6, w6 = w5.setCell ⟨r, 1, none⟩ (.int .i64 (T : Int)) := ⟨_, rfl⟩
    have M6 : Mid p (K + 8) r V T w w6 := by rw [hw6]; exact M5.setT hp hrr
    have HW6 := Lib.hid hw6
    have HM6 := Lib.hid M6
    have HP6 := Lib.hid (one_any p (K + 8) 2 w6 M6.src (by omega))
    clear hw6 M5 M6 s5 g5 hT n0 HM4 HW4 HP4 hpw
    go_wp2_with fail
    rw [← HW6.out]
    refine HP6.out.mono ?_
    rintro e w7 ⟨r7, rfl, s7, g7⟩
    have M7 := (HM6.out.go s7 g7 hp hrr).more (show K + 8 + 2 ≤ K + 12 by omega)
    have c0 := M7.reg.at 0 (v := .int .i64 (V : Int)) rfl
    have c1 := M7.reg.at 1 (v := .int .i64 (T : Int)) rfl
    have e0 := M7.res.at 0 (v := .int .i64 0) rfl
    have e1 := M7.res.at 1 (v := .int .i64 0) rfl
    have f0 := M7.res.frz 0
    have f1 := M7.res.frz 1
    have f2 := M7.reg.frz 1
    have hne : r ≠ w.heap.size := by omega
    have hne' : w.heap.size ≠ r := by omega
    obtain ⟨U, hU, hor⟩ := or1 hV hT2
    have HE := Lib.hid (M7.fin hp hV hT2)
    have HE2 := Lib.hid ((M7.setT (U := U) hp hrr).fin hp hV hU)
    clear M7 s7 g7 HM6 HW6 HP6
    cases r7 with
    | false =>
      go_wp2
      obtain ⟨q0, q1, q3⟩ := HE.out
      exact bodyPost_ret (v := .agg #[.int .i64 ((V : Nat) : Int), .int .i64 ((T : Nat) : Int)]) (by simp [results, Tryd.results61, go_sem, q0, q1]) rfl q3
    | true =>
      go_wp2
      obtain ⟨q0, q1, q3⟩ := HE2.out
      exact bodyPost_ret (v := .agg #[.int .i64 ((V : Nat) : Int), .int .i64 ((U : Nat) : Int)]) (by simp [results, Tryd.results61, go_sem, q0, q1]) rfl q3
  · obtain ⟨W2, hW2⟩ : ∃ W2, W2 = w2.alloc (.cells #[.int .i64 14, .int .i64 15, .int .i64 16] 2) := ⟨_, rfl⟩
    have hz2 := HM2.out.res.lt
    have M2' : Mid p (K + 4) r r1 0 w W2 := by rw [hW2]; exact HM2.out.alloc _
    have hcs : ∀ i, i < [14, 15, 16].length → W2.cell? ⟨w2.heap.size, i, none⟩ = some (.int .i64 (([14, 15, 16] : List Int).getD i 0)) := by
      rw [hW2]; exact lits_cell (xs := [14, 15, 16]) (Blk.new w2 2 _)
    have HP3 := Lib.hid (among_any p (K + 4) w2.heap.size 3 [14, 15, 16] W2 M2'.src (by omega) (by omega) (by rw [hW2]; simp) (by decide) (by decide) hcs)
    have HW2 := Lib.hid hW2
    have HM2' := Lib.hid M2'
    clear hW2 M2' hcs HM2
    go_wp2_with fail
    rw [← HW2.out]
    refine HP3.out.mono ?_
    rintro e w3 ⟨r3, rfl, hr3, s3, g3⟩
    have hv : ∀ r, r < 3 → 0 ≤ ([14, 15, 16] : List Int).getD r 0 ∧ ([14, 15, 16] : List Int).getD r 0 ≤ 16 := by decide
    obtain ⟨hv1, hv2⟩ := hv r3 hr3
    generalize ([14, 15, 16] : List Int).getD r3 0 = v at *
    obtain ⟨V, rfl⟩ := Int.eq_ofNat_of_zero_le hv1
    have hV : V ≤ 16 := by omega
    have M3 := HM2'.out.go s3 g3 hp hrr
    have c0 := M3.reg.at 0 (v := .int .i64 (r1 : Int)) rfl
    have f0 := M3.reg.frz 0
    obtain ⟨w4, hw4⟩ : ∃ w4, w4 = w3.setCell ⟨r, 0, none⟩ (.int .i64 (V : Int)) := ⟨_, rfl⟩
    have HM4 := Lib.hid (show Mid p (K + 6) r V 0 w w4 by rw [hw4]; exact M3.setV hp hrr)
    have HW4 := Lib.hid hw4
    clear M3 hw4 s3 g3 hr3 hv hv1 hv2 HM2' HW2 HP3 hz2
    have hpw := Lib.hid (wrap_pow hV)
    have n0 := HM4.out.reg.at 0 (v := .int .i64 (V : Int)) rfl
    rw [HW4.out] at n0
    have HP4 := Lib.hid (pick_any p (K + 6) (wrap64 (2 ^ V)) w4 HM4.out.src (by omega))
    go_wp2_with fail
    rw [← HW4.out]
    refine HP4.out.mono ?_
    rintro e w5 ⟨T, rfl, hT, s5, g5⟩
    have hT2 : T < 2 ^ V := by
      have := Nat.two_pow_pos V
      rw [hpw.out] at hT
      omega
    have M5 := HM4.out.go s5 g5 hp hrr
    have c1 := M5.reg.at 1 (v := .int .i64 0) rfl
    have f1 := M5.reg.frz 1
    obtain ⟨w6, hw6⟩ : ∃ w6, w6 = w5.setCell ⟨r, 1, none⟩ (.int .i64 (T : Int)) := ⟨_, rfl⟩
    have M6 : Mid p (K + 8) r V T w w6 := by rw [hw6]; exact M5.setT hp hrr
    have HW6 := Lib.hid hw6
    have HM6 := Lib.hid M6
    have HP6 := Lib.hid (one_any p (K + 8) 2 w6 M6.src (by omega))
    clear hw6 M5 M6 s5 g5 hT n0 HM4 HW4 HP4 hpw
    go_wp2_with fail
    rw [← HW6.out]
    refine HP6.out.mono ?_
    rintro e w7 ⟨r7, rfl, s7, g7⟩
    have M7 := (HM6.out.go s7 g7 hp hrr).more (show K + 8 + 2 ≤ K + 12 by omega)
    have c0 := M7.reg.at 0 (v := .int .i64 (V : Int)) rfl
    have c1 := M7.reg.at 1 (v := .int .i64 (T : Int)) rfl
    have e0 := M7.res.at 0 (v := .int .i64 0) rfl
    have e1 := M7.res.at 1 (v := .int .i64 0) rfl
    have f0 := M7.res.frz 0
    have f1 := M7.res.frz 1
    have f2 := M7.reg.frz 1
    have hne : r ≠ w.heap.size := by omega
    have hne' : w.heap.size ≠ r := by omega
    obtain ⟨U, hU, hor⟩ := or1 hV hT2
    have HE := Lib.hid (M7.fin hp hV hT2)
    have HE2 := Lib.hid ((M7.setT (U := U) hp hrr).fin hp hV hU)
    clear M7 s7 g7 HM6 HW6 HP6
    cases r7 with
    | false =>
      go_wp2
      obtain ⟨q0, q1, q3⟩ := HE.out
      exact bodyPost_ret (v := .agg #[.int .i64 ((V : Nat) : Int), .int .i64 ((T : Nat) : Int)]) (by simp [results, Tryd.results61, go_sem, q0, q1]) rfl q3
    | true =>
      go_wp2
      obtain ⟨q0, q1, q3⟩ := HE2.out
      exact bodyPost_ret (v := .agg #[.int .i64 ((V : Nat) : Int), .int .i64 ((U : Nat) : Int)]) (by simp [results, Tryd.results61, go_sem, q0, q1]) rfl q3
end Go.Proofs.YtogadldnkhdjbaaDoor.Draw
/- What is drawn is valid: a stream. -/
namespace Go.Proofs.YtogadldnkhdjbaaDoor.Draw
open Go.RowKit Go.Proofs.YtogadldnkhdjbaaDoor Go.Proofs.YtogadldnkhdjbaaDoor.Base Go.Proofs.YtogadldnkhdjbaaDoor.Mem Go.Proofs.YtogadldnkhdjbaaDoor.Src Go.Proofs.YtogadldnkhdjbaaDoor.Blk Go.Proofs.YtogadldnkhdjbaaDoor.Str Go.Proofs.YtogadldnkhdjbaaDoor.Take
set_option linter.unusedVariables false
def StrRet (p K : Nat) (w : World) (e : Ending) (w' : World) : Prop := ∃ C W T m f a s : Int, streamB C W T m f a s = true ∧ e = .returned (.agg #[.int .i64 C, .int .i64 W, .int .i64 T, .int .i64 m, .int .i64 f, .int .i64 a, .int .i64 s]) ∧ Src w' p K ∧ Beside p w w'
theorem rowed {p b : Nat} {w w1 w2 : World} (h : Beside p w w1) (g : w1.grownBy w2 (some b)) (hb : w.heap.size ≤ b) : Beside p w w2 :=
  ⟨g.os.trans h.os, g.tape.trans h.tape, g.output.trans h.output, Nat.le_trans h.size g.size, fun q h1 h2 => (g.block q (Nat.lt_of_lt_of_le h1 h.size) fun e => by have := Option.some.inj e; omega).trans (h.same q h1 h2)⟩
theorem regStream {V T X : Nat} (hV : V ≤ 16) (hT : T < 2 ^ V) (hX : X < 2 ^ V) : streamB 0 V T 0 0 0 X = true := by
  unfold streamB
  rw [if_pos rfl, Jump.bothR_yes hV hT hX]
  decide
theorem conStream {m f a X : Nat} (hm : 2 ≤ m) (hm2 : m ≤ 100000) (hf : f < m) (ha : a < m) (hX : X < m) : streamB 1 0 0 m f a X = true := by
  unfold streamB
  rw [if_neg (show ¬ (1 : Int) = 0 by decide), if_pos rfl, Cycled.bothB_yes hm hm2 hf ha hX]
  decide
theorem shlN {V : Nat} (hV : V ≤ 16) : IntKind.i64.wrap (2 ^ min (IntKind.u64.wrap (V : Int)).toNat 64) = ((2 ^ V : Nat) : Int) := by
  have e : min (IntKind.u64.wrap (V : Int)).toNat 64 = V := by
    rw [IntKind.wrap_u64]; omega
  have hp : 2 ^ V ≤ 2 ^ 16 := Nat.pow_le_pow_right (by decide) hV
  rw [e, show (2 : Int) ^ V = ((2 ^ V : Nat) : Int) by simp]
  generalize 2 ^ V = N at *
  rw [IntKind.wrap_i64]; omega
/-- the last store, into the result's cells -/
theorem EndS {p K : Nat} {C W T m f a s : Int} {w w8 : World} (hB : streamB C W T m f a s = true) (hb : Beside p w w8) (hr : SBox w8 w.heap.size 0 0 0 0 0 0 0) (hs : Src w8 p K) (hp : p < w.heap.size) :
    let w9 := set7 w8 w.heap.size C W T m f a s
    SBox w9 w.heap.size C W T m f a s ∧ StrRet p K w (.returned (.agg #[.int .i64 C, .int .i64 W, .int .i64 T, .int .i64 m, .int .i64 f, .int .i64 a, .int .i64 s])) w9 := by
  have g := grown_set7 w8 w.heap.size C W T m f a s
  exact ⟨hr.set7 C W T m f a s, C, W, T, m, f, a, s, hB, rfl, hs.kept g (fun q e => by cases e; exact hp), rowed hb g (Nat.le_refl _)⟩
theorem off7 {w : World} {b q i : Nat} {v v0 v1 v2 v3 v4 v5 v6 : Value} (h : w.cell? ⟨b, i, none⟩ = some v) (hne : q ≠ b) : (((((((w.setCell ⟨q, 0, none⟩ v0).setCell ⟨q, 1, none⟩ v1).setCell ⟨q, 2, none⟩ v2).setCell ⟨q, 3, none⟩ v3).setCell ⟨q, 4, none⟩ v4).setCell ⟨q, 5, none⟩ v5).setCell ⟨q, 6, none⟩ v6).cell? ⟨b, i, none⟩ = some v := by
  have hn : ∀ j, (⟨q, j, none⟩ : Addr) ≠ ⟨b, i, none⟩ := fun j e => hne (congrArg Addr.block e)
  rw [World.cell?_setCell_other _ _ _ _ (hn 6), World.cell?_setCell_other _ _ _ _ (hn 5), World.cell?_setCell_other _ _ _ _ (hn 4), World.cell?_setCell_other _ _ _ _ (hn 3), World.cell?_setCell_other _ _ _ _ (hn 2), World.cell?_setCell_other _ _ _ _ (hn 1), World.cell?_setCell_other _ _ _ _ (hn 0)]
  exact h
set_option maxHeartbeats 1000000 in
set_option maxRecDepth 100000 in
theorem l11DrawOk_any (p K : Nat) (w : World) (h : Src w p K) (hK : K ≤ 10000000000) :
    Calls Tryd.prog 38 #[.pointer (some ⟨p, 0, none⟩)] w (StrRet p (K + 16) w) := by
  have hp := h.lt
  obtain ⟨W0, hW0⟩ : ∃ W0, W0 = w.alloc (.cells #[.int .i64 0, .int .i64 0, .int .i64 0, .int .i64 0, .int .i64 0, .int .i64 0, .int .i64 0] 40) := ⟨_, rfl⟩
  have B0 : Beside p w W0 := by rw [hW0]; exact (Beside.refl p w).alloc _
  have R0 : SBox W0 w.heap.size 0 0 0 0 0 0 0 := by rw [hW0]; exact SBox.new _ _ _ _ _ _ _ _
  have S0 : Src W0 p K := by rw [hW0]; exact h.below ((Below.refl _ _).alloc (Nat.le_refl _) _)
  have HW := Lib.hid hW0
  have HB0 := Lib.hid B0
  have HR0 := Lib.hid R0
  have HP := Lib.hid (one_any p K 2 W0 S0 (by omega))
  clear hW0 B0 R0 S0 h
  go_enter Tryd.func38, Tryd.ntmps38
  go_wp2_with fail
  rw [← HW.out]
  refine HP.out.mono ?_
  rintro e w1 ⟨r1, rfl, s1, g1⟩
  have B1 := HB0.out.trans (Beside.grown g1)
  have R1 := HR0.out.kept g1 (fun e => by have := Option.some.inj e; omega)
  have hz1 := R1.lt
  have HR1 := Lib.hid R1
  have HB1 := Lib.hid B1
  have HS1 := Lib.hid s1
  clear s1 g1 R1 B1 HR0 HB0 HW
  cases r1 with
  | true =>
    have HD := Lib.hid (l02DrawOk_any p (K + 2) w1 HS1.out (by omega))
    go_wp2_with fail
    refine HD.out.mono ?_
    rintro e w2 ⟨V, T, hV, hT, rfl, s2, b2⟩
    have hpw := Lib.hid (wrap_pow hV)
    have B2 := HB1.out.trans b2
    have R2 : SBox w2 w.heap.size 0 0 0 0 0 0 0 := Blk.beside (t := 40) HR1.out b2 (by omega)
    obtain ⟨W2, hW2⟩ : ∃ W2, W2 = w2.alloc (.cells #[.int .i64 ((V : Nat) : Int), .int .i64 ((T : Nat) : Int)] 36) := ⟨_, rfl⟩
    have hz2 : w.heap.size < w2.heap.size := SBox.lt R2
    have B3 : Beside p w W2 := by rw [hW2]; exact B2.alloc _
    have R3 : SBox W2 w.heap.size 0 0 0 0 0 0 0 := by rw [hW2]; exact Blk.alloc (t := 40) R2 _
    have N3 : Blk W2 w2.heap.size 36 #[.int .i64 ((V : Nat) : Int), .int .i64 ((T : Nat) : Int)] := by rw [hW2]; exact Blk.new _ _ _
    have S3 : Src W2 p (K + 14) := by rw [hW2]; exact s2.below ((Below.refl _ _).alloc (Nat.le_refl _) _)
    have HW2 := Lib.hid hW2
    have HB3 := Lib.hid B3
    have HR3 := Lib.hid R3
    have HN3 := Lib.hid N3
    have HSd := Lib.hid (show Src W2.drew p (K + 14) from S3.below (Below.refl _ _).drew)
    have c0 := N3.at 0 (v := .int .i64 (V : Int)) rfl
    have c1 := N3.at 1 (v := .int .i64 (T : Int)) rfl
    have d0 : W2.drew.cell? ⟨w2.heap.size, 0, none⟩ = some (.int .i64 (V : Int)) := c0
    have d1 : W2.drew.cell? ⟨w2.heap.size, 1, none⟩ = some (.int .i64 (T : Int)) := c1
    obtain ⟨b, hb⟩ : ∃ b, b = w2.heap.size := ⟨_, rfl⟩
    rw [← hb] at c0 c1 d0 d1 HN3
    have hbn : b ≠ p := by omega
    have hnb : w.heap.size ≠ b := by omega
    have hnb' : b ≠ w.heap.size := by omega
    have FA : Hid (∀ w6, W2.drew.grownBy w6 (some p) → w6.cell? ⟨b, 0, none⟩ = some (.int .i64 (V : Int)) ∧ w6.cell? ⟨b, 1, none⟩ = some (.int .i64 (T : Int)) ∧ Hid (Beside p w w6) ∧ Hid (SBox w6 w.heap.size 0 0 0 0 0 0 0)) := Lib.hid fun w6 g => by
      have n := HN3.out.drew.src g hbn
      exact ⟨n.at 0 rfl, n.at 1 rfl, Lib.hid (HB3.out.drew.trans (Beside.grown g)), Lib.hid (Blk.src (t := 40) (Blk.drew (t := 40) HR3.out) g (by omega))⟩
    have hb' := Lib.hid hb
    clear hW2 B3 R3 N3 S3 b2 B2 R2 s2 hb
    go_wp2_with fail
    rw [← hb'.out, ← HW2.out]
    go_region_held3 (fun w' => w'.cell? ⟨b, 0, none⟩ = some (.int .i64 (V : Int)) ∧ w'.cell? ⟨b, 1, none⟩ = some (.int .i64 (T : Int)))
      (first
        | go_keep
        | exact ⟨k0, k1⟩
        | exact ⟨off7 k0 hnb, off7 k1 hnb⟩)
      (first
        | (go_at_call 22; refine (pick_any p (K + 14) _ _ HSd.out (by omega)).mono ?_; rintro e w6 ⟨x, rfl, hx, s6, g6⟩; obtain ⟨k0, k1, hb6, hr6⟩ := FA.out w6 g6; have HS6 := Lib.hid s6; clear s6 g6; have q0 := (hr6.out).c0; have q1 := (hr6.out).c1; have q2 := (hr6.out).c2; have q3 := (hr6.out).c3; have q4 := (hr6.out).c4; have q5 := (hr6.out).c5; have q6 := (hr6.out).c6; have z0 := (hr6.out).frz 0; have z1 := (hr6.out).frz 1; have z2 := (hr6.out).frz 2; have z3 := (hr6.out).frz 3; have z4 := (hr6.out).frz 4; have z5 := (hr6.out).frz 5; have z6 := (hr6.out).frz 6))
    all_goals
      have hx2 : x < 2 ^ V := by
        have := Nat.two_pow_pos V
        rw [shlN hV] at hx
        omega
      obtain ⟨hS, hR⟩ := EndS (regStream hV hT hx2) hb6.out hr6.out HS6.out hp
      have q0 := (hS).c0; have q1 := (hS).c1; have q2 := (hS).c2; have q3 := (hS).c3; have q4 := (hS).c4; have q5 := (hS).c5; have q6 := (hS).c6
      simp only [set7] at q0 q1 q2 q3 q4 q5 q6
      have HR := Lib.hid hR
      clear hR hS
      go_wp2
      exact bodyPost_ret (v := .agg #[.int .i64 0, .int .i64 V, .int .i64 T, .int .i64 0, .int .i64 0, .int .i64 0, .int .i64 x]) (by simp [results, Tryd.results38, go_sem, q0, q1, q2, q3, q4, q5, q6]) rfl HR.out
  | false =>
    have HD := Lib.hid (l03DrawOk_any p (K + 2) w1 HS1.out (by omega))
    go_wp2_with fail
    refine HD.out.mono ?_
    rintro e w2 ⟨m, f, a, hm, hm2, hf, ha, rfl, s2, b2⟩
    have B2 := HB1.out.trans b2
    have R2 : SBox w2 w.heap.size 0 0 0 0 0 0 0 := Blk.beside (t := 40) HR1.out b2 (by omega)
    obtain ⟨W2, hW2⟩ : ∃ W2, W2 = w2.alloc (.cells #[.int .i64 ((m : Nat) : Int), .int .i64 ((f : Nat) : Int), .int .i64 ((a : Nat) : Int)] 38) := ⟨_, rfl⟩
    have hz2 : w.heap.size < w2.heap.size := SBox.lt R2
    have B3 : Beside p w W2 := by rw [hW2]; exact B2.alloc _
    have R3 : SBox W2 w.heap.size 0 0 0 0 0 0 0 := by rw [hW2]; exact Blk.alloc (t := 40) R2 _
    have N3 : Blk W2 w2.heap.size 38 #[.int .i64 ((m : Nat) : Int), .int .i64 ((f : Nat) : Int), .int .i64 ((a : Nat) : Int)] := by rw [hW2]; exact Blk.new _ _ _
    have S3 : Src W2 p (K + 14) := by rw [hW2]; exact s2.below ((Below.refl _ _).alloc (Nat.le_refl _) _)
    have HW2 := Lib.hid hW2
    have HB3 := Lib.hid B3
    have HR3 := Lib.hid R3
    have HN3 := Lib.hid N3
    have HSd := Lib.hid (show Src W2.drew p (K + 14) from S3.below (Below.refl _ _).drew)
    have c0 := N3.at 0 (v := .int .i64 (m : Int)) rfl
    have c1 := N3.at 1 (v := .int .i64 (f : Int)) rfl
    have c2 := N3.at 2 (v := .int .i64 (a : Int)) rfl
    have d0 : W2.drew.cell? ⟨w2.heap.size, 0, none⟩ = some (.int .i64 (m : Int)) := c0
    have d1 : W2.drew.cell? ⟨w2.heap.size, 1, none⟩ = some (.int .i64 (f : Int)) := c1
    have d2 : W2.drew.cell? ⟨w2.heap.size, 2, none⟩ = some (.int .i64 (a : Int)) := c2
    obtain ⟨b, hb⟩ : ∃ b, b = w2.heap.size := ⟨_, rfl⟩
    rw [← hb] at c0 c1 c2 d0 d1 d2 HN3
    have hbn : b ≠ p := by omega
    have hnb : w.heap.size ≠ b := by omega
    have hnb' : b ≠ w.heap.size := by omega
    have FA : Hid (∀ w6, W2.drew.grownBy w6 (some p) → w6.cell? ⟨b, 0, none⟩ = some (.int .i64 (m : Int)) ∧ w6.cell? ⟨b, 1, none⟩ = some (.int .i64 (f : Int)) ∧ w6.cell? ⟨b, 2, none⟩ = some (.int .i64 (a : Int)) ∧ Hid (Beside p w w6) ∧ Hid (SBox w6 w.heap.size 0 0 0 0 0 0 0)) := Lib.hid fun w6 g => by
      have n := HN3.out.drew.src g hbn
      exact ⟨n.at 0 rfl, n.at 1 rfl, n.at 2 rfl, Lib.hid (HB3.out.drew.trans (Beside.grown g)), Lib.hid (Blk.src (t := 40) (Blk.drew (t := 40) HR3.out) g (by omega))⟩
    have hb' := Lib.hid hb
    clear hW2 B3 R3 N3 S3 b2 B2 R2 s2 hb
    go_wp2_with fail
    rw [← hb'.out, ← HW2.out]
    go_region_held3 (fun w' => w'.cell? ⟨b, 0, none⟩ = some (.int .i64 (m : Int)) ∧ w'.cell? ⟨b, 1, none⟩ = some (.int .i64 (f : Int)) ∧ w'.cell? ⟨b, 2, none⟩ = some (.int .i64 (a : Int)))
      (first
        | go_keep
        | exact ⟨k0, k1, k2⟩
        | exact ⟨off7 k0 hnb, off7 k1 hnb, off7 k2 hnb⟩)
      (first
        | (go_at_call 22; refine (pick_any p (K + 14) _ _ HSd.out (by omega)).mono ?_; rintro e w6 ⟨x, rfl, hx, s6, g6⟩; obtain ⟨k0, k1, k2, hb6, hr6⟩ := FA.out w6 g6; have HS6 := Lib.hid s6; clear s6 g6; have q0 := (hr6.out).c0; have q1 := (hr6.out).c1; have q2 := (hr6.out).c2; have q3 := (hr6.out).c3; have q4 := (hr6.out).c4; have q5 := (hr6.out).c5; have q6 := (hr6.out).c6; have z0 := (hr6.out).frz 0; have z1 := (hr6.out).frz 1; have z2 := (hr6.out).frz 2; have z3 := (hr6.out).frz 3; have z4 := (hr6.out).frz 4; have z5 := (hr6.out).frz 5; have z6 := (hr6.out).frz 6))
    all_goals
      have hx2 : x < m := by omega
      obtain ⟨hS, hR⟩ := EndS (conStream hm (by omega) hf ha hx2) hb6.out hr6.out HS6.out hp
      have q0 := (hS).c0; have q1 := (hS).c1; have q2 := (hS).c2; have q3 := (hS).c3; have q4 := (hS).c4; have q5 := (hS).c5; have q6 := (hS).c6
      simp only [set7] at q0 q1 q2 q3 q4 q5 q6
      have HR := Lib.hid hR
      clear hR hS
      go_wp2
      exact bodyPost_ret (v := .agg #[.int .i64 1, .int .i64 0, .int .i64 0, .int .i64 m, .int .i64 f, .int .i64 a, .int .i64 x]) (by simp [results, Tryd.results38, go_sem, q0, q1, q2, q3, q4, q5, q6]) rfl HR.out
def B10S (w : World) (e : Ending) (w' : World) : Prop := ∃ C W T m f a s : Int, streamB C W T m f a s = true ∧ e = .returned (.agg #[.int .i64 C, .int .i64 W, .int .i64 T, .int .i64 m, .int .i64 f, .int .i64 a, .int .i64 s]) ∧ Below w.heap.size w w'
set_option maxHeartbeats 1000000 in
set_option maxRecDepth 100000 in
theorem b10Stream_any (A : Option Addr) (c B : Nat) (zs : List Int) (w : World) (hx : RdB w B A zs) (hB : B ≤ w.heap.size) (hl : zs.length ≤ 9223372036854775807) (hz : ∀ z ∈ zs, 0 ≤ z ∧ z ≤ 255) :
    Calls Tryd.prog 15 #[.slice A zs.length c] w (B10S w) := by
  obtain ⟨W0, hW0⟩ : ∃ W0, W0 = w.alloc (.cells #[.int .i64 0, .int .i64 0, .int .i64 0, .int .i64 0, .int .i64 0, .int .i64 0, .int .i64 0] 40) := ⟨_, rfl⟩
  have e0 : W0.heap.size = w.heap.size + 1 := by rw [hW0]; simp
  have B0 : Below w.heap.size w W0 := by rw [hW0]; exact (Below.refl _ _).alloc (Nat.le_refl _) _
  have R0 : SBox W0 w.heap.size 0 0 0 0 0 0 0 := by rw [hW0]; exact SBox.new _ _ _ _ _ _ _ _
  have HF := Lib.hid (from_any A c w.heap.size zs W0 ((hx.below B0 hB).more hB) (by omega) hl hz)
  rw [e0] at HF
  have HW := Lib.hid hW0
  have HB0 := Lib.hid B0
  have HR0 := Lib.hid R0
  have E0 := Lib.hid e0
  clear hW0 B0 R0 hx hz e0
  go_enter Tryd.func15, Tryd.ntmps15
  go_wp2_with fail
  rw [← HW.out]
  refine HF.out.mono ?_
  rintro e w1 ⟨rfl, s1, b1⟩
  have B1 := Lib.hid (HB0.out.trans (b1.mono (by have := E0.out; omega)))
  have R1 := Lib.hid (HR0.out.below b1 (by omega))
  have HD := Lib.hid (l11DrawOk_any (w.heap.size + 1) 0 w1 s1 (by decide))
  have hz1 := s1.lt
  clear s1 b1
  go_wp2_with fail
  refine HD.out.mono ?_
  rintro e w2 ⟨C, W, T, m, f, a, s, hs, rfl, s2, bs2⟩
  have B2 := B1.out.trans (bs2.below (Nat.le_succ _) (by have := B1.out.size; omega))
  have R2 : SBox w2 w.heap.size 0 0 0 0 0 0 0 := Blk.beside (t := 40) R1.out bs2 (by omega)
  have d0 := (R2).c0; have d1 := (R2).c1; have d2 := (R2).c2; have d3 := (R2).c3; have d4 := (R2).c4; have d5 := (R2).c5; have d6 := (R2).c6
  have g0 := (R2).frz 0; have g1 := (R2).frz 1; have g2 := (R2).frz 2; have g3 := (R2).frz 3; have g4 := (R2).frz 4; have g5 := (R2).frz 5; have g6 := (R2).frz 6
  have S8 := R2.set7 C W T m f a s
  have p0 := (S8).c0; have p1 := (S8).c1; have p2 := (S8).c2; have p3 := (S8).c3; have p4 := (S8).c4; have p5 := (S8).c5; have p6 := (S8).c6
  simp only [set7] at p0 p1 p2 p3 p4 p5 p6
  have HB2 := Lib.hid (Skip.below_set7 (b := w.heap.size) B2 (Nat.le_refl _) B2.size C W T m f a s)
  have HS := Lib.hid hs
  clear S8 R2 B2 bs2 s2 hs
  go_wp2
  exact bodyPost_ret (v := .agg #[.int .i64 C, .int .i64 W, .int .i64 T, .int .i64 m, .int .i64 f, .int .i64 a, .int .i64 s]) (by simp [results, Tryd.results15, go_sem, p0, p1, p2, p3, p4, p5, p6]) rfl ⟨C, W, T, m, f, a, s, HS.out, rfl, HB2.out⟩
end Go.Proofs.YtogadldnkhdjbaaDoor.Draw
/- SkipStream, of the program and of the reference; the law. -/
namespace Go.Proofs.YtogadldnkhdjbaaDoor.Skip
open Go.RowKit Go.Proofs.YtogadldnkhdjbaaDoor Go.Proofs.YtogadldnkhdjbaaDoor.Base Go.Proofs.YtogadldnkhdjbaaDoor.Mem Go.Proofs.YtogadldnkhdjbaaDoor.Reg Go.Proofs.YtogadldnkhdjbaaDoor.Str Go.Proofs.YtogadldnkhdjbaaDoor.Take Go.Proofs.YtogadldnkhdjbaaDoor.Blk Go.Proofs.YtogadldnkhdjbaaDoor.Pow
set_option linter.unusedVariables false
def okS (K W T m f a s c : Int) : Bool := streamB K W T m f a s && inR c 0 1000000000000000000
def SSRet (K W T m f a s c : Int) (w : World) (e : Ending) (w' : World) : Prop :=
  (okS K W T m f a s c = true → e = .returned (.tuple #[.agg #[.int .i64 K, .int .i64 W, .int .i64 T, .int .i64 m, .int .i64 f, .int .i64 a, .int .i64 (takeX K W T m f a s c)], .bool true])) ∧
  (okS K W T m f a s c = false → e = .returned (.tuple #[.agg #[.int .i64 0, .int .i64 0, .int .i64 0, .int .i64 0, .int .i64 0, .int .i64 0, .int .i64 0], .bool false])) ∧ Below w.heap.size w w'
theorem SSRet.no {K W T m f a s c : Int} {w w' : World} {e : Ending} (h : okS K W T m f a s c = false) (he : e = .returned (.tuple #[.agg #[.int .i64 0, .int .i64 0, .int .i64 0, .int .i64 0, .int .i64 0, .int .i64 0, .int .i64 0], .bool false])) (hb : Below w.heap.size w w') : SSRet K W T m f a s c w e w' :=
  ⟨fun h2 => (by rw [h] at h2; cases h2), fun _ => he, hb⟩
theorem SSRet.yes {K W T m f a s c : Int} {w w' : World} {e : Ending} (h : okS K W T m f a s c = true) (he : e = .returned (.tuple #[.agg #[.int .i64 K, .int .i64 W, .int .i64 T, .int .i64 m, .int .i64 f, .int .i64 a, .int .i64 (takeX K W T m f a s c)], .bool true])) (hb : Below w.heap.size w w') : SSRet K W T m f a s c w e w' :=
  ⟨fun _ => he, fun h2 => (by rw [h] at h2; cases h2), hb⟩
set_option maxHeartbeats 1000000 in
set_option maxRecDepth 100000 in
theorem implSS_any (K W T m f a s c : Int) (w : World) : Calls Tryd.prog 17 #[.agg #[.int .i64 K, .int .i64 W, .int .i64 T, .int .i64 m, .int .i64 f, .int .i64 a, .int .i64 s], .int .i64 c] w (SSRet K W T m f a s c w) := by
  obtain ⟨W1, hW1, S, R, B⟩ := two w K W T m f a s
  have HW := Lib.hid hW1
  have HS := Lib.hid S
  have HR := Lib.hid R
  have HB1 := Lib.hid B
  clear hW1
  cases hB : streamB K W T m f a s with
  | false =>
    have HN := Lib.hid (fun e w' => SSRet.no (w := w) (w' := w') (e := e) (show okS K W T m f a s c = false by simp [okS, hB]))
    have HI := Lib.hid (validStream_any K W T m f a s W1)
    rw [hB] at HI
    clear hB S R B
    go_enter Tryd.func17, Tryd.ntmps17
    go_wp2_with fail
    rw [← HW.out]
    refine HI.out.mono ?_
    rintro e w1 ⟨rfl, B1⟩
    have r0 := HR.out.below B1 HR.out.lt
    have d0 := (r0).c0; have d1 := (r0).c1; have d2 := (r0).c2; have d3 := (r0).c3; have d4 := (r0).c4; have d5 := (r0).c5; have d6 := (r0).c6
    have g0 := (r0).frz 0; have g1 := (r0).frz 1; have g2 := (r0).frz 2; have g3 := (r0).frz 3; have g4 := (r0).frz 4; have g5 := (r0).frz 5; have g6 := (r0).frz 6
    have S8 := r0.set7 0 0 0 0 0 0 0
    have p0 := (S8).c0; have p1 := (S8).c1; have p2 := (S8).c2; have p3 := (S8).c3; have p4 := (S8).c4; have p5 := (S8).c5; have p6 := (S8).c6
    simp only [set7] at p0 p1 p2 p3 p4 p5 p6
    have HB2 := Lib.hid (below_set7 (b := w.heap.size + 1) (HB1.out.trans (B1.mono HB1.out.size)) (Nat.le_succ _) (Nat.le_trans HB1.out.size B1.size) 0 0 0 0 0 0 0)
    clear S8 r0 B1
    go_wp2
    exact bodyPost_ret (v := .tuple #[.agg #[.int .i64 0, .int .i64 0, .int .i64 0, .int .i64 0, .int .i64 0, .int .i64 0, .int .i64 0], .bool false]) (by simp [results, Tryd.results17, go_sem, p0, p1, p2, p3, p4, p5, p6]) rfl (HN.out _ _ rfl HB2.out)
  | true =>
    have HI := Lib.hid (validStream_any K W T m f a s W1)
    rw [hB] at HI
    clear S R B
    cases hc : inR c 0 1000000000000000000 with
    | false =>
      have HN := Lib.hid (fun e w' => SSRet.no (w := w) (w' := w') (e := e) (show okS K W T m f a s c = false by simp [okS, hB, hc]))
      have HC := Lib.hid (fun w => inRange_any c 0 1000000000000000000 w)
      rw [hc] at HC
      clear hB hc
      go_enter Tryd.func17, Tryd.ntmps17
      go_wp2_with fail
      rw [← HW.out]
      refine HI.out.mono ?_
      rintro e w1 ⟨rfl, B1⟩
      have r0 := HR.out.below B1 HR.out.lt
      have d0 := (r0).c0; have d1 := (r0).c1; have d2 := (r0).c2; have d3 := (r0).c3; have d4 := (r0).c4; have d5 := (r0).c5; have d6 := (r0).c6
      have g0 := (r0).frz 0; have g1 := (r0).frz 1; have g2 := (r0).frz 2; have g3 := (r0).frz 3; have g4 := (r0).frz 4; have g5 := (r0).frz 5; have g6 := (r0).frz 6
      have S8 := r0.set7 0 0 0 0 0 0 0
      have p0 := (S8).c0; have p1 := (S8).c1; have p2 := (S8).c2; have p3 := (S8).c3; have p4 := (S8).c4; have p5 := (S8).c5; have p6 := (S8).c6
      simp only [set7] at p0 p1 p2 p3 p4 p5 p6
      have HB2 := Lib.hid (below_set7 (b := w.heap.size + 1) (HB1.out.trans (B1.mono HB1.out.size)) (Nat.le_succ _) (Nat.le_trans HB1.out.size B1.size) 0 0 0 0 0 0 0)
      clear S8 r0 B1
      go_wp2_with fail
      refine (HC.out _).mono ?_
      rintro e w' ⟨rfl, rfl⟩
      go_wp2
      exact bodyPost_ret (v := .tuple #[.agg #[.int .i64 0, .int .i64 0, .int .i64 0, .int .i64 0, .int .i64 0, .int .i64 0, .int .i64 0], .bool false]) (by simp [results, Tryd.results17, go_sem, p0, p1, p2, p3, p4, p5, p6]) rfl (HN.out _ _ rfl HB2.out)
    | true =>
      have HY := Lib.hid (fun e w' => SSRet.yes (w := w) (w' := w') (e := e) (show okS K W T m f a s c = true by simp [okS, hB, hc]))
      have HC := Lib.hid (fun w => inRange_any c 0 1000000000000000000 w)
      rw [hc] at HC
      have HT := Lib.hid (fun w => implSkip_yes hB (by simpa using inR_true hc) w)
      clear hB hc
      unfold SkipR at HT
      generalize takeX K W T m f a s c = x at *
      go_enter Tryd.func17, Tryd.ntmps17
      go_wp2_with fail
      rw [← HW.out]
      refine HI.out.mono ?_
      rintro e w1 ⟨rfl, B1⟩
      have t0 := HS.out.below B1 HS.out.lt
      have c0 := (t0).c0; have c1 := (t0).c1; have c2 := (t0).c2; have c3 := (t0).c3; have c4 := (t0).c4; have c5 := (t0).c5; have c6 := (t0).c6
      have HR1 := Lib.hid (HR.out.below B1 HR.out.lt)
      have HB2 := Lib.hid (HB1.out.trans (B1.mono HB1.out.size))
      clear t0 B1
      go_wp2_with fail
      refine (HC.out _).mono ?_
      rintro e w' ⟨rfl, rfl⟩
      go_wp2_with fail
      refine (HT.out _).mono ?_
      rintro e w2 ⟨rfl, hb2⟩
      have r0 := HR1.out.below hb2 HR1.out.lt
      have d0 := (r0).c0; have d1 := (r0).c1; have d2 := (r0).c2; have d3 := (r0).c3; have d4 := (r0).c4; have d5 := (r0).c5; have d6 := (r0).c6
      have g0 := (r0).frz 0; have g1 := (r0).frz 1; have g2 := (r0).frz 2; have g3 := (r0).frz 3; have g4 := (r0).frz 4; have g5 := (r0).frz 5; have g6 := (r0).frz 6
      have S8 := r0.set7 K W T m f a x
      have p0 := (S8).c0; have p1 := (S8).c1; have p2 := (S8).c2; have p3 := (S8).c3; have p4 := (S8).c4; have p5 := (S8).c5; have p6 := (S8).c6
      simp only [set7] at p0 p1 p2 p3 p4 p5 p6
      have HB3 := Lib.hid (below_set7 (b := w.heap.size + 1) (HB2.out.trans (hb2.mono HB2.out.size)) (Nat.le_succ _) (Nat.le_trans HB2.out.size hb2.size) K W T m f a x)
      clear S8 r0 hb2 c0 c1 c2 c3 c4 c5 c6
      go_wp2
      exact bodyPost_ret (v := .tuple #[.agg #[.int .i64 K, .int .i64 W, .int .i64 T, .int .i64 m, .int .i64 f, .int .i64 a, .int .i64 x], .bool true]) (by simp [results, Tryd.results17, go_sem, p0, p1, p2, p3, p4, p5, p6]) rfl (HY.out _ _ rfl HB3.out)
theorem ss_val (K W T m f a s c : Int) : ∃ (K' W' T' m' f' a' s' : Int) (r : Bool), ∀ (w : World) (e : Ending) (w' : World), SSRet K W T m f a s c w e w' → e = .returned (.tuple #[.agg #[.int .i64 K', .int .i64 W', .int .i64 T', .int .i64 m', .int .i64 f', .int .i64 a', .int .i64 s'], .bool r]) ∧ Below w.heap.size w w' := by
  cases h : okS K W T m f a s c with
  | false => exact ⟨0, 0, 0, 0, 0, 0, 0, false, fun w e w' hr => ⟨hr.2.1 h, hr.2.2⟩⟩
  | true => exact ⟨_, _, _, _, _, _, _, _, fun w e w' hr => ⟨hr.1 h, hr.2.2⟩⟩
end Go.Proofs.YtogadldnkhdjbaaDoor.Skip
/- Parts of a stream that are apart, of the program and of the reference; the law. -/
namespace Go.Proofs.YtogadldnkhdjbaaDoor.Str
open Go.RowKit Go.Proofs.YtogadldnkhdjbaaDoor Go.Proofs.YtogadldnkhdjbaaDoor.Base
set_option linter.unusedVariables false

def splitB (n l : Int) : Bool := inR n 1 8 && inR l 1 1000000
theorem splitB_true {n l : Int} (h : splitB n l = true) : 1 ≤ n ∧ n ≤ 8 ∧ 1 ≤ l ∧ l ≤ 1000000 := by
  simp only [splitB, Bool.and_eq_true] at h
  have h1 := inR_true h.1
  have h2 := inR_true h.2
  omega
theorem isSplit_any (K W T m f a s n l : Int) (w : World) :
    Calls Tryd.prog 43 #[.agg #[.int .i64 K, .int .i64 W, .int .i64 T, .int .i64 m, .int .i64 f, .int .i64 a, .int .i64 s], .int .i64 n, .int .i64 l] w fun e w' => e = .returned (.bool (streamB K W T m f a s && splitB n l)) ∧ Below w.heap.size w w' := by
  have HI := Lib.hid (fun w => validStream_any K W T m f a s w)
  generalize streamB K W T m f a s = r at *
  cases r
  · go_enter Tryd.func43, Tryd.ntmps43
    go_wp2_with (go_at_call 20; refine (HI.out _).mono ?_; rintro e w1 ⟨rfl, hb1⟩)
    go_ret
    exact ⟨rfl, Base.Below.boxed hb1⟩
  · cases h1 : inR n 1 8
    all_goals
      go_enter Tryd.func43, Tryd.ntmps43
      go_wp2_with (first | (go_at_call 20; refine (HI.out _).mono ?_; rintro e w1 ⟨rfl, hb1⟩) | (go_at_call 39; refine (inRange_any _ _ _ _).mono ?_; rintro e w' ⟨rfl, rfl⟩))
      go_ret
      exact ⟨ret_bool (by simp [splitB, h1]), Base.Below.boxed hb1⟩
noncomputable def apartB (K W T m f a s n l : Int) : Bool := if (streamB K W T m f a s && splitB n l) = true then decide (n * l ≤ wrap64 (preS K W T m f a s + perS K W T m f a s)) else false
theorem apartB_no {K W T m f a s n l : Int} (h : (streamB K W T m f a s && splitB n l) = false) : apartB K W T m f a s n l = false := by rw [apartB, if_neg (by simp [h])]
theorem apartB_yes {K W T m f a s n l : Int} (h : (streamB K W T m f a s && splitB n l) = true) : apartB K W T m f a s n l = decide (n * l ≤ wrap64 (preS K W T m f a s + perS K W T m f a s)) := by rw [apartB, if_pos h]

end Go.Proofs.YtogadldnkhdjbaaDoor.Str
/- The parts of a stream, of the program and of the reference. -/
namespace Go.Proofs.YtogadldnkhdjbaaDoor.MemS
open Go.RowKit Go.Proofs.YtogadldnkhdjbaaDoor Go.Proofs.YtogadldnkhdjbaaDoor.Base Go.Proofs.YtogadldnkhdjbaaDoor.Mem Go.Proofs.YtogadldnkhdjbaaDoor.Take
theorem infoSt : (Tryd.prog.info? 40).map (fun i => (i.zero, i.size, i.bytes)) = some (some (.agg #[.int .i64 0, .int .i64 0, .int .i64 0, .int .i64 0, .int .i64 0, .int .i64 0, .int .i64 0]), 7, 56) := by kernel_rfl
theorem news_seven (w : World) (t : TypeId) {u0 u1 u2 u3 u4 u5 u6 : Value} {g : Nat} (hg : g = w.heap.size) : ∀ (j : Nat) (x : Value), [u0, u1, u2, u3, u4, u5, u6][j]? = some x → (w.alloc (.cells #[u0, u1, u2, u3, u4, u5, u6] t)).cell? ((⟨g, 0, none⟩ : Addr).add j) = some x := by
  subst hg
  intro j x hx
  have e : (#[u0, u1, u2, u3, u4, u5, u6] : Array Value)[j]? = some x := by rw [← Array.getElem?_toList]; exact hx
  rw [Addr.add_lit]
  exact (World.cell?_alloc_new w #[u0, u1, u2, u3, u4, u5, u6] t (0 + j)).trans (by rw [Nat.zero_add]; exact e)
theorem ones_seven {a b c d e f g : Int} : ∀ u ∈ [Value.int .i64 a, .int .i64 b, .int .i64 c, .int .i64 d, .int .i64 e, .int .i64 f, .int .i64 g], u.oneCell' = true := by
  intro u hu
  simp only [List.mem_cons, List.not_mem_nil, or_false] at hu
  rcases hu with rfl | rfl | rfl | rfl | rfl | rfl | rfl <;> rfl
end Go.Proofs.YtogadldnkhdjbaaDoor.MemS
namespace Go.Proofs.YtogadldnkhdjbaaDoor.Split
open Go.RowKit Go.Proofs.YtogadldnkhdjbaaDoor Go.Proofs.YtogadldnkhdjbaaDoor.Base Go.Proofs.YtogadldnkhdjbaaDoor.Mem Go.Proofs.YtogadldnkhdjbaaDoor.Str Go.Proofs.YtogadldnkhdjbaaDoor.Take Go.Proofs.YtogadldnkhdjbaaDoor.Skip Go.Proofs.YtogadldnkhdjbaaDoor.MemS
set_option linter.unusedVariables false
/-- the numbers of the first i parts -/
def splitF (K W T m f a s : Int) (l : Nat) : Nat → List Int
  | 0 => []
  | i + 1 => splitF K W T m f a s l i ++ [K, W, T, m, f, a, takeX K W T m f a s ((i * l : Nat) : Int)]
def splitN (K W T m f a s n l : Int) : Nat := if (streamB K W T m f a s && splitB n l) = true then n.toNat else 0
def splitR (K W T m f a s n l : Int) : List Int := if (streamB K W T m f a s && splitB n l) = true then splitF K W T m f a s l.toNat n.toNat else []
def SplitRet (N : Nat) (F : List Int) (r : Bool) (w : World) (e : Ending) (w' : World) : Prop := ∃ A c, e = .returned (.tuple #[.slice A N c, .bool r]) ∧ OwnS w' w.heap.size (.slice A N c) N F ∧ Below w.heap.size w w'
theorem SplitRet.no {w w' : World} (h : Below w.heap.size w w') : SplitRet 0 [] false w (.returned (.tuple #[.slice none 0 0, .bool false])) w' := ⟨none, 0, rfl, World.ownsRow_nil _ _ _ _, h⟩
/-- the loop's state: b is the block of the stream, B the one of the empty list -/
def SRel (K W T m f a s : Int) (l N b B : Nat) (w : World) (sv iv : Value) (wr : World) : Prop :=
  ∃ i : Nat, i ≤ N ∧ iv = .int .i64 (i : Int) ∧ Hid (OwnS wr B sv i (splitF K W T m f a s l i)) ∧ Hid (SBox wr b K W T m f a s) ∧ Hid (Below w.heap.size w wr)
theorem SRel.next {K W T m f a s : Int} {l N b B i : Nat} {w wr w1 w2 : World} {sv v' : Value} {cs : Array Value} {t : TypeId} (hi : i < N) (hO : OwnS wr B sv i (splitF K W T m f a s l i)) (hK : SBox wr b K W T m f a s) (hb : Below w.heap.size w wr) (hbB : b < B) (hwB : w.heap.size ≤ B) (h1 : Below wr.heap.size wr w1)
    (hown : w2.ownsRow B 40 7 v' (i + 1) (ints (splitF K W T m f a s l i) ++ [.int .i64 K, .int .i64 W, .int .i64 T, .int .i64 m, .int .i64 f, .int .i64 a, .int .i64 (takeX K W T m f a s ((i * l : Nat) : Int))])) (hg : (w1.alloc (.cells cs t)).grownBy w2 sv.ownBlock) :
    SRel K W T m f a s l N b B w v' (.int .i64 ((i : Int) + 1)) w2 := by
  have hrow : ∀ g, sv.ownBlock = some g → B ≤ g ∧ g < wr.heap.size := fun g hgg => by
    obtain ⟨_, _, h1, h2⟩ := ownsRow_block hO hgg
    exact ⟨h1, h2⟩
  have h2 : Below wr.heap.size wr (w1.alloc (.cells cs t)) := h1.alloc h1.size _
  refine ⟨i + 1, hi, by simp, Lib.hid ?_, Lib.hid ((hK.below h2 hK.lt).kept hg fun e => ?_), Lib.hid ?_⟩
  · show w2.ownsRow B 40 7 v' (i + 1) (ints (splitF K W T m f a s l i ++ _))
    rw [show ints (splitF K W T m f a s l i ++ [K, W, T, m, f, a, takeX K W T m f a s ((i * l : Nat) : Int)]) = ints (splitF K W T m f a s l i) ++ [.int .i64 K, .int .i64 W, .int .i64 T, .int .i64 m, .int .i64 f, .int .i64 a, .int .i64 (takeX K W T m f a s ((i * l : Nat) : Int))] by simp [ints]]
    exact hown
  · have := (hrow b e).1; omega
  · exact (hb.trans (h2.mono hb.size)).trans (grown_below hg (fun g e => by have := (hrow g e).1; omega) (Nat.le_trans hb.size h2.size))
set_option maxHeartbeats 1000000 in
set_option maxRecDepth 100000 in
theorem implSplit_any (K W T m f a s n l : Int) (w : World) : Calls Tryd.prog 19 #[.agg #[.int .i64 K, .int .i64 W, .int .i64 T, .int .i64 m, .int .i64 f, .int .i64 a, .int .i64 s], .int .i64 n, .int .i64 l] w (SplitRet (splitN K W T m f a s n l) (splitR K W T m f a s n l) (streamB K W T m f a s && splitB n l) w) := by
  obtain ⟨W1, hW1⟩ : ∃ W1, W1 = w.alloc (.cells #[.int .i64 K, .int .i64 W, .int .i64 T, .int .i64 m, .int .i64 f, .int .i64 a, .int .i64 s] 40) := ⟨_, rfl⟩
  have S : SBox W1 w.heap.size K W T m f a s := by rw [hW1]; exact SBox.new _ _ _ _ _ _ _ _
  have B : Below w.heap.size w W1 := by rw [hW1]; exact (Below.refl _ _).alloc (Nat.le_refl _) _
  have HI := Lib.hid (isSplit_any K W T m f a s n l W1)
  have HW := Lib.hid hW1
  have HS := Lib.hid S
  have HB := Lib.hid B
  have HZ := Lib.hid (show W1.heap.size = w.heap.size + 1 by rw [hW1]; simp)
  clear hW1 S B
  unfold splitN splitR
  cases hB : (streamB K W T m f a s && splitB n l) with
  | false =>
    rw [hB] at HI
    simp only [Bool.false_eq_true, if_false]
    clear hB
    go_enter Tryd.func19, Tryd.ntmps19
    go_wp2_with fail
    rw [← HW.out]
    refine HI.out.mono ?_
    rintro e w1 ⟨rfl, hb1⟩
    have B1 := Lib.hid (HB.out.trans (hb1.mono HB.out.size))
    clear hb1
    go_wp2
    go_ret2
    exact SplitRet.no B1.out
  | true =>
    rw [hB] at HI
    rw [Bool.and_eq_true] at hB
    obtain ⟨hS, hP⟩ := hB
    obtain ⟨p1, p2, p3, p4⟩ := splitB_true hP
    obtain ⟨N, rfl⟩ := Int.eq_ofNat_of_zero_le (show 0 ≤ n by omega)
    obtain ⟨L, rfl⟩ := Int.eq_ofNat_of_zero_le (show 0 ≤ l by omega)
    have HSk := Lib.hid (fun (c : Nat) (hc : c ≤ 8000000) w => implSkip_yes hS (c := (c : Int)) (by omega) w)
    obtain ⟨i7, ki, kz0, kz1, kz2⟩ := info_parts infoSt
    simp only [if_true, Int.toNat_natCast]
    clear hS hP
    go_enter Tryd.func19, Tryd.ntmps19
    go_wp2_with fail
    rw [← HW.out]
    refine HI.out.mono ?_
    rintro e w1 ⟨rfl, hb1⟩
    have B1 : Below w.heap.size w w1 := HB.out.trans (hb1.mono HB.out.size)
    have S1 : SBox w1 w.heap.size K W T m f a s := HS.out.below hb1 HS.out.lt
    have hz1 : w.heap.size + 1 ≤ w1.heap.size := S1.lt
    have H0 : Hid (SRel K W T m f a s L N w.heap.size (w.heap.size + 1) w (.slice (some ⟨w1.heap.size, 0, none⟩) 0 0) (.int .i64 0) (w1.alloc (.cells #[] 40))) := Lib.hid (by
      refine ⟨0, Nat.zero_le _, rfl, Lib.hid ?_, Lib.hid (S1.below ((Below.refl _ _).alloc (Nat.le_refl _) _) S1.lt), Lib.hid (B1.alloc B1.size _)⟩
      exact World.ownsRow_made w1 #[] 0 (by omega) (Nat.zero_le _) (by simp))
    clear hb1 B1 S1 hz1
    go_wp2
    go_loopw [8, 17] (fun sv iv wr => SRel K W T m f a s L N w.heap.size (w.heap.size + 1) w sv iv wr) (fun _ iv _ => N - (intOf iv).toNat)
    case atStart => exact H0.out
    case round =>
      obtain ⟨i, hi, rfl, HO, HK, HBl⟩ := hrel
      clear H0
      by_cases hlt : i < N
      · have c0 := (HK.out).c0; have c1 := (HK.out).c1; have c2 := (HK.out).c2; have c3 := (HK.out).c3; have c4 := (HK.out).c4; have c5 := (HK.out).c5; have c6 := (HK.out).c6
        obtain ⟨P, hP⟩ : ∃ P : Nat, i * L = P := ⟨_, rfl⟩
        have hmul : (i : Int) * (L : Int) = (P : Int) := by rw [← hP]; simp
        have hPb : P ≤ 8000000 := by
          rw [← hP]
          have := Nat.mul_le_mul (show i ≤ 8 by omega) (show L ≤ 1000000 by omega)
          omega
        have HSp := Lib.hid (fun w => HSk.out P hPb w)
        have HPP := Lib.hid hP
        unfold SkipR at HSp
        clear hP
        go_wp2_with fail
        refine (HSp.out _).mono ?_
        rintro e w2 ⟨rfl, hb2⟩
        have HN := Lib.hid (fun w3 v' cs t hown hg => SRel.next (w2 := w3) (v' := v') (cs := cs) (t := t) hlt HO.out HK.out HBl.out (Nat.lt_succ_self _) (Nat.le_succ _) hb2 hown hg)
        have hown := World.ownsRow.alloc (ownsRow_below HO.out hb2) (.cells #[.int .i64 K, .int .i64 W, .int .i64 T, .int .i64 m, .int .i64 f, .int .i64 a, .int .i64 (takeX K W T m f a s (P : Int))] 40)
        rw [HPP.out] at HN
        have hz2 : w.heap.size + 1 ≤ w2.heap.size := by have := HK.out.lt; have := hb2.size; omega
        generalize hx : takeX K W T m f a s (P : Int) = x at *
        generalize splitF K W T m f a s L i = xs at *
        have HW2 := Lib.hid hown
        clear hown hb2 HO HK HBl c0 c1 c2 c3 c4 c5 c6 hx
        go_wp2_with (at_builtin; refine wpList_append_own_at _ rfl (.tmp 20) (.tmp 26) 26 rfl (w.heap.size + 1) 40 i7 (.agg #[.int .i64 0, .int .i64 0, .int .i64 0, .int .i64 0, .int .i64 0, .int .i64 0, .int .i64 0]) 7 56 Tryd.underlying26 ki kz0 kz1 kz2 rfl (by decide) _ _ _ rfl HW2.out ⟨w2.heap.size, 0, none⟩ 1 1 [.int .i64 K, .int .i64 W, .int .i64 T, .int .i64 m, .int .i64 f, .int .i64 a, .int .i64 x] rfl rfl ?p1a ?p2a ?p3a ?p4a ?p5a ?_)
        try case p1a => exact MemS.news_seven _ _ (by simp)
        try case p2a => exact MemS.ones_seven
        try case p3a => first | (simp only [maxLen]; omega) | omega
        try case p4a => omega
        try case p5a => first | (simp only [World.size_alloc]; omega) | omega
        intro v' w3 hown' hg' _ he
        have HN3 := Lib.hid (HN.out w3 v' _ _ hown' hg')
        clear hown' hg' he HN HW2
        go_wp2
        go_roundw
        case rel => exact HN3.out
        case measure => simp [intOf]; omega
      · obtain rfl : i = N := by omega
        obtain ⟨A, cp, rfl, _⟩ := HO.out.form
        have HBB := Lib.hid HBl.out
        have HOO := Lib.hid HO.out
        clear HO HK HBl
        go_wp2
        go_ret2
        exact ⟨A, cp, rfl, ownsRow_base HOO.out (Nat.le_succ _), HBB.out⟩
end Go.Proofs.YtogadldnkhdjbaaDoor.Split
/- Parts of a stream are apart exactly if all states on their ways are different: the law at whatever bytes. -/
namespace Go.Proofs.YtogadldnkhdjbaaDoor.ApartL
open Go.RowKit Go.Proofs.YtogadldnkhdjbaaDoor Go.Proofs.YtogadldnkhdjbaaDoor.Base Go.Proofs.YtogadldnkhdjbaaDoor.Mem Go.Proofs.YtogadldnkhdjbaaDoor.Str Go.Proofs.YtogadldnkhdjbaaDoor.Take Go.Proofs.YtogadldnkhdjbaaDoor.Skip Go.Proofs.YtogadldnkhdjbaaDoor.CycM Go.Proofs.YtogadldnkhdjbaaDoor.ApartM
set_option linter.unusedVariables false
def AtRet (n : Int) (w : World) (e : Ending) (w' : World) : Prop := ∃ r : Int, 0 ≤ r ∧ r < n ∧ e = .returned (.int .i64 r) ∧ w = w'
theorem b10At_any (A : Option Addr) (c B : Nat) (zs : List Int) (i n : Int) (w : World) (hz : ∀ z ∈ zs, 0 ≤ z ∧ z ≤ 255) (hl : zs.length ≤ 9223372036854775807) (hr : RdB w B A zs) (hi : i = 0 ∨ i = 1) (hn : 2 ≤ n) :
    Calls Tryd.prog 10 #[.slice A zs.length c, .int .i64 i, .int .i64 n] w (AtRet n w) := by
  by_cases h2 : (zs.length : Int) ≤ i
  · have q0 : 0 ≤ (i * 37 + 11) % n := Int.emod_nonneg _ (by omega)
    have q1 : (i * 37 + 11) % n < n := Int.emod_lt_of_pos _ (by omega)
    clear hr hz
    rcases hi with rfl | rfl
    all_goals
      simp only [Int.zero_mul, Int.one_mul, Int.zero_add, Int.reduceAdd] at q0 q1
      go_enter Tryd.func10, Tryd.ntmps10
      go_wp2
      go_ret
      exact ⟨_, q0, q1, rfl, rfl⟩
  · obtain ⟨j, rfl⟩ := Int.eq_ofNat_of_zero_le (show 0 ≤ i by omega)
    have h3 : j < zs.length := by omega
    obtain ⟨b, off, rfl, _, hc⟩ := hr (by omega)
    have g := hc j h3
    have hm := hz (zs.getD j 0) (by simp [List.getD, h3])
    obtain ⟨m1, m2⟩ := hm
    clear hc hr hz
    generalize zs.getD j 0 = z at *
    have hq0 : 0 ≤ z % n := Int.emod_nonneg _ (by omega)
    have hq1 : z % n < n := Int.emod_lt_of_pos _ (by omega)
    have hj : (j : Int) ≤ 1 := by omega
    clear hi
    go_enter Tryd.func10, Tryd.ntmps10
    go_wp2
    go_ret
    exact ⟨_, hq0, hq1, rfl, rfl⟩
def HasRet (xs : List Int) (n : Int) (w : World) (e : Ending) (w' : World) : Prop := ∃ r : Bool, e = .returned (.bool r) ∧ w = w' ∧ (r = true → ∃ k, k < xs.length ∧ xs.getD k 0 = n) ∧ (r = false → ∀ k, k < xs.length → xs.getD k 0 ≠ n)
def waysL (U : Nat → Nat) (X i : Nat) : List Int := (List.range i).map fun k => ((iter U X k : Nat) : Int)
theorem waysL_len (U : Nat → Nat) (X i : Nat) : (waysL U X i).length = i := by simp [waysL]
theorem waysL_get (U : Nat → Nat) (X i k : Nat) (h : k < i) : (waysL U X i).getD k 0 = ((iter U X k : Nat) : Int) := by simp [waysL, List.getD, h]
theorem waysL_succ (U : Nat → Nat) (X i : Nat) : waysL U X (i + 1) = waysL U X i ++ [((iter U X i : Nat) : Int)] := by simp [waysL, List.range_succ]
/-- the search's state -/
def LRel (U : Nat → Nat) (X L n B : Nat) (K W T m f a : Int) (w : World) (sv fv iv : Value) (wr : World) : Prop :=
  ∃ (i : Nat) (fb : Bool), i ≤ L ∧ fv = .bool fb ∧ iv = .int .i64 (i : Int) ∧ Hid (fb = true → Diff U X i) ∧ Hid (fb = false → ¬ L ≤ n) ∧ Hid (OwnI wr B sv (waysL U X i)) ∧ Hid (SBox wr (B + 1) K W T m f a ((iter U X i : Nat) : Int)) ∧ Hid (Below w.heap.size w wr)
theorem notRow {w : World} {B k b : Nat} {v : Value} {xs : List Value} {K W T m f a s : Int} (h : SBox w b K W T m f a s) (ho : w.ownsRow B 2 1 v k xs) : v.ownBlock ≠ some b := fun e => by
  obtain ⟨cur, h1, _, _⟩ := ownsRow_block ho e
  unfold SBox at h
  rw [h] at h1
  injection h1 with h1
  injection h1 with _ h2 _
  exact absurd h2 (by decide)
end Go.Proofs.YtogadldnkhdjbaaDoor.ApartL
