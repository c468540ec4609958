/- What is drawn is valid: a stream. -/
import Derived.Test.YtpjepheiagllgaaDoorMgFnJ10
namespace Go.Proofs.YtpjepheiagllgaaDoor.Draw
open Go.RowKit Go.Proofs.YtpjepheiagllgaaDoor Go.Proofs.YtpjepheiagllgaaDoor.Base Go.Proofs.YtpjepheiagllgaaDoor.Mem Go.Proofs.YtpjepheiagllgaaDoor.Src Go.Proofs.YtpjepheiagllgaaDoor.Blk Go.Proofs.YtpjepheiagllgaaDoor.Str Go.Proofs.YtpjepheiagllgaaDoor.Take
set_option linter.unusedVariables false
def StrRet (p K : Nat) (w : World) (e : Ending) (w' : World) : Prop := ∃ C W T m f a s : Int, streamB C W T m f a s = true ∧ e = .returned (.agg #[.int .i64 C, .int .i64 W, .int .i64 T, .int .i64 m, .int .i64 f, .int .i64 a, .int .i64 s]) ∧ Src w' p K ∧ Beside p w w'
theorem rowed {p b : Nat} {w w1 w2 : World} (h : Beside p w w1) (g : w1.grownBy w2 (some b)) (hb : w.heap.size ≤ b) : Beside p w w2 :=
 ⟨g.os.trans h.os, g.tape.trans h.tape, g.output.trans h.output, Nat.le_trans h.size g.size, fun q h1 h2 => (g.block q (Nat.lt_of_lt_of_le h1 h.size) fun e => by have := Option.some.inj e; omega).trans (h.same q h1 h2)⟩
theorem regStream {V T X : Nat} (hV : V ≤ 16) (hT : T < 2 ^ V) (hX : X < 2 ^ V) : streamB 0 V T 0 0 0 X = true := by
 unfold streamB
 rw [if_pos rfl, Jump.bothR_yes hV hT hX]
 decide
theorem conStream {m f a X : Nat} (hm : 2 ≤ m) (hm2 : m ≤ 100000) (hf : f < m) (ha : a < m) (hX : X < m) : streamB 1 0 0 m f a X = true := by
 unfold streamB
 rw [if_neg (show ¬ (1 : Int) = 0 by decide), if_pos rfl, Cycled.bothB_yes hm hm2 hf ha hX]
 decide
theorem shlN {V : Nat} (hV : V ≤ 16) : IntKind.i64.wrap (2 ^ min (IntKind.u64.wrap (V : Int)).toNat 64) = ((2 ^ V : Nat) : Int) := by
 have e : min (IntKind.u64.wrap (V : Int)).toNat 64 = V := by
  rw [IntKind.wrap_u64]; omega
 have hp : 2 ^ V ≤ 2 ^ 16 := Nat.pow_le_pow_right (by decide) hV
 rw [e, show (2 : Int) ^ V = ((2 ^ V : Nat) : Int) by simp]
 generalize 2 ^ V = N at *
 rw [IntKind.wrap_i64]; omega
theorem EndS {p K : Nat} {C W T m f a s : Int} {w w8 : World} (hB : streamB C W T m f a s = true) (hb : Beside p w w8) (hr : SBox w8 w.heap.size 0 0 0 0 0 0 0) (hs : Src w8 p K) (hp : p < w.heap.size) :
  let w9 := set7 w8 w.heap.size C W T m f a s
  SBox w9 w.heap.size C W T m f a s ∧ StrRet p K w (.returned (.agg #[.int .i64 C, .int .i64 W, .int .i64 T, .int .i64 m, .int .i64 f, .int .i64 a, .int .i64 s])) w9 := by
 have g := grown_set7 w8 w.heap.size C W T m f a s
 exact ⟨hr.set7 C W T m f a s, C, W, T, m, f, a, s, hB, rfl, hs.kept g (fun q e => by cases e; exact hp), rowed hb g (Nat.le_refl _)⟩
theorem off7 {w : World} {b q i : Nat} {v v0 v1 v2 v3 v4 v5 v6 : Value} (h : w.cell? ⟨b, i, none⟩ = some v) (hne : q ≠ b) : (((((((w.setCell ⟨q, 0, none⟩ v0).setCell ⟨q, 1, none⟩ v1).setCell ⟨q, 2, none⟩ v2).setCell ⟨q, 3, none⟩ v3).setCell ⟨q, 4, none⟩ v4).setCell ⟨q, 5, none⟩ v5).setCell ⟨q, 6, none⟩ v6).cell? ⟨b, i, none⟩ = some v := by
 have hn : ∀ j, (⟨q, j, none⟩ : Addr) ≠ ⟨b, i, none⟩ := fun j e => hne (congrArg Addr.block e)
 rw [World.cell?_setCell_other _ _ _ _ (hn 6), World.cell?_setCell_other _ _ _ _ (hn 5), World.cell?_setCell_other _ _ _ _ (hn 4), World.cell?_setCell_other _ _ _ _ (hn 3), World.cell?_setCell_other _ _ _ _ (hn 2), World.cell?_setCell_other _ _ _ _ (hn 1), World.cell?_setCell_other _ _ _ _ (hn 0)]
 exact h
set_option maxHeartbeats 1000000 in
set_option maxRecDepth 100000 in
theorem l11DrawOk_any (p K : Nat) (w : World) (h : Src w p K) (hK : K ≤ 10000000000) :
  Calls Tryd.prog 25 #[.pointer (some ⟨p, 0, none⟩)] w (StrRet p (K + 16) w) := by
 have hp := h.lt
 obtain ⟨W0, hW0⟩ : ∃ W0, W0 = w.alloc (.cells #[.int .i64 0, .int .i64 0, .int .i64 0, .int .i64 0, .int .i64 0, .int .i64 0, .int .i64 0] 67) := ⟨_, rfl⟩
 have B0 : Beside p w W0 := by rw [hW0]; exact (Beside.refl p w).alloc _
 have R0 : SBox W0 w.heap.size 0 0 0 0 0 0 0 := by rw [hW0]; exact SBox.new _ _ _ _ _ _ _ _
 have S0 : Src W0 p K := by rw [hW0]; exact h.below ((Below.refl _ _).alloc (Nat.le_refl _) _)
 have HW := Lib.hid hW0
 have HB0 := Lib.hid B0
 have HR0 := Lib.hid R0
 have HP := Lib.hid (one_any p K 2 W0 S0 (by omega))
 clear hW0 B0 R0 S0 h
 go_enter Tryd.func25, Tryd.ntmps25
 go_wp2_with fail
 rw [← HW.out]
 refine HP.out.mono ?_
 rintro e w1 ⟨r1, rfl, s1, g1⟩
 have B1 := HB0.out.trans (Beside.grown g1)
 have R1 := HR0.out.kept g1 (fun e => by have := Option.some.inj e; omega)
 have hz1 := R1.lt
 have HR1 := Lib.hid R1
 have HB1 := Lib.hid B1
 have HS1 := Lib.hid s1
 clear s1 g1 R1 B1 HR0 HB0 HW
 cases r1 with
 | true =>
  have HD := Lib.hid (l02DrawOk_any p (K + 2) w1 HS1.out (by omega))
  go_wp2_with fail
  refine HD.out.mono ?_
  rintro e w2 ⟨V, T, hV, hT, rfl, s2, b2⟩
  have hpw := Lib.hid (wrap_pow hV)
  have B2 := HB1.out.trans b2
  have R2 : SBox w2 w.heap.size 0 0 0 0 0 0 0 := Blk.beside (t := 67) HR1.out b2 (by omega)
  obtain ⟨W2, hW2⟩ : ∃ W2, W2 = w2.alloc (.cells #[.int .i64 ((V : Nat) : Int), .int .i64 ((T : Nat) : Int)] 63) := ⟨_, rfl⟩
  have hz2 : w.heap.size < w2.heap.size := SBox.lt R2
  have B3 : Beside p w W2 := by rw [hW2]; exact B2.alloc _
  have R3 : SBox W2 w.heap.size 0 0 0 0 0 0 0 := by rw [hW2]; exact Blk.alloc (t := 67) R2 _
  have N3 : Blk W2 w2.heap.size 63 #[.int .i64 ((V : Nat) : Int), .int .i64 ((T : Nat) : Int)] := by rw [hW2]; exact Blk.new _ _ _
  have S3 : Src W2 p (K + 14) := by rw [hW2]; exact s2.below ((Below.refl _ _).alloc (Nat.le_refl _) _)
  have HW2 := Lib.hid hW2
  have HB3 := Lib.hid B3
  have HR3 := Lib.hid R3
  have HN3 := Lib.hid N3
  have HSd := Lib.hid (show Src W2.drew p (K + 14) from S3.below (Below.refl _ _).drew)
  have c0 := N3.at 0 (v := .int .i64 (V : Int)) rfl
  have c1 := N3.at 1 (v := .int .i64 (T : Int)) rfl
  have d0 : W2.drew.cell? ⟨w2.heap.size, 0, none⟩ = some (.int .i64 (V : Int)) := c0
  have d1 : W2.drew.cell? ⟨w2.heap.size, 1, none⟩ = some (.int .i64 (T : Int)) := c1
  obtain ⟨b, hb⟩ : ∃ b, b = w2.heap.size := ⟨_, rfl⟩
  rw [← hb] at c0 c1 d0 d1 HN3
  have hbn : b ≠ p := by omega
  have hnb : w.heap.size ≠ b := by omega
  have hnb' : b ≠ w.heap.size := by omega
  have FA : Hid (∀ w6, W2.drew.grownBy w6 (some p) → w6.cell? ⟨b, 0, none⟩ = some (.int .i64 (V : Int)) ∧ w6.cell? ⟨b, 1, none⟩ = some (.int .i64 (T : Int)) ∧ Hid (Beside p w w6) ∧ Hid (SBox w6 w.heap.size 0 0 0 0 0 0 0)) := Lib.hid fun w6 g => by
   have n := HN3.out.drew.src g hbn
   exact ⟨n.at 0 rfl, n.at 1 rfl, Lib.hid (HB3.out.drew.trans (Beside.grown g)), Lib.hid (Blk.src (t := 67) (Blk.drew (t := 67) HR3.out) g (by omega))⟩
  have hb' := Lib.hid hb
  clear hW2 B3 R3 N3 S3 b2 B2 R2 s2 hb
  go_wp2_with fail
  rw [← hb'.out, ← HW2.out]
  go_region_held3 (fun w' => w'.cell? ⟨b, 0, none⟩ = some (.int .i64 (V : Int)) ∧ w'.cell? ⟨b, 1, none⟩ = some (.int .i64 (T : Int)))
   (first
    | go_keep
    | exact ⟨k0, k1⟩
    | exact ⟨off7 k0 hnb, off7 k1 hnb⟩)
   (first
    | (go_at_call 11; refine (pick_any p (K + 14) _ _ HSd.out (by omega)).mono ?_; rintro e w6 ⟨x, rfl, hx, s6, g6⟩; obtain ⟨k0, k1, hb6, hr6⟩ := FA.out w6 g6; have HS6 := Lib.hid s6; clear s6 g6; have q0 := (hr6.out).c0; have q1 := (hr6.out).c1; have q2 := (hr6.out).c2; have q3 := (hr6.out).c3; have q4 := (hr6.out).c4; have q5 := (hr6.out).c5; have q6 := (hr6.out).c6; have z0 := (hr6.out).frz 0; have z1 := (hr6.out).frz 1; have z2 := (hr6.out).frz 2; have z3 := (hr6.out).frz 3; have z4 := (hr6.out).frz 4; have z5 := (hr6.out).frz 5; have z6 := (hr6.out).frz 6))
  all_goals
   have hx2 : x < 2 ^ V := by
    have := Nat.two_pow_pos V
    rw [shlN hV] at hx
    omega
   obtain ⟨hS, hR⟩ := EndS (regStream hV hT hx2) hb6.out hr6.out HS6.out hp
   have q0 := (hS).c0; have q1 := (hS).c1; have q2 := (hS).c2; have q3 := (hS).c3; have q4 := (hS).c4; have q5 := (hS).c5; have q6 := (hS).c6
   simp only [set7] at q0 q1 q2 q3 q4 q5 q6
   have HR := Lib.hid hR
   clear hR hS
   go_wp2
   exact bodyPost_ret (v := .agg #[.int .i64 0, .int .i64 V, .int .i64 T, .int .i64 0, .int .i64 0, .int .i64 0, .int .i64 x]) (by simp [results, Tryd.results25, go_sem, q0, q1, q2, q3, q4, q5, q6]) rfl HR.out
 | false =>
  have HD := Lib.hid (l03DrawOk_any p (K + 2) w1 HS1.out (by omega))
  go_wp2_with fail
  refine HD.out.mono ?_
  rintro e w2 ⟨m, f, a, hm, hm2, hf, ha, rfl, s2, b2⟩
  have B2 := HB1.out.trans b2
  have R2 : SBox w2 w.heap.size 0 0 0 0 0 0 0 := Blk.beside (t := 67) HR1.out b2 (by omega)
  obtain ⟨W2, hW2⟩ : ∃ W2, W2 = w2.alloc (.cells #[.int .i64 ((m : Nat) : Int), .int .i64 ((f : Nat) : Int), .int .i64 ((a : Nat) : Int)] 65) := ⟨_, rfl⟩
  have hz2 : w.heap.size < w2.heap.size := SBox.lt R2
  have B3 : Beside p w W2 := by rw [hW2]; exact B2.alloc _
  have R3 : SBox W2 w.heap.size 0 0 0 0 0 0 0 := by rw [hW2]; exact Blk.alloc (t := 67) R2 _
  have N3 : Blk W2 w2.heap.size 65 #[.int .i64 ((m : Nat) : Int), .int .i64 ((f : Nat) : Int), .int .i64 ((a : Nat) : Int)] := by rw [hW2]; exact Blk.new _ _ _
  have S3 : Src W2 p (K + 14) := by rw [hW2]; exact s2.below ((Below.refl _ _).alloc (Nat.le_refl _) _)
  have HW2 := Lib.hid hW2
  have HB3 := Lib.hid B3
  have HR3 := Lib.hid R3
  have HN3 := Lib.hid N3
  have HSd := Lib.hid (show Src W2.drew p (K + 14) from S3.below (Below.refl _ _).drew)
  have c0 := N3.at 0 (v := .int .i64 (m : Int)) rfl
  have c1 := N3.at 1 (v := .int .i64 (f : Int)) rfl
  have c2 := N3.at 2 (v := .int .i64 (a : Int)) rfl
  have d0 : W2.drew.cell? ⟨w2.heap.size, 0, none⟩ = some (.int .i64 (m : Int)) := c0
  have d1 : W2.drew.cell? ⟨w2.heap.size, 1, none⟩ = some (.int .i64 (f : Int)) := c1
  have d2 : W2.drew.cell? ⟨w2.heap.size, 2, none⟩ = some (.int .i64 (a : Int)) := c2
  obtain ⟨b, hb⟩ : ∃ b, b = w2.heap.size := ⟨_, rfl⟩
  rw [← hb] at c0 c1 c2 d0 d1 d2 HN3
  have hbn : b ≠ p := by omega
  have hnb : w.heap.size ≠ b := by omega
  have hnb' : b ≠ w.heap.size := by omega
  have FA : Hid (∀ w6, W2.drew.grownBy w6 (some p) → w6.cell? ⟨b, 0, none⟩ = some (.int .i64 (m : Int)) ∧ w6.cell? ⟨b, 1, none⟩ = some (.int .i64 (f : Int)) ∧ w6.cell? ⟨b, 2, none⟩ = some (.int .i64 (a : Int)) ∧ Hid (Beside p w w6) ∧ Hid (SBox w6 w.heap.size 0 0 0 0 0 0 0)) := Lib.hid fun w6 g => by
   have n := HN3.out.drew.src g hbn
   exact ⟨n.at 0 rfl, n.at 1 rfl, n.at 2 rfl, Lib.hid (HB3.out.drew.trans (Beside.grown g)), Lib.hid (Blk.src (t := 67) (Blk.drew (t := 67) HR3.out) g (by omega))⟩
  have hb' := Lib.hid hb
  clear hW2 B3 R3 N3 S3 b2 B2 R2 s2 hb
  go_wp2_with fail
  rw [← hb'.out, ← HW2.out]
  go_region_held3 (fun w' => w'.cell? ⟨b, 0, none⟩ = some (.int .i64 (m : Int)) ∧ w'.cell? ⟨b, 1, none⟩ = some (.int .i64 (f : Int)) ∧ w'.cell? ⟨b, 2, none⟩ = some (.int .i64 (a : Int)))
   (first
    | go_keep
    | exact ⟨k0, k1, k2⟩
    | exact ⟨off7 k0 hnb, off7 k1 hnb, off7 k2 hnb⟩)
   (first
    | (go_at_call 11; refine (pick_any p (K + 14) _ _ HSd.out (by omega)).mono ?_; rintro e w6 ⟨x, rfl, hx, s6, g6⟩; obtain ⟨k0, k1, k2, hb6, hr6⟩ := FA.out w6 g6; have HS6 := Lib.hid s6; clear s6 g6; have q0 := (hr6.out).c0; have q1 := (hr6.out).c1; have q2 := (hr6.out).c2; have q3 := (hr6.out).c3; have q4 := (hr6.out).c4; have q5 := (hr6.out).c5; have q6 := (hr6.out).c6; have z0 := (hr6.out).frz 0; have z1 := (hr6.out).frz 1; have z2 := (hr6.out).frz 2; have z3 := (hr6.out).frz 3; have z4 := (hr6.out).frz 4; have z5 := (hr6.out).frz 5; have z6 := (hr6.out).frz 6))
  all_goals
   have hx2 : x < m := by omega
   obtain ⟨hS, hR⟩ := EndS (conStream hm (by omega) hf ha hx2) hb6.out hr6.out HS6.out hp
   have q0 := (hS).c0; have q1 := (hS).c1; have q2 := (hS).c2; have q3 := (hS).c3; have q4 := (hS).c4; have q5 := (hS).c5; have q6 := (hS).c6
   simp only [set7] at q0 q1 q2 q3 q4 q5 q6
   have HR := Lib.hid hR
   clear hR hS
   go_wp2
   exact bodyPost_ret (v := .agg #[.int .i64 1, .int .i64 0, .int .i64 0, .int .i64 m, .int .i64 f, .int .i64 a, .int .i64 x]) (by simp [results, Tryd.results25, go_sem, q0, q1, q2, q3, q4, q5, q6]) rfl HR.out
end Go.Proofs.YtpjepheiagllgaaDoor.Draw
