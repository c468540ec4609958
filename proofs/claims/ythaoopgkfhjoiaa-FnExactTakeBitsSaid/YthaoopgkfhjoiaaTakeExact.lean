/- TakeBits: the exact law. -/
import Derived.Test.YthaoopgkfhjoiaaTakeLaw
namespace Go.Proofs.Ythaoopgkfhjoiaa.Take
open Go.RowKit Go.Proofs.Ythaoopgkfhjoiaa Go.Proofs.Ythaoopgkfhjoiaa.Base Go.Proofs.Ythaoopgkfhjoiaa.Mem Go.Proofs.Ythaoopgkfhjoiaa.Reg Go.Proofs.Ythaoopgkfhjoiaa.Str
set_option linter.unusedVariables false
theorem eqRegister_yes (W T : Int) (w : World) : Calls Try.prog 116 #[.agg #[.int .i64 W, .int .i64 T], .agg #[.int .i64 W, .int .i64 T]] w fun e w' => e = .returned (.bool true) ∧ Below w.heap.size w w' := by
  go_enter Try.func116, Try.ntmps116
  go_wp2
  go_ret
  exact ⟨rfl, ((Below.refl _ _).alloc (Nat.le_refl _) _).alloc (by simp) _⟩
theorem eqCongruence_yes (m f a : Int) (w : World) : Calls Try.prog 117 #[.agg #[.int .i64 m, .int .i64 f, .int .i64 a], .agg #[.int .i64 m, .int .i64 f, .int .i64 a]] w fun e w' => e = .returned (.bool true) ∧ Below w.heap.size w w' := by
  go_enter Try.func117, Try.ntmps117
  go_wp2
  go_ret
  exact ⟨rfl, ((Below.refl _ _).alloc (Nat.le_refl _) _).alloc (by simp) _⟩
set_option maxHeartbeats 1000000 in
theorem eqStream_yes (K W T m f a s : Int) (w : World) : Calls Try.prog 64 #[.agg #[.int .i64 K, .int .i64 W, .int .i64 T, .int .i64 m, .int .i64 f, .int .i64 a, .int .i64 s], .agg #[.int .i64 K, .int .i64 W, .int .i64 T, .int .i64 m, .int .i64 f, .int .i64 a, .int .i64 s]] w fun e w' => e = .returned (.bool true) ∧ Below w.heap.size w w' := by
  obtain ⟨W1, hW1⟩ : ∃ W1, W1 = (w.alloc (.cells #[.int .i64 K, .int .i64 W, .int .i64 T, .int .i64 m, .int .i64 f, .int .i64 a, .int .i64 s] 59)).alloc (.cells #[.int .i64 K, .int .i64 W, .int .i64 T, .int .i64 m, .int .i64 f, .int .i64 a, .int .i64 s] 59) := ⟨_, rfl⟩
  have s0 : SBox W1 w.heap.size K W T m f a s := by
    have := (SBox.new w K W T m f a s).below ((Below.refl (w.heap.size + 1) _).alloc (by simp) (.cells #[.int .i64 K, .int .i64 W, .int .i64 T, .int .i64 m, .int .i64 f, .int .i64 a, .int .i64 s] 59)) (Nat.lt_succ_self _)
    rw [hW1]; exact this
  have s1 : SBox W1 (w.heap.size + 1) K W T m f a s := by
    have := SBox.new (w.alloc (.cells #[.int .i64 K, .int .i64 W, .int .i64 T, .int .i64 m, .int .i64 f, .int .i64 a, .int .i64 s] 59)) K W T m f a s
    rw [World.size_alloc] at this
    rw [hW1]; exact this
  have HB1 := Lib.hid (show Below w.heap.size w W1 by rw [hW1]; exact ((Below.refl _ _).alloc (Nat.le_refl _) _).alloc (by simp) _)
  have H0 := Lib.hid s0
  have H1 := Lib.hid s1
  have HW1 := Lib.hid hW1
  clear hW1 s0 s1
  go_enter Try.func64, Try.ntmps64
  go_wp2_with fail
  rw [← HW1.out]
  refine (eqRegister_yes W T _).mono ?_
  rintro e w2 ⟨rfl, b2⟩
  have t0 := H0.out.below b2 H0.out.lt
  have t1 := H1.out.below b2 H1.out.lt
  have u3 := t0.c3
  have u4 := t0.c4
  have u5 := t0.c5
  have u6 := t0.c6
  have v3 := t1.c3
  have v4 := t1.c4
  have v5 := t1.c5
  have v6 := t1.c6
  have HB2 := Lib.hid (HB1.out.trans (b2.mono HB1.out.size))
  have T0 := Lib.hid t0
  have T1 := Lib.hid t1
  clear b2 t0 t1
  go_wp2_with fail
  refine (eqCongruence_yes m f a _).mono ?_
  rintro e w3 ⟨rfl, b3⟩
  have q6 := (T0.out.below b3 T0.out.lt).c6
  have r6 := (T1.out.below b3 T1.out.lt).c6
  have HB3 := Lib.hid (HB2.out.trans (b3.mono HB2.out.size))
  clear b3
  go_wp2
  go_ret
  exact ⟨rfl, HB3.out⟩
theorem tb_val (K W T m f a s c : Int) : ∃ (str : ByteArray) (K' W' T' m' f' a' s' : Int) (r : Bool), ∀ (w : World) (e : Ending) (w' : World), TBRet K W T m f a s c w e w' → e = .returned (.tuple #[.string str, .agg #[.int .i64 K', .int .i64 W', .int .i64 T', .int .i64 m', .int .i64 f', .int .i64 a', .int .i64 s'], .bool r]) ∧ Below w.heap.size w w' := by
  cases h : okB K W T m f a s c with
  | false => exact ⟨⟨#[]⟩, 0, 0, 0, 0, 0, 0, 0, false, fun w e w' hr => ⟨hr.2.1 h, hr.2.2⟩⟩
  | true => exact ⟨_, _, _, _, _, _, _, _, _, fun w e w' hr => ⟨hr.1 h, hr.2.2⟩⟩
set_option maxHeartbeats 1000000 in
theorem exactTake_any (K W T m f a s c : Int) (w : World) :
    Calls Try.prog 14 #[.agg #[.int .i64 K, .int .i64 W, .int .i64 T, .int .i64 m, .int .i64 f, .int .i64 a, .int .i64 s], .int .i64 c] w fun e w' => e = .returned (.bool true) ∧ Below w.heap.size w w' := by
  obtain ⟨str, K', W', T', m', f', a', s', r, hv⟩ := tb_val K W T m f a s c
  have HT := Lib.hid (fun w => toStream_any K W T m f a s w)
  have HS := Lib.hid (fun w => (specTB_any K W T m f a s c w).mono fun e w' h => hv w e w' h)
  have HI := Lib.hid (fun w => (implTB_any K W T m f a s c w).mono fun e w' h => hv w e w' h)
  clear hv
  go_enter Try.func14, Try.ntmps14
  go_wp2_with fail
  refine (HT.out _).mono ?_; rintro e w1 ⟨rfl, hb1⟩
  go_wp2_with fail
  refine (HS.out _).mono ?_; rintro e w2 ⟨rfl, hb2⟩
  have hb := Base.Below.nextA hb1 hb2
  have HB := Lib.hid (Base.Below.boxed hb)
  obtain ⟨w3, hw3⟩ : ∃ w3, w3 = w2.alloc (.cells #[.int .i64 K', .int .i64 W', .int .i64 T', .int .i64 m', .int .i64 f', .int .i64 a', .int .i64 s'] 59) := ⟨_, rfl⟩
  have b3 : Below w2.heap.size w2 w3 := by rw [hw3]; exact (Below.refl _ _).alloc (Nat.le_refl _) _
  have n3 : SBox w3 w2.heap.size K' W' T' m' f' a' s' := by rw [hw3]; exact SBox.new _ _ _ _ _ _ _ _
  have hb3 := Base.Below.nextA hb b3
  have d0 : w3.cell? ⟨w.heap.size, 0, none⟩ = some (.int .i64 K) := box_cells hb3 0
  have d1 : w3.cell? ⟨w.heap.size, 1, none⟩ = some (.int .i64 W) := box_cells hb3 1
  have d2 : w3.cell? ⟨w.heap.size, 2, none⟩ = some (.int .i64 T) := box_cells hb3 2
  have d3 : w3.cell? ⟨w.heap.size, 3, none⟩ = some (.int .i64 m) := box_cells hb3 3
  have d4 : w3.cell? ⟨w.heap.size, 4, none⟩ = some (.int .i64 f) := box_cells hb3 4
  have d5 : w3.cell? ⟨w.heap.size, 5, none⟩ = some (.int .i64 a) := box_cells hb3 5
  have d6 : w3.cell? ⟨w.heap.size, 6, none⟩ = some (.int .i64 s) := box_cells hb3 6
  have HB3 := Lib.hid (Base.Below.boxed hb3)
  have N3 := Lib.hid n3
  have HW3 := Lib.hid hw3
  have go3 : ∀ i v, w3.cell? ⟨w.heap.size, i, none⟩ = some v → (w2.alloc (.cells #[.int .i64 K', .int .i64 W', .int .i64 T', .int .i64 m', .int .i64 f', .int .i64 a', .int .i64 s'] 59)).cell? ⟨w.heap.size, i, none⟩ = some v := fun i v h => by rw [← hw3]; exact h
  have e0 := go3 _ _ d0
  have e1 := go3 _ _ d1
  have e2 := go3 _ _ d2
  have e3 := go3 _ _ d3
  have e4 := go3 _ _ d4
  have e5 := go3 _ _ d5
  have e6 := go3 _ _ d6
  have c0 : w2.cell? ⟨w.heap.size, 0, none⟩ = some (.int .i64 K) := box_cells hb 0
  have c1 : w2.cell? ⟨w.heap.size, 1, none⟩ = some (.int .i64 W) := box_cells hb 1
  have c2 : w2.cell? ⟨w.heap.size, 2, none⟩ = some (.int .i64 T) := box_cells hb 2
  have c3 : w2.cell? ⟨w.heap.size, 3, none⟩ = some (.int .i64 m) := box_cells hb 3
  have c4 : w2.cell? ⟨w.heap.size, 4, none⟩ = some (.int .i64 f) := box_cells hb 4
  have c5 : w2.cell? ⟨w.heap.size, 5, none⟩ = some (.int .i64 a) := box_cells hb 5
  have c6 : w2.cell? ⟨w.heap.size, 6, none⟩ = some (.int .i64 s) := box_cells hb 6
  have hlt2 : w.heap.size < w2.heap.size := by have := hb.size; simp only [World.size_alloc] at this; omega
  clear hb1 hb2 hb b3 n3 hb3 hw3 go3 d0 d1 d2 d3 d4 d5 d6
  go_wp2_with fail
  rw [← HW3.out]
  refine (HT.out _).mono ?_; rintro e w4 ⟨rfl, hb4⟩
  go_wp2_with fail
  refine (HI.out _).mono ?_; rintro e w5 ⟨rfl, hb5⟩
  have hb := Base.Below.nextA hb4 hb5
  have n5 := N3.out.below hb N3.out.lt
  have HB5 := Lib.hid (HB3.out.trans (hb.mono HB3.out.size))
  have x0 := n5.c0
  have x1 := n5.c1
  have x2 := n5.c2
  have x3 := n5.c3
  have x4 := n5.c4
  have x5 := n5.c5
  have x6 := n5.c6
  have hlt5 := n5.lt
  clear hb4 hb5 hb n5 e0 e1 e2 e3 e4 e5 e6 c0 c1 c2 c3 c4 c5 c6
  go_wp2_with fail
  refine (eqStream_yes K' W' T' m' f' a' s' _).mono ?_
  rintro e w6 ⟨rfl, hb6⟩
  have HB6 := Lib.hid ((HB5.out.alloc HB5.out.size (.cells #[.int .i64 K', .int .i64 W', .int .i64 T', .int .i64 m', .int .i64 f', .int .i64 a', .int .i64 s'] 59)).trans (hb6.mono (by have := HB5.out.size; simp only [World.size_alloc]; omega)))
  clear hb6
  go_wp2
  go_ret
  exact ⟨rfl, HB6.out⟩
theorem exactTake_v {v : Value} (h : Open.IsStream v) (c : Int) (w : World) : Calls Try.prog 14 #[v, .int .i64 c] w fun e w' => e = .returned (.bool true) ∧ Below w.heap.size w w' := by
  obtain ⟨K, W, T, m, f, a, s, rfl⟩ := h.ex
  exact exactTake_any K W T m f a s c w
end Go.Proofs.Ythaoopgkfhjoiaa.Take
