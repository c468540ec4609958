/- TakeBits: the exact law. -/
import Derived.Test.YtogadldnkhdjbaaDoorTakeLaw
namespace Go.Proofs.YtogadldnkhdjbaaDoor.Take
open Go.RowKit Go.Proofs.YtogadldnkhdjbaaDoor Go.Proofs.YtogadldnkhdjbaaDoor.Base Go.Proofs.YtogadldnkhdjbaaDoor.Mem Go.Proofs.YtogadldnkhdjbaaDoor.Reg Go.Proofs.YtogadldnkhdjbaaDoor.Str
set_option linter.unusedVariables false
theorem eqRegister_yes (W T : Int) (w : World) : Calls Tryd.prog 36 #[.agg #[.int .i64 W, .int .i64 T], .agg #[.int .i64 W, .int .i64 T]] w fun e w' => e = .returned (.bool true) ∧ Below w.heap.size w w' := by
  go_enter Tryd.func36, Tryd.ntmps36
  go_wp2
  go_ret
  exact ⟨rfl, ((Below.refl _ _).alloc (Nat.le_refl _) _).alloc (by simp) _⟩
theorem eqCongruence_yes (m f a : Int) (w : World) : Calls Tryd.prog 37 #[.agg #[.int .i64 m, .int .i64 f, .int .i64 a], .agg #[.int .i64 m, .int .i64 f, .int .i64 a]] w fun e w' => e = .returned (.bool true) ∧ Below w.heap.size w w' := by
  go_enter Tryd.func37, Tryd.ntmps37
  go_wp2
  go_ret
  exact ⟨rfl, ((Below.refl _ _).alloc (Nat.le_refl _) _).alloc (by simp) _⟩
set_option maxHeartbeats 1000000 in
theorem eqStream_yes (K W T m f a s : Int) (w : World) : Calls Tryd.prog 14 #[.agg #[.int .i64 K, .int .i64 W, .int .i64 T, .int .i64 m, .int .i64 f, .int .i64 a, .int .i64 s], .agg #[.int .i64 K, .int .i64 W, .int .i64 T, .int .i64 m, .int .i64 f, .int .i64 a, .int .i64 s]] w fun e w' => e = .returned (.bool true) ∧ Below w.heap.size w w' := by
  obtain ⟨W1, hW1⟩ : ∃ W1, W1 = (w.alloc (.cells #[.int .i64 K, .int .i64 W, .int .i64 T, .int .i64 m, .int .i64 f, .int .i64 a, .int .i64 s] 40)).alloc (.cells #[.int .i64 K, .int .i64 W, .int .i64 T, .int .i64 m, .int .i64 f, .int .i64 a, .int .i64 s] 40) := ⟨_, rfl⟩
  have s0 : SBox W1 w.heap.size K W T m f a s := by
    have := (SBox.new w K W T m f a s).below ((Below.refl (w.heap.size + 1) _).alloc (by simp) (.cells #[.int .i64 K, .int .i64 W, .int .i64 T, .int .i64 m, .int .i64 f, .int .i64 a, .int .i64 s] 40)) (Nat.lt_succ_self _)
    rw [hW1]; exact this
  have s1 : SBox W1 (w.heap.size + 1) K W T m f a s := by
    have := SBox.new (w.alloc (.cells #[.int .i64 K, .int .i64 W, .int .i64 T, .int .i64 m, .int .i64 f, .int .i64 a, .int .i64 s] 40)) K W T m f a s
    rw [World.size_alloc] at this
    rw [hW1]; exact this
  have HB1 := Lib.hid (show Below w.heap.size w W1 by rw [hW1]; exact ((Below.refl _ _).alloc (Nat.le_refl _) _).alloc (by simp) _)
  have H0 := Lib.hid s0
  have H1 := Lib.hid s1
  have HW1 := Lib.hid hW1
  clear hW1 s0 s1
  go_enter Tryd.func14, Tryd.ntmps14
  go_wp2_with fail
  rw [← HW1.out]
  refine (eqRegister_yes W T _).mono ?_
  rintro e w2 ⟨rfl, b2⟩
  have t0 := H0.out.below b2 H0.out.lt
  have t1 := H1.out.below b2 H1.out.lt
  have u3 := t0.c3
  have u4 := t0.c4
  have u5 := t0.c5
  have u6 := t0.c6
  have v3 := t1.c3
  have v4 := t1.c4
  have v5 := t1.c5
  have v6 := t1.c6
  have HB2 := Lib.hid (HB1.out.trans (b2.mono HB1.out.size))
  have T0 := Lib.hid t0
  have T1 := Lib.hid t1
  clear b2 t0 t1
  go_wp2_with fail
  refine (eqCongruence_yes m f a _).mono ?_
  rintro e w3 ⟨rfl, b3⟩
  have q6 := (T0.out.below b3 T0.out.lt).c6
  have r6 := (T1.out.below b3 T1.out.lt).c6
  have HB3 := Lib.hid (HB2.out.trans (b3.mono HB2.out.size))
  clear b3
  go_wp2
  go_ret
  exact ⟨rfl, HB3.out⟩
theorem tb_val (K W T m f a s c : Int) : ∃ (str : ByteArray) (K' W' T' m' f' a' s' : Int) (r : Bool), ∀ (w : World) (e : Ending) (w' : World), TBRet K W T m f a s c w e w' → e = .returned (.tuple #[.string str, .agg #[.int .i64 K', .int .i64 W', .int .i64 T', .int .i64 m', .int .i64 f', .int .i64 a', .int .i64 s'], .bool r]) ∧ Below w.heap.size w w' := by
  cases h : okB K W T m f a s c with
  | false => exact ⟨⟨#[]⟩, 0, 0, 0, 0, 0, 0, 0, false, fun w e w' hr => ⟨hr.2.1 h, hr.2.2⟩⟩
  | true => exact ⟨_, _, _, _, _, _, _, _, _, fun w e w' hr => ⟨hr.1 h, hr.2.2⟩⟩
end Go.Proofs.YtogadldnkhdjbaaDoor.Take
