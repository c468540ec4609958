/- The cycle of a stream, of the program and of the reference; the law. -/
import Derived.Test.YtpflbcdbmainiaaStream
namespace Go.Proofs.Ytpflbcdbmainiaa.Str
open Go.RowKit Go.Proofs.Ytpflbcdbmainiaa Go.Proofs.Ytpflbcdbmainiaa.Base
set_option linter.unusedVariables false

noncomputable def preS (K W T m f a s : Int) : Int := if streamB K W T m f a s = true then (if K = 0 then Reg.preR W T s else Cong.preB m f a s) else 0
noncomputable def perS (K W T m f a s : Int) : Int := if streamB K W T m f a s = true then (if K = 0 then Reg.perR W T s else Cong.perB m f a s) else 0
theorem streamB_true {K W T m f a s : Int} (h : streamB K W T m f a s = true) : (K = 0 ∧ Reg.bothR W T s = true) ∨ (K = 1 ∧ Cong.bothB m f a s = true) := by
  unfold streamB at h
  by_cases h0 : K = 0
  · rw [if_pos h0, Bool.and_eq_true] at h
    exact .inl ⟨h0, h.2⟩
  · rw [if_neg h0] at h
    by_cases h1 : K = 1
    · rw [if_pos h1, Bool.and_eq_true] at h
      exact .inr ⟨h1, h.2⟩
    · rw [if_neg h1] at h
      cases h
theorem preS_no {K W T m f a s : Int} (h : streamB K W T m f a s = false) : preS K W T m f a s = 0 := by rw [preS, if_neg (by simp [h])]
theorem perS_no {K W T m f a s : Int} (h : streamB K W T m f a s = false) : perS K W T m f a s = 0 := by rw [perS, if_neg (by simp [h])]
theorem preS_r {W T m f a s : Int} (h : streamB 0 W T m f a s = true) : preS 0 W T m f a s = Reg.preR W T s := by rw [preS, if_pos h, if_pos rfl]
theorem perS_r {W T m f a s : Int} (h : streamB 0 W T m f a s = true) : perS 0 W T m f a s = Reg.perR W T s := by rw [perS, if_pos h, if_pos rfl]
theorem preS_c {W T m f a s : Int} (h : streamB 1 W T m f a s = true) : preS 1 W T m f a s = Cong.preB m f a s := by rw [preS, if_pos h, if_neg (by decide)]
theorem perS_c {W T m f a s : Int} (h : streamB 1 W T m f a s = true) : perS 1 W T m f a s = Cong.perB m f a s := by rw [perS, if_pos h, if_neg (by decide)]

theorem cycleRI_any {W T x : Int} (hB : Reg.bothR W T x = true) (w : World) :
    Calls Try.prog 147 #[.agg #[.int .i64 W, .int .i64 T], .int .i64 x] w fun e w' => e = .returned (.tuple #[.int .i64 (Reg.preR W T x), .int .i64 (Reg.perR W T x)]) ∧ Below w.heap.size w w' := by
  obtain ⟨h1, h2, h3, h4, h5, h6⟩ := Reg.bothR_true hB
  obtain ⟨V, rfl⟩ := Int.eq_ofNat_of_zero_le h1
  obtain ⟨A, rfl⟩ := Int.eq_ofNat_of_zero_le h3
  obtain ⟨X, rfl⟩ := Int.eq_ofNat_of_zero_le h5
  have ep : ((2 ^ V : Nat) : Int) = (2 : Int) ^ V := by simp
  simp only [Int.toNat_natCast, ← ep] at h4 h6
  refine (Reg.cycleR_any V A X w (by omega) (by omega) (by omega)).mono ?_
  rintro e w' ⟨j, n, hc, rfl, hb⟩
  refine ⟨?_, hb⟩
  rw [Reg.preR_eq hB hc, Reg.perR_eq hB hc]
theorem cycleCI_any {m f a x : Int} (hB : Cong.bothB m f a x = true) (w : World) :
    Calls Try.prog 68 #[.agg #[.int .i64 m, .int .i64 f, .int .i64 a], .int .i64 x] w fun e w' => e = .returned (.tuple #[.int .i64 (Cong.preB m f a x), .int .i64 (Cong.perB m f a x)]) ∧ Below w.heap.size w w' := by
  obtain ⟨h1, h2, h3, h4, h5, h6, h7, h8⟩ := Cong.bothB_true hB
  obtain ⟨M, rfl⟩ := Int.eq_ofNat_of_zero_le (show 0 ≤ m by omega)
  obtain ⟨F, rfl⟩ := Int.eq_ofNat_of_zero_le h3
  obtain ⟨A, rfl⟩ := Int.eq_ofNat_of_zero_le h5
  obtain ⟨X, rfl⟩ := Int.eq_ofNat_of_zero_le h7
  refine (Cong.cycle_any M F A X w (by omega) (by omega) (by omega) (by omega) (by omega)).mono ?_
  rintro e w' ⟨j, n, hc, rfl, hb⟩
  refine ⟨?_, hb⟩
  rw [Cong.preB_eq hB hc, Cong.perB_eq hB hc]
theorem implCycle_any {K W T m f a s : Int} (hB : streamB K W T m f a s = true) (w : World) :
    Calls Try.prog 112 #[.agg #[.int .i64 K, .int .i64 W, .int .i64 T, .int .i64 m, .int .i64 f, .int .i64 a, .int .i64 s]] w fun e w' => e = .returned (.tuple #[.int .i64 (preS K W T m f a s), .int .i64 (perS K W T m f a s)]) ∧ Below w.heap.size w w' := by
  rcases streamB_true hB with ⟨rfl, hR⟩ | ⟨rfl, hC⟩
  · rw [preS_r hB, perS_r hB]
    have HC := Lib.hid (fun w => cycleRI_any hR w)
    generalize hp : Reg.preR W T s = p at *
    generalize hq : Reg.perR W T s = q at *
    clear hp hq hB hR
    go_enter Try.func112, Try.ntmps112
    go_wp2_with (go_at_call 147; refine (HC.out _).mono ?_; rintro e w1 ⟨rfl, hb1⟩)
    go_ret2
    exact ⟨rfl, Base.Below.boxed hb1⟩
  · rw [preS_c hB, perS_c hB]
    have HC := Lib.hid (fun w => cycleCI_any hC w)
    generalize hp : Cong.preB m f a s = p at *
    generalize hq : Cong.perB m f a s = q at *
    clear hp hq hB hC
    go_enter Try.func112, Try.ntmps112
    go_wp2_with (go_at_call 68; refine (HC.out _).mono ?_; rintro e w1 ⟨rfl, hb1⟩)
    go_ret2
    exact ⟨rfl, Base.Below.boxed hb1⟩

theorem implStreamCycle_any (K W T m f a s : Int) (w : World) :
    Calls Try.prog 47 #[.agg #[.int .i64 K, .int .i64 W, .int .i64 T, .int .i64 m, .int .i64 f, .int .i64 a, .int .i64 s]] w fun e w' => e = .returned (.tuple #[.int .i64 (preS K W T m f a s), .int .i64 (perS K W T m f a s), .bool (streamB K W T m f a s)]) ∧ Below w.heap.size w w' := by
  have HI := Lib.hid (fun w => validStream_any K W T m f a s w)
  cases hB : streamB K W T m f a s
  · rw [preS_no hB, perS_no hB]
    rw [hB] at HI
    clear hB
    go_enter Try.func47, Try.ntmps47
    go_wp2_with (go_at_call 80; refine (HI.out _).mono ?_; rintro e w1 ⟨rfl, hb1⟩)
    go_ret3
    exact ⟨rfl, Base.Below.boxed hb1⟩
  · rw [hB] at HI
    have HC := Lib.hid (fun w => implCycle_any hB w)
    generalize hp : preS K W T m f a s = p at *
    generalize hq : perS K W T m f a s = q at *
    clear hp hq hB
    go_enter Try.func47, Try.ntmps47
    go_wp2_with fail
    refine (HI.out _).mono ?_
    rintro e w1 ⟨rfl, hb⟩
    have d0 : w1.cell? ⟨w.heap.size, 0, none⟩ = some (.int .i64 K) := box_cells hb 0
    have d1 : w1.cell? ⟨w.heap.size, 1, none⟩ = some (.int .i64 W) := box_cells hb 1
    have d2 : w1.cell? ⟨w.heap.size, 2, none⟩ = some (.int .i64 T) := box_cells hb 2
    have d3 : w1.cell? ⟨w.heap.size, 3, none⟩ = some (.int .i64 m) := box_cells hb 3
    have d4 : w1.cell? ⟨w.heap.size, 4, none⟩ = some (.int .i64 f) := box_cells hb 4
    have d5 : w1.cell? ⟨w.heap.size, 5, none⟩ = some (.int .i64 a) := box_cells hb 5
    have d6 : w1.cell? ⟨w.heap.size, 6, none⟩ = some (.int .i64 s) := box_cells hb 6
    go_wp2_with (go_at_call 112; refine (HC.out _).mono ?_; rintro e w2 ⟨rfl, hb2⟩)
    go_ret3
    exact ⟨rfl, Base.Below.boxed (Base.Below.nextA hb hb2)⟩

end Go.Proofs.Ytpflbcdbmainiaa.Str
