/- Parts of a stream that are apart, of the program and of the reference; the law. -/
import Derived.Test.YtpflbcdbmainiaaStrCyc
namespace Go.Proofs.Ytpflbcdbmainiaa.Str
open Go.RowKit Go.Proofs.Ytpflbcdbmainiaa Go.Proofs.Ytpflbcdbmainiaa.Base
set_option linter.unusedVariables false

def splitB (n l : Int) : Bool := inR n 1 8 && inR l 1 1000000
theorem splitB_true {n l : Int} (h : splitB n l = true) : 1 ≤ n ∧ n ≤ 8 ∧ 1 ≤ l ∧ l ≤ 1000000 := by
  simp only [splitB, Bool.and_eq_true] at h
  have h1 := inR_true h.1
  have h2 := inR_true h.2
  omega
theorem l11Parts_any (n l : Int) (w : World) : Calls Try.prog 113 #[.int .i64 n, .int .i64 l] w fun e w' => e = .returned (.bool (splitB n l)) ∧ w = w' := by
  cases h1 : inR n 1 8
  all_goals
    go_enter Try.func113, Try.ntmps113
    go_wp2_with (go_at_call 70; refine (l00In_any _ _ _ _).mono ?_; rintro e w' ⟨rfl, rfl⟩)
    go_ret
    exact ⟨ret_bool (by simp [splitB, h1]), rfl⟩
theorem isSplit_any (K W T m f a s n l : Int) (w : World) :
    Calls Try.prog 111 #[.agg #[.int .i64 K, .int .i64 W, .int .i64 T, .int .i64 m, .int .i64 f, .int .i64 a, .int .i64 s], .int .i64 n, .int .i64 l] w fun e w' => e = .returned (.bool (streamB K W T m f a s && splitB n l)) ∧ Below w.heap.size w w' := by
  have HI := Lib.hid (fun w => validStream_any K W T m f a s w)
  generalize streamB K W T m f a s = r at *
  cases r
  · go_enter Try.func111, Try.ntmps111
    go_wp2_with (go_at_call 80; refine (HI.out _).mono ?_; rintro e w1 ⟨rfl, hb1⟩)
    go_ret
    exact ⟨rfl, Base.Below.boxed hb1⟩
  · cases h1 : inR n 1 8
    all_goals
      go_enter Try.func111, Try.ntmps111
      go_wp2_with (first | (go_at_call 80; refine (HI.out _).mono ?_; rintro e w1 ⟨rfl, hb1⟩) | (go_at_call 92; refine (inRange_any _ _ _ _).mono ?_; rintro e w' ⟨rfl, rfl⟩))
      go_ret
      exact ⟨ret_bool (by simp [splitB, h1]), Base.Below.boxed hb1⟩
noncomputable def apartB (K W T m f a s n l : Int) : Bool := if (streamB K W T m f a s && splitB n l) = true then decide (n * l ≤ wrap64 (preS K W T m f a s + perS K W T m f a s)) else false
theorem apartB_no {K W T m f a s n l : Int} (h : (streamB K W T m f a s && splitB n l) = false) : apartB K W T m f a s n l = false := by rw [apartB, if_neg (by simp [h])]
theorem apartB_yes {K W T m f a s n l : Int} (h : (streamB K W T m f a s && splitB n l) = true) : apartB K W T m f a s n l = decide (n * l ≤ wrap64 (preS K W T m f a s + perS K W T m f a s)) := by rw [apartB, if_pos h]

theorem implAreApart_any (K W T m f a s n l : Int) (w : World) :
    Calls Try.prog 46 #[.agg #[.int .i64 K, .int .i64 W, .int .i64 T, .int .i64 m, .int .i64 f, .int .i64 a, .int .i64 s], .int .i64 n, .int .i64 l] w fun e w' => e = .returned (.tuple #[.bool (apartB K W T m f a s n l), .bool (streamB K W T m f a s && splitB n l)]) ∧ Below w.heap.size w w' := by
  have HI := Lib.hid (fun w => isSplit_any K W T m f a s n l w)
  cases hB : (streamB K W T m f a s && splitB n l)
  · rw [apartB_no hB]
    rw [hB] at HI
    clear hB
    go_enter Try.func46, Try.ntmps46
    go_wp2_with (go_at_call 111; refine (HI.out _).mono ?_; rintro e w1 ⟨rfl, hb1⟩)
    go_ret2
    exact ⟨rfl, Base.Below.boxed hb1⟩
  · rw [apartB_yes hB]
    rw [hB] at HI
    rw [Bool.and_eq_true] at hB
    obtain ⟨hS, hP⟩ := hB
    obtain ⟨p1, p2, p3, p4⟩ := splitB_true hP
    have hm1 : n * l ≤ 8 * 1000000 := Int.mul_le_mul p2 p4 (by omega) (by omega)
    have hm0 : 0 ≤ n * l := Int.mul_nonneg (by omega) (by omega)
    have HC := Lib.hid (fun w => implCycle_any hS w)
    generalize hp : preS K W T m f a s = p at *
    generalize hq : perS K W T m f a s = q at *
    clear hp hq hS hP
    go_enter Try.func46, Try.ntmps46
    go_wp2_with fail
    refine (HI.out _).mono ?_
    rintro e w1 ⟨rfl, hb⟩
    have d0 : w1.cell? ⟨w.heap.size, 0, none⟩ = some (.int .i64 K) := box_cells hb 0
    have d1 : w1.cell? ⟨w.heap.size, 1, none⟩ = some (.int .i64 W) := box_cells hb 1
    have d2 : w1.cell? ⟨w.heap.size, 2, none⟩ = some (.int .i64 T) := box_cells hb 2
    have d3 : w1.cell? ⟨w.heap.size, 3, none⟩ = some (.int .i64 m) := box_cells hb 3
    have d4 : w1.cell? ⟨w.heap.size, 4, none⟩ = some (.int .i64 f) := box_cells hb 4
    have d5 : w1.cell? ⟨w.heap.size, 5, none⟩ = some (.int .i64 a) := box_cells hb 5
    have d6 : w1.cell? ⟨w.heap.size, 6, none⟩ = some (.int .i64 s) := box_cells hb 6
    go_wp2_with (go_at_call 112; refine (HC.out _).mono ?_; rintro e w2 ⟨rfl, hb2⟩)
    go_ret2
    exact ⟨rfl, Base.Below.boxed (Base.Below.nextA hb hb2)⟩

end Go.Proofs.Ytpflbcdbmainiaa.Str
