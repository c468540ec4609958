/- Parts of a stream that are apart, of the program and of the reference; the law. -/
import Derived.Test.YthaoopgkfhjoiaaStrCyc
namespace Go.Proofs.Ythaoopgkfhjoiaa.Str
open Go.RowKit Go.Proofs.Ythaoopgkfhjoiaa Go.Proofs.Ythaoopgkfhjoiaa.Base
set_option linter.unusedVariables false

def splitB (n l : Int) : Bool := inR n 1 8 && inR l 1 1000000
theorem splitB_true {n l : Int} (h : splitB n l = true) : 1 ≤ n ∧ n ≤ 8 ∧ 1 ≤ l ∧ l ≤ 1000000 := by
  simp only [splitB, Bool.and_eq_true] at h
  have h1 := inR_true h.1
  have h2 := inR_true h.2
  omega
theorem l11Parts_any (n l : Int) (w : World) : Calls Try.prog 94 #[.int .i64 n, .int .i64 l] w fun e w' => e = .returned (.bool (splitB n l)) ∧ w = w' := by
  cases h1 : inR n 1 8
  all_goals
    go_enter Try.func94, Try.ntmps94
    go_wp2_with (go_at_call 66; refine (l00In_any _ _ _ _).mono ?_; rintro e w' ⟨rfl, rfl⟩)
    go_ret
    exact ⟨ret_bool (by simp [splitB, h1]), rfl⟩
theorem isSplit_any (K W T m f a s n l : Int) (w : World) :
    Calls Try.prog 95 #[.agg #[.int .i64 K, .int .i64 W, .int .i64 T, .int .i64 m, .int .i64 f, .int .i64 a, .int .i64 s], .int .i64 n, .int .i64 l] w fun e w' => e = .returned (.bool (streamB K W T m f a s && splitB n l)) ∧ Below w.heap.size w w' := by
  have HI := Lib.hid (fun w => validStream_any K W T m f a s w)
  generalize streamB K W T m f a s = r at *
  cases r
  · go_enter Try.func95, Try.ntmps95
    go_wp2_with (go_at_call 90; refine (HI.out _).mono ?_; rintro e w1 ⟨rfl, hb1⟩)
    go_ret
    exact ⟨rfl, Base.Below.boxed hb1⟩
  · cases h1 : inR n 1 8
    all_goals
      go_enter Try.func95, Try.ntmps95
      go_wp2_with (first | (go_at_call 90; refine (HI.out _).mono ?_; rintro e w1 ⟨rfl, hb1⟩) | (go_at_call 71; refine (inRange_any _ _ _ _).mono ?_; rintro e w' ⟨rfl, rfl⟩))
      go_ret
      exact ⟨ret_bool (by simp [splitB, h1]), Base.Below.boxed hb1⟩
noncomputable def apartB (K W T m f a s n l : Int) : Bool := if (streamB K W T m f a s && splitB n l) = true then decide (n * l ≤ wrap64 (preS K W T m f a s + perS K W T m f a s)) else false
theorem apartB_no {K W T m f a s n l : Int} (h : (streamB K W T m f a s && splitB n l) = false) : apartB K W T m f a s n l = false := by rw [apartB, if_neg (by simp [h])]
theorem apartB_yes {K W T m f a s n l : Int} (h : (streamB K W T m f a s && splitB n l) = true) : apartB K W T m f a s n l = decide (n * l ≤ wrap64 (preS K W T m f a s + perS K W T m f a s)) := by rw [apartB, if_pos h]

theorem specAreApart_any (K W T m f a s n l : Int) (w : World) :
    Calls Try.prog 42 #[.agg #[.int .i64 K, .int .i64 W, .int .i64 T, .int .i64 m, .int .i64 f, .int .i64 a, .int .i64 s], .int .i64 n, .int .i64 l] w fun e w' => e = .returned (.tuple #[.bool (apartB K W T m f a s n l), .bool (streamB K W T m f a s && splitB n l)]) ∧ Below w.heap.size w w' := by
  have HI := Lib.hid (l11Is_any w.heap.size K W T m f a s (w.alloc (.cells #[.int .i64 K, .int .i64 W, .int .i64 T, .int .i64 m, .int .i64 f, .int .i64 a, .int .i64 s] 59)) (by simp) (by simp) (by simp) (by simp) (by simp) (by simp) (by simp))
  have HP := Lib.hid (fun w => l11Parts_any n l w)
  cases hB : streamB K W T m f a s
  · rw [apartB_no (by simp [hB])]
    rw [hB] at HI
    clear hB HP
    go_enter Try.func42, Try.ntmps42
    go_wp2_with (go_at_call 87; refine HI.out.mono ?_; rintro e w1 ⟨rfl, k, rfl⟩)
    go_ret2
    exact ⟨rfl, below_drewN ((Below.refl _ _).alloc (Nat.le_refl _) _) _⟩
  · rw [hB] at HI
    cases hP : splitB n l
    · rw [apartB_no (by simp [hP])]
      rw [hP] at HP
      clear hB hP
      go_enter Try.func42, Try.ntmps42
      go_wp2_with (first | (go_at_call 87; refine HI.out.mono ?_; rintro e w1 ⟨rfl, k, rfl⟩) | (go_at_call 94; refine (HP.out _).mono ?_; rintro e w' ⟨rfl, rfl⟩))
      go_ret2
      exact ⟨rfl, below_drewN ((Below.refl _ _).alloc (Nat.le_refl _) _) _⟩
    · rw [apartB_yes (by simp [hB, hP])]
      rw [hP] at HP
      obtain ⟨p1, p2, p3, p4⟩ := splitB_true hP
      have hm1 : n * l ≤ 8 * 1000000 := Int.mul_le_mul p2 p4 (by omega) (by omega)
      have hm0 : 0 ≤ n * l := Int.mul_nonneg (by omega) (by omega)
      have HC := Lib.hid (fun k => l11Cycle_any w.heap.size hB ((w.alloc (.cells #[.int .i64 K, .int .i64 W, .int .i64 T, .int .i64 m, .int .i64 f, .int .i64 a, .int .i64 s] 59)).drewN k) (by simp) (by simp) (by simp) (by simp) (by simp) (by simp) (by simp) (by simp))
      generalize hp : preS K W T m f a s = p at *
      generalize hq : perS K W T m f a s = q at *
      clear hp hq hB hP
      go_enter Try.func42, Try.ntmps42
      go_wp2_with (first | (go_at_call 87; refine HI.out.mono ?_; rintro e w1 ⟨rfl, k, rfl⟩) | (go_at_call 94; refine (HP.out _).mono ?_; rintro e w' ⟨rfl, rfl⟩) | (go_at_call 88; refine (HC.out _).mono ?_; rintro e w1 ⟨rfl, hb1⟩))
      go_ret2
      exact ⟨rfl, Base.Below.boxed ((below_drewN (Below.refl _ _) k).trans (hb1.mono (by simp)))⟩
theorem implAreApart_any (K W T m f a s n l : Int) (w : World) :
    Calls Try.prog 43 #[.agg #[.int .i64 K, .int .i64 W, .int .i64 T, .int .i64 m, .int .i64 f, .int .i64 a, .int .i64 s], .int .i64 n, .int .i64 l] w fun e w' => e = .returned (.tuple #[.bool (apartB K W T m f a s n l), .bool (streamB K W T m f a s && splitB n l)]) ∧ Below w.heap.size w w' := by
  have HI := Lib.hid (fun w => isSplit_any K W T m f a s n l w)
  cases hB : (streamB K W T m f a s && splitB n l)
  · rw [apartB_no hB]
    rw [hB] at HI
    clear hB
    go_enter Try.func43, Try.ntmps43
    go_wp2_with (go_at_call 95; refine (HI.out _).mono ?_; rintro e w1 ⟨rfl, hb1⟩)
    go_ret2
    exact ⟨rfl, Base.Below.boxed hb1⟩
  · rw [apartB_yes hB]
    rw [hB] at HI
    rw [Bool.and_eq_true] at hB
    obtain ⟨hS, hP⟩ := hB
    obtain ⟨p1, p2, p3, p4⟩ := splitB_true hP
    have hm1 : n * l ≤ 8 * 1000000 := Int.mul_le_mul p2 p4 (by omega) (by omega)
    have hm0 : 0 ≤ n * l := Int.mul_nonneg (by omega) (by omega)
    have HC := Lib.hid (fun w => implCycle_any hS w)
    generalize hp : preS K W T m f a s = p at *
    generalize hq : perS K W T m f a s = q at *
    clear hp hq hS hP
    go_enter Try.func43, Try.ntmps43
    go_wp2_with fail
    refine (HI.out _).mono ?_
    rintro e w1 ⟨rfl, hb⟩
    have d0 : w1.cell? ⟨w.heap.size, 0, none⟩ = some (.int .i64 K) := box_cells hb 0
    have d1 : w1.cell? ⟨w.heap.size, 1, none⟩ = some (.int .i64 W) := box_cells hb 1
    have d2 : w1.cell? ⟨w.heap.size, 2, none⟩ = some (.int .i64 T) := box_cells hb 2
    have d3 : w1.cell? ⟨w.heap.size, 3, none⟩ = some (.int .i64 m) := box_cells hb 3
    have d4 : w1.cell? ⟨w.heap.size, 4, none⟩ = some (.int .i64 f) := box_cells hb 4
    have d5 : w1.cell? ⟨w.heap.size, 5, none⟩ = some (.int .i64 a) := box_cells hb 5
    have d6 : w1.cell? ⟨w.heap.size, 6, none⟩ = some (.int .i64 s) := box_cells hb 6
    go_wp2_with (go_at_call 91; refine (HC.out _).mono ?_; rintro e w2 ⟨rfl, hb2⟩)
    go_ret2
    exact ⟨rfl, Base.Below.boxed (Base.Below.nextA hb hb2)⟩

theorem exactAreApart_any (K W T m f a s n l : Int) (w : World) :
    Calls Try.prog 9 #[.agg #[.int .i64 K, .int .i64 W, .int .i64 T, .int .i64 m, .int .i64 f, .int .i64 a, .int .i64 s], .int .i64 n, .int .i64 l] w fun e w' => e = .returned (.bool true) ∧ Below w.heap.size w w' := by
  have HT := Lib.hid (fun w => toStream_any K W T m f a s w)
  have HS := Lib.hid (fun w => specAreApart_any K W T m f a s n l w)
  have HI := Lib.hid (fun w => implAreApart_any K W T m f a s n l w)
  generalize apartB K W T m f a s n l = p at *
  generalize (streamB K W T m f a s && splitB n l) = r at *
  go_enter Try.func9, Try.ntmps9
  go_wp2_with fail
  refine (HT.out _).mono ?_; rintro e w1 ⟨rfl, hb1⟩
  go_wp2_with fail
  refine (HS.out _).mono ?_; rintro e w2 ⟨rfl, hb2⟩
  have hb := Base.Below.nextA hb1 hb2
  have d0 : w2.cell? ⟨w.heap.size, 0, none⟩ = some (.int .i64 K) := box_cells hb 0
  have d1 : w2.cell? ⟨w.heap.size, 1, none⟩ = some (.int .i64 W) := box_cells hb 1
  have d2 : w2.cell? ⟨w.heap.size, 2, none⟩ = some (.int .i64 T) := box_cells hb 2
  have d3 : w2.cell? ⟨w.heap.size, 3, none⟩ = some (.int .i64 m) := box_cells hb 3
  have d4 : w2.cell? ⟨w.heap.size, 4, none⟩ = some (.int .i64 f) := box_cells hb 4
  have d5 : w2.cell? ⟨w.heap.size, 5, none⟩ = some (.int .i64 a) := box_cells hb 5
  have d6 : w2.cell? ⟨w.heap.size, 6, none⟩ = some (.int .i64 s) := box_cells hb 6
  clear hb1 hb2
  go_wp2_with fail
  refine (HT.out _).mono ?_; rintro e w3 ⟨rfl, hb3⟩
  go_wp2_with fail
  refine (HI.out _).mono ?_; rintro e w4 ⟨rfl, hb4⟩
  go_wp2
  go_ret
  exact ⟨rfl, Base.Below.boxed (Base.Below.nextA (Base.Below.nextA hb hb3) hb4)⟩
theorem exactAreApart_v {v : Value} (h : Open.IsStream v) (n l : Int) (w : World) : Calls Try.prog 9 #[v, .int .i64 n, .int .i64 l] w fun e w' => e = .returned (.bool true) ∧ Below w.heap.size w w' := by
  obtain ⟨K, W, T, m, f, a, s, rfl⟩ := h.ex
  exact exactAreApart_any K W T m f a s n l w
end Go.Proofs.Ythaoopgkfhjoiaa.Str
