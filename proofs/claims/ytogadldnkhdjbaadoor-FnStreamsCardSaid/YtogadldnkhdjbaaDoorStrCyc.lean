/- The cycle of a stream, of the program and of the reference; the law. -/
import Derived.Test.YtogadldnkhdjbaaDoorStream
namespace Go.Proofs.YtogadldnkhdjbaaDoor.Str
open Go.RowKit Go.Proofs.YtogadldnkhdjbaaDoor Go.Proofs.YtogadldnkhdjbaaDoor.Base
set_option linter.unusedVariables false

noncomputable def preS (K W T m f a s : Int) : Int := if streamB K W T m f a s = true then (if K = 0 then Reg.preR W T s else Cong.preB m f a s) else 0
noncomputable def perS (K W T m f a s : Int) : Int := if streamB K W T m f a s = true then (if K = 0 then Reg.perR W T s else Cong.perB m f a s) else 0
theorem streamB_true {K W T m f a s : Int} (h : streamB K W T m f a s = true) : (K = 0 ∧ Reg.bothR W T s = true) ∨ (K = 1 ∧ Cong.bothB m f a s = true) := by
  unfold streamB at h
  by_cases h0 : K = 0
  · rw [if_pos h0, Bool.and_eq_true] at h
    exact .inl ⟨h0, h.2⟩
  · rw [if_neg h0] at h
    by_cases h1 : K = 1
    · rw [if_pos h1, Bool.and_eq_true] at h
      exact .inr ⟨h1, h.2⟩
    · rw [if_neg h1] at h
      cases h
theorem preS_no {K W T m f a s : Int} (h : streamB K W T m f a s = false) : preS K W T m f a s = 0 := by rw [preS, if_neg (by simp [h])]
theorem perS_no {K W T m f a s : Int} (h : streamB K W T m f a s = false) : perS K W T m f a s = 0 := by rw [perS, if_neg (by simp [h])]
theorem preS_r {W T m f a s : Int} (h : streamB 0 W T m f a s = true) : preS 0 W T m f a s = Reg.preR W T s := by rw [preS, if_pos h, if_pos rfl]
theorem perS_r {W T m f a s : Int} (h : streamB 0 W T m f a s = true) : perS 0 W T m f a s = Reg.perR W T s := by rw [perS, if_pos h, if_pos rfl]
theorem preS_c {W T m f a s : Int} (h : streamB 1 W T m f a s = true) : preS 1 W T m f a s = Cong.preB m f a s := by rw [preS, if_pos h, if_neg (by decide)]
theorem perS_c {W T m f a s : Int} (h : streamB 1 W T m f a s = true) : perS 1 W T m f a s = Cong.perB m f a s := by rw [perS, if_pos h, if_neg (by decide)]

theorem cycleRI_any {W T x : Int} (hB : Reg.bothR W T x = true) (w : World) :
    Calls Tryd.prog 90 #[.agg #[.int .i64 W, .int .i64 T], .int .i64 x] w fun e w' => e = .returned (.tuple #[.int .i64 (Reg.preR W T x), .int .i64 (Reg.perR W T x)]) ∧ Below w.heap.size w w' := by
  obtain ⟨h1, h2, h3, h4, h5, h6⟩ := Reg.bothR_true hB
  obtain ⟨V, rfl⟩ := Int.eq_ofNat_of_zero_le h1
  obtain ⟨A, rfl⟩ := Int.eq_ofNat_of_zero_le h3
  obtain ⟨X, rfl⟩ := Int.eq_ofNat_of_zero_le h5
  have ep : ((2 ^ V : Nat) : Int) = (2 : Int) ^ V := by simp
  simp only [Int.toNat_natCast, ← ep] at h4 h6
  refine (Reg.cycleR_any V A X w (by omega) (by omega) (by omega)).mono ?_
  rintro e w' ⟨j, n, hc, rfl, hb⟩
  refine ⟨?_, hb⟩
  rw [Reg.preR_eq hB hc, Reg.perR_eq hB hc]
end Go.Proofs.YtogadldnkhdjbaaDoor.Str
