/- The cycle of a stream, of the program and of the reference; the law. -/
import Derived.Test.YtjajemdeioabkaaDoorStream
namespace Go.Proofs.YtjajemdeioabkaaDoor.Str
open Go.RowKit Go.Proofs.YtjajemdeioabkaaDoor Go.Proofs.YtjajemdeioabkaaDoor.Base
set_option linter.unusedVariables false

noncomputable def preS (K W T m f a s : Int) : Int := if streamB K W T m f a s = true then (if K = 0 then Reg.preR W T s else Cong.preB m f a s) else 0
noncomputable def perS (K W T m f a s : Int) : Int := if streamB K W T m f a s = true then (if K = 0 then Reg.perR W T s else Cong.perB m f a s) else 0
theorem streamB_true {K W T m f a s : Int} (h : streamB K W T m f a s = true) : (K = 0 ∧ Reg.bothR W T s = true) ∨ (K = 1 ∧ Cong.bothB m f a s = true) := by
  unfold streamB at h
  by_cases h0 : K = 0
  · rw [if_pos h0, Bool.and_eq_true] at h
    exact .inl ⟨h0, h.2⟩
  · rw [if_neg h0] at h
    by_cases h1 : K = 1
    · rw [if_pos h1, Bool.and_eq_true] at h
      exact .inr ⟨h1, h.2⟩
    · rw [if_neg h1] at h
      cases h
theorem preS_no {K W T m f a s : Int} (h : streamB K W T m f a s = false) : preS K W T m f a s = 0 := by rw [preS, if_neg (by simp [h])]
theorem perS_no {K W T m f a s : Int} (h : streamB K W T m f a s = false) : perS K W T m f a s = 0 := by rw [perS, if_neg (by simp [h])]
theorem preS_r {W T m f a s : Int} (h : streamB 0 W T m f a s = true) : preS 0 W T m f a s = Reg.preR W T s := by rw [preS, if_pos h, if_pos rfl]
theorem perS_r {W T m f a s : Int} (h : streamB 0 W T m f a s = true) : perS 0 W T m f a s = Reg.perR W T s := by rw [perS, if_pos h, if_pos rfl]
theorem preS_c {W T m f a s : Int} (h : streamB 1 W T m f a s = true) : preS 1 W T m f a s = Cong.preB m f a s := by rw [preS, if_pos h, if_neg (by decide)]
theorem perS_c {W T m f a s : Int} (h : streamB 1 W T m f a s = true) : perS 1 W T m f a s = Cong.perB m f a s := by rw [perS, if_pos h, if_neg (by decide)]

end Go.Proofs.YtjajemdeioabkaaDoor.Str
