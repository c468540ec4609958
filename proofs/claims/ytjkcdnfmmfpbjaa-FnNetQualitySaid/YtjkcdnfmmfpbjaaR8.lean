/- The laws' helpers that read their code bytes. -/
import Derived.Test.YtjkcdnfmmfpbjaaMem
namespace Go.Proofs.Ytjkcdnfmmfpbjaa.R8
open Go.RowKit Go.Proofs.Ytjkcdnfmmfpbjaa Go.Proofs.Ytjkcdnfmmfpbjaa.Base Go.Proofs.Ytjkcdnfmmfpbjaa.Mem
set_option linter.unusedVariables false

theorem r8Long_any (A A' : Option Addr) (n n' c c' : Nat) (r : Bool) (w : World) (hn : n ≤ 9223372036854775807) (hn' : n' ≤ 9223372036854775807) (h : r = decide (48 < n ∨ 48 < n')) :
    Calls Try.prog 21 #[.slice A n c, .slice A' n' c'] w fun e w' => e = .returned (.bool r) ∧ w = w' := by
  have H := Lib.hid h
  clear h
  go_enter Try.func21, Try.ntmps21
  go_wp2
  all_goals go_ret
  all_goals
    refine ⟨ret_bool ?_, rfl⟩
    rw [H.out, Bool.eq_iff_iff]
    simp
    omega
theorem r8Long_yes (A A' : Option Addr) (n n' c c' : Nat) (w : World) (h : 48 < n ∨ 48 < n') (hn : n ≤ 9223372036854775807) (hn' : n' ≤ 9223372036854775807) :
    Calls Try.prog 21 #[.slice A n c, .slice A' n' c'] w fun e w' => e = .returned (.bool true) ∧ w = w' := r8Long_any A A' n n' c c' true w hn hn' (by simpa using h)
theorem r8Long_no (A A' : Option Addr) (n n' c c' : Nat) (w : World) (h : n ≤ 48) (h' : n' ≤ 48) :
    Calls Try.prog 21 #[.slice A n c, .slice A' n' c'] w fun e w' => e = .returned (.bool false) ∧ w = w' := r8Long_any A A' n n' c c' false w (by omega) (by omega) (by simp; omega)
/-- a number from 0 on, below n (0 where n is 1 or less) -/
def AtRet (n : Int) (w : World) (e : Ending) (w' : World) : Prop := ∃ r : Int, 0 ≤ r ∧ (r = 0 ∨ r < n) ∧ e = .returned (.int .i64 r) ∧ w = w'
theorem r8At_any (A : Option Addr) (c B : Nat) (zs : List Int) (i n : Int) (w : World) (hz : ∀ z ∈ zs, 0 ≤ z ∧ z ≤ 255) (hl : zs.length ≤ 9223372036854775807) (hr : RdB w B A zs) (hi : 0 ≤ i) :
    Calls Try.prog 23 #[.slice A zs.length c, .int .i64 i, .int .i64 n] w (AtRet n w) := by
  by_cases h1 : n ≤ 1
  · go_enter Try.func23, Try.ntmps23
    go_wp2
    go_ret
    exact ⟨0, by omega, .inl rfl, rfl, rfl⟩
  · by_cases h2 : (zs.length : Int) ≤ i
    · go_enter Try.func23, Try.ntmps23
      go_wp2
      go_ret
      exact ⟨0, by omega, .inl rfl, rfl, rfl⟩
    · obtain ⟨j, rfl⟩ := Int.eq_ofNat_of_zero_le hi
      have h3 : j < zs.length := by omega
      obtain ⟨b, off, rfl, _, hc⟩ := hr (by omega)
      have g := hc j h3
      have hm := hz (zs.getD j 0) (by simp [List.getD, h3])
      obtain ⟨m1, m2⟩ := hm
      clear hc hr hz
      generalize zs.getD j 0 = z at *
      have hq0 : 0 ≤ z % n := Int.emod_nonneg _ (by omega)
      have hq1 : z % n < n := Int.emod_lt_of_pos _ (by omega)
      go_enter Try.func23, Try.ntmps23
      go_wp2
      go_ret
      exact ⟨_, hq0, .inr hq1, rfl, rfl⟩
end Go.Proofs.Ytjkcdnfmmfpbjaa.R8
