/- The program's congruence: validity, a step, the cycle of states. -/
import Derived.Test.YtogadldnkhdjbaaDoorCongSpec
namespace Go.Proofs.YtogadldnkhdjbaaDoor.Cong
open Go.RowKit Go.Proofs.YtogadldnkhdjbaaDoor Go.Proofs.YtogadldnkhdjbaaDoor.Base
set_option linter.unusedVariables false

theorem validCong_any (m f a : Int) (w : World) :
    Calls Tryd.prog 69 #[.agg #[.int .i64 m, .int .i64 f, .int .i64 a]] w fun e w' => e = .returned (.bool (congB m f a)) ∧ Below w.heap.size w w' := by
  cases hm : inR m 2 100000
  · go_enter Tryd.func69, Tryd.ntmps69
    go_wp2_with (go_at_call 39; refine (inRange_any _ _ _ _).mono ?_; rintro e w' ⟨rfl, rfl⟩)
    go_ret
    exact ⟨ret_bool (by simp [congB, hm]), (Below.refl _ _).alloc (Nat.le_refl _) _⟩
  · obtain ⟨b1, b2⟩ := inR_true hm
    cases hf : inR f 0 (m - 1)
    · go_enter Tryd.func69, Tryd.ntmps69
      go_wp2_with (go_at_call 39; refine (inRange_any _ _ _ _).mono ?_; rintro e w' ⟨rfl, rfl⟩)
      go_ret
      exact ⟨ret_bool (by simp [congB, hm, hf]), (Below.refl _ _).alloc (Nat.le_refl _) _⟩
    · go_enter Tryd.func69, Tryd.ntmps69
      go_wp2_with (go_at_call 39; refine (inRange_any _ _ _ _).mono ?_; rintro e w' ⟨rfl, rfl⟩)
      go_ret
      exact ⟨ret_bool (by simp [congB, hm, hf]), (Below.refl _ _).alloc (Nat.le_refl _) _⟩

theorem congStep_any (m f a x : Nat) (w : World) (hm : 2 ≤ m) (hm2 : m ≤ 100000) (hf : f < m) (ha : a < m) (hx : x < m) :
    Calls Tryd.prog 64 #[.agg #[.int .i64 m, .int .i64 f, .int .i64 a], .int .i64 x] w fun e w' => e = .returned (.int .i64 (stepN m f a x : Nat)) ∧ Below w.heap.size w w' := by
  obtain ⟨p1, p2⟩ := prod_le hf hx hm2
  have H := Lib.hid (stepN_int m f a x)
  have hm0 : ((m : Int) == 0) = false := by simp; omega
  go_enter Tryd.func64, Tryd.ntmps64
  go_wp2
  go_ret
  exact ⟨ret_int H.out, (Below.refl _ _).alloc (Nat.le_refl _) _⟩

set_option maxHeartbeats 400000 in
theorem cycleFrom_any (m f a x : Nat) (w : World) (hm : 2 ≤ m) (hm2 : m ≤ 100000) (hf : f < m) (ha : a < m) (hx : x < m) :
    Calls Tryd.prog 113 #[.int .i64 m, .int .i64 x, .func (Fn.func 64) #[.agg #[.int .i64 m, .int .i64 f, .int .i64 a]] #[]] w (CycRet (stepN m f a) x w) := by
  have hmk := run_make_row' (P := Tryd.prog) 75 2 (.int .i64 0) 8 Tryd.underlying75 info64 rfl .i64 .i64 m (by omega) (by omega)
  have hT : ∀ s, s < m → stepN m f a s < m := fun s _ => stepN_lt (by omega) s
  go_enter Tryd.func113, Tryd.ntmps113
  go_wp2
  clear hmk
  go_loopw [1, 9] (fun xv nv wr => CycRel (stepN m f a) x m 2 w xv nv wr) (fun _ nv _ => m + 2 - (intOf nv).toNat)
  case atStart => exact CycRel.start _ _ _ _ _
  case round =>
    obtain ⟨n, F, hn, hS, hrow, hbel, rfl, rfl⟩ := hrel
    have hlt := CycM.iter_lt hT hx n
    have HS := Lib.hid (hS.done hT hx)
    have hpos : F (CycM.iter (stepN m f a) x n) ≠ 0 → F (CycM.iter (stepN m f a) x n) ≤ n := fun h => (hS.pos _ hlt h).1
    have HF := Lib.hid (CycRel.next2 (t := 2) (w := w) hT hx hS hrow hbel)
    have hz : w.heap.size < wr.heap.size := hrow.lt
    have ef := hrow.frozen (CycM.iter (stepN m f a) x n)
    have ec := hrow.cell hlt
    clear hS hrow
    generalize CycM.iter (stepN m f a) x n = s at *
    by_cases hz0 : F s = 0
    · rw [hz0] at ec
      clear hpos
      go_wp2_with (go_at_call 64; refine (congStep_any m f a s _ hm hm2 hf ha hlt).mono ?_; rintro e w1 ⟨rfl, hb1⟩)
      go_roundw
      case rel => exact HF.out hz0 _ (hb1.mono (by simp))
      case measure => simp [intOf]; omega
    · have hF1 : 1 ≤ F s := by omega
      have hF2 := hpos hz0
      clear hpos
      go_wp2
      go_ret2
      exact CycRet.mk (HS.out hz0) hF1 (by omega) rfl hbel

end Go.Proofs.YtogadldnkhdjbaaDoor.Cong
