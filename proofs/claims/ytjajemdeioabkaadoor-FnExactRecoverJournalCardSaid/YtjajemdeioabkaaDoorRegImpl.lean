/- The program's register: validity, a step, the cycle of states; the law of RegisterCycle. -/
import Derived.Test.YtjajemdeioabkaaDoorRegSpec
namespace Go.Proofs.YtjajemdeioabkaaDoor.Reg
open Go.RowKit Go.Proofs.YtjajemdeioabkaaDoor Go.Proofs.YtjajemdeioabkaaDoor.Base Go.Proofs.YtjajemdeioabkaaDoor.Bits
set_option linter.unusedVariables false

theorem validReg_any (W T : Int) (w : World) :
    Calls Tryd.prog 50 #[.agg #[.int .i64 W, .int .i64 T]] w fun e w' => e = .returned (.bool (regB W T)) ∧ Below w.heap.size w w' := by
  cases hm : inR W 0 16
  · go_enter Tryd.func50, Tryd.ntmps50
    go_wp2
    go_quiet ((go_at_call 51; exact Calls.quiet_of_same (inRange_qb hm _)))
    go_wp2
    go_ret
    exact ⟨ret_bool (by simp [regB, hm]), below_drewN ((Below.refl _ _).alloc (Nat.le_refl _) _) _⟩
  · obtain ⟨b1, b2⟩ := inR_true hm
    obtain ⟨V, rfl⟩ := Int.eq_ofNat_of_zero_le b1
    obtain ⟨p1, p2⟩ := pw_bd (W := V) (by omega)
    cases hf : stB V T
    all_goals
      have hg := Lib.hid hf
      unfold stB at hf
      go_enter Tryd.func50, Tryd.ntmps50
      go_wp2
      go_quiet ((go_at_call 51; first | (with_reducible exact Calls.quiet_of_same (inRange_qb hm _)) | (with_reducible exact Calls.quiet_of_same (inRange_qb hf _))))
      go_wp2
      go_ret
      exact ⟨ret_bool (by simp [regB, hm, hg.out]), below_drewN ((Below.refl _ _).alloc (Nat.le_refl _) _) _⟩

theorem isRegState_any (W T x : Int) (w : World) :
    Calls Tryd.prog 40 #[.agg #[.int .i64 W, .int .i64 T], .int .i64 x] w fun e w' => e = .returned (.bool (bothR W T x)) ∧ Below w.heap.size w w' := by
  cases hB : regB W T
  · go_enter Tryd.func40, Tryd.ntmps40
    go_wp2_with (go_at_call 50; refine (validReg_any W T _).mono ?_; rintro e w1 ⟨rfl, hb1⟩)
    go_ret
    exact ⟨ret_bool (by simp [bothR, hB]), Base.Below.boxed hb1⟩
  · obtain ⟨g1, g2, _⟩ := regB_true hB
    obtain ⟨V, rfl⟩ := Int.eq_ofNat_of_zero_le g1
    obtain ⟨p1, p2⟩ := pw_bd (W := V) (by omega)
    go_enter Tryd.func40, Tryd.ntmps40
    go_wp2_with (first | (go_at_call 50; refine (validReg_any (V : Int) T _).mono ?_; rintro e w1 ⟨rfl, hb1⟩; have d0 : w1.cell? ⟨w.heap.size, 0, none⟩ = some (.int .i64 (V : Int)) := box_cells hb1 0) | (go_at_call 51; refine (inRange_any _ _ _ _).mono ?_; rintro e w' ⟨rfl, rfl⟩))
    go_ret
    exact ⟨ret_bool (by simp [bothR, hB, stB]), Base.Below.boxed hb1⟩

theorem nextR_int' {W T x : Nat} (hW : 1 ≤ W) (hW2 : W ≤ 16) (hx : x < 2 ^ W) : bits .or .i64 ((x : Int) / 2) (wrap64 ((PopM.par (T &&& x) : Int) * (2 : Int) ^ (W - 1))) = ((nextR W T x : Nat) : Int) := by
  rw [Nat.and_comm]; exact nextR_int hW hW2 hx

def StepRetI (W T x : Nat) (w : World) (e : Ending) (w' : World) : Prop := e = .returned (.tuple #[.int .i64 (nextR W T x : Nat), .int .i64 (x % 2 : Nat)]) ∧ Below w.heap.size w w'
theorem toReg_any (W T : Int) (w : World) :
    Calls Tryd.prog 20 #[.agg #[.int .i64 W, .int .i64 T]] w fun e w' => e = .returned (.agg #[.int .i64 W, .int .i64 T]) ∧ Below w.heap.size w w' := by
  go_enter Tryd.func20, Tryd.ntmps20
  go_wp2
  refine bodyPost_ret (v := .agg #[.int .i64 W, .int .i64 T]) (by simp [results, Tryd.results20, go_sem]) rfl ⟨rfl, ?_⟩
  exact (((Below.refl _ _).alloc (Nat.le_refl _) _).alloc (by simp) _).alloc (by simp; omega) _

end Go.Proofs.YtjajemdeioabkaaDoor.Reg
