/- The program's register: validity, a step, the cycle of states; the law of RegisterCycle. -/
import Derived.Test.YtogadldnkhdjbaaDoorRegSpec
namespace Go.Proofs.YtogadldnkhdjbaaDoor.Reg
open Go.RowKit Go.Proofs.YtogadldnkhdjbaaDoor Go.Proofs.YtogadldnkhdjbaaDoor.Base Go.Proofs.YtogadldnkhdjbaaDoor.Bits
set_option linter.unusedVariables false

theorem validReg_any (W T : Int) (w : World) :
    Calls Tryd.prog 68 #[.agg #[.int .i64 W, .int .i64 T]] w fun e w' => e = .returned (.bool (regB W T)) ∧ Below w.heap.size w w' := by
  cases hm : inR W 0 16
  · go_enter Tryd.func68, Tryd.ntmps68
    go_wp2
    go_quiet ((go_at_call 39; exact Calls.quiet_of_same (inRange_qb hm _)))
    go_wp2
    go_ret
    exact ⟨ret_bool (by simp [regB, hm]), below_drewN ((Below.refl _ _).alloc (Nat.le_refl _) _) _⟩
  · obtain ⟨b1, b2⟩ := inR_true hm
    obtain ⟨V, rfl⟩ := Int.eq_ofNat_of_zero_le b1
    obtain ⟨p1, p2⟩ := pw_bd (W := V) (by omega)
    cases hf : stB V T
    all_goals
      have hg := Lib.hid hf
      unfold stB at hf
      go_enter Tryd.func68, Tryd.ntmps68
      go_wp2
      go_quiet ((go_at_call 39; first | (with_reducible exact Calls.quiet_of_same (inRange_qb hm _)) | (with_reducible exact Calls.quiet_of_same (inRange_qb hf _))))
      go_wp2
      go_ret
      exact ⟨ret_bool (by simp [regB, hm, hg.out]), below_drewN ((Below.refl _ _).alloc (Nat.le_refl _) _) _⟩

theorem isRegState_any (W T x : Int) (w : World) :
    Calls Tryd.prog 44 #[.agg #[.int .i64 W, .int .i64 T], .int .i64 x] w fun e w' => e = .returned (.bool (bothR W T x)) ∧ Below w.heap.size w w' := by
  cases hB : regB W T
  · go_enter Tryd.func44, Tryd.ntmps44
    go_wp2_with (go_at_call 68; refine (validReg_any W T _).mono ?_; rintro e w1 ⟨rfl, hb1⟩)
    go_ret
    exact ⟨ret_bool (by simp [bothR, hB]), Base.Below.boxed hb1⟩
  · obtain ⟨g1, g2, _⟩ := regB_true hB
    obtain ⟨V, rfl⟩ := Int.eq_ofNat_of_zero_le g1
    obtain ⟨p1, p2⟩ := pw_bd (W := V) (by omega)
    go_enter Tryd.func44, Tryd.ntmps44
    go_wp2_with (first | (go_at_call 68; refine (validReg_any (V : Int) T _).mono ?_; rintro e w1 ⟨rfl, hb1⟩; have d0 : w1.cell? ⟨w.heap.size, 0, none⟩ = some (.int .i64 (V : Int)) := box_cells hb1 0) | (go_at_call 39; refine (inRange_any _ _ _ _).mono ?_; rintro e w' ⟨rfl, rfl⟩))
    go_ret
    exact ⟨ret_bool (by simp [bothR, hB, stB]), Base.Below.boxed hb1⟩

theorem nextR_int' {W T x : Nat} (hW : 1 ≤ W) (hW2 : W ≤ 16) (hx : x < 2 ^ W) : bits .or .i64 ((x : Int) / 2) (wrap64 ((PopM.par (T &&& x) : Int) * (2 : Int) ^ (W - 1))) = ((nextR W T x : Nat) : Int) := by
  rw [Nat.and_comm]; exact nextR_int hW hW2 hx

def StepRetI (W T x : Nat) (w : World) (e : Ending) (w' : World) : Prop := e = .returned (.tuple #[.int .i64 (nextR W T x : Nat), .int .i64 (x % 2 : Nat)]) ∧ Below w.heap.size w w'
theorem implStep_any (W T x : Nat) (w : World) (hW2 : W ≤ 16) (hT : T < 2 ^ W) (hx : x < 2 ^ W) :
    Calls Tryd.prog 88 #[.agg #[.int .i64 W, .int .i64 T], .int .i64 x] w (StepRetI W T x w) := by
  by_cases hW : W = 0
  · subst hW
    obtain rfl : x = 0 := by simpa using hx
    go_enter Tryd.func88, Tryd.ntmps88
    go_wp2
    go_ret2
    exact ⟨rfl, (Below.refl _ _).alloc (Nat.le_refl _) _⟩
  · have hp : 2 ^ W ≤ 65536 := Nat.pow_le_pow_right (by decide) hW2
    have HA := Lib.hid (i64_and_nat T x (by omega) (by omega))
    have HB := Lib.hid (nextR_int' (T := T) (by omega) hW2 hx)
    have HC := Lib.hid (and1 x (by omega))
    have hand : T &&& x ≤ x := Nat.and_le_right
    have hW0 : ((W : Int) == 0) = false := by simp; omega
    go_enter Tryd.func88, Tryd.ntmps88
    go_wp2
    go_quiet ((go_at_call 112; rw [HA.out]; exact Calls.quiet_of_same (parity_q (T &&& x) (by omega) _)))
    go_wp2
    go_ret2
    exact ⟨ret_two HB.out HC.out, below_drewN ((Below.refl _ _).alloc (Nat.le_refl _) _) _⟩

theorem closure_any (b W T x : Nat) (w : World) (h0 : w.cell? ⟨b, 0, none⟩ = some (.int .i64 W)) (h1 : w.cell? ⟨b, 1, none⟩ = some (.int .i64 T)) (hW2 : W ≤ 16) (hT : T < 2 ^ W) (hx : x < 2 ^ W) :
    Calls Tryd.prog 114 #[.int .i64 x, .pointer (some ⟨b, 0, none⟩)] w fun e w' => e = .returned (.int .i64 (nextR W T x : Nat)) ∧ Below w.heap.size w w' := by
  go_enter Tryd.func114, Tryd.ntmps114
  go_wp2_with (go_at_call 88; refine (implStep_any W T x _ hW2 hT hx).mono ?_; rintro e w1 ⟨rfl, hb1⟩)
  go_ret
  exact ⟨rfl, hb1⟩

set_option maxHeartbeats 1000000 in
theorem cycleFromR_any (b W T x : Nat) (w : World) (h0 : w.cell? ⟨b, 0, none⟩ = some (.int .i64 W)) (h1 : w.cell? ⟨b, 1, none⟩ = some (.int .i64 T)) (hb : b < w.heap.size) (hW2 : W ≤ 16) (hT : T < 2 ^ W) (hx : x < 2 ^ W) :
    Calls Tryd.prog 113 #[.int .i64 ((2 : Int) ^ W), .int .i64 x, .func (Fn.func 114) #[] #[.pointer (some ⟨b, 0, none⟩)]] w (Cong.CycRet (nextR W T) x w) := by
  have hp : 2 ^ W ≤ 65536 := Nat.pow_le_pow_right (by decide) hW2
  have hmk := run_make_row' (P := Tryd.prog) 75 2 (.int .i64 0) 8 Tryd.underlying75 Cong.info64 rfl .i64 .i64 (2 ^ W) (by omega) (by omega)
  have ep : ((2 ^ W : Nat) : Int) = (2 : Int) ^ W := by simp
  rw [ep] at hmk
  have hTT : ∀ s, s < 2 ^ W → nextR W T s < 2 ^ W := fun s hs => nextR_lt hs
  clear ep
  go_enter Tryd.func113, Tryd.ntmps113
  go_wp2
  clear hmk
  go_loopw [1, 9] (fun xv nv wr => Cong.CycRel (nextR W T) x (2 ^ W) 2 w xv nv wr) (fun _ nv _ => 2 ^ W + 2 - (intOf nv).toNat)
  case atStart => exact Cong.CycRel.start _ _ _ _ _
  case round =>
    obtain ⟨n, F, hn, hS, hrow, hbel, rfl, rfl⟩ := hrel
    have hlt := CycM.iter_lt hTT hx n
    have HS := Lib.hid (hS.done hTT hx)
    have hpos : F (CycM.iter (nextR W T) x n) ≠ 0 → F (CycM.iter (nextR W T) x n) ≤ n := fun h => (hS.pos _ hlt h).1
    have HF := Lib.hid (Cong.CycRel.next2 (t := 2) (w := w) hTT hx hS hrow hbel)
    have hz : w.heap.size < wr.heap.size := hrow.lt
    have ef := hrow.frozen (CycM.iter (nextR W T) x n)
    have ec := hrow.cell hlt
    obtain ⟨hc, hfz⟩ := bcell hbel
    have e0 := (hc b 0 hb).trans h0
    have e1 := (hc b 1 hb).trans h1
    clear hS hrow hc hfz h0 h1
    generalize CycM.iter (nextR W T) x n = s at *
    by_cases hz0 : F s = 0
    · rw [hz0] at ec
      have g0 := Cong.setOther (w := wr) (B := w.heap.size) (s := s) hb e0
      have g1 := Cong.setOther (w := wr) (B := w.heap.size) (s := s) hb e1
      clear e0 e1 hpos
      go_wp2_with (go_at_call 114; refine (closure_any b W T s _ (g0 _) (g1 _) hW2 hT hlt).mono ?_; rintro e w1 ⟨rfl, hb1⟩)
      go_roundw
      case rel => exact HF.out hz0 _ (hb1.mono (by simp))
      case measure => simp [intOf]; omega
    · have hF1 : 1 ≤ F s := by omega
      have hF2 := hpos hz0
      clear hpos
      go_wp2
      go_ret2
      exact Cong.CycRet.mk (HS.out hz0) hF1 (by omega) rfl hbel

theorem cycleR_any (W T x : Nat) (w : World) (hW2 : W ≤ 16) (hT : T < 2 ^ W) (hx : x < 2 ^ W) :
    Calls Tryd.prog 90 #[.agg #[.int .i64 W, .int .i64 T], .int .i64 x] w (Cong.CycRet (nextR W T) x w) := by
  obtain ⟨p1, p2⟩ := pw_bd hW2
  go_enter Tryd.func90, Tryd.ntmps90
  go_wp2_with (go_at_call 113; refine (cycleFromR_any _ W T x _ (by simp) (by simp) (by simp) hW2 hT hx).mono ?_; rintro e w1 ⟨j, n, hc, rfl, hb1⟩; have HC := Lib.hid hc; clear hc)
  go_ret2
  exact ⟨j, n, HC.out, rfl, Base.Below.boxed hb1⟩

end Go.Proofs.YtogadldnkhdjbaaDoor.Reg
