/- The law of grids. -/
import Derived.Test.YtnbeibofmikihaaGridPts
import Derived.Test.YtnbeibofmikihaaBestWalk
import Derived.Test.YtnbeibofmikihaaGridsMath
import Derived.Test.YtnbeibofmikihaaR8
import Derived.Test.YtnbeibofmikihaaOpen
namespace Go.Proofs.Ytnbeibofmikihaa.Grids
open Go.RowKit Go.Proofs.Ytnbeibofmikihaa Go.Proofs.Ytnbeibofmikihaa.Base Go.Proofs.Ytnbeibofmikihaa.Mem Go.Proofs.Ytnbeibofmikihaa.Grid Go.Proofs.Ytnbeibofmikihaa.GridP Go.Proofs.Ytnbeibofmikihaa.R8
set_option linter.unusedVariables false

theorem figYes (n a : Int) (w : World) (h : gridB n a = true) {F : Int} (hF : GridM.fig n a = F) :
    Calls Try.prog 16 #[.int .i64 n, .int .i64 a] w fun e w' => e = .returned (.tuple #[.int .i64 F, .bool true]) ∧ w = w' := by
  have := implGridFigure_any n a w
  rw [h] at this
  rw [show gridFig n a = F by rw [gridFig, if_pos h, hF]] at this
  exact this
theorem bestYes (n : Int) (w : World) (h : bestB n = true) {b m : Int} (hb : GridM.best n = (b, m)) :
    Calls Try.prog 19 #[.int .i64 n] w fun e w' => e = .returned (.tuple #[.int .i64 b, .int .i64 m, .bool true]) ∧ w = w' := by
  have := implBest_any n w
  rw [h, show bestG n = (b, m) by rw [bestG, if_pos h, hb]] at this
  exact this
/-- the points as the law reads them -/
def PtsOut (n a : Int) (m : Nat) (w : World) (e : Ending) (w' : World) : Prop :=
  ∃ A c, e = .returned (.tuple #[.slice A m c, .bool true]) ∧ RdII w' w'.heap.size A (gridL n a m) ∧ Below w.heap.size w w'
theorem ptsYes (n a : Int) (m : Nat) (w : World) (h : gridB n a = true) (hm : n = (m : Int)) : Calls Try.prog 20 #[.int .i64 n, .int .i64 a] w (PtsOut n a m w) := by
  refine (implPts_yes n a w h).mono ?_
  rintro e w' ⟨v, us, rfl, h2, h3⟩
  have e1 : n.toNat = m := by omega
  rw [e1] at h2
  obtain ⟨A, c, rfl, _⟩ := h2.form
  rw [gridL_len] at h2 ⊢
  refine ⟨A, c, rfl, ?_, h3⟩
  have := h2
  have e2 : (gridL n a m).length = m := gridL_len n a m
  exact OwnII.rd (n := m) this

/-- the law's search: what has been found once the place (h0, k0) is behind -/
def Past (h0 h : Int) (fb : Bool) : Prop := h0 < h → fb = true
def Past2 (h0 : Int) (k0 : Nat) (h : Int) (k : Nat) (fb : Bool) : Prop := h0 < h ∨ (h0 = h ∧ k0 < k) → fb = true
/-- either the figure is small and reached at (h0, k0), or it is great -/
def Wit (M : Nat) (a F h0 : Int) (k0 : Nat) : Prop :=
  (F ≤ 144 ∧ -12 ≤ h0 ∧ h0 ≤ 12 ∧ k0 ≤ 12 ∧ ¬ (h0 = 0 ∧ k0 = 0) ∧ (h0 + a * (k0 : Int)).tmod M = 0 ∧ h0 * h0 + (k0 : Int) * k0 = F) ∨ (144 < F ∧ h0 = 100)
theorem Wit.skip {M : Nat} {a F h0 h : Int} {k0 k : Nat} {fb : Bool} (hw : Wit M a F h0 k0) (hp : Past2 h0 k0 h k fb) (hh : h ≤ 12) (hs : (h = 0 ∧ k = 0) ∨ ¬ (h + a * (k : Int)).tmod M = 0) : Past2 h0 k0 h (k + 1) fb := by
  intro h1
  by_cases e : h0 = h ∧ k0 = k
  · obtain ⟨rfl, rfl⟩ := e
    rcases hw with ⟨_, _, _, _, w1, w2, _⟩ | ⟨_, w1⟩
    · rcases hs with hs | hs
      · exact absurd hs w1
      · exact absurd w2 hs
    · omega
  · exact hp (by omega)
theorem Wit.less {M : Nat} {a F h0 h : Int} {k0 k : Nat} {fb : Bool} (hw : Wit M a F h0 k0) (hp : Past2 h0 k0 h k fb) (hh : h ≤ 12) (hs : ¬ h * h + (k : Int) * k = F) : Past2 h0 k0 h (k + 1) fb := by
  intro h1
  by_cases e : h0 = h ∧ k0 = k
  · obtain ⟨rfl, rfl⟩ := e
    rcases hw with ⟨_, _, _, _, _, _, w2⟩ | ⟨_, w1⟩
    · exact absurd w2 hs
    · omega
  · exact hp (by omega)

set_option maxHeartbeats 2000000 in
set_option maxRecDepth 100000 in
theorem grids_any (A A' : Option Addr) (c c' : Nat) (zs zs' : List Int) (w : World) (hz : ∀ z ∈ zs, 0 ≤ z ∧ z ≤ 255) (hl : zs.length ≤ 48) (hl' : zs'.length ≤ 48) (hr : RdB w w.heap.size A zs) :
    Calls Try.prog 4 #[.slice A zs.length c, .slice A' zs'.length c'] w fun e w' => e = .returned (.bool true) ∧ Below w.heap.size w w' := by
  have HR := Lib.hid hr
  have HZ := Lib.hid hz
  clear hr hz
  go_enter Try.func4, Try.ntmps4
  go_wp2_with fail
  refine (r8Long_no _ _ _ _ _ _ _ hl hl').mono ?_
  rintro e w' ⟨rfl, rfl⟩
  go_wp2_with fail
  refine (r8At_any A c _ zs 0 120 w HZ.out (by omega) HR.out (by omega)).mono ?_
  rintro e w' ⟨r, hr0, hr1, rfl, rfl⟩
  obtain ⟨M, hM⟩ : ∃ M : Nat, M = (1 + r).toNat := ⟨_, rfl⟩
  obtain rfl : r = (M : Int) - 1 := by omega
  have hM1 : 1 ≤ M := by omega
  have hM2 : M ≤ 120 := by omega
  clear hM hr0 hr1
  have es : 1 + ((M : Int) - 1) = (M : Int) := by omega
  go_wp2_with fail
  refine (r8At_any A c _ zs 1 (M : Int) w HZ.out (by omega) HR.out (by omega)).mono ?_
  rintro e w' ⟨a, ha0, ha1, rfl, rfl⟩
  replace ha1 : a < (M : Int) := by omega
  have hgB : gridB (M : Int) a = true := gridB_yes ⟨by omega, by omega, ha0, ha1⟩
  obtain ⟨F, hF⟩ : ∃ F, GridM.fig (M : Int) a = F := ⟨_, rfl⟩
  have HF := Lib.hid hF
  have hF0 : 0 ≤ F := by rw [← hF]; exact GridM.fig_nonneg _ _
  have hF1 : F ≤ 14400 := by
    have h1 := GridM.fig_le (M : Int) a
    have h2 := GridM.mul_le2 (a := (M : Int)) (b := (M : Int)) (c := 120) (d := 120) (by omega) (by omega) (by omega) (by omega)
    omega
  obtain ⟨b, m, hbm⟩ : ∃ b m, GridM.best (M : Int) = (b, m) := ⟨_, _, rfl⟩
  obtain ⟨q1, q2, q3⟩ := GridM.best_own (M : Int) (by omega)
  have q4 := GridM.best_ge (M : Int) a ha0 ha1
  rw [hbm] at q1 q2 q3 q4
  simp only at q1 q2 q3 q4
  rw [hF] at q4
  have Q3 := Lib.hid q3
  have HBM := Lib.hid hbm
  have hgB2 : gridB (M : Int) b = true := gridB_yes ⟨by omega, by omega, q1, q2⟩
  have hbB : bestB (M : Int) = true := inR_yes (by omega)
  have G1 := Lib.hid hgB
  have G2 := Lib.hid hgB2
  have G3 := Lib.hid hbB
  clear hF q3 hbm hgB hgB2 hbB
  go_wp2_with fail
  refine (figYes (M : Int) a w G1.out HF.out).mono ?_
  rintro e w' ⟨rfl, rfl⟩
  go_wp2_with fail
  refine (bestYes (M : Int) w G3.out HBM.out).mono ?_
  rintro e w' ⟨rfl, rfl⟩
  go_wp2_with fail
  refine (figYes (M : Int) b w G2.out Q3.out).mono ?_
  rintro e w' ⟨rfl, rfl⟩
  go_wp2_with fail
  refine (ptsYes (M : Int) a M w G1.out rfl).mono ?_
  rintro e w1 ⟨A2, c2, rfl, hrd, hb⟩
  have HP := Lib.hid hrd
  have HB := Lib.hid hb
  clear hrd hb
  obtain ⟨h0, k0, hwit⟩ : ∃ (h0 : Int) (k0 : Nat), (F ≤ 144 ∧ -12 ≤ h0 ∧ h0 ≤ 12 ∧ k0 ≤ 12 ∧ ¬ (h0 = 0 ∧ k0 = 0) ∧ (h0 + a * (k0 : Int)).tmod M = 0 ∧ h0 * h0 + (k0 : Int) * k0 = F) ∨ (144 < F ∧ h0 = 100) := by
    by_cases h144 : F ≤ 144
    · have := GridM.reached (M : Int) a (by omega) (by rw [HF.out]; exact h144)
      rw [HF.out] at this
      obtain ⟨h0, k0, hh⟩ := this
      exact ⟨h0, k0, .inl ⟨h144, hh⟩⟩
    · exact ⟨100, 0, .inr ⟨by omega, rfl⟩⟩
  have HW : Hid (Wit M a F h0 k0) := Lib.hid hwit
  have hwr : (-12 ≤ h0 ∧ h0 ≤ 12 ∧ k0 ≤ 12) ∨ h0 = 100 := by rcases hwit with h | h <;> omega
  have hwe : 144 < F ∨ h0 ≤ 12 := by rcases hwit with h | h <;> omega
  clear hwit
  go_wp2
  go_loop [16, 17, 18] (fun fv hv _ => ∃ (h : Int) (fb : Bool), -12 ≤ h ∧ h ≤ 13 ∧ hv = .int .i64 h ∧ fv = .bool fb ∧ Past h0 h fb) (fun _ hv _ => (30 - intOf hv).toNat)
  case atStart => exact ⟨-12, false, by omega, by omega, rfl, rfl, fun hlt => by omega⟩
  case round =>
    obtain ⟨h, fb, hh0, hh1, rfl, rfl, hfb⟩ := hrel
    by_cases hlt : h ≤ 12
    · go_wp2
      go_loop [16, 18] (fun fv kv => ∃ (k : Nat) (fb : Bool), k ≤ 13 ∧ kv = .int .i64 (k : Int) ∧ fv = .bool fb ∧ Past2 h0 k0 h k fb) (fun _ kv => (30 - intOf kv).toNat)
      case atStart => exact ⟨0, fb, by omega, rfl, rfl, fun h1 => hfb (by omega)⟩
      case round =>
        obtain ⟨k, f2, hk, rfl, rfl, hp⟩ := hrel
        have HPa := Lib.hid hp
        clear hp hfb
        by_cases hklt : (k : Int) ≤ 12
        · have s0 := GridM.sq_nonneg h
          have s1 : h * h ≤ 144 := by
            have := GridM.sq_mono (x := if 0 ≤ h then h else -h) (y := 12) (by split <;> omega) (by left; split <;> omega)
            split at this
            · omega
            · rw [Int.neg_mul_neg] at this; omega
          have s2 := GridM.sq_nonneg (k : Int)
          have s3 : (k : Int) * k ≤ 144 := by have := GridM.mul_le2 (a := (k : Int)) (b := (k : Int)) (c := 12) (d := 12) (by omega) (by omega) (by omega) (by omega); omega
          have s4 : 0 ≤ a * (k : Int) := Int.mul_nonneg ha0 (by omega)
          have s5 : a * (k : Int) ≤ 1440 := by have := GridM.mul_le2 (a := a) (b := (k : Int)) (c := 120) (d := 12) (by omega) (by omega) (by omega) (by omega); omega
          by_cases hz : h = 0 ∧ k = 0
          · obtain ⟨rfl, rfl⟩ := hz
            have HN := Lib.hid (HW.out.skip HPa.out hlt (.inl ⟨rfl, rfl⟩))
            go_wp2
            go_round
            case rel => exact ⟨1, f2, by omega, by go_num, rfl, HN.out⟩
            case measure => simp [intOf]
          · by_cases ht : (h + a * (k : Int)).tmod (M : Int) = 0
            · have hle := GridM.no_less (M : Int) a h k (by omega) hz ht
              rw [HF.out] at hle
              have hte : (h + a * (k : Int)) % (M : Int) = 0 := by rw [← GridM.tmod_emod, ht]; simp
              by_cases heq : h * h + (k : Int) * k = F
              · have HN := Lib.hid (show Past2 h0 k0 h (k + 1) true from fun _ => rfl)
                have heq' : (h * h + (k : Int) * k == F) = true := by simpa using heq
                clear heq
                by_cases hh : h = 0
                · subst hh
                  have hk0 : ((k : Int) == 0) = false := by
                    simp; exact fun e => hz ⟨rfl, e⟩
                  simp only [Int.zero_add, Int.mul_zero] at ht hte heq'
                  cases f2
                  all_goals
                    go_wp2
                    go_round
                    case rel => exact ⟨k + 1, true, by omega, by go_num, rfl, HN.out⟩
                    case measure => simp [intOf]; omega
                · cases f2
                  all_goals
                    go_wp2
                    go_round
                    case rel => exact ⟨k + 1, true, by omega, by go_num, rfl, HN.out⟩
                    case measure => simp [intOf]; omega
              · have HN := Lib.hid (HW.out.less HPa.out hlt heq)
                have heq' : (h * h + (k : Int) * k == F) = false := by simpa using heq
                by_cases hh : h = 0
                · subst hh
                  have hk0 : ((k : Int) == 0) = false := by
                    simp; exact fun e => hz ⟨rfl, e⟩
                  simp only [Int.zero_add, Int.mul_zero] at ht hte heq' heq
                  cases f2
                  all_goals
                    go_wp2
                    go_round
                    case rel => exact ⟨k + 1, _, by omega, by go_num, rfl, HN.out⟩
                    case measure => simp [intOf]; omega
                · cases f2
                  all_goals
                    go_wp2
                    go_round
                    case rel => exact ⟨k + 1, _, by omega, by go_num, rfl, HN.out⟩
                    case measure => simp [intOf]; omega
            · have HN := Lib.hid (HW.out.skip HPa.out hlt (.inr ht))
              have hte : ¬ (h + a * (k : Int)) % (M : Int) = 0 := fun e => ht (Int.tmod_eq_zero_of_dvd (Int.dvd_of_emod_eq_zero e))
              by_cases hh : h = 0
              · subst hh
                have hk0 : ((k : Int) == 0) = false := by
                  simp; exact fun e => hz ⟨rfl, e⟩
                simp only [Int.zero_add] at ht hte
                go_wp2
                go_round
                case rel => exact ⟨k + 1, f2, by omega, by go_num, rfl, HN.out⟩
                case measure => simp [intOf]; omega
              · go_wp2
                go_round
                case rel => exact ⟨k + 1, f2, by omega, by go_num, rfl, HN.out⟩
                case measure => simp [intOf]; omega
        · obtain rfl : k = 13 := by omega
          have HN := Lib.hid (show Past h0 (h + 1) f2 from fun h1 => HPa.out (by omega))
          go_wp2
          go_round
          case rel => exact ⟨h + 1, f2, by omega, by omega, rfl, rfl, HN.out⟩
          case measure => simp [intOf]; omega
    · obtain rfl : h = 13 := by omega
      have hfin : fb = true ∨ 144 < F := by
        rcases hwe with h1 | h1
        · exact .inr h1
        · exact .inl (hfb (by omega))
      have HFI := Lib.hid hfin
      clear hfb hfin
      go_wp2
      go_loopw [19] (fun iv wr => ∃ k : Nat, k ≤ M ∧ iv = .int .i64 (k : Int) ∧ Drawn w1 wr) (fun iv _ => (200 - intOf iv).toNat)
      case atStart => exact ⟨0, by omega, rfl, Drawn.refl _⟩
      case round =>
        obtain ⟨k, hk, rfl, hD⟩ := hrel
        by_cases hklt : k < M
        · obtain ⟨b2, off, rfl, _, hc⟩ := (HP.out.below (hD.below (B := w1.heap.size)) (Nat.le_refl _)) (by rw [gridL_len]; omega)
          obtain ⟨A3, c3, g1, r1⟩ := hc k (by rw [gridL_len]; exact hklt)
          have e : (gridL (M : Int) a M).getD k [] = [(k : Int), a * (k : Int) % (M : Int)] := by simp [gridL, List.getD, hklt]
          rw [e] at g1 r1
          obtain ⟨b3, off3, rfl, _, hc3⟩ := r1 (by simp)
          have g2 := hc3 0 (by simp)
          have g3 := hc3 1 (by simp)
          simp only [List.getD_cons_zero, List.getD_cons_succ, Nat.add_zero, List.length_cons, List.length_nil] at g1 g2 g3
          have s4 : 0 ≤ a * (k : Int) := Int.mul_nonneg ha0 (by omega)
          have s5 : a * (k : Int) ≤ 14400 := by have := GridM.mul_le2 (a := a) (b := (k : Int)) (c := 120) (d := 120) (by omega) (by omega) (by omega) (by omega); omega
          clear hc hc3 e
          go_wp2
          go_quiet (fail)
          go_wp2
          go_roundw
          case rel => exact ⟨k + 1, by omega, by go_num, hD.next _⟩
          case measure => simp [intOf]; omega
        · have HD := Lib.hid hD
          clear hD
          rcases HFI.out with h1 | h1
          · subst h1
            go_wp2
            go_ret
            exact ⟨rfl, HB.out.trans HD.out.below⟩
          · cases fb
            all_goals
              go_wp2
              go_ret
              exact ⟨rfl, HB.out.trans HD.out.below⟩

set_option maxRecDepth 100000 in
theorem grids_v {v v' : Value} (w : World) (h : Open.IsBytes w v) (h' : Open.IsBytes w v') : Calls Try.prog 4 #[v, v'] w fun e w' => e = .returned (.bool true) ∧ Below w.heap.size w w' := by
  obtain ⟨A, c, zs, rfl, h1, h2, h3⟩ := h.ex
  obtain ⟨A', c', zs', rfl, h1', h2', h3'⟩ := h'.ex
  by_cases hl : 48 < zs.length ∨ 48 < zs'.length
  · go_enter Try.func4, Try.ntmps4
    go_wp2_with fail
    refine (r8Long_yes _ _ _ _ _ _ _ hl h1 h1').mono ?_
    rintro e w' ⟨rfl, rfl⟩
    go_wp2
    go_ret
    exact ⟨rfl, Below.refl _ _⟩
  · exact grids_any A A' c c' zs zs' w h2 (by omega) (by omega) h3
end Go.Proofs.Ytnbeibofmikihaa.Grids
