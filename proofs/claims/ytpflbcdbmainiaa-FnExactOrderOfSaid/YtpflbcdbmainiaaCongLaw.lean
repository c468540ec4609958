/- IsFull and StateCycle, of the program and of the reference, and their laws. -/
import Derived.Test.YtpflbcdbmainiaaCongImpl
namespace Go.Proofs.Ytpflbcdbmainiaa.Cong
open Go.RowKit Go.Proofs.Ytpflbcdbmainiaa Go.Proofs.Ytpflbcdbmainiaa.Base
set_option linter.unusedVariables false

theorem toCong_any (m f a : Int) (w : World) :
    Calls Try.prog 106 #[.agg #[.int .i64 m, .int .i64 f, .int .i64 a]] w fun e w' => e = .returned (.agg #[.int .i64 m, .int .i64 f, .int .i64 a]) ∧ Below w.heap.size w w' := by
  go_enter Try.func106, Try.ntmps106
  go_wp2
  refine bodyPost_ret (v := .agg #[.int .i64 m, .int .i64 f, .int .i64 a]) (by simp [results, Try.results106, go_sem]) rfl ⟨rfl, ?_⟩
  exact (((Below.refl _ _).alloc (Nat.le_refl _) _).alloc (by simp) _).alloc (by simp; omega) _

noncomputable def fullB (m f a : Int) : Bool := congB m f a && decide (CycM.perOf (stepN m.toNat f.toNat a.toNat) 0 = m)
theorem fullB_no {m f a : Int} (h : congB m f a = false) : fullB m f a = false := by simp [fullB, h]
theorem fullB_eq {m f a : Int} (h : congB m f a = true) {j n : Nat} (hc : CycM.IsCyc (stepN m.toNat f.toNat a.toNat) 0 j n) : fullB m f a = ((n : Int) - j == m) := by
  simp [fullB, h, CycM.perOf_of hc, Bool.beq_eq_decide_eq]

theorem implIsFull_any (m f a : Int) (w : World) :
    Calls Try.prog 19 #[.agg #[.int .i64 m, .int .i64 f, .int .i64 a]] w fun e w' => e = .returned (.bool (fullB m f a)) ∧ Below w.heap.size w w' := by
  cases hB : congB m f a
  · have HF := Lib.hid (fullB_no hB)
    go_enter Try.func19, Try.ntmps19
    go_wp2_with (go_at_call 73; refine (validCong_any m f a _).mono ?_; rintro e w1 ⟨rfl, hb1⟩)
    go_ret
    exact ⟨ret_bool HF.out.symm, ((Below.refl _ _).alloc (Nat.le_refl _) _).trans (hb1.mono (by simp))⟩
  · obtain ⟨h1, h2, h3, h4, h5, h6⟩ := congB_true hB
    obtain ⟨M, rfl⟩ := Int.eq_ofNat_of_zero_le (show 0 ≤ m by omega)
    obtain ⟨F, rfl⟩ := Int.eq_ofNat_of_zero_le h3
    obtain ⟨A, rfl⟩ := Int.eq_ofNat_of_zero_le h5
    go_enter Try.func19, Try.ntmps19
    go_wp2_with (first
      | (go_at_call 73; refine (validCong_any (M : Int) F A _).mono ?_; rintro e w1 ⟨rfl, hb1⟩; obtain ⟨c1, c2⟩ := bcell hb1; have d0 := (c1 w.heap.size 0 (by simp)).trans (show _ = some (Value.int .i64 (M : Int)) by simp); have d1 := (c1 w.heap.size 1 (by simp)).trans (show _ = some (Value.int .i64 (F : Int)) by simp); have d2 := (c1 w.heap.size 2 (by simp)).trans (show _ = some (Value.int .i64 (A : Int)) by simp); have hz1 := hb1.size; simp only [World.size_alloc] at hz1; clear c1 c2)
      | (go_at_call 68; refine (cycle_any M F A 0 _ (by omega) (by omega) (by omega) (by omega) (by omega)).mono ?_; rintro e w2 ⟨j, n, hc, rfl, hb2⟩; have HC := Lib.hid hc; clear hc; obtain ⟨c1, c2⟩ := bcell hb2; have c0 := (c1 w.heap.size 0 (by omega)).trans d0))
    go_ret
    exact ⟨ret_bool (fullB_eq hB HC.out).symm, (((Below.refl _ _).alloc (Nat.le_refl _) _).trans (hb1.mono (by simp))).trans (hb2.mono (by omega))⟩

/-! ### StateCycle -/
def bothB (m f a x : Int) : Bool := congB m f a && inR x 0 (m - 1)
noncomputable def preB (m f a x : Int) : Int := if bothB m f a x = true then CycM.preOf (stepN m.toNat f.toNat a.toNat) x.toNat else 0
noncomputable def perB (m f a x : Int) : Int := if bothB m f a x = true then CycM.perOf (stepN m.toNat f.toNat a.toNat) x.toNat else 0
theorem preB_eq {m f a x : Int} (h : bothB m f a x = true) {j n : Nat} (hc : CycM.IsCyc (stepN m.toNat f.toNat a.toNat) x.toNat j n) : preB m f a x = j := by
  rw [preB, if_pos h, CycM.preOf_of hc]
theorem perB_eq {m f a x : Int} (h : bothB m f a x = true) {j n : Nat} (hc : CycM.IsCyc (stepN m.toNat f.toNat a.toNat) x.toNat j n) : perB m f a x = (n : Int) - j := by
  rw [perB, if_pos h, CycM.perOf_of hc]
theorem preB_no {m f a x : Int} (h : bothB m f a x = false) : preB m f a x = 0 := by rw [preB, if_neg (by simp [h])]
theorem perB_no {m f a x : Int} (h : bothB m f a x = false) : perB m f a x = 0 := by rw [perB, if_neg (by simp [h])]
theorem ret_tup3 {k : IntKind} {a b a' b' : Int} {c d : Bool} (h : a = b) (h' : a' = b') (h'' : c = d) : Ending.returned (.tuple #[.int k a, .int k a', .bool c]) = .returned (.tuple #[.int k b, .int k b', .bool d]) := by rw [h, h', h'']
theorem bothB_true {m f a x : Int} (h : bothB m f a x = true) : 2 ≤ m ∧ m ≤ 100000 ∧ 0 ≤ f ∧ f < m ∧ 0 ≤ a ∧ a < m ∧ 0 ≤ x ∧ x < m := by
  simp only [bothB, Bool.and_eq_true] at h
  have h1 := congB_true h.1
  have h2 := inR_true h.2
  omega

theorem l03Both_any (b o : Nat) (m f a x : Int) (w : World) (h0 : w.cell? ⟨b, o, none⟩ = some (.int .i64 m)) (h1 : w.cell? ⟨b, o + 1, none⟩ = some (.int .i64 f)) (h2 : w.cell? ⟨b, o + 2, none⟩ = some (.int .i64 a)) :
    Calls Try.prog 69 #[.pointer (some ⟨b, o, none⟩), .int .i64 x] w fun e w' => e = .returned (.bool (bothB m f a x)) ∧ ∃ n, w' = w.drewN n := by
  cases hB : congB m f a
  · go_enter Try.func69, Try.ntmps69
    go_wp2_with (go_at_call 125; refine (l03Is_any _ _ m f a _ h0 h1 h2).mono ?_; rintro e w1 ⟨rfl, k, rfl⟩)
    go_ret
    exact ⟨ret_bool (by simp [bothB, hB]), _, rfl⟩
  · obtain ⟨g1, g2, _⟩ := congB_true hB
    go_enter Try.func69, Try.ntmps69
    go_wp2_with (first | (go_at_call 125; refine (l03Is_any _ _ m f a _ h0 h1 h2).mono ?_; rintro e w1 ⟨rfl, k, rfl⟩) | (go_at_call 70; refine (l00In_any _ _ _ _).mono ?_; rintro e w' ⟨rfl, rfl⟩))
    go_ret
    exact ⟨ret_bool (by simp [bothB, hB]), _, rfl⟩

theorem isState_any (m f a x : Int) (w : World) :
    Calls Try.prog 67 #[.agg #[.int .i64 m, .int .i64 f, .int .i64 a], .int .i64 x] w fun e w' => e = .returned (.bool (bothB m f a x)) ∧ Below w.heap.size w w' := by
  cases hB : congB m f a
  · go_enter Try.func67, Try.ntmps67
    go_wp2_with (go_at_call 73; refine (validCong_any m f a _).mono ?_; rintro e w1 ⟨rfl, hb1⟩)
    go_ret
    exact ⟨ret_bool (by simp [bothB, hB]), Base.Below.boxed hb1⟩
  · obtain ⟨g1, g2, _⟩ := congB_true hB
    go_enter Try.func67, Try.ntmps67
    go_wp2_with (first | (go_at_call 73; refine (validCong_any m f a _).mono ?_; rintro e w1 ⟨rfl, hb1⟩; have d0 : w1.cell? ⟨w.heap.size, 0, none⟩ = some (.int .i64 m) := box_cells hb1 0) | (go_at_call 92; refine (inRange_any _ _ _ _).mono ?_; rintro e w' ⟨rfl, rfl⟩))
    go_ret
    exact ⟨ret_bool (by simp [bothB, hB]), Base.Below.boxed hb1⟩

set_option maxHeartbeats 400000 in
theorem implStateCycle_any (m f a x : Int) (w : World) :
    Calls Try.prog 16 #[.agg #[.int .i64 m, .int .i64 f, .int .i64 a], .int .i64 x] w fun e w' => e = .returned (.tuple #[.int .i64 (preB m f a x), .int .i64 (perB m f a x), .bool (bothB m f a x)]) ∧ Below w.heap.size w w' := by
  cases hB : bothB m f a x
  · have HF := Lib.hid (preB_no hB)
    have HG := Lib.hid (perB_no hB)
    go_enter Try.func16, Try.ntmps16
    go_wp2_with (go_at_call 67; refine (isState_any m f a x _).mono ?_; rintro e w1 ⟨rfl, hb1⟩)
    go_ret3
    exact ⟨ret_tup3 HF.out.symm HG.out.symm rfl, Base.Below.boxed hb1⟩
  · obtain ⟨h1, h2, h3, h4, h5, h6, h7, h8⟩ := bothB_true hB
    obtain ⟨M, rfl⟩ := Int.eq_ofNat_of_zero_le (show 0 ≤ m by omega)
    obtain ⟨F, rfl⟩ := Int.eq_ofNat_of_zero_le h3
    obtain ⟨A, rfl⟩ := Int.eq_ofNat_of_zero_le h5
    obtain ⟨X, rfl⟩ := Int.eq_ofNat_of_zero_le h7
    go_enter Try.func16, Try.ntmps16
    go_wp2_with (first
      | (go_at_call 67; refine (isState_any (M : Int) F A X _).mono ?_; rintro e w1 ⟨rfl, hb1⟩; have d0 : w1.cell? ⟨w.heap.size, 0, none⟩ = some (.int .i64 (M : Int)) := box_cells hb1 0; have d1 : w1.cell? ⟨w.heap.size, 1, none⟩ = some (.int .i64 (F : Int)) := box_cells hb1 1; have d2 : w1.cell? ⟨w.heap.size, 2, none⟩ = some (.int .i64 (A : Int)) := box_cells hb1 2)
      | (go_at_call 68; refine (cycle_any M F A X _ (by omega) (by omega) (by omega) (by omega) (by omega)).mono ?_; rintro e w2 ⟨j, n, hc, rfl, hb2⟩; have HC := Lib.hid hc; clear hc))
    go_ret3
    exact ⟨ret_tup3 (preB_eq hB HC.out).symm (perB_eq hB HC.out).symm rfl, Base.Below.boxed (Base.Below.nextA hb1 hb2)⟩

end Go.Proofs.Ytpflbcdbmainiaa.Cong
