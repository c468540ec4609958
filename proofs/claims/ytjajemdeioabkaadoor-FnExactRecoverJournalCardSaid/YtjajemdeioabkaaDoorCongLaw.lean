/- IsFull and StateCycle, of the program and of the reference, and their laws. -/
import Derived.Test.YtjajemdeioabkaaDoorCongImpl
namespace Go.Proofs.YtjajemdeioabkaaDoor.Cong
open Go.RowKit Go.Proofs.YtjajemdeioabkaaDoor Go.Proofs.YtjajemdeioabkaaDoor.Base
set_option linter.unusedVariables false

theorem toCong_any (m f a : Int) (w : World) :
    Calls Tryd.prog 21 #[.agg #[.int .i64 m, .int .i64 f, .int .i64 a]] w fun e w' => e = .returned (.agg #[.int .i64 m, .int .i64 f, .int .i64 a]) ∧ Below w.heap.size w w' := by
  go_enter Tryd.func21, Tryd.ntmps21
  go_wp2
  refine bodyPost_ret (v := .agg #[.int .i64 m, .int .i64 f, .int .i64 a]) (by simp [results, Tryd.results21, go_sem]) rfl ⟨rfl, ?_⟩
  exact (((Below.refl _ _).alloc (Nat.le_refl _) _).alloc (by simp) _).alloc (by simp; omega) _

noncomputable def fullB (m f a : Int) : Bool := congB m f a && decide (CycM.perOf (stepN m.toNat f.toNat a.toNat) 0 = m)
theorem fullB_no {m f a : Int} (h : congB m f a = false) : fullB m f a = false := by simp [fullB, h]
theorem fullB_eq {m f a : Int} (h : congB m f a = true) {j n : Nat} (hc : CycM.IsCyc (stepN m.toNat f.toNat a.toNat) 0 j n) : fullB m f a = ((n : Int) - j == m) := by
  simp [fullB, h, CycM.perOf_of hc, Bool.beq_eq_decide_eq]

/-! ### StateCycle -/
def bothB (m f a x : Int) : Bool := congB m f a && inR x 0 (m - 1)
noncomputable def preB (m f a x : Int) : Int := if bothB m f a x = true then CycM.preOf (stepN m.toNat f.toNat a.toNat) x.toNat else 0
noncomputable def perB (m f a x : Int) : Int := if bothB m f a x = true then CycM.perOf (stepN m.toNat f.toNat a.toNat) x.toNat else 0
theorem preB_eq {m f a x : Int} (h : bothB m f a x = true) {j n : Nat} (hc : CycM.IsCyc (stepN m.toNat f.toNat a.toNat) x.toNat j n) : preB m f a x = j := by
  rw [preB, if_pos h, CycM.preOf_of hc]
theorem perB_eq {m f a x : Int} (h : bothB m f a x = true) {j n : Nat} (hc : CycM.IsCyc (stepN m.toNat f.toNat a.toNat) x.toNat j n) : perB m f a x = (n : Int) - j := by
  rw [perB, if_pos h, CycM.perOf_of hc]
theorem preB_no {m f a x : Int} (h : bothB m f a x = false) : preB m f a x = 0 := by rw [preB, if_neg (by simp [h])]
theorem perB_no {m f a x : Int} (h : bothB m f a x = false) : perB m f a x = 0 := by rw [perB, if_neg (by simp [h])]
theorem ret_tup3 {k : IntKind} {a b a' b' : Int} {c d : Bool} (h : a = b) (h' : a' = b') (h'' : c = d) : Ending.returned (.tuple #[.int k a, .int k a', .bool c]) = .returned (.tuple #[.int k b, .int k b', .bool d]) := by rw [h, h', h'']
theorem bothB_true {m f a x : Int} (h : bothB m f a x = true) : 2 ≤ m ∧ m ≤ 100000 ∧ 0 ≤ f ∧ f < m ∧ 0 ≤ a ∧ a < m ∧ 0 ≤ x ∧ x < m := by
  simp only [bothB, Bool.and_eq_true] at h
  have h1 := congB_true h.1
  have h2 := inR_true h.2
  omega

theorem l03Both_any (b o : Nat) (m f a x : Int) (w : World) (h0 : w.cell? ⟨b, o, none⟩ = some (.int .i64 m)) (h1 : w.cell? ⟨b, o + 1, none⟩ = some (.int .i64 f)) (h2 : w.cell? ⟨b, o + 2, none⟩ = some (.int .i64 a)) :
    Calls Tryd.prog 38 #[.pointer (some ⟨b, o, none⟩), .int .i64 x] w fun e w' => e = .returned (.bool (bothB m f a x)) ∧ ∃ n, w' = w.drewN n := by
  cases hB : congB m f a
  · go_enter Tryd.func38, Tryd.ntmps38
    go_wp2_with (go_at_call 48; refine (l03Is_any _ _ m f a _ h0 h1 h2).mono ?_; rintro e w1 ⟨rfl, k, rfl⟩)
    go_ret
    exact ⟨ret_bool (by simp [bothB, hB]), _, rfl⟩
  · obtain ⟨g1, g2, _⟩ := congB_true hB
    go_enter Tryd.func38, Tryd.ntmps38
    go_wp2_with (first | (go_at_call 48; refine (l03Is_any _ _ m f a _ h0 h1 h2).mono ?_; rintro e w1 ⟨rfl, k, rfl⟩) | (go_at_call 49; refine (l00In_any _ _ _ _).mono ?_; rintro e w' ⟨rfl, rfl⟩))
    go_ret
    exact ⟨ret_bool (by simp [bothB, hB]), _, rfl⟩

theorem isState_any (m f a x : Int) (w : World) :
    Calls Tryd.prog 41 #[.agg #[.int .i64 m, .int .i64 f, .int .i64 a], .int .i64 x] w fun e w' => e = .returned (.bool (bothB m f a x)) ∧ Below w.heap.size w w' := by
  cases hB : congB m f a
  · go_enter Tryd.func41, Tryd.ntmps41
    go_wp2_with (go_at_call 52; refine (validCong_any m f a _).mono ?_; rintro e w1 ⟨rfl, hb1⟩)
    go_ret
    exact ⟨ret_bool (by simp [bothB, hB]), Base.Below.boxed hb1⟩
  · obtain ⟨g1, g2, _⟩ := congB_true hB
    go_enter Tryd.func41, Tryd.ntmps41
    go_wp2_with (first | (go_at_call 52; refine (validCong_any m f a _).mono ?_; rintro e w1 ⟨rfl, hb1⟩; have d0 : w1.cell? ⟨w.heap.size, 0, none⟩ = some (.int .i64 m) := box_cells hb1 0) | (go_at_call 51; refine (inRange_any _ _ _ _).mono ?_; rintro e w' ⟨rfl, rfl⟩))
    go_ret
    exact ⟨ret_bool (by simp [bothB, hB]), Base.Below.boxed hb1⟩

end Go.Proofs.YtjajemdeioabkaaDoor.Cong
