/- Numbers inverted at the point: the program's zero. -/
import Derived.Test.YtjkcdnfmmfpbjaaInvL
import Derived.Deep.RegionHeld3
namespace Go.Proofs.Ytjkcdnfmmfpbjaa.Inv
open Go.RowKit Go.Proofs.Ytjkcdnfmmfpbjaa Go.Proofs.Ytjkcdnfmmfpbjaa.Base Go.Proofs.Ytjkcdnfmmfpbjaa.Mem Go.Proofs.Ytjkcdnfmmfpbjaa.NatM Go.Proofs.Ytjkcdnfmmfpbjaa.Nat32
set_option linter.unusedVariables false
theorem size_any (x : Nat) (hx : x ≤ 36000000) (w : World) : Calls Try.prog 78 #[.int .i64 (x : Int)] w fun e w' => e = .returned (.int .i64 (x : Int)) ∧ w = w' := by
  have e1 : max (x : Int) (-(x : Int)) = (x : Int) := by omega
  go_enter Try.func78, Try.ntmps78
  go_wp2
  go_ret
  exact ⟨by first | rfl | (rw [e1]; rfl) | (simp; omega), rfl⟩
theorem size0 (w : World) : Calls Try.prog 78 #[.int .i64 0] w fun e w' => e = .returned (.int .i64 0) ∧ w = w' := size_any 0 (by decide) w
theorem nat0 (w : World) : Calls Try.prog 77 #[.int .i64 0] w (NRet 0 w) := naturalOf_any 0 (by decide) w
theorem nat1 (w : World) : Calls Try.prog 77 #[.int .i64 1] w (NRet 1 w) := naturalOf_any 1 (by decide) w
/-- what the two boxes of the call still hold -/
def Q01 (w W : World) : Prop := W.cell? ⟨w.heap.size, 0, none⟩ = some (.int .i64 0) ∧ W.cell? ⟨w.heap.size, 1, none⟩ = some (.int .i64 1) ∧ Rat3 W (w.heap.size + 1) (.bool false) (.slice none 0 0) (.slice none 0 0) ∧ Below w.heap.size w W ∧ w.heap.size + 2 ≤ W.heap.size
theorem Q01.below {w W W' : World} (h : Q01 w W) (hb : Below W.heap.size W W') : Q01 w W' := by
  obtain ⟨h1, h2, h3, h4, h5⟩ := h
  exact ⟨(hb.cell (p := ⟨w.heap.size, 0, none⟩) (show w.heap.size < W.heap.size by omega)).trans h1, (hb.cell (p := ⟨w.heap.size, 1, none⟩) (show w.heap.size < W.heap.size by omega)).trans h2, h3.below hb (by omega), h4.trans (hb.mono (by omega)), by have := hb.size; omega⟩
theorem Rat3.newd (V : World) (x0 x1 x2 : Value) (T : TypeId) : Rat3 ((V.alloc (.cells #[x0, x1, x2] T)).drew) V.heap.size x0 x1 x2 := (Rat3.new V x0 x1 x2 T).below ((Below.refl (V.heap.size + 1) _).drew) (Nat.lt_succ_self _)
theorem Q01.start (w : World) : Q01 w (((w.alloc (.cells #[.int .i64 0, .int .i64 1] 23)).alloc (.cells #[.bool false, .slice none 0 0, .slice none 0 0] 76)).drew) := by
  have hA : Below (w.alloc (.cells #[.int .i64 0, .int .i64 1] 23)).heap.size (w.alloc (.cells #[.int .i64 0, .int .i64 1] 23)) (((w.alloc (.cells #[.int .i64 0, .int .i64 1] 23)).alloc (.cells #[.bool false, .slice none 0 0, .slice none 0 0] 76)).drew) := ((Below.refl _ _).alloc (Nat.le_refl _) _).drew
  refine ⟨box_cells hA 0, box_cells hA 1, ?_, Base.Below.boxed hA, by simp⟩
  have r := Rat3.newd (w.alloc (.cells #[.int .i64 0, .int .i64 1] 23)) (.bool false) (.slice none 0 0) (.slice none 0 0) 76
  rw [World.size_alloc] at r
  exact r
set_option maxHeartbeats 2000000 in
theorem ratioOf01 (w : World) : Calls Try.prog 101 #[.agg #[.int .i64 0, .int .i64 1]] w (RatRet 0 1 w) := by
  have HQ := Lib.hid (Q01.start w)
  go_enter Try.func101, Try.ntmps101
  go_wp2_with fail
  obtain ⟨L1, hL1⟩ : ∃ L1, natL 1 = L1 := ⟨_, rfl⟩
  have HN0 : Hid (∀ X, Q01 w X → Calls Try.prog 77 #[.int .i64 0] X fun e w' => ∃ A c, e = .returned (.slice A 0 c) ∧ Q01 w w') := Lib.hid fun X hX => (nat0 X).mono fun e w' ⟨A, c, h1, h2, h3⟩ => ⟨A, c, by rw [h1, natL_zero]; rfl, hX.below h3⟩
  have HN1 : Hid (∀ X, Q01 w X → Calls Try.prog 77 #[.int .i64 1] X fun e w' => ∃ A c, e = .returned (.slice A L1.length c) ∧ RdU w' w'.heap.size A L1 ∧ Q01 w w') := Lib.hid fun X hX => (nat1 X).mono fun e w' ⟨A, c, h1, h2, h3⟩ => ⟨A, c, by rw [h1, hL1], by rw [← hL1]; exact h2, hX.below h3⟩
  have HL1 := Lib.hid hL1
  clear hL1
  go_region_held3 (fun w' => w'.cell? ⟨w.heap.size, 0, none⟩ = some (.int .i64 0) ∧ w'.cell? ⟨w.heap.size, 1, none⟩ = some (.int .i64 1))
    (first | go_keep | (exact ⟨by assumption, by assumption⟩))
    (first | (go_at_call 78; refine (size0 _).mono ?_; rintro e w1 ⟨rfl, rfl⟩) | (go_at_call 77; refine (HN1.out _ HQ1.out).mono ?_; rintro e w2 ⟨A2, c2, rfl, hr2, hq2⟩; have Hr2 := Lib.hid hr2; have HQ2 := Lib.hid hq2; clear hr2 d0 d1 p0 p1 p2 pf0 pf1 pf2; have d0 := hq2.1; have d1 := hq2.2.1; have p0 := hq2.2.2.1.c0; have p1 := hq2.2.2.1.c1; have p2 := hq2.2.2.1.c2; have pf0 := hq2.2.2.1.f0; have pf1 := hq2.2.2.1.f1; have pf2 := hq2.2.2.1.f2; clear hq2) | (go_at_call 77; refine (HN0.out _ HQ.out).mono ?_; rintro e w1 ⟨A1, c1, rfl, hq1⟩; have HQ1 := Lib.hid hq1; have d0 := hq1.1; have d1 := hq1.2.1; have p0 := hq1.2.2.1.c0; have p1 := hq1.2.2.1.c1; have p2 := hq1.2.2.1.c2; have pf0 := hq1.2.2.1.f0; have pf1 := hq1.2.2.1.f1; have pf2 := hq1.2.2.1.f2; clear hq1))
  all_goals
    have hq := HQ2.out.2.2.1
    have m6 := hq.set0 (.bool false)
    have m7 := m6.set1 (.slice A1 0 c1)
    have m8 := m7.set2 (.slice A2 L1.length c2)
    have HR : Hid (RatRet 0 1 w (.returned (.agg #[.bool false, .slice A1 0 c1, .slice A2 L1.length c2])) (((w2.setCell ⟨w.heap.size + 1, 0, none⟩ (.bool false)).setCell ⟨w.heap.size + 1, 1, none⟩ (.slice A1 0 c1)).setCell ⟨w.heap.size + 1, 2, none⟩ (.slice A2 L1.length c2))) := Lib.hid (by
      refine ⟨A1, c1, A2, c2, by rw [natL_zero, HL1.out]; rfl, fun h0 => by rw [natL_zero] at h0; simp at h0, ?_, ?_⟩
      · rw [HL1.out]
        simp only [World.size_setCell]
        exact ((Hr2.out.non hq.c0 (not_bool _) _).non m6.c1 (not_slice _ _ _) _).non m7.c2 (not_slice _ _ _) _
      · exact (((HQ2.out.2.2.2.1).setCell (Nat.le_succ _) _).setCell (Nat.le_succ _) _).setCell (Nat.le_succ _) _)
    have m80 := m8.c0
    have m81 := m8.c1
    have m82 := m8.c2
    clear hq m6 m7 m8
    go_wp2
    refine bodyPost_ret (v := .agg #[.bool false, .slice A1 0 c1, .slice A2 L1.length c2]) (by simp [results, Try.results101, go_sem, m80, m81, m82]) rfl HR.out
end Go.Proofs.Ytjkcdnfmmfpbjaa.Inv
