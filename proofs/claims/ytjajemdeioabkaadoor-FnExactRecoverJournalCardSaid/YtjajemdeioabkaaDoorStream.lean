/- Streams: validity, of the program and of the reference; the law. -/
import Derived.Test.YtjajemdeioabkaaDoorRegImpl
import Derived.Test.YtjajemdeioabkaaDoorCongLaw
import Derived.Test.YtjajemdeioabkaaDoorOpen
import Derived.Laws.StructEq
namespace Go.Proofs.YtjajemdeioabkaaDoor.Str
open Go.RowKit Go.Proofs.YtjajemdeioabkaaDoor Go.Proofs.YtjajemdeioabkaaDoor.Base
set_option linter.unusedVariables false

def zc (m f a : Int) : Bool := m == 0 && (f == 0 && a == 0)
def zr (W T : Int) : Bool := W == 0 && T == 0
def streamB (K W T m f a s : Int) : Bool := if K = 0 then zc m f a && Reg.bothR W T s else if K = 1 then zr W T && Cong.bothB m f a s else false

theorem eqCong {m f a : Int} {r : Bool} (h : zc m f a = r) (w : World) :
    (binOp .eql 31 (.agg #[.int .i64 m, .int .i64 f, .int .i64 a]) (.agg #[.int .i64 0, .int .i64 0, .int .i64 0])).run Tryd.prog w = .ok (.bool r) w := by
  subst h
  unfold zc
  cases h1 : (m == 0) <;> cases h2 : (f == 0) <;> cases h3 : (a == 0) <;> go_simp
theorem eqReg {W T : Int} {r : Bool} (h : zr W T = r) (w : World) :
    (binOp .eql 30 (.agg #[.int .i64 W, .int .i64 T]) (.agg #[.int .i64 0, .int .i64 0])).run Tryd.prog w = .ok (.bool r) w := by
  subst h
  unfold zr
  cases h1 : (W == 0) <;> cases h2 : (T == 0) <;> go_simp
theorem l02Both_q (b o : Nat) {W T x : Int} {r : Bool} (h : Reg.bothR W T x = r) (w : World) (h0 : w.cell? ⟨b, o, none⟩ = some (.int .i64 W)) (h1 : w.cell? ⟨b, o + 1, none⟩ = some (.int .i64 T)) (n : Nat) :
    Calls Tryd.prog 37 #[.pointer (some ⟨b, o, none⟩), .int .i64 x] (w.drewN n) fun e w' => e = .returned (.bool r) ∧ ∃ n, w' = w.drewN n := by
  subst h
  exact (Reg.l02Both_any b o W T x (w.drewN n) (by simpa using h0) (by simpa using h1)).mono fun _ _ ⟨h1, k, h2⟩ => ⟨h1, n + k, by rw [h2, World.drewN_drewN]⟩
theorem l03Both_q (b o : Nat) {m f a x : Int} {r : Bool} (h : Cong.bothB m f a x = r) (w : World) (h0 : w.cell? ⟨b, o, none⟩ = some (.int .i64 m)) (h1 : w.cell? ⟨b, o + 1, none⟩ = some (.int .i64 f)) (h2 : w.cell? ⟨b, o + 2, none⟩ = some (.int .i64 a)) (n : Nat) :
    Calls Tryd.prog 38 #[.pointer (some ⟨b, o, none⟩), .int .i64 x] (w.drewN n) fun e w' => e = .returned (.bool r) ∧ ∃ n, w' = w.drewN n := by
  subst h
  exact (Cong.l03Both_any b o m f a x (w.drewN n) (by simpa using h0) (by simpa using h1) (by simpa using h2)).mono fun _ _ ⟨h1, k, h2⟩ => ⟨h1, n + k, by rw [h2, World.drewN_drewN]⟩

set_option maxHeartbeats 1000000 in
theorem l11Is_any (b : Nat) (K W T m f a s : Int) (w : World) (h0 : w.cell? ⟨b, 0, none⟩ = some (.int .i64 K)) (h1 : w.cell? ⟨b, 1, none⟩ = some (.int .i64 W)) (h2 : w.cell? ⟨b, 2, none⟩ = some (.int .i64 T))
    (h3 : w.cell? ⟨b, 3, none⟩ = some (.int .i64 m)) (h4 : w.cell? ⟨b, 4, none⟩ = some (.int .i64 f)) (h5 : w.cell? ⟨b, 5, none⟩ = some (.int .i64 a)) (h6 : w.cell? ⟨b, 6, none⟩ = some (.int .i64 s)) :
    Calls Tryd.prog 18 #[.pointer (some ⟨b, 0, none⟩)] w fun e w' => e = .returned (.bool (streamB K W T m f a s)) ∧ ∃ n, w' = w.drewN n := by
  by_cases hK : K = 0
  · subst hK
    cases hz : zc m f a
    · have he := eqCong hz
      go_enter Tryd.func18, Tryd.ntmps18
      go_wp2
      go_quiet (fail)
      go_wp2
      go_ret
      exact ⟨ret_bool (by simp [streamB, hz]), _, rfl⟩
    · have he := eqCong hz
      cases hb : Reg.bothR W T s
      all_goals
        go_enter Tryd.func18, Tryd.ntmps18
        go_wp2
        go_quiet ((go_at_call 37; exact l02Both_q b 1 hb _ h1 h2 _))
        go_wp2
        go_ret
        exact ⟨ret_bool (by simp [streamB, hz, hb]), _, rfl⟩
  · by_cases hK1 : K = 1
    · subst hK1
      clear hK
      cases hz : zr W T
      · have he := eqReg hz
        go_enter Tryd.func18, Tryd.ntmps18
        go_wp2
        go_quiet (fail)
        go_wp2
        go_ret
        exact ⟨ret_bool (by simp [streamB, hz]), _, rfl⟩
      · have he := eqReg hz
        cases hb : Cong.bothB m f a s
        all_goals
          go_enter Tryd.func18, Tryd.ntmps18
          go_wp2
          go_quiet ((go_at_call 38; exact l03Both_q b 3 hb _ h3 h4 h5 _))
          go_wp2
          go_ret
          exact ⟨ret_bool (by simp [streamB, hz, hb]), _, rfl⟩
    · have g0 : (K == 0) = false := by simpa using hK
      have g1 : (K == 1) = false := by simpa using hK1
      have HF := Lib.hid (show streamB K W T m f a s = false by simp [streamB, hK, hK1])
      clear hK hK1
      go_enter Tryd.func18, Tryd.ntmps18
      go_wp2
      go_ret
      exact ⟨ret_bool HF.out.symm, 0, rfl⟩

set_option maxHeartbeats 1000000 in
theorem validStream_any (K W T m f a s : Int) (w : World) :
    Calls Tryd.prog 22 #[.agg #[.int .i64 K, .int .i64 W, .int .i64 T, .int .i64 m, .int .i64 f, .int .i64 a, .int .i64 s]] w fun e w' => e = .returned (.bool (streamB K W T m f a s)) ∧ Below w.heap.size w w' := by
  by_cases hK : K = 0
  · subst hK
    cases hb : Reg.bothR W T s
    · go_enter Tryd.func22, Tryd.ntmps22
      go_wp2_with (go_at_call 40; refine (Reg.isRegState_any W T s _).mono ?_; rintro e w1 ⟨rfl, hb1⟩)
      go_ret
      exact ⟨ret_bool (by simp [streamB, hb]), Base.Below.boxed hb1⟩
    · cases hz : zc m f a
      all_goals
        have he := eqCong hz
        go_enter Tryd.func22, Tryd.ntmps22
        go_wp2_with (go_at_call 40; refine (Reg.isRegState_any W T s _).mono ?_; rintro e w1 ⟨rfl, hb1⟩; have d3 : w1.cell? ⟨w.heap.size, 3, none⟩ = some (.int .i64 m) := box_cells hb1 3; have d4 : w1.cell? ⟨w.heap.size, 4, none⟩ = some (.int .i64 f) := box_cells hb1 4; have d5 : w1.cell? ⟨w.heap.size, 5, none⟩ = some (.int .i64 a) := box_cells hb1 5)
        go_ret
        exact ⟨ret_bool (by simp [streamB, hz, hb]), Base.Below.boxed hb1⟩
  · by_cases hK1 : K = 1
    · subst hK1
      clear hK
      cases hb : Cong.bothB m f a s
      · go_enter Tryd.func22, Tryd.ntmps22
        go_wp2_with (go_at_call 41; refine (Cong.isState_any m f a s _).mono ?_; rintro e w1 ⟨rfl, hb1⟩)
        go_ret
        exact ⟨ret_bool (by simp [streamB, hb]), Base.Below.boxed hb1⟩
      · cases hz : zr W T
        all_goals
          have he := eqReg hz
          go_enter Tryd.func22, Tryd.ntmps22
          go_wp2_with (go_at_call 41; refine (Cong.isState_any m f a s _).mono ?_; rintro e w1 ⟨rfl, hb1⟩; have d1 : w1.cell? ⟨w.heap.size, 1, none⟩ = some (.int .i64 W) := box_cells hb1 1; have d2 : w1.cell? ⟨w.heap.size, 2, none⟩ = some (.int .i64 T) := box_cells hb1 2)
          go_ret
          exact ⟨ret_bool (by simp [streamB, hz, hb]), Base.Below.boxed hb1⟩
    · have g0 : (K == 0) = false := by simpa using hK
      have g1 : (K == 1) = false := by simpa using hK1
      have HF := Lib.hid (show streamB K W T m f a s = false by simp [streamB, hK, hK1])
      clear hK hK1
      go_enter Tryd.func22, Tryd.ntmps22
      go_wp2
      go_ret
      exact ⟨ret_bool HF.out.symm, (Below.refl _ _).alloc (Nat.le_refl _) _⟩

theorem toReg_at (W T : Int) (w : World) :
    Calls Tryd.prog 20 #[.agg #[.int .i64 W, .int .i64 T]] w fun e w' => e = .returned (.agg #[.int .i64 W, .int .i64 T]) ∧
      ((w.alloc (.cells #[.int .i64 W, .int .i64 T] 23)).alloc (.cells #[.int .i64 W, .int .i64 T] 30)).alloc (.cells #[.int .i64 W, .int .i64 T] 30) = w' := by
  go_enter Tryd.func20, Tryd.ntmps20
  go_wp2
  exact bodyPost_ret (v := .agg #[.int .i64 W, .int .i64 T]) (by simp [results, Tryd.results20, go_sem]) rfl ⟨rfl, rfl⟩
theorem toCong_at (m f a : Int) (w : World) :
    Calls Tryd.prog 21 #[.agg #[.int .i64 m, .int .i64 f, .int .i64 a]] w fun e w' => e = .returned (.agg #[.int .i64 m, .int .i64 f, .int .i64 a]) ∧
      ((w.alloc (.cells #[.int .i64 m, .int .i64 f, .int .i64 a] 25)).alloc (.cells #[.int .i64 m, .int .i64 f, .int .i64 a] 31)).alloc (.cells #[.int .i64 m, .int .i64 f, .int .i64 a] 31) = w' := by
  go_enter Tryd.func21, Tryd.ntmps21
  go_wp2
  exact bodyPost_ret (v := .agg #[.int .i64 m, .int .i64 f, .int .i64 a]) (by simp [results, Tryd.results21, go_sem]) rfl ⟨rfl, rfl⟩
set_option maxHeartbeats 1000000 in
theorem toStream_any (K W T m f a s : Int) (w : World) :
    Calls Tryd.prog 7 #[.agg #[.int .i64 K, .int .i64 W, .int .i64 T, .int .i64 m, .int .i64 f, .int .i64 a, .int .i64 s]] w fun e w' => e = .returned (.agg #[.int .i64 K, .int .i64 W, .int .i64 T, .int .i64 m, .int .i64 f, .int .i64 a, .int .i64 s]) ∧ Below w.heap.size w w' := by
  go_enter Tryd.func7, Tryd.ntmps7
  go_wp2_with (first | (go_at_call 20; refine (toReg_at _ _ _).mono ?_; rintro e w' ⟨rfl, rfl⟩) | (go_at_call 21; refine (toCong_at _ _ _ _).mono ?_; rintro e w' ⟨rfl, rfl⟩))
  refine bodyPost_ret (v := .agg #[.int .i64 K, .int .i64 W, .int .i64 T, .int .i64 m, .int .i64 f, .int .i64 a, .int .i64 s]) (by simp [results, Tryd.results7, go_sem]) rfl ⟨rfl, ?_⟩
  refine ((((((((Below.refl _ _).alloc (Nat.le_refl _) _).alloc ?_ _).alloc ?_ _).alloc ?_ _).alloc ?_ _).alloc ?_ _).alloc ?_ _).alloc ?_ _ |>.alloc ?_ _
  all_goals (simp only [World.size_alloc]; omega)

end Go.Proofs.YtjajemdeioabkaaDoor.Str
