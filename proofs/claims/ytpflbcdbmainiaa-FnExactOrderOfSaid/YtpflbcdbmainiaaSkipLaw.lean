/- SkipStream, of the program and of the reference; the law. -/
import Derived.Test.YtpflbcdbmainiaaSkip
namespace Go.Proofs.Ytpflbcdbmainiaa.Skip
open Go.RowKit Go.Proofs.Ytpflbcdbmainiaa Go.Proofs.Ytpflbcdbmainiaa.Base Go.Proofs.Ytpflbcdbmainiaa.Mem Go.Proofs.Ytpflbcdbmainiaa.Reg Go.Proofs.Ytpflbcdbmainiaa.Str Go.Proofs.Ytpflbcdbmainiaa.Take Go.Proofs.Ytpflbcdbmainiaa.Blk Go.Proofs.Ytpflbcdbmainiaa.Pow
set_option linter.unusedVariables false
def okS (K W T m f a s c : Int) : Bool := streamB K W T m f a s && inR c 0 1000000000000000000
def SSRet (K W T m f a s c : Int) (w : World) (e : Ending) (w' : World) : Prop :=
  (okS K W T m f a s c = true → e = .returned (.tuple #[.agg #[.int .i64 K, .int .i64 W, .int .i64 T, .int .i64 m, .int .i64 f, .int .i64 a, .int .i64 (takeX K W T m f a s c)], .bool true])) ∧
  (okS K W T m f a s c = false → e = .returned (.tuple #[.agg #[.int .i64 0, .int .i64 0, .int .i64 0, .int .i64 0, .int .i64 0, .int .i64 0, .int .i64 0], .bool false])) ∧ Below w.heap.size w w'
theorem SSRet.no {K W T m f a s c : Int} {w w' : World} {e : Ending} (h : okS K W T m f a s c = false) (he : e = .returned (.tuple #[.agg #[.int .i64 0, .int .i64 0, .int .i64 0, .int .i64 0, .int .i64 0, .int .i64 0, .int .i64 0], .bool false])) (hb : Below w.heap.size w w') : SSRet K W T m f a s c w e w' :=
  ⟨fun h2 => (by rw [h] at h2; cases h2), fun _ => he, hb⟩
theorem SSRet.yes {K W T m f a s c : Int} {w w' : World} {e : Ending} (h : okS K W T m f a s c = true) (he : e = .returned (.tuple #[.agg #[.int .i64 K, .int .i64 W, .int .i64 T, .int .i64 m, .int .i64 f, .int .i64 a, .int .i64 (takeX K W T m f a s c)], .bool true])) (hb : Below w.heap.size w w') : SSRet K W T m f a s c w e w' :=
  ⟨fun _ => he, fun h2 => (by rw [h] at h2; cases h2), hb⟩
set_option maxHeartbeats 1000000 in
set_option maxRecDepth 100000 in
theorem specSS_any (K W T m f a s c : Int) (w : World) : Calls Try.prog 40 #[.agg #[.int .i64 K, .int .i64 W, .int .i64 T, .int .i64 m, .int .i64 f, .int .i64 a, .int .i64 s], .int .i64 c] w (SSRet K W T m f a s c w) := by
  obtain ⟨W1, hW1, S, R, B⟩ := two w K W T m f a s
  have HW := Lib.hid hW1
  have HS := Lib.hid S
  have HR := Lib.hid R
  have HB1 := Lib.hid B
  clear hW1
  cases hB : streamB K W T m f a s with
  | false =>
    have HN := Lib.hid (fun e w' => SSRet.no (w := w) (w' := w') (e := e) (show okS K W T m f a s c = false by simp [okS, hB]))
    have HV := Lib.hid (fun w h0 h1 h2 h3 h4 h5 h6 => l11Is_any (w.heap.size) K W T m f a s w h0 h1 h2 h3 h4 h5 h6)
    clear HV
    have HI := Lib.hid (l11Is_any w.heap.size K W T m f a s W1 S.c0 S.c1 S.c2 S.c3 S.c4 S.c5 S.c6)
    rw [hB] at HI
    clear hB S R B
    go_enter Try.func40, Try.ntmps40
    go_wp2_with fail
    rw [← HW.out]
    refine HI.out.mono ?_
    rintro e w1 ⟨rfl, k1, hw1⟩
    have B1 : Below W1.heap.size W1 w1 := by rw [hw1]; exact below_drewN (Below.refl _ _) k1
    have r0 := HR.out.below B1 HR.out.lt
    have d0 := (r0).c0; have d1 := (r0).c1; have d2 := (r0).c2; have d3 := (r0).c3; have d4 := (r0).c4; have d5 := (r0).c5; have d6 := (r0).c6
    have g0 := (r0).frz 0; have g1 := (r0).frz 1; have g2 := (r0).frz 2; have g3 := (r0).frz 3; have g4 := (r0).frz 4; have g5 := (r0).frz 5; have g6 := (r0).frz 6
    have S8 := r0.set7 0 0 0 0 0 0 0
    have p0 := (S8).c0; have p1 := (S8).c1; have p2 := (S8).c2; have p3 := (S8).c3; have p4 := (S8).c4; have p5 := (S8).c5; have p6 := (S8).c6
    simp only [set7] at p0 p1 p2 p3 p4 p5 p6
    have HB2 := Lib.hid (below_set7 (b := w.heap.size + 1) (HB1.out.trans (B1.mono HB1.out.size)) (Nat.le_succ _) (Nat.le_trans HB1.out.size B1.size) 0 0 0 0 0 0 0)
    clear S8 r0 B1 hw1
    go_wp2
    exact bodyPost_ret (v := .tuple #[.agg #[.int .i64 0, .int .i64 0, .int .i64 0, .int .i64 0, .int .i64 0, .int .i64 0, .int .i64 0], .bool false]) (by simp [results, Try.results40, go_sem, p0, p1, p2, p3, p4, p5, p6]) rfl (HN.out _ _ rfl HB2.out)
  | true =>
    have HI := Lib.hid (l11Is_any w.heap.size K W T m f a s W1 S.c0 S.c1 S.c2 S.c3 S.c4 S.c5 S.c6)
    rw [hB] at HI
    clear S R B
    cases hc : inR c 0 1000000000000000000 with
    | false =>
      have HN := Lib.hid (fun e w' => SSRet.no (w := w) (w' := w') (e := e) (show okS K W T m f a s c = false by simp [okS, hB, hc]))
      have HC := Lib.hid (fun w => l00In_any c 0 1000000000000000000 w)
      rw [hc] at HC
      clear hB hc
      go_enter Try.func40, Try.ntmps40
      go_wp2_with fail
      rw [← HW.out]
      refine HI.out.mono ?_
      rintro e w1 ⟨rfl, k1, hw1⟩
      have B1 : Below W1.heap.size W1 w1 := by rw [hw1]; exact below_drewN (Below.refl _ _) k1
      have r0 := HR.out.below B1 HR.out.lt
      have d0 := (r0).c0; have d1 := (r0).c1; have d2 := (r0).c2; have d3 := (r0).c3; have d4 := (r0).c4; have d5 := (r0).c5; have d6 := (r0).c6
      have g0 := (r0).frz 0; have g1 := (r0).frz 1; have g2 := (r0).frz 2; have g3 := (r0).frz 3; have g4 := (r0).frz 4; have g5 := (r0).frz 5; have g6 := (r0).frz 6
      have S8 := r0.set7 0 0 0 0 0 0 0
      have p0 := (S8).c0; have p1 := (S8).c1; have p2 := (S8).c2; have p3 := (S8).c3; have p4 := (S8).c4; have p5 := (S8).c5; have p6 := (S8).c6
      simp only [set7] at p0 p1 p2 p3 p4 p5 p6
      have HB2 := Lib.hid (below_set7 (b := w.heap.size + 1) (HB1.out.trans (B1.mono HB1.out.size)) (Nat.le_succ _) (Nat.le_trans HB1.out.size B1.size) 0 0 0 0 0 0 0)
      clear S8 r0 B1 hw1
      go_wp2_with fail
      refine (HC.out _).mono ?_
      rintro e w' ⟨rfl, rfl⟩
      go_wp2
      exact bodyPost_ret (v := .tuple #[.agg #[.int .i64 0, .int .i64 0, .int .i64 0, .int .i64 0, .int .i64 0, .int .i64 0, .int .i64 0], .bool false]) (by simp [results, Try.results40, go_sem, p0, p1, p2, p3, p4, p5, p6]) rfl (HN.out _ _ rfl HB2.out)
    | true =>
      have HY := Lib.hid (fun e w' => SSRet.yes (w := w) (w' := w') (e := e) (show okS K W T m f a s c = true by simp [okS, hB, hc]))
      have HC := Lib.hid (fun w => l00In_any c 0 1000000000000000000 w)
      rw [hc] at HC
      have HT := Lib.hid (fun w => specSkip_yes hB (by simpa using inR_true hc) w)
      clear hB hc
      unfold SkipR at HT
      generalize takeX K W T m f a s c = x at *
      go_enter Try.func40, Try.ntmps40
      go_wp2_with fail
      rw [← HW.out]
      refine HI.out.mono ?_
      rintro e w1 ⟨rfl, k1, hw1⟩
      have B1 : Below W1.heap.size W1 w1 := by rw [hw1]; exact below_drewN (Below.refl _ _) k1
      have t0 := HS.out.below B1 HS.out.lt
      have c0 := (t0).c0; have c1 := (t0).c1; have c2 := (t0).c2; have c3 := (t0).c3; have c4 := (t0).c4; have c5 := (t0).c5; have c6 := (t0).c6
      have HR1 := Lib.hid (HR.out.below B1 HR.out.lt)
      have HB2 := Lib.hid (HB1.out.trans (B1.mono HB1.out.size))
      clear t0 B1 hw1
      go_wp2_with fail
      refine (HC.out _).mono ?_
      rintro e w' ⟨rfl, rfl⟩
      go_wp2_with fail
      refine (HT.out _).mono ?_
      rintro e w2 ⟨rfl, hb2⟩
      have r0 := HR1.out.below hb2 HR1.out.lt
      have d0 := (r0).c0; have d1 := (r0).c1; have d2 := (r0).c2; have d3 := (r0).c3; have d4 := (r0).c4; have d5 := (r0).c5; have d6 := (r0).c6
      have g0 := (r0).frz 0; have g1 := (r0).frz 1; have g2 := (r0).frz 2; have g3 := (r0).frz 3; have g4 := (r0).frz 4; have g5 := (r0).frz 5; have g6 := (r0).frz 6
      have S8 := r0.set7 K W T m f a x
      have p0 := (S8).c0; have p1 := (S8).c1; have p2 := (S8).c2; have p3 := (S8).c3; have p4 := (S8).c4; have p5 := (S8).c5; have p6 := (S8).c6
      simp only [set7] at p0 p1 p2 p3 p4 p5 p6
      have HB3 := Lib.hid (below_set7 (b := w.heap.size + 1) (HB2.out.trans (hb2.mono HB2.out.size)) (Nat.le_succ _) (Nat.le_trans HB2.out.size hb2.size) K W T m f a x)
      clear S8 r0 hb2 c0 c1 c2 c3 c4 c5 c6
      go_wp2
      exact bodyPost_ret (v := .tuple #[.agg #[.int .i64 K, .int .i64 W, .int .i64 T, .int .i64 m, .int .i64 f, .int .i64 a, .int .i64 x], .bool true]) (by simp [results, Try.results40, go_sem, p0, p1, p2, p3, p4, p5, p6]) rfl (HY.out _ _ rfl HB3.out)
set_option maxHeartbeats 1000000 in
set_option maxRecDepth 100000 in
theorem implSS_any (K W T m f a s c : Int) (w : World) : Calls Try.prog 42 #[.agg #[.int .i64 K, .int .i64 W, .int .i64 T, .int .i64 m, .int .i64 f, .int .i64 a, .int .i64 s], .int .i64 c] w (SSRet K W T m f a s c w) := by
  obtain ⟨W1, hW1, S, R, B⟩ := two w K W T m f a s
  have HW := Lib.hid hW1
  have HS := Lib.hid S
  have HR := Lib.hid R
  have HB1 := Lib.hid B
  clear hW1
  cases hB : streamB K W T m f a s with
  | false =>
    have HN := Lib.hid (fun e w' => SSRet.no (w := w) (w' := w') (e := e) (show okS K W T m f a s c = false by simp [okS, hB]))
    have HI := Lib.hid (validStream_any K W T m f a s W1)
    rw [hB] at HI
    clear hB S R B
    go_enter Try.func42, Try.ntmps42
    go_wp2_with fail
    rw [← HW.out]
    refine HI.out.mono ?_
    rintro e w1 ⟨rfl, B1⟩
    have r0 := HR.out.below B1 HR.out.lt
    have d0 := (r0).c0; have d1 := (r0).c1; have d2 := (r0).c2; have d3 := (r0).c3; have d4 := (r0).c4; have d5 := (r0).c5; have d6 := (r0).c6
    have g0 := (r0).frz 0; have g1 := (r0).frz 1; have g2 := (r0).frz 2; have g3 := (r0).frz 3; have g4 := (r0).frz 4; have g5 := (r0).frz 5; have g6 := (r0).frz 6
    have S8 := r0.set7 0 0 0 0 0 0 0
    have p0 := (S8).c0; have p1 := (S8).c1; have p2 := (S8).c2; have p3 := (S8).c3; have p4 := (S8).c4; have p5 := (S8).c5; have p6 := (S8).c6
    simp only [set7] at p0 p1 p2 p3 p4 p5 p6
    have HB2 := Lib.hid (below_set7 (b := w.heap.size + 1) (HB1.out.trans (B1.mono HB1.out.size)) (Nat.le_succ _) (Nat.le_trans HB1.out.size B1.size) 0 0 0 0 0 0 0)
    clear S8 r0 B1
    go_wp2
    exact bodyPost_ret (v := .tuple #[.agg #[.int .i64 0, .int .i64 0, .int .i64 0, .int .i64 0, .int .i64 0, .int .i64 0, .int .i64 0], .bool false]) (by simp [results, Try.results42, go_sem, p0, p1, p2, p3, p4, p5, p6]) rfl (HN.out _ _ rfl HB2.out)
  | true =>
    have HI := Lib.hid (validStream_any K W T m f a s W1)
    rw [hB] at HI
    clear S R B
    cases hc : inR c 0 1000000000000000000 with
    | false =>
      have HN := Lib.hid (fun e w' => SSRet.no (w := w) (w' := w') (e := e) (show okS K W T m f a s c = false by simp [okS, hB, hc]))
      have HC := Lib.hid (fun w => inRange_any c 0 1000000000000000000 w)
      rw [hc] at HC
      clear hB hc
      go_enter Try.func42, Try.ntmps42
      go_wp2_with fail
      rw [← HW.out]
      refine HI.out.mono ?_
      rintro e w1 ⟨rfl, B1⟩
      have r0 := HR.out.below B1 HR.out.lt
      have d0 := (r0).c0; have d1 := (r0).c1; have d2 := (r0).c2; have d3 := (r0).c3; have d4 := (r0).c4; have d5 := (r0).c5; have d6 := (r0).c6
      have g0 := (r0).frz 0; have g1 := (r0).frz 1; have g2 := (r0).frz 2; have g3 := (r0).frz 3; have g4 := (r0).frz 4; have g5 := (r0).frz 5; have g6 := (r0).frz 6
      have S8 := r0.set7 0 0 0 0 0 0 0
      have p0 := (S8).c0; have p1 := (S8).c1; have p2 := (S8).c2; have p3 := (S8).c3; have p4 := (S8).c4; have p5 := (S8).c5; have p6 := (S8).c6
      simp only [set7] at p0 p1 p2 p3 p4 p5 p6
      have HB2 := Lib.hid (below_set7 (b := w.heap.size + 1) (HB1.out.trans (B1.mono HB1.out.size)) (Nat.le_succ _) (Nat.le_trans HB1.out.size B1.size) 0 0 0 0 0 0 0)
      clear S8 r0 B1
      go_wp2_with fail
      refine (HC.out _).mono ?_
      rintro e w' ⟨rfl, rfl⟩
      go_wp2
      exact bodyPost_ret (v := .tuple #[.agg #[.int .i64 0, .int .i64 0, .int .i64 0, .int .i64 0, .int .i64 0, .int .i64 0, .int .i64 0], .bool false]) (by simp [results, Try.results42, go_sem, p0, p1, p2, p3, p4, p5, p6]) rfl (HN.out _ _ rfl HB2.out)
    | true =>
      have HY := Lib.hid (fun e w' => SSRet.yes (w := w) (w' := w') (e := e) (show okS K W T m f a s c = true by simp [okS, hB, hc]))
      have HC := Lib.hid (fun w => inRange_any c 0 1000000000000000000 w)
      rw [hc] at HC
      have HT := Lib.hid (fun w => implSkip_yes hB (by simpa using inR_true hc) w)
      clear hB hc
      unfold SkipR at HT
      generalize takeX K W T m f a s c = x at *
      go_enter Try.func42, Try.ntmps42
      go_wp2_with fail
      rw [← HW.out]
      refine HI.out.mono ?_
      rintro e w1 ⟨rfl, B1⟩
      have t0 := HS.out.below B1 HS.out.lt
      have c0 := (t0).c0; have c1 := (t0).c1; have c2 := (t0).c2; have c3 := (t0).c3; have c4 := (t0).c4; have c5 := (t0).c5; have c6 := (t0).c6
      have HR1 := Lib.hid (HR.out.below B1 HR.out.lt)
      have HB2 := Lib.hid (HB1.out.trans (B1.mono HB1.out.size))
      clear t0 B1
      go_wp2_with fail
      refine (HC.out _).mono ?_
      rintro e w' ⟨rfl, rfl⟩
      go_wp2_with fail
      refine (HT.out _).mono ?_
      rintro e w2 ⟨rfl, hb2⟩
      have r0 := HR1.out.below hb2 HR1.out.lt
      have d0 := (r0).c0; have d1 := (r0).c1; have d2 := (r0).c2; have d3 := (r0).c3; have d4 := (r0).c4; have d5 := (r0).c5; have d6 := (r0).c6
      have g0 := (r0).frz 0; have g1 := (r0).frz 1; have g2 := (r0).frz 2; have g3 := (r0).frz 3; have g4 := (r0).frz 4; have g5 := (r0).frz 5; have g6 := (r0).frz 6
      have S8 := r0.set7 K W T m f a x
      have p0 := (S8).c0; have p1 := (S8).c1; have p2 := (S8).c2; have p3 := (S8).c3; have p4 := (S8).c4; have p5 := (S8).c5; have p6 := (S8).c6
      simp only [set7] at p0 p1 p2 p3 p4 p5 p6
      have HB3 := Lib.hid (below_set7 (b := w.heap.size + 1) (HB2.out.trans (hb2.mono HB2.out.size)) (Nat.le_succ _) (Nat.le_trans HB2.out.size hb2.size) K W T m f a x)
      clear S8 r0 hb2 c0 c1 c2 c3 c4 c5 c6
      go_wp2
      exact bodyPost_ret (v := .tuple #[.agg #[.int .i64 K, .int .i64 W, .int .i64 T, .int .i64 m, .int .i64 f, .int .i64 a, .int .i64 x], .bool true]) (by simp [results, Try.results42, go_sem, p0, p1, p2, p3, p4, p5, p6]) rfl (HY.out _ _ rfl HB3.out)
theorem ss_val (K W T m f a s c : Int) : ∃ (K' W' T' m' f' a' s' : Int) (r : Bool), ∀ (w : World) (e : Ending) (w' : World), SSRet K W T m f a s c w e w' → e = .returned (.tuple #[.agg #[.int .i64 K', .int .i64 W', .int .i64 T', .int .i64 m', .int .i64 f', .int .i64 a', .int .i64 s'], .bool r]) ∧ Below w.heap.size w w' := by
  cases h : okS K W T m f a s c with
  | false => exact ⟨0, 0, 0, 0, 0, 0, 0, false, fun w e w' hr => ⟨hr.2.1 h, hr.2.2⟩⟩
  | true => exact ⟨_, _, _, _, _, _, _, _, fun w e w' hr => ⟨hr.1 h, hr.2.2⟩⟩
set_option maxHeartbeats 1000000 in
theorem exactSkip_any (K W T m f a s c : Int) (w : World) :
    Calls Try.prog 8 #[.agg #[.int .i64 K, .int .i64 W, .int .i64 T, .int .i64 m, .int .i64 f, .int .i64 a, .int .i64 s], .int .i64 c] w fun e w' => e = .returned (.bool true) ∧ Below w.heap.size w w' := by
  obtain ⟨K', W', T', m', f', a', s', r, hv⟩ := ss_val K W T m f a s c
  have HT := Lib.hid (fun w => toStream_any K W T m f a s w)
  have HS := Lib.hid (fun w => (specSS_any K W T m f a s c w).mono fun e w' h => hv w e w' h)
  have HI := Lib.hid (fun w => (implSS_any K W T m f a s c w).mono fun e w' h => hv w e w' h)
  clear hv
  go_enter Try.func8, Try.ntmps8
  go_wp2_with fail
  refine (HT.out _).mono ?_; rintro e w1 ⟨rfl, hb1⟩
  go_wp2_with fail
  refine (HS.out _).mono ?_; rintro e w2 ⟨rfl, hb2⟩
  have hb := Base.Below.nextA hb1 hb2
  have HB := Lib.hid (Base.Below.boxed hb)
  obtain ⟨w3, hw3⟩ : ∃ w3, w3 = w2.alloc (.cells #[.int .i64 K', .int .i64 W', .int .i64 T', .int .i64 m', .int .i64 f', .int .i64 a', .int .i64 s'] 76) := ⟨_, rfl⟩
  have b3 : Below w2.heap.size w2 w3 := by rw [hw3]; exact (Below.refl _ _).alloc (Nat.le_refl _) _
  have n3 : SBox w3 w2.heap.size K' W' T' m' f' a' s' := by rw [hw3]; exact SBox.new _ _ _ _ _ _ _ _
  have hb3 := Base.Below.nextA hb b3
  have d0 : w3.cell? ⟨w.heap.size, 0, none⟩ = some (.int .i64 K) := box_cells hb3 0
  have d1 : w3.cell? ⟨w.heap.size, 1, none⟩ = some (.int .i64 W) := box_cells hb3 1
  have d2 : w3.cell? ⟨w.heap.size, 2, none⟩ = some (.int .i64 T) := box_cells hb3 2
  have d3 : w3.cell? ⟨w.heap.size, 3, none⟩ = some (.int .i64 m) := box_cells hb3 3
  have d4 : w3.cell? ⟨w.heap.size, 4, none⟩ = some (.int .i64 f) := box_cells hb3 4
  have d5 : w3.cell? ⟨w.heap.size, 5, none⟩ = some (.int .i64 a) := box_cells hb3 5
  have d6 : w3.cell? ⟨w.heap.size, 6, none⟩ = some (.int .i64 s) := box_cells hb3 6
  have HB3 := Lib.hid (Base.Below.boxed hb3)
  have N3 := Lib.hid n3
  have HW3 := Lib.hid hw3
  have go3 : ∀ i v, w3.cell? ⟨w.heap.size, i, none⟩ = some v → (w2.alloc (.cells #[.int .i64 K', .int .i64 W', .int .i64 T', .int .i64 m', .int .i64 f', .int .i64 a', .int .i64 s'] 76)).cell? ⟨w.heap.size, i, none⟩ = some v := fun i v h => by rw [← hw3]; exact h
  have e0 := go3 _ _ d0
  have e1 := go3 _ _ d1
  have e2 := go3 _ _ d2
  have e3 := go3 _ _ d3
  have e4 := go3 _ _ d4
  have e5 := go3 _ _ d5
  have e6 := go3 _ _ d6
  have c0 : w2.cell? ⟨w.heap.size, 0, none⟩ = some (.int .i64 K) := box_cells hb 0
  have c1 : w2.cell? ⟨w.heap.size, 1, none⟩ = some (.int .i64 W) := box_cells hb 1
  have c2 : w2.cell? ⟨w.heap.size, 2, none⟩ = some (.int .i64 T) := box_cells hb 2
  have c3 : w2.cell? ⟨w.heap.size, 3, none⟩ = some (.int .i64 m) := box_cells hb 3
  have c4 : w2.cell? ⟨w.heap.size, 4, none⟩ = some (.int .i64 f) := box_cells hb 4
  have c5 : w2.cell? ⟨w.heap.size, 5, none⟩ = some (.int .i64 a) := box_cells hb 5
  have c6 : w2.cell? ⟨w.heap.size, 6, none⟩ = some (.int .i64 s) := box_cells hb 6
  have hlt2 : w.heap.size < w2.heap.size := by have := hb.size; simp only [World.size_alloc] at this; omega
  clear hb1 hb2 hb b3 n3 hb3 hw3 go3 d0 d1 d2 d3 d4 d5 d6
  go_wp2_with fail
  rw [← HW3.out]
  refine (HT.out _).mono ?_; rintro e w4 ⟨rfl, hb4⟩
  go_wp2_with fail
  refine (HI.out _).mono ?_; rintro e w5 ⟨rfl, hb5⟩
  have hb := Base.Below.nextA hb4 hb5
  have n5 := N3.out.below hb N3.out.lt
  have HB5 := Lib.hid (HB3.out.trans (hb.mono HB3.out.size))
  have x0 := n5.c0
  have x1 := n5.c1
  have x2 := n5.c2
  have x3 := n5.c3
  have x4 := n5.c4
  have x5 := n5.c5
  have x6 := n5.c6
  have hlt5 := n5.lt
  clear hb4 hb5 hb n5 e0 e1 e2 e3 e4 e5 e6 c0 c1 c2 c3 c4 c5 c6
  go_wp2_with fail
  refine (eqStream_yes K' W' T' m' f' a' s' _).mono ?_
  rintro e w6 ⟨rfl, hb6⟩
  have HB6 := Lib.hid ((HB5.out.alloc HB5.out.size (.cells #[.int .i64 K', .int .i64 W', .int .i64 T', .int .i64 m', .int .i64 f', .int .i64 a', .int .i64 s'] 76)).trans (hb6.mono (by have := HB5.out.size; simp only [World.size_alloc]; omega)))
  clear hb6
  go_wp2
  go_ret
  exact ⟨rfl, HB6.out⟩
theorem exactSkip_v {v : Value} (h : Open.IsStream v) (c : Int) (w : World) : Calls Try.prog 8 #[v, .int .i64 c] w fun e w' => e = .returned (.bool true) ∧ Below w.heap.size w w' := by
  obtain ⟨K, W, T, m, f, a, s, rfl⟩ := h.ex
  exact exactSkip_any K W T m f a s c w
end Go.Proofs.Ytpflbcdbmainiaa.Skip
