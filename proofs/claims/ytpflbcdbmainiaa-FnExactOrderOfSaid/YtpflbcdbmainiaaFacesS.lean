/- Numbers drawn from a stream, of the reference; every case. -/
import Derived.Test.YtpflbcdbmainiaaFaces
namespace Go.Proofs.Ytpflbcdbmainiaa.Face
open Go.RowKit Go.Proofs.Ytpflbcdbmainiaa Go.Proofs.Ytpflbcdbmainiaa.Base Go.Proofs.Ytpflbcdbmainiaa.Mem Go.Proofs.Ytpflbcdbmainiaa.Reg Go.Proofs.Ytpflbcdbmainiaa.Str Go.Proofs.Ytpflbcdbmainiaa.Take Go.Proofs.Ytpflbcdbmainiaa.Skip Go.Proofs.Ytpflbcdbmainiaa.Dice
set_option linter.unusedVariables false
set_option maxHeartbeats 2000000 in
set_option maxRecDepth 100000 in
theorem specFaces_any (K W T m f a s n c : Int) (w : World) : Calls Try.prog 59 #[.agg #[.int .i64 K, .int .i64 W, .int .i64 T, .int .i64 m, .int .i64 f, .int .i64 a, .int .i64 s], .int .i64 n, .int .i64 c] w (FsRet K W T m f a (facesR K W T m f a s n c) w) := by
  obtain ⟨W1, hW1, S, R, B⟩ := two w K W T m f a s
  have HI := Lib.hid (l11Is_any w.heap.size K W T m f a s W1 S.c0 S.c1 S.c2 S.c3 S.c4 S.c5 S.c6)
  have HN := Lib.hid (fun w => l00In_any n 1 16 w)
  have HC := Lib.hid (fun w => l00In_any c 0 40 w)
  have HZ := Lib.hid (show W1.heap.size = w.heap.size + 2 by rw [hW1]; simp)
  have HW := Lib.hid hW1
  have HS := Lib.hid S
  have HR := Lib.hid R
  have HB1 := Lib.hid B
  clear hW1 S R B
  cases hB : streamB K W T m f a s with
  | false =>
    rw [hB] at HI
    have HNo := Lib.hid (facesR_no (K := K) (W := W) (T := T) (m := m) (f := f) (a := a) (s := s) (n := n) (c := c) (by rw [hB]; rfl))
    clear hB
    go_enter Try.func59, Try.ntmps59
    go_wp2_with fail
    rw [← HW.out]
    refine HI.out.mono ?_
    rintro e w1 ⟨rfl, k1, hw1⟩
    have b1 : Below W1.heap.size W1 w1 := by rw [hw1]; exact below_drewN (Below.refl _ _) k1
    have RZ := HR.out.below b1 HR.out.lt
    have BB := Lib.hid (HB1.out.trans (b1.mono HB1.out.size))
    clear b1 hw1
    have d0 := (RZ).c0; have d1 := (RZ).c1; have d2 := (RZ).c2; have d3 := (RZ).c3; have d4 := (RZ).c4; have d5 := (RZ).c5; have d6 := (RZ).c6
    have g0 := (RZ).frz 0; have g1 := (RZ).frz 1; have g2 := (RZ).frz 2; have g3 := (RZ).frz 3; have g4 := (RZ).frz 4; have g5 := (RZ).frz 5; have g6 := (RZ).frz 6
    have S8 := RZ.set7 0 0 0 0 0 0 0
    have p0 := (S8).c0; have p1 := (S8).c1; have p2 := (S8).c2; have p3 := (S8).c3; have p4 := (S8).c4; have p5 := (S8).c5; have p6 := (S8).c6
    simp only [set7] at p0 p1 p2 p3 p4 p5 p6
    have HBN := Lib.hid (below_set7 (b := w.heap.size + 1) BB.out (Nat.le_succ _) (BB.out).size 0 0 0 0 0 0 0)
    clear S8 RZ
    go_wp2
    exact bodyPost_ret (v := .tuple #[.slice none 0 0, .agg #[.int .i64 0, .int .i64 0, .int .i64 0, .int .i64 0, .int .i64 0, .int .i64 0, .int .i64 0], .bool false]) (by simp [results, Try.results59, go_sem, p0, p1, p2, p3, p4, p5, p6]) rfl (FsRet.no HNo.out rfl HBN.out)
  | true =>
    rw [hB] at HI
    cases hN : inR n 1 16 with
    | false =>
      rw [hN] at HN
      have HNo := Lib.hid (facesR_no (K := K) (W := W) (T := T) (m := m) (f := f) (a := a) (s := s) (n := n) (c := c) (by rw [hB, hN]; rfl))
      clear hB hN
      go_enter Try.func59, Try.ntmps59
      go_wp2_with fail
      rw [← HW.out]
      refine HI.out.mono ?_
      rintro e w1 ⟨rfl, k1, hw1⟩
      have b1 : Below W1.heap.size W1 w1 := by rw [hw1]; exact below_drewN (Below.refl _ _) k1
      have RZ := HR.out.below b1 HR.out.lt
      have BB := Lib.hid (HB1.out.trans (b1.mono HB1.out.size))
      clear b1 hw1
      go_wp2_with fail
      refine (HN.out _).mono ?_
      rintro e w' ⟨rfl, rfl⟩
      have d0 := (RZ).c0; have d1 := (RZ).c1; have d2 := (RZ).c2; have d3 := (RZ).c3; have d4 := (RZ).c4; have d5 := (RZ).c5; have d6 := (RZ).c6
      have g0 := (RZ).frz 0; have g1 := (RZ).frz 1; have g2 := (RZ).frz 2; have g3 := (RZ).frz 3; have g4 := (RZ).frz 4; have g5 := (RZ).frz 5; have g6 := (RZ).frz 6
      have S8 := RZ.set7 0 0 0 0 0 0 0
      have p0 := (S8).c0; have p1 := (S8).c1; have p2 := (S8).c2; have p3 := (S8).c3; have p4 := (S8).c4; have p5 := (S8).c5; have p6 := (S8).c6
      simp only [set7] at p0 p1 p2 p3 p4 p5 p6
      have HBN := Lib.hid (below_set7 (b := w.heap.size + 1) BB.out (Nat.le_succ _) (BB.out).size 0 0 0 0 0 0 0)
      clear S8 RZ
      go_wp2
      exact bodyPost_ret (v := .tuple #[.slice none 0 0, .agg #[.int .i64 0, .int .i64 0, .int .i64 0, .int .i64 0, .int .i64 0, .int .i64 0, .int .i64 0], .bool false]) (by simp [results, Try.results59, go_sem, p0, p1, p2, p3, p4, p5, p6]) rfl (FsRet.no HNo.out rfl HBN.out)
    | true =>
      rw [hN] at HN
      cases hC : inR c 0 40 with
      | false =>
        rw [hC] at HC
        have HNo := Lib.hid (facesR_no (K := K) (W := W) (T := T) (m := m) (f := f) (a := a) (s := s) (n := n) (c := c) (by rw [hB, hN, hC]; rfl))
        clear hB hN hC
        go_enter Try.func59, Try.ntmps59
        go_wp2_with fail
        rw [← HW.out]
        refine HI.out.mono ?_
        rintro e w1 ⟨rfl, k1, hw1⟩
        have b1 : Below W1.heap.size W1 w1 := by rw [hw1]; exact below_drewN (Below.refl _ _) k1
        have RZ := HR.out.below b1 HR.out.lt
        have BB := Lib.hid (HB1.out.trans (b1.mono HB1.out.size))
        clear b1 hw1
        go_wp2_with fail
        refine (HN.out _).mono ?_
        rintro e w' ⟨rfl, rfl⟩
        go_wp2_with fail
        refine (HC.out _).mono ?_
        rintro e w' ⟨rfl, rfl⟩
        have d0 := (RZ).c0; have d1 := (RZ).c1; have d2 := (RZ).c2; have d3 := (RZ).c3; have d4 := (RZ).c4; have d5 := (RZ).c5; have d6 := (RZ).c6
        have g0 := (RZ).frz 0; have g1 := (RZ).frz 1; have g2 := (RZ).frz 2; have g3 := (RZ).frz 3; have g4 := (RZ).frz 4; have g5 := (RZ).frz 5; have g6 := (RZ).frz 6
        have S8 := RZ.set7 0 0 0 0 0 0 0
        have p0 := (S8).c0; have p1 := (S8).c1; have p2 := (S8).c2; have p3 := (S8).c3; have p4 := (S8).c4; have p5 := (S8).c5; have p6 := (S8).c6
        simp only [set7] at p0 p1 p2 p3 p4 p5 p6
        have HBN := Lib.hid (below_set7 (b := w.heap.size + 1) BB.out (Nat.le_succ _) (BB.out).size 0 0 0 0 0 0 0)
        clear S8 RZ
        go_wp2
        exact bodyPost_ret (v := .tuple #[.slice none 0 0, .agg #[.int .i64 0, .int .i64 0, .int .i64 0, .int .i64 0, .int .i64 0, .int .i64 0, .int .i64 0], .bool false]) (by simp [results, Try.results59, go_sem, p0, p1, p2, p3, p4, p5, p6]) rfl (FsRet.no HNo.out rfl HBN.out)
      | true =>
        obtain ⟨n1, n2⟩ := inR_true hN
        obtain ⟨c1, c2⟩ := inR_true hC
        obtain ⟨N, rfl⟩ := Int.eq_ofNat_of_zero_le (show 0 ≤ n by omega)
        obtain ⟨C, rfl⟩ := Int.eq_ofNat_of_zero_le c1
        rw [facesR_yes (show 0 < N by omega) (by rw [hB, hN, hC]; rfl)]
        exact specFaces_yes hB N C (by omega) (by omega) (by omega) w
end Go.Proofs.Ytpflbcdbmainiaa.Face
