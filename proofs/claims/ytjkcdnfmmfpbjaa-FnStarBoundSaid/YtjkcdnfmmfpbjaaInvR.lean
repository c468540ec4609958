/- Numbers inverted at the point: quotients and fractions, the program's inverse. -/
import Derived.Test.YtjkcdnfmmfpbjaaInvQ
namespace Go.Proofs.Ytjkcdnfmmfpbjaa.Inv
open Go.RowKit Go.Proofs.Ytjkcdnfmmfpbjaa Go.Proofs.Ytjkcdnfmmfpbjaa.Base Go.Proofs.Ytjkcdnfmmfpbjaa.Mem Go.Proofs.Ytjkcdnfmmfpbjaa.NatM Go.Proofs.Ytjkcdnfmmfpbjaa.Nat32
set_option linter.unusedVariables false
/-- a ratio is laid into the three cells of a result -/
theorem rat_store {w w1 : World} {b p q : Nat} {b0 : Bool} {a1 a2 : Option Addr} {n1 k1 n2 k2 : Nat} {A1 A2 : Option Addr} {c1 c2 : Nat} (hr : Rat3 w1 b (.bool b0) (.slice a1 n1 k1) (.slice a2 n2 k2)) (h1 : RdU w1 w1.heap.size A1 (natL p)) (h2 : RdU w1 w1.heap.size A2 (natL q))
    (hb : Below w.heap.size w w1) (hle : w.heap.size ≤ b) :
    Rat3 (w1.setCell ⟨b, 0, none⟩ (.bool false)) b (.bool false) (.slice a1 n1 k1) (.slice a2 n2 k2) ∧
    Rat3 ((w1.setCell ⟨b, 0, none⟩ (.bool false)).setCell ⟨b, 1, none⟩ (.slice A1 (natL p).length c1)) b (.bool false) (.slice A1 (natL p).length c1) (.slice a2 n2 k2) ∧
    Rat3 (((w1.setCell ⟨b, 0, none⟩ (.bool false)).setCell ⟨b, 1, none⟩ (.slice A1 (natL p).length c1)).setCell ⟨b, 2, none⟩ (.slice A2 (natL q).length c2)) b (.bool false) (.slice A1 (natL p).length c1) (.slice A2 (natL q).length c2) ∧
    RatRet p q w (.returned (.agg #[.bool false, .slice A1 (natL p).length c1, .slice A2 (natL q).length c2])) (((w1.setCell ⟨b, 0, none⟩ (.bool false)).setCell ⟨b, 1, none⟩ (.slice A1 (natL p).length c1)).setCell ⟨b, 2, none⟩ (.slice A2 (natL q).length c2)) := by
  have m6 := hr.set0 (.bool false)
  have m7 := m6.set1 (.slice A1 (natL p).length c1)
  have m8 := m7.set2 (.slice A2 (natL q).length c2)
  refine ⟨m6, m7, m8, A1, c1, A2, c2, rfl, ?_, ?_, ?_⟩
  · simp only [World.size_setCell]
    exact ((h1.non hr.c0 (not_bool _) _).non m6.c1 (not_slice _ _ _) _).non m7.c2 (not_slice _ _ _) _
  · simp only [World.size_setCell]
    exact ((h2.non hr.c0 (not_bool _) _).non m6.c1 (not_slice _ _ _) _).non m7.c2 (not_slice _ _ _) _
  · exact ((hb.setCell hle _).setCell hle _).setCell hle _
set_option maxHeartbeats 1000000 in
theorem whole0 (w : World) : Calls Try.prog 94 #[.int .i64 0] w (RatRet 0 1 w) := by
  obtain ⟨W0, hW0⟩ : ∃ W0, W0 = w.alloc (.cells #[.bool false, .slice none 0 0, .slice none 0 0] 76) := ⟨_, rfl⟩
  have hB0 : Below w.heap.size w W0 := by rw [hW0]; exact (Below.refl _ _).alloc (Nat.le_refl _) _
  have r1 : Rat3 W0 w.heap.size (.bool false) (.slice none 0 0) (.slice none 0 0) := by rw [hW0]; exact Rat3.new w _ _ _ _
  have hz0 : w.heap.size < W0.heap.size := by rw [hW0]; simp
  have HC := Lib.hid (ratioOf01 W0)
  go_enter Try.func94, Try.ntmps94
  go_wp2_with fail
  rw [← hW0]
  refine HC.out.mono ?_
  rintro e w1 ⟨A1, c1, A2, c2, rfl, h1, h2, hb1⟩
  clear hW0 HC
  have q1 := r1.below hb1 hz0
  have hb := hB0.trans (hb1.mono hB0.size)
  clear r1 hb1 hB0 hz0
  obtain ⟨m6, m7, m8, HR⟩ := rat_store (c1 := c1) (c2 := c2) q1 h1 h2 hb (Nat.le_refl _)
  have HRH := Lib.hid HR
  clear HR
  obtain ⟨d0, d1, d2, df0, df1, df2⟩ := q1
  obtain ⟨m60, m61, m62, mf60, mf61, mf62⟩ := m6
  obtain ⟨m70, m71, m72, mf70, mf71, mf72⟩ := m7
  obtain ⟨m80, m81, m82, mf80, mf81, mf82⟩ := m8
  go_wp2
  refine bodyPost_ret (v := .agg #[.bool false, .slice A1 (natL 0).length c1, .slice A2 (natL 1).length c2]) (by simp [results, Try.results94, go_sem, m80, m81, m82]) rfl HRH.out
set_option maxHeartbeats 1000000 in
theorem lowest_zero (A A' : Option Addr) (c n' c' : Nat) (w : World) : Calls Try.prog 79 #[.agg #[.bool false, .slice A 0 c, .slice A' n' c']] w (RatRet 0 1 w) := by
  obtain ⟨W0, hW0⟩ : ∃ W0, W0 = (w.alloc (.cells #[.bool false, .slice A 0 c, .slice A' n' c'] 76)).alloc (.cells #[.bool false, .slice none 0 0, .slice none 0 0] 76) := ⟨_, rfl⟩
  have hB0 : Below w.heap.size w W0 := by rw [hW0]; exact ((Below.refl _ _).alloc (Nat.le_refl _) _).alloc (by simp) _
  have r1 : Rat3 W0 (w.heap.size + 1) (.bool false) (.slice none 0 0) (.slice none 0 0) := by
    rw [hW0]
    have := Rat3.new (w.alloc (.cells #[.bool false, .slice A 0 c, .slice A' n' c'] 76)) (.bool false) (.slice none 0 0) (.slice none 0 0) 76
    simpa using this
  have hz0 : w.heap.size + 1 < W0.heap.size := by rw [hW0]; simp
  have HC := Lib.hid (whole0 W0)
  go_enter Try.func79, Try.ntmps79
  go_wp2_with fail
  rw [← hW0]
  refine HC.out.mono ?_
  rintro e w1 ⟨A1, c1, A2, c2, rfl, h1, h2, hb1⟩
  clear hW0 HC
  have q1 := r1.below hb1 hz0
  have hb := hB0.trans (hb1.mono hB0.size)
  clear r1 hb1 hB0 hz0
  obtain ⟨m6, m7, m8, HR⟩ := rat_store (c1 := c1) (c2 := c2) q1 h1 h2 hb (Nat.le_succ _)
  have HRH := Lib.hid HR
  clear HR
  obtain ⟨d0, d1, d2, df0, df1, df2⟩ := q1
  obtain ⟨m60, m61, m62, mf60, mf61, mf62⟩ := m6
  obtain ⟨m70, m71, m72, mf70, mf71, mf72⟩ := m7
  obtain ⟨m80, m81, m82, mf80, mf81, mf82⟩ := m8
  go_wp2
  refine bodyPost_ret (v := .agg #[.bool false, .slice A1 (natL 0).length c1, .slice A2 (natL 1).length c2]) (by simp [results, Try.results79, go_sem, m80, m81, m82]) rfl HRH.out
theorem lowest_any (v u : Nat) (A A' : Option Addr) (c c' : Nat) (w : World) (hx : RdU w w.heap.size A (natL v)) (hy : RdU w w.heap.size A' (natL u)) (hv : v ≤ 36000000) (hu : u ≤ 36000000) (hu0 : 0 < u) :
    Calls Try.prog 79 #[.agg #[.bool false, .slice A (natL v).length c, .slice A' (natL u).length c']] w (RatRet (v / Nat.gcd v u) (u / Nat.gcd v u) w) := by
  rcases Nat.eq_zero_or_pos v with rfl | hv0
  · rw [natL_zero, List.length_nil, Nat.zero_div, Nat.gcd_zero_left, Nat.div_self hu0]
    exact lowest_zero A A' c _ c' w
  · exact lowest_pos v u A A' c c' w hx hy hv hu hv0 hu0
set_option maxHeartbeats 1000000 in
theorem quotient_any (v u : Nat) (w : World) (hv : v ≤ 36000000) (hu : u ≤ 36000000) (hu0 : 0 < u) : Calls Try.prog 55 #[.int .i64 (v : Int), .int .i64 (u : Int)] w (RatRet (v / Nat.gcd v u) (u / Nat.gcd v u) w) := by
  obtain ⟨W0, hW0⟩ : ∃ W0, W0 = w.alloc (.cells #[.bool false, .slice none 0 0, .slice none 0 0] 76) := ⟨_, rfl⟩
  have hB0 : Below w.heap.size w W0 := by rw [hW0]; exact (Below.refl _ _).alloc (Nat.le_refl _) _
  have r1 : Rat3 W0 w.heap.size (.bool false) (.slice none 0 0) (.slice none 0 0) := by rw [hW0]; exact Rat3.new w _ _ _ _
  have hz0 : w.heap.size < W0.heap.size := by rw [hW0]; simp
  have HS := Lib.hid (fun W => size_any v hv W)
  have HN1 := Lib.hid (naturalOf_any v (by omega) W0)
  have HN2 := Lib.hid (fun W => naturalOf_any u (by omega) W)
  have HL := Lib.hid (fun A A' c c' W hx hy => lowest_any v u A A' c c' W hx hy hv hu hu0)
  generalize v / Nat.gcd v u = P at *
  generalize u / Nat.gcd v u = Q at *
  go_enter Try.func55, Try.ntmps55
  go_wp2_with (go_at_call 78; refine (HS.out _).mono ?_; rintro e w1 ⟨rfl, rfl⟩)
  rw [← hW0]
  refine HN1.out.mono ?_
  rintro e w1 ⟨A3, c3, rfl, h3, hb1⟩
  have H3 := Lib.hid h3
  have HB1 := Lib.hid hb1
  clear h3 hb1 hW0
  go_wp2_with fail
  refine (HN2.out _).mono ?_
  rintro e w2 ⟨A4, c4, rfl, h4, hb2⟩
  have HLL := Lib.hid (HL.out A3 A4 c3 c4 w2 ((H3.out.below hb2 (Nat.le_refl _)).more hb2.size) h4)
  have HB2 := Lib.hid (HB1.out.trans (hb2.mono HB1.out.size))
  clear h4 hb2
  go_wp2_with fail
  refine HLL.out.mono ?_
  rintro e w3 ⟨A1, c1, A2, c2, rfl, h1, h2, hb3⟩
  have hb03 := HB2.out.trans (hb3.mono HB2.out.size)
  have q1 := r1.below hb03 hz0
  have hb := hB0.trans (hb03.mono hB0.size)
  clear r1 hb03 hb3 hB0 hz0 HLL HL HN1 HN2 HS H3 HB1 HB2
  obtain ⟨m6, m7, m8, HR⟩ := rat_store (c1 := c1) (c2 := c2) q1 h1 h2 hb (Nat.le_refl _)
  have HRH := Lib.hid HR
  clear HR
  obtain ⟨d0, d1, d2, df0, df1, df2⟩ := q1
  obtain ⟨m60, m61, m62, mf60, mf61, mf62⟩ := m6
  obtain ⟨m70, m71, m72, mf70, mf71, mf72⟩ := m7
  obtain ⟨m80, m81, m82, mf80, mf81, mf82⟩ := m8
  go_wp2
  refine bodyPost_ret (v := .agg #[.bool false, .slice A1 (natL P).length c1, .slice A2 (natL Q).length c2]) (by simp [results, Try.results55, go_sem, m80, m81, m82]) rfl HRH.out
theorem fraction_any (p q : Nat) (A A' : Option Addr) (c c' : Nat) (w : World) (hx : RdU w w.heap.size A (natL p)) (hy : RdU w w.heap.size A' (natL q)) (hp : p ≤ 36000000) (hq : q ≤ 36000000) :
    Calls Try.prog 56 #[.agg #[.bool false, .slice A (natL p).length c, .slice A' (natL q).length c']] w fun e w' => e = .returned (.tuple #[.agg #[.int .i64 (p : Int), .int .i64 (q : Int)], .bool true]) ∧ Below w.heap.size w w' := by
  have HB : Hid (Below w.heap.size w ((w.alloc (.cells #[.bool false, .slice A (natL p).length c, .slice A' (natL q).length c'] 76)).alloc (.cells #[.int .i64 0, .int .i64 0] 23))) := Lib.hid (((Below.refl _ _).alloc (Nat.le_refl _) _).alloc (by simp) _)
  have H1 := Lib.hid (fun W (h : Below w.heap.size w W) => small_yes p A c w.heap.size W (hx.below h (Nat.le_refl _)) (by omega))
  have H2 := Lib.hid (fun W (h : Below w.heap.size w W) => small_yes q A' c' w.heap.size W (hy.below h (Nat.le_refl _)) (by omega))
  clear hx hy
  generalize (natL p).length = n at *
  generalize (natL q).length = n' at *
  go_enter Try.func56, Try.ntmps56
  go_wp2_with fail
  refine (H1.out _ HB.out).mono ?_
  rintro e w1 ⟨rfl, rfl⟩
  go_wp2_with fail
  refine (H2.out _ HB.out).mono ?_
  rintro e w1 ⟨rfl, rfl⟩
  go_wp2
  refine bodyPost_ret (v := .tuple #[.agg #[.int .i64 (p : Int), .int .i64 (q : Int)], .bool true]) (by simp [results, Try.results56, go_sem]) rfl ⟨rfl, ?_⟩
  exact ((Below.refl _ _).alloc (Nat.le_refl _) _).alloc (by simp) _
end Go.Proofs.Ytjkcdnfmmfpbjaa.Inv
