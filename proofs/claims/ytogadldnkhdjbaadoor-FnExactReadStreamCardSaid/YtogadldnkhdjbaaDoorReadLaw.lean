/- The law on a stream that is read from its text. -/
import Derived.Test.YtogadldnkhdjbaaDoorReadI
import Derived.Test.YtogadldnkhdjbaaDoorTakeExact
import Derived.Test.YtogadldnkhdjbaaDoorOpenT
namespace Go.Proofs.YtogadldnkhdjbaaDoor.Rd
open Go.RowKit Go.Proofs.YtogadldnkhdjbaaDoor Go.Proofs.YtogadldnkhdjbaaDoor.Base Go.Proofs.YtogadldnkhdjbaaDoor.Mem Go.Proofs.YtogadldnkhdjbaaDoor.Dec Go.Proofs.YtogadldnkhdjbaaDoor.LabM Go.Proofs.YtogadldnkhdjbaaDoor.RecJ Go.Proofs.YtogadldnkhdjbaaDoor.CutP Go.Proofs.YtogadldnkhdjbaaDoor.Val Go.Proofs.YtogadldnkhdjbaaDoor.Str Go.Proofs.YtogadldnkhdjbaaDoor.Take
set_option linter.unusedVariables false
theorem powMore {B C : Nat} {w : World} (h : Pow B w) (hBC : B ≤ C) : Pow C w := fun w' hb => h w' (hb.mono hBC)
theorem errMore {B C : Nat} {w : World} (h : Errs B w) (hBC : B ≤ C) : Errs C w := by
  obtain ⟨e1, e2, h1, h2, h3⟩ := h
  exact ⟨e1, e2, Nat.lt_of_lt_of_le h1 hBC, Nat.lt_of_lt_of_le h2 hBC, h3⟩
theorem maxMore {B C : Nat} {w : World} (h : MaxL B w) (hBC : B ≤ C) : MaxL C w := by
  obtain ⟨m, h1, h2⟩ := h
  exact ⟨m, Nat.lt_of_lt_of_le h1 hBC, h2⟩
def StRet (K W T m f a s : Int) (r : Bool) (w : World) (e : Ending) (w' : World) : Prop := e = .returned (.tuple #[.agg #[.int .i64 K, .int .i64 W, .int .i64 T, .int .i64 m, .int .i64 f, .int .i64 a, .int .i64 s], .bool r]) ∧ Below w.heap.size w w'
theorem rd_both (R : Option S7) : ∃ (K W T m f a s : Int) (r : Bool), ∀ w e w', RdRet R w e w' → StRet K W T m f a s r w e w' := by
  cases R with
  | none => exact ⟨0, 0, 0, 0, 0, 0, 0, false, fun w e w' h => ⟨h.2.1 rfl, h.2.2⟩⟩
  | some t =>
    obtain ⟨K, W, T, m, f, a, s⟩ := t
    exact ⟨K, W, T, m, f, a, s, true, fun w e w' h => ⟨(h.1 K W T m f a s rfl).2, h.2.2⟩⟩
theorem specRead_st {R : Option S7} {K W T m f a s : Int} {r : Bool} (t : ByteArray) (hs : t.size ≤ 1048576) (hR : rdO t.data.toList = R) (hv : ∀ w e w', RdRet R w e w' → StRet K W T m f a s r w e w') (w : World) :
    Calls Tryd.prog 12 #[.string t] w (StRet K W T m f a s r w) := by
  obtain ⟨W1, hW1⟩ : ∃ W1, W1 = w.alloc (.cells #[.int .i64 0, .int .i64 0, .int .i64 0, .int .i64 0, .int .i64 0, .int .i64 0, .int .i64 0] 40) := ⟨_, rfl⟩
  have R1 : SBox W1 w.heap.size 0 0 0 0 0 0 0 := by rw [hW1]; exact SBox.new _ _ _ _ _ _ _ _
  have B1 : Below w.heap.size w W1 := by rw [hW1]; exact (Below.refl _ _).alloc (Nat.le_refl _) _
  have HC := Lib.hid ((l11Read_any t hs W1).mono fun e w' h => hv W1 e w' (hR ▸ h))
  have HW := Lib.hid hW1
  have HR1 := Lib.hid R1
  have HB1 := Lib.hid B1
  clear hW1 R1 B1 hv hR
  go_enter Tryd.func12, Tryd.ntmps12
  go_wp2_with fail
  rw [← HW.out]
  refine HC.out.mono ?_
  rintro e w7 ⟨rfl, b7⟩
  have RZ := HR1.out.below b7 HR1.out.lt
  have BB7 := Lib.hid (HB1.out.trans (b7.mono HB1.out.size))
  clear b7
  have d0 := (RZ).c0; have d1 := (RZ).c1; have d2 := (RZ).c2; have d3 := (RZ).c3; have d4 := (RZ).c4; have d5 := (RZ).c5; have d6 := (RZ).c6
  have g0 := (RZ).frz 0; have g1 := (RZ).frz 1; have g2 := (RZ).frz 2; have g3 := (RZ).frz 3; have g4 := (RZ).frz 4; have g5 := (RZ).frz 5; have g6 := (RZ).frz 6
  have S8 := RZ.set7 K W T m f a s
  have p0 := (S8).c0; have p1 := (S8).c1; have p2 := (S8).c2; have p3 := (S8).c3; have p4 := (S8).c4; have p5 := (S8).c5; have p6 := (S8).c6
  simp only [set7] at p0 p1 p2 p3 p4 p5 p6
  have HBN := Lib.hid (below7 (b := w.heap.size) BB7.out (Nat.le_refl _) BB7.out.size K W T m f a s)
  clear S8 RZ
  go_wp2
  exact bodyPost_ret (v := .tuple #[.agg #[.int .i64 K, .int .i64 W, .int .i64 T, .int .i64 m, .int .i64 f, .int .i64 a, .int .i64 s], .bool r]) (by simp [results, Tryd.results12, go_sem, p0, p1, p2, p3, p4, p5, p6]) rfl ⟨rfl, HBN.out⟩
set_option maxHeartbeats 2000000 in
set_option maxRecDepth 100000 in
theorem exactRead_any (t : ByteArray) (w : World) (hp : Pow w.heap.size w) (he : Errs w.heap.size w) (hm : MaxL w.heap.size w) (ht : t.size ≤ 9223372036854775807) :
    Calls Tryd.prog 4 #[.string t] w fun e w' => e = .returned (.bool true) ∧ Below w.heap.size w w' := by
  by_cases hlong : 1048576 < t.size
  · go_enter Tryd.func4, Tryd.ntmps4
    go_wp2
    go_ret
    exact ⟨rfl, Below.refl _ _⟩
  have hs : t.size ≤ 1048576 := by omega
  obtain ⟨R, hR⟩ : ∃ R, rdO t.data.toList = R := ⟨_, rfl⟩
  obtain ⟨K, W, T, m, f, a, s, r, hv⟩ := rd_both R
  have HS := Lib.hid (fun w => specRead_st t hs hR hv w)
  have HI := Lib.hid (fun (w1 : World) (hb : Below w.heap.size w w1) => (implRead_any t hs w1 (powMore (hp.on hb) hb.size) (errMore (he.on hb) hb.size) (maxMore (hm.on hb) hb.size)).mono fun e w' h => hv w1 e w' (hR ▸ h))
  have hok : (r != r) = false := by simp
  clear hv hR hp he hm hlong
  go_enter Tryd.func4, Tryd.ntmps4
  go_wp2_with fail
  refine (HS.out _).mono ?_
  rintro e w1 ⟨rfl, hb1⟩
  obtain ⟨W2, hW2⟩ : ∃ W2, W2 = w1.alloc (.cells #[.int .i64 K, .int .i64 W, .int .i64 T, .int .i64 m, .int .i64 f, .int .i64 a, .int .i64 s] 40) := ⟨_, rfl⟩
  have k2 : SBox W2 w1.heap.size K W T m f a s := by rw [hW2]; exact SBox.new _ _ _ _ _ _ _ _
  have b2 : Below w.heap.size w W2 := by rw [hW2]; exact hb1.alloc hb1.size _
  have K2 := Lib.hid k2
  have B2 := Lib.hid b2
  have H2 := Lib.hid hW2
  clear hW2 k2 b2 hb1
  go_wp2_with fail
  rw [← H2.out]
  refine (HI.out _ B2.out).mono ?_
  rintro e w3 ⟨rfl, hb3⟩
  have k3 := K2.out.below hb3 K2.out.lt
  have b3 := B2.out.trans (hb3.mono B2.out.size)
  obtain ⟨W4, hW4⟩ : ∃ W4, W4 = w3.alloc (.cells #[.int .i64 K, .int .i64 W, .int .i64 T, .int .i64 m, .int .i64 f, .int .i64 a, .int .i64 s] 40) := ⟨_, rfl⟩
  have n4 : SBox W4 w3.heap.size K W T m f a s := by rw [hW4]; exact SBox.new _ _ _ _ _ _ _ _
  have x4 : Below w3.heap.size w3 W4 := by rw [hW4]; exact (Below.refl _ _).alloc (Nat.le_refl _) _
  have k4 := k3.below x4 k3.lt
  have B4 := Lib.hid (b3.trans (x4.mono b3.size))
  have H4 := Lib.hid hW4
  have x0 := (n4).c0; have x1 := (n4).c1; have x2 := (n4).c2; have x3 := (n4).c3; have x4 := (n4).c4; have x5 := (n4).c5; have x6 := (n4).c6
  have y0 := (k4).c0; have y1 := (k4).c1; have y2 := (k4).c2; have y3 := (k4).c3; have y4 := (k4).c4; have y5 := (k4).c5; have y6 := (k4).c6
  rw [hW4] at x0 x1 x2 x3 x4 x5 x6 y0 y1 y2 y3 y4 y5 y6
  clear hW4 n4 k4 k3 b3 hb3
  go_wp2_with fail
  rw [← H4.out]
  refine (eqStream_yes K W T m f a s _).mono ?_
  rintro e w6 ⟨rfl, hb6⟩
  have BE := Lib.hid (B4.out.trans (hb6.mono B4.out.size))
  go_wp2
  go_ret
  exact ⟨rfl, BE.out⟩
theorem exactRead_v {w : World} {v : Value} (h : Open.IsText w v) (hp : Pow w.heap.size w) (he : Errs w.heap.size w) (hm : MaxL w.heap.size w) : Calls Tryd.prog 4 #[v] w fun e w' => e = .returned (.bool true) ∧ Below w.heap.size w w' := by
  obtain ⟨t, rfl, ht⟩ := h.ex
  exact exactRead_any t w hp he hm ht
end Go.Proofs.YtogadldnkhdjbaaDoor.Rd
