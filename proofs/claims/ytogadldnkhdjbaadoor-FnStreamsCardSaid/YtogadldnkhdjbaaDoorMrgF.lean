/- A stream's text is read back; bits taken twice are those taken at once: plain. -/
import Derived.Test.YtogadldnkhdjbaaDoorMrgB
import Derived.Test.YtogadldnkhdjbaaDoorStTxI
import Derived.Test.YtogadldnkhdjbaaDoorMrgD
import Derived.Test.YtogadldnkhdjbaaDoorTakeExact
import Derived.Test.YtogadldnkhdjbaaDoorOpenT
import Derived.Test.YtogadldnkhdjbaaDoorMrgE
namespace Go.Proofs.YtogadldnkhdjbaaDoor.StrM
open Go.RowKit Go.Proofs.YtogadldnkhdjbaaDoor Go.Proofs.YtogadldnkhdjbaaDoor.Base Go.Proofs.YtogadldnkhdjbaaDoor.Mem Go.Proofs.YtogadldnkhdjbaaDoor.Dec Go.Proofs.YtogadldnkhdjbaaDoor.LabM Go.Proofs.YtogadldnkhdjbaaDoor.RecJ Go.Proofs.YtogadldnkhdjbaaDoor.CutP Go.Proofs.YtogadldnkhdjbaaDoor.Val Go.Proofs.YtogadldnkhdjbaaDoor.Str Go.Proofs.YtogadldnkhdjbaaDoor.Take Go.Proofs.YtogadldnkhdjbaaDoor.Rd Go.Proofs.YtogadldnkhdjbaaDoor.StTx Go.Proofs.YtogadldnkhdjbaaDoor.CycM
set_option linter.unusedVariables false
theorem cut_at {c : UInt8} {a b : List UInt8} (h : ∀ x ∈ a, x ≠ c) : cutR c (a ++ c :: b) = a :: cutR c b := by
  have hat : At (a ++ c :: b) c (some a.length) := At.of (by simp) fun j hj => by
    rw [List.getElem?_append_left hj, List.getElem?_eq_getElem hj]
    intro e
    exact h _ (List.getElem_mem hj) (Option.some.inj e)
  rw [cutR_yes hat]
  simp
theorem cut_end {c : UInt8} {a : List UInt8} (h : ∀ x ∈ a, x ≠ c) : cutR c a = [a] := cutR_no (At.none_of fun j hj => by
  rw [List.getElem?_eq_getElem hj]
  intro e
  exact h _ (List.getElem_mem hj) (Option.some.inj e))
theorem dec58 (u : Nat) : ∀ x ∈ Lib.decDigits u, x ≠ 58 := fun x hx e => by
  have := (digs_dec u).1 x hx
  rw [e] at this
  exact absurd this.2 (by decide)
theorem valO_dec {u : Nat} (h : u ≤ 1000000000000000) : valO (Lib.decDigits u) = some (u : Int) := valO_yes ⟨itoa_pos u, by omega, by omega⟩
theorem read_text {K W T m f a s : Int} (hB : streamB K W T m f a s = true) : rdO (textS K W T m f a s) = some (K, W, T, m, f, a, s) := by
  rcases streamB_true hB with ⟨hK, hR⟩ | ⟨hK, hC⟩
  · have hz : zc m f a = true := by
      unfold streamB at hB; rw [if_pos hK, Bool.and_eq_true] at hB; exact hB.1
    simp only [zc, Bool.and_eq_true, beq_iff_eq] at hz
    obtain ⟨rfl, rfl, rfl⟩ := hz
    obtain ⟨_, hf⟩ := fit3 hR
    subst hK
    have hW := hf 0 (by simp)
    have hT := hf 1 (by simp)
    have hs := hf 2 (by simp)
    simp only [List.getD_cons_zero, List.getD_cons_succ] at hW hT hs
    obtain ⟨V, rfl⟩ := Int.eq_ofNat_of_zero_le hW.1
    obtain ⟨A, rfl⟩ := Int.eq_ofNat_of_zero_le hT.1
    obtain ⟨X, rfl⟩ := Int.eq_ofNat_of_zero_le hs.1
    have et : textS 0 (V : Int) A 0 0 0 X = [114] ++ 58 :: (Lib.decDigits V ++ 58 :: (Lib.decDigits A ++ 58 :: Lib.decDigits X)) := by
      simp [textS, joinTo, nAt]
    have ec : cutR 58 (textS 0 (V : Int) A 0 0 0 X) = [[114], Lib.decDigits V, Lib.decDigits A, Lib.decDigits X] := by
      rw [et, cut_at (by intro x hx; rw [List.mem_singleton.1 hx]; decide), cut_at (dec58 V), cut_at (dec58 A), cut_end (dec58 X)]
    have hok : okW ((cutR 58 (textS 0 (V : Int) A 0 0 0 X)).drop 1) := by
      rw [ec]
      intro e he
      simp only [List.drop_succ_cons, List.drop_zero, List.mem_cons, List.not_mem_nil, or_false] at he
      rcases he with rfl | rfl | rfl
      · exact ⟨_, valO_dec (by omega)⟩
      · exact ⟨_, valO_dec (by omega)⟩
      · exact ⟨_, valO_dec (by omega)⟩
    rw [rdO_some (t := (0, (V : Int), (A : Int), 0, 0, 0, (X : Int))) hok (by rw [ec]; simp [stO, nsOf, valO_dec (u := V) (by omega), valO_dec (u := A) (by omega), valO_dec (u := X) (by omega)])]
    exact if_pos hB
  · have hz : zr W T = true := by
      unfold streamB at hB; rw [if_neg (by omega), if_pos hK, Bool.and_eq_true] at hB; exact hB.1
    simp only [zr, Bool.and_eq_true, beq_iff_eq] at hz
    obtain ⟨rfl, rfl⟩ := hz
    obtain ⟨_, hf⟩ := fit4 hC
    subst hK
    have h0 := hf 0 (by simp)
    have h1 := hf 1 (by simp)
    have h2 := hf 2 (by simp)
    have h3 := hf 3 (by simp)
    simp only [List.getD_cons_zero, List.getD_cons_succ] at h0 h1 h2 h3
    obtain ⟨M, rfl⟩ := Int.eq_ofNat_of_zero_le h0.1
    obtain ⟨F, rfl⟩ := Int.eq_ofNat_of_zero_le h1.1
    obtain ⟨A, rfl⟩ := Int.eq_ofNat_of_zero_le h2.1
    obtain ⟨X, rfl⟩ := Int.eq_ofNat_of_zero_le h3.1
    have et : textS 1 0 0 (M : Int) F A X = [99] ++ 58 :: (Lib.decDigits M ++ 58 :: (Lib.decDigits F ++ 58 :: (Lib.decDigits A ++ 58 :: Lib.decDigits X))) := by
      simp [textS, joinTo, nAt]
    have ec : cutR 58 (textS 1 0 0 (M : Int) F A X) = [[99], Lib.decDigits M, Lib.decDigits F, Lib.decDigits A, Lib.decDigits X] := by
      rw [et, cut_at (by intro x hx; rw [List.mem_singleton.1 hx]; decide), cut_at (dec58 M), cut_at (dec58 F), cut_at (dec58 A), cut_end (dec58 X)]
    have hok : okW ((cutR 58 (textS 1 0 0 (M : Int) F A X)).drop 1) := by
      rw [ec]
      intro e he
      simp only [List.drop_succ_cons, List.drop_zero, List.mem_cons, List.not_mem_nil, or_false] at he
      rcases he with rfl | rfl | rfl | rfl
      · exact ⟨_, valO_dec (by omega)⟩
      · exact ⟨_, valO_dec (by omega)⟩
      · exact ⟨_, valO_dec (by omega)⟩
      · exact ⟨_, valO_dec (by omega)⟩
    rw [rdO_some (t := (1, 0, 0, (M : Int), (F : Int), (A : Int), (X : Int))) hok (by rw [ec]; simp [stO, nsOf, valO_dec (u := M) (by omega), valO_dec (u := F) (by omega), valO_dec (u := A) (by omega), valO_dec (u := X) (by omega)])]
    exact if_pos hB
theorem text_small {K W T m f a s : Int} (hB : streamB K W T m f a s = true) : (textS K W T m f a s).length ≤ 40 := by
  rcases streamB_true hB with ⟨hK, hR⟩ | ⟨hK, hC⟩
  · have := joinTo_len (fit3 hR) [114] 3 (by simp)
    unfold textS; rw [if_pos hK]; simp at this; omega
  · have := joinTo_len (fit4 hC) [99] 4 (by simp)
    unfold textS; rw [if_neg (by omega)]; simp at this; omega
theorem outS_add (nx bt : Nat → Nat) (x n : Nat) : ∀ k, outS nx bt x (n + k) = outS nx bt x n ++ outS nx bt (iter nx x n) k
  | 0 => by simp [outS]
  | k + 1 => by
    rw [← Nat.add_assoc, outS, outS_add nx bt x n k, outS, ← iter_add, List.append_assoc]
theorem takeL_add (K W T m f a s : Int) (n k : Nat) : takeL K W T m f a s ((n + k : Nat) : Int) = takeL K W T m f a s (n : Int) ++ takeL K W T m f a (takeX K W T m f a s (n : Int)) (k : Int) := by
  unfold takeL takeX
  by_cases h : K = 0
  · simp only [if_pos h, Int.toNat_natCast]; exact outS_add _ _ _ _ _
  · simp only [if_neg h, Int.toNat_natCast]; exact outS_add _ _ _ _ _
theorem takeL_len (K W T m f a s : Int) (n : Nat) : (takeL K W T m f a s (n : Int)).length = n := by
  unfold takeL
  by_cases h : K = 0
  · simp only [if_pos h, Int.toNat_natCast]; exact outS_len _ _ _ _
  · simp only [if_neg h, Int.toNat_natCast]; exact outS_len _ _ _ _
end Go.Proofs.YtogadldnkhdjbaaDoor.StrM
/- The law on a stream that is read from its text. -/
namespace Go.Proofs.YtogadldnkhdjbaaDoor.Rd
open Go.RowKit Go.Proofs.YtogadldnkhdjbaaDoor Go.Proofs.YtogadldnkhdjbaaDoor.Base Go.Proofs.YtogadldnkhdjbaaDoor.Mem Go.Proofs.YtogadldnkhdjbaaDoor.Dec Go.Proofs.YtogadldnkhdjbaaDoor.LabM Go.Proofs.YtogadldnkhdjbaaDoor.RecJ Go.Proofs.YtogadldnkhdjbaaDoor.CutP Go.Proofs.YtogadldnkhdjbaaDoor.Val Go.Proofs.YtogadldnkhdjbaaDoor.Str Go.Proofs.YtogadldnkhdjbaaDoor.Take
set_option linter.unusedVariables false
theorem powMore {B C : Nat} {w : World} (h : Pow B w) (hBC : B ≤ C) : Pow C w := fun w' hb => h w' (hb.mono hBC)
theorem errMore {B C : Nat} {w : World} (h : Errs B w) (hBC : B ≤ C) : Errs C w := by
  obtain ⟨e1, e2, h1, h2, h3⟩ := h
  exact ⟨e1, e2, Nat.lt_of_lt_of_le h1 hBC, Nat.lt_of_lt_of_le h2 hBC, h3⟩
theorem maxMore {B C : Nat} {w : World} (h : MaxL B w) (hBC : B ≤ C) : MaxL C w := by
  obtain ⟨m, h1, h2⟩ := h
  exact ⟨m, Nat.lt_of_lt_of_le h1 hBC, h2⟩
def StRet (K W T m f a s : Int) (r : Bool) (w : World) (e : Ending) (w' : World) : Prop := e = .returned (.tuple #[.agg #[.int .i64 K, .int .i64 W, .int .i64 T, .int .i64 m, .int .i64 f, .int .i64 a, .int .i64 s], .bool r]) ∧ Below w.heap.size w w'
theorem rd_both (R : Option S7) : ∃ (K W T m f a s : Int) (r : Bool), ∀ w e w', RdRet R w e w' → StRet K W T m f a s r w e w' := by
  cases R with
  | none => exact ⟨0, 0, 0, 0, 0, 0, 0, false, fun w e w' h => ⟨h.2.1 rfl, h.2.2⟩⟩
  | some t =>
    obtain ⟨K, W, T, m, f, a, s⟩ := t
    exact ⟨K, W, T, m, f, a, s, true, fun w e w' h => ⟨(h.1 K W T m f a s rfl).2, h.2.2⟩⟩
theorem specRead_st {R : Option S7} {K W T m f a s : Int} {r : Bool} (t : ByteArray) (hs : t.size ≤ 1048576) (hR : rdO t.data.toList = R) (hv : ∀ w e w', RdRet R w e w' → StRet K W T m f a s r w e w') (w : World) :
    Calls Tryd.prog 12 #[.string t] w (StRet K W T m f a s r w) := by
  obtain ⟨W1, hW1⟩ : ∃ W1, W1 = w.alloc (.cells #[.int .i64 0, .int .i64 0, .int .i64 0, .int .i64 0, .int .i64 0, .int .i64 0, .int .i64 0] 40) := ⟨_, rfl⟩
  have R1 : SBox W1 w.heap.size 0 0 0 0 0 0 0 := by rw [hW1]; exact SBox.new _ _ _ _ _ _ _ _
  have B1 : Below w.heap.size w W1 := by rw [hW1]; exact (Below.refl _ _).alloc (Nat.le_refl _) _
  have HC := Lib.hid ((l11Read_any t hs W1).mono fun e w' h => hv W1 e w' (hR ▸ h))
  have HW := Lib.hid hW1
  have HR1 := Lib.hid R1
  have HB1 := Lib.hid B1
  clear hW1 R1 B1 hv hR
  go_enter Tryd.func12, Tryd.ntmps12
  go_wp2_with fail
  rw [← HW.out]
  refine HC.out.mono ?_
  rintro e w7 ⟨rfl, b7⟩
  have RZ := HR1.out.below b7 HR1.out.lt
  have BB7 := Lib.hid (HB1.out.trans (b7.mono HB1.out.size))
  clear b7
  have d0 := (RZ).c0; have d1 := (RZ).c1; have d2 := (RZ).c2; have d3 := (RZ).c3; have d4 := (RZ).c4; have d5 := (RZ).c5; have d6 := (RZ).c6
  have g0 := (RZ).frz 0; have g1 := (RZ).frz 1; have g2 := (RZ).frz 2; have g3 := (RZ).frz 3; have g4 := (RZ).frz 4; have g5 := (RZ).frz 5; have g6 := (RZ).frz 6
  have S8 := RZ.set7 K W T m f a s
  have p0 := (S8).c0; have p1 := (S8).c1; have p2 := (S8).c2; have p3 := (S8).c3; have p4 := (S8).c4; have p5 := (S8).c5; have p6 := (S8).c6
  simp only [set7] at p0 p1 p2 p3 p4 p5 p6
  have HBN := Lib.hid (below7 (b := w.heap.size) BB7.out (Nat.le_refl _) BB7.out.size K W T m f a s)
  clear S8 RZ
  go_wp2
  exact bodyPost_ret (v := .tuple #[.agg #[.int .i64 K, .int .i64 W, .int .i64 T, .int .i64 m, .int .i64 f, .int .i64 a, .int .i64 s], .bool r]) (by simp [results, Tryd.results12, go_sem, p0, p1, p2, p3, p4, p5, p6]) rfl ⟨rfl, HBN.out⟩
set_option maxHeartbeats 2000000 in
set_option maxRecDepth 100000 in
theorem exactRead_any (t : ByteArray) (w : World) (hp : Pow w.heap.size w) (he : Errs w.heap.size w) (hm : MaxL w.heap.size w) (ht : t.size ≤ 9223372036854775807) :
    Calls Tryd.prog 4 #[.string t] w fun e w' => e = .returned (.bool true) ∧ Below w.heap.size w w' := by
  by_cases hlong : 1048576 < t.size
  · go_enter Tryd.func4, Tryd.ntmps4
    go_wp2
    go_ret
    exact ⟨rfl, Below.refl _ _⟩
  have hs : t.size ≤ 1048576 := by omega
  obtain ⟨R, hR⟩ : ∃ R, rdO t.data.toList = R := ⟨_, rfl⟩
  obtain ⟨K, W, T, m, f, a, s, r, hv⟩ := rd_both R
  have HS := Lib.hid (fun w => specRead_st t hs hR hv w)
  have HI := Lib.hid (fun (w1 : World) (hb : Below w.heap.size w w1) => (implRead_any t hs w1 (powMore (hp.on hb) hb.size) (errMore (he.on hb) hb.size) (maxMore (hm.on hb) hb.size)).mono fun e w' h => hv w1 e w' (hR ▸ h))
  have hok : (r != r) = false := by simp
  clear hv hR hp he hm hlong
  go_enter Tryd.func4, Tryd.ntmps4
  go_wp2_with fail
  refine (HS.out _).mono ?_
  rintro e w1 ⟨rfl, hb1⟩
  obtain ⟨W2, hW2⟩ : ∃ W2, W2 = w1.alloc (.cells #[.int .i64 K, .int .i64 W, .int .i64 T, .int .i64 m, .int .i64 f, .int .i64 a, .int .i64 s] 40) := ⟨_, rfl⟩
  have k2 : SBox W2 w1.heap.size K W T m f a s := by rw [hW2]; exact SBox.new _ _ _ _ _ _ _ _
  have b2 : Below w.heap.size w W2 := by rw [hW2]; exact hb1.alloc hb1.size _
  have K2 := Lib.hid k2
  have B2 := Lib.hid b2
  have H2 := Lib.hid hW2
  clear hW2 k2 b2 hb1
  go_wp2_with fail
  rw [← H2.out]
  refine (HI.out _ B2.out).mono ?_
  rintro e w3 ⟨rfl, hb3⟩
  have k3 := K2.out.below hb3 K2.out.lt
  have b3 := B2.out.trans (hb3.mono B2.out.size)
  obtain ⟨W4, hW4⟩ : ∃ W4, W4 = w3.alloc (.cells #[.int .i64 K, .int .i64 W, .int .i64 T, .int .i64 m, .int .i64 f, .int .i64 a, .int .i64 s] 40) := ⟨_, rfl⟩
  have n4 : SBox W4 w3.heap.size K W T m f a s := by rw [hW4]; exact SBox.new _ _ _ _ _ _ _ _
  have x4 : Below w3.heap.size w3 W4 := by rw [hW4]; exact (Below.refl _ _).alloc (Nat.le_refl _) _
  have k4 := k3.below x4 k3.lt
  have B4 := Lib.hid (b3.trans (x4.mono b3.size))
  have H4 := Lib.hid hW4
  have x0 := (n4).c0; have x1 := (n4).c1; have x2 := (n4).c2; have x3 := (n4).c3; have x4 := (n4).c4; have x5 := (n4).c5; have x6 := (n4).c6
  have y0 := (k4).c0; have y1 := (k4).c1; have y2 := (k4).c2; have y3 := (k4).c3; have y4 := (k4).c4; have y5 := (k4).c5; have y6 := (k4).c6
  rw [hW4] at x0 x1 x2 x3 x4 x5 x6 y0 y1 y2 y3 y4 y5 y6
  clear hW4 n4 k4 k3 b3 hb3
  go_wp2_with fail
  rw [← H4.out]
  refine (eqStream_yes K W T m f a s _).mono ?_
  rintro e w6 ⟨rfl, hb6⟩
  have BE := Lib.hid (B4.out.trans (hb6.mono B4.out.size))
  go_wp2
  go_ret
  exact ⟨rfl, BE.out⟩
theorem exactRead_v {w : World} {v : Value} (h : Open.IsText w v) (hp : Pow w.heap.size w) (he : Errs w.heap.size w) (hm : MaxL w.heap.size w) : Calls Tryd.prog 4 #[v] w fun e w' => e = .returned (.bool true) ∧ Below w.heap.size w w' := by
  obtain ⟨t, rfl, ht⟩ := h.ex
  exact exactRead_any t w hp he hm ht
end Go.Proofs.YtogadldnkhdjbaaDoor.Rd
/- Bits taken twice, a stream's text, its parts: the law walked. -/
namespace Go.Proofs.YtogadldnkhdjbaaDoor.StrM
open Go.RowKit Go.Proofs.YtogadldnkhdjbaaDoor Go.Proofs.YtogadldnkhdjbaaDoor.Base Go.Proofs.YtogadldnkhdjbaaDoor.Mem Go.Proofs.YtogadldnkhdjbaaDoor.Dec Go.Proofs.YtogadldnkhdjbaaDoor.LabM Go.Proofs.YtogadldnkhdjbaaDoor.RecJ Go.Proofs.YtogadldnkhdjbaaDoor.CutP Go.Proofs.YtogadldnkhdjbaaDoor.Val Go.Proofs.YtogadldnkhdjbaaDoor.Str Go.Proofs.YtogadldnkhdjbaaDoor.Take Go.Proofs.YtogadldnkhdjbaaDoor.Skip Go.Proofs.YtogadldnkhdjbaaDoor.Rd Go.Proofs.YtogadldnkhdjbaaDoor.StTx Go.Proofs.YtogadldnkhdjbaaDoor.CycM Go.Proofs.YtogadldnkhdjbaaDoor.MemS Go.Proofs.YtogadldnkhdjbaaDoor.Split
set_option linter.unusedVariables false
theorem take_yes {K W T m f a s : Int} (hB : streamB K W T m f a s = true) {n : Nat} (hn : n ≤ 400) {y : Int} (hy : takeX K W T m f a s (n : Int) = y) {t : ByteArray} (ht : tx (takeL K W T m f a s (n : Int)) = t) (w : World) :
    Calls Tryd.prog 16 #[.agg #[.int .i64 K, .int .i64 W, .int .i64 T, .int .i64 m, .int .i64 f, .int .i64 a, .int .i64 s], .int .i64 (n : Int)] w fun e w' => e = .returned (.tuple #[.string t, .agg #[.int .i64 K, .int .i64 W, .int .i64 T, .int .i64 m, .int .i64 f, .int .i64 a, .int .i64 y], .bool true]) ∧ Below w.heap.size w w' := by
  refine (implTB_any K W T m f a s (n : Int) w).mono fun e w' hr => ⟨?_, hr.2.2⟩
  subst ht
  rw [hr.1 (by rw [okB, hB, inR_yes (by omega)]; rfl), hy]
theorem skip_yesI {K W T m f a s : Int} (hB : streamB K W T m f a s = true) {n : Nat} (hn : n ≤ 1000000000000000000) {y : Int} (hy : takeX K W T m f a s (n : Int) = y) (w : World) :
    Calls Tryd.prog 17 #[.agg #[.int .i64 K, .int .i64 W, .int .i64 T, .int .i64 m, .int .i64 f, .int .i64 a, .int .i64 s], .int .i64 (n : Int)] w fun e w' => e = .returned (.tuple #[.agg #[.int .i64 K, .int .i64 W, .int .i64 T, .int .i64 m, .int .i64 f, .int .i64 a, .int .i64 y], .bool true]) ∧ Below w.heap.size w w' := by
  refine (implSS_any K W T m f a s (n : Int) w).mono fun e w' hr => ⟨?_, hr.2.2⟩
  rw [hr.1 (by rw [okS, hB, inR_yes (by omega)]; rfl), hy]
theorem text_yes {K W T m f a s : Int} (hB : streamB K W T m f a s = true) {t : ByteArray} (ht : tx (textS K W T m f a s) = t) (w : World) (hp : Pow w.heap.size w) :
    Calls Tryd.prog 18 #[.agg #[.int .i64 K, .int .i64 W, .int .i64 T, .int .i64 m, .int .i64 f, .int .i64 a, .int .i64 s]] w fun e w' => e = .returned (.tuple #[.string t, .bool true]) ∧ Below w.heap.size w w' := by
  refine (implText_any K W T m f a s w hp).mono fun e w' hr => ⟨?_, hr.2⟩
  rw [hr.1, hB, if_pos rfl, ht]
theorem read_yes {K W T m f a s : Int} (hB : streamB K W T m f a s = true) {t : ByteArray} (ht : tx (textS K W T m f a s) = t) (w : World) (hp : Pow w.heap.size w) (he : Errs w.heap.size w) (hm : MaxL w.heap.size w) :
    Calls Tryd.prog 13 #[.string t] w fun e w' => e = .returned (.tuple #[.agg #[.int .i64 K, .int .i64 W, .int .i64 T, .int .i64 m, .int .i64 f, .int .i64 a, .int .i64 s], .bool true]) ∧ Below w.heap.size w w' := by
  subst ht
  have hl := text_small hB
  refine (implRead_any (tx (textS K W T m f a s)) (by rw [size_tx]; omega) w hp he hm).mono fun e w' hr => ⟨?_, hr.2.2⟩
  exact (hr.1 K W T m f a s (read_text hB)).2
theorem splitF_len (K W T m f a s : Int) (l : Nat) : ∀ i, (splitF K W T m f a s l i).length = 7 * i
  | 0 => rfl
  | i + 1 => by rw [splitF, List.length_append, splitF_len K W T m f a s l i]; simp; omega
theorem splitF_at (K W T m f a s : Int) (l : Nat) : ∀ (n j : Nat), j < n → ∀ t, t < 7 → (splitF K W T m f a s l n).getD (7 * j + t) 0 = [K, W, T, m, f, a, takeX K W T m f a s ((j * l : Nat) : Int)].getD t 0
  | 0, j, h, _, _ => absurd h (Nat.not_lt_zero j)
  | n + 1, j, h, t, ht => by
    rw [splitF, List.getD_eq_getElem?_getD]
    by_cases e : j = n
    · subst e
      rw [List.getElem?_append_right (by rw [splitF_len]; omega), splitF_len, show 7 * j + t - 7 * j = t by omega]; rfl
    · rw [List.getElem?_append_left (by rw [splitF_len]; omega), ← List.getD_eq_getElem?_getD]
      exact splitF_at K W T m f a s l n j (by omega) t ht
/-- the parts in memory: part j is the stream after j times l steps -/
def PartsAt (w : World) (b : Nat) (K W T m f a : Int) (z : Nat → Int) : Prop := ∀ j, j < 4 → w.cell? ⟨b, j * 7 + 0, none⟩ = some (.int .i64 K) ∧ w.cell? ⟨b, j * 7 + 1, none⟩ = some (.int .i64 W) ∧ w.cell? ⟨b, j * 7 + 2, none⟩ = some (.int .i64 T) ∧ w.cell? ⟨b, j * 7 + 3, none⟩ = some (.int .i64 m) ∧
  w.cell? ⟨b, j * 7 + 4, none⟩ = some (.int .i64 f) ∧ w.cell? ⟨b, j * 7 + 5, none⟩ = some (.int .i64 a) ∧ w.cell? ⟨b, j * 7 + 6, none⟩ = some (.int .i64 (z j))
theorem PartsAt.below {w w' : World} {b C : Nat} {K W T m f a : Int} {z : Nat → Int} (h : PartsAt w b K W T m f a z) (hb : Below C w w') (hC : b < C) : PartsAt w' b K W T m f a z := fun j hj => by
  obtain ⟨h0, h1, h2, h3, h4, h5, h6⟩ := h j hj
  exact ⟨(hb.cell (p := ⟨b, _, none⟩) hC).trans h0, (hb.cell (p := ⟨b, _, none⟩) hC).trans h1, (hb.cell (p := ⟨b, _, none⟩) hC).trans h2, (hb.cell (p := ⟨b, _, none⟩) hC).trans h3, (hb.cell (p := ⟨b, _, none⟩) hC).trans h4, (hb.cell (p := ⟨b, _, none⟩) hC).trans h5, (hb.cell (p := ⟨b, _, none⟩) hC).trans h6⟩
def PartsRet (K W T m f a : Int) (z : Nat → Int) (w : World) (e : Ending) (w' : World) : Prop := ∃ b c, e = .returned (.tuple #[.slice (some ⟨b, 0, none⟩) 4 c, .bool true]) ∧ w.heap.size ≤ b ∧ b < w'.heap.size ∧ PartsAt w' b K W T m f a z ∧ Below w.heap.size w w'
theorem split_yes {K W T m f a s : Int} (hB : streamB K W T m f a s = true) {l : Nat} (h1 : 1 ≤ l) (h2 : l ≤ 1000000) {z : Nat → Int} (hz : ∀ j, takeX K W T m f a s ((j * l : Nat) : Int) = z j) (w : World) :
    Calls Tryd.prog 19 #[.agg #[.int .i64 K, .int .i64 W, .int .i64 T, .int .i64 m, .int .i64 f, .int .i64 a, .int .i64 s], .int .i64 4, .int .i64 (l : Int)] w (PartsRet K W T m f a z w) := by
  have hs : (streamB K W T m f a s && splitB 4 (l : Int)) = true := by rw [hB, splitB, inR_yes (by omega), inR_yes (by omega)]; rfl
  refine (implSplit_any K W T m f a s 4 (l : Int) w).mono fun e w' hr => ?_
  obtain ⟨A, c, he, ho, hb⟩ := hr
  rw [splitN, if_pos hs, splitR, if_pos hs, hs] at *
  have e4 : (4 : Int).toNat = 4 := rfl
  rw [e4, Int.toNat_natCast] at ho
  rw [e4] at he
  obtain ⟨A', c', e1, hf⟩ := ho.form
  injection e1 with e1 e2 e3
  subst e1 e3
  obtain ⟨g, rfl, hg1, hg2⟩ := hf (by decide)
  refine ⟨g, c, he, hg1, hg2, fun j hj => ?_, hb⟩
  have hrd := ho.rd
  obtain ⟨b, off, e5, _, h7⟩ := hrd.at (j := j) hj
  injection e5 with e5
  injection e5 with e6 e7
  subst e6 e7
  have key : ∀ t, t < 7 → w'.cell? ⟨g, j * 7 + t, none⟩ = some (.int .i64 ([K, W, T, m, f, a, z j].getD t 0)) := fun t ht => by
    have := h7 t ht
    rw [Nat.zero_add, splitF_at _ _ _ _ _ _ _ _ 4 j hj t ht, hz j] at this
    exact this
  exact ⟨key 0 (by decide), key 1 (by decide), key 2 (by decide), key 3 (by decide), key 4 (by decide), key 5 (by decide), key 6 (by decide)⟩
set_option maxHeartbeats 4000000 in
set_option maxRecDepth 100000 in
theorem streams_any (A A' : Option Addr) (c c' : Nat) (zs ys : List Int) (w : World) (hp : Pow w.heap.size w) (he : Errs w.heap.size w) (hm : MaxL w.heap.size w) (hx : RdB w w.heap.size A zs) (hy : RdB w w.heap.size A' ys) (hl : zs.length ≤ 9223372036854775807) (hl' : ys.length ≤ 9223372036854775807) (hz : ∀ z ∈ zs, 0 ≤ z ∧ z ≤ 255) (hz' : ∀ z ∈ ys, 0 ≤ z ∧ z ≤ 255) :
    Calls Tryd.prog 5 #[.slice A zs.length c, .slice A' ys.length c'] w fun e w' => e = .returned (.bool true) ∧ Below w.heap.size w w' := by
  have HL := Lib.hid (fun w => Cycled.b10Long_any A A' zs.length c ys.length c' w)
  have HC := Lib.hid (Draw.b10Stream_any A c w.heap.size zs w hx (Nat.le_refl _) hl hz)
  have HY := Lib.hid hy
  have HZ := Lib.hid hz'
  have HP := Lib.hid hp
  have HE := Lib.hid he
  have HM := Lib.hid hm
  clear hx hz hy hz' hl hp he hm
  cases hlong : Cycled.longB zs.length ys.length with
  | true =>
    rw [hlong] at HL
    clear hlong
    go_enter Tryd.func5, Tryd.ntmps5
    go_wp2_with fail
    refine (HL.out _).mono ?_
    rintro e w' ⟨rfl, rfl⟩
    go_wp2
    go_ret
    exact ⟨rfl, Below.refl _ _⟩
  | false =>
    rw [hlong] at HL
    clear hlong
    go_enter Tryd.func5, Tryd.ntmps5
    go_wp2_with fail
    refine (HL.out _).mono ?_
    rintro e w' ⟨rfl, rfl⟩
    go_wp2_with fail
    refine HC.out.mono ?_
    rintro e w1 ⟨K, W, T, m, f, a, s, hB, rfl, hb1⟩
    obtain ⟨U, X, j, n, hway⟩ := ApartM.way hB
    have hst := hway.start
    have HV := Lib.hid hway.valid
    have HTk := Lib.hid hway.take
    have HBs := Lib.hid hB
    have HY0 : Hid (s = ((iter U X 0 : Nat) : Int)) := Lib.hid hst
    clear hway hB
    obtain ⟨W1, hW1⟩ : ∃ W1, W1 = w1.alloc (.cells #[.int .i64 K, .int .i64 W, .int .i64 T, .int .i64 m, .int .i64 f, .int .i64 a, .int .i64 s] 40) := ⟨_, rfl⟩
    have K1 : SBox W1 w1.heap.size K W T m f a s := by rw [hW1]; exact SBox.new _ _ _ _ _ _ _ _
    have B1 : Below w.heap.size w W1 := by rw [hW1]; exact hb1.alloc hb1.size _
    have HAt := Lib.hid (fun i n hi hn => ApartL.b10At_any A' c' w.heap.size ys i n W1 HZ.out hl' (HY.out.below B1 (Nat.le_refl _)) hi hn)
    have HW1 := Lib.hid hW1
    have KK1 := Lib.hid K1
    have BB1 := Lib.hid B1
    clear hW1 K1 B1 hb1 HY HZ HC HL hst
    go_wp2_with fail
    rw [← HW1.out]
    refine (HAt.out 0 100 (.inl rfl) (by decide)).mono ?_
    rintro e w' ⟨p0, hp0, hp1, rfl, rfl⟩
    obtain ⟨N, rfl⟩ := Int.eq_ofNat_of_zero_le hp0
    go_wp2_with fail
    refine (HAt.out 1 100 (.inr rfl) (by decide)).mono ?_
    rintro e w' ⟨q0, hq0, hq1, rfl, rfl⟩
    obtain ⟨M, rfl⟩ := Int.eq_ofNat_of_zero_le hq0
    have hN : N ≤ 99 := by omega
    have hM : M ≤ 99 := by omega
    clear hp0 hp1 hq0 hq1
    -- the states on the way
    obtain ⟨y1, hy1⟩ : ∃ y, ((iter U X N : Nat) : Int) = y := ⟨_, rfl⟩
    obtain ⟨y2, hy2⟩ : ∃ y, ((iter U X (N + M) : Nat) : Int) = y := ⟨_, rfl⟩
    have t1 : takeX K W T m f a s (N : Int) = y1 := by
      have := HTk.out 0 N
      rw [← HY0.out, Nat.zero_add, hy1] at this; exact this
    have t2 : takeX K W T m f a y1 (M : Int) = y2 := by
      have := HTk.out N M
      rw [hy1, hy2] at this; exact this
    have t3 : takeX K W T m f a s ((N + M : Nat) : Int) = y2 := by
      have := HTk.out 0 (N + M)
      rw [← HY0.out, Nat.zero_add, hy2] at this; exact this
    have v1 : streamB K W T m f a y1 = true := by rw [← hy1]; exact HV.out N
    have v2 : streamB K W T m f a y2 = true := by rw [← hy2]; exact HV.out (N + M)
    obtain ⟨ta, hta⟩ : ∃ t, tx (takeL K W T m f a s (N : Int)) = t := ⟨_, rfl⟩
    obtain ⟨tb, htb⟩ : ∃ t, tx (takeL K W T m f a y1 (M : Int)) = t := ⟨_, rfl⟩
    obtain ⟨tc, htc⟩ : ∃ t, tx (takeL K W T m f a s ((N + M : Nat) : Int)) = t := ⟨_, rfl⟩
    obtain ⟨td, htd⟩ : ∃ t, tx (textS K W T m f a s) = t := ⟨_, rfl⟩
    obtain ⟨z, hzd⟩ : ∃ z : Nat → Int, z = fun j => ((iter U X (j * (1 + M)) : Nat) : Int) := ⟨_, rfl⟩
    have hz0 : z 0 = s := by rw [hzd, HY0.out]; show ((iter U X (0 * (1 + M)) : Nat) : Int) = _; rw [Nat.zero_mul]
    have hzt : ∀ j, takeX K W T m f a s ((j * (1 + M) : Nat) : Int) = z j := fun j => by
      have := HTk.out 0 (j * (1 + M))
      rw [← HY0.out, Nat.zero_add] at this; rw [hzd]; exact this
    have hzn : ∀ j, takeX K W T m f a (z j) ((1 + M : Nat) : Int) = z (j + 1) := fun j => by
      have := HTk.out (j * (1 + M)) (1 + M)
      rw [hzd]
      show takeX K W T m f a ((iter U X (j * (1 + M)) : Nat) : Int) _ = ((iter U X ((j + 1) * (1 + M)) : Nat) : Int)
      rw [Nat.succ_mul]; exact this
    have hzv : ∀ j, streamB K W T m f a (z j) = true := fun j => by rw [hzd]; exact HV.out _
    have hsum : ta ++ tb = tc := by
      rw [← hta, ← htb, ← htc]
      apply tx_ext
      rw [app_list, list_tx, list_tx, list_tx, takeL_add, t1]
    have hsa : ta.size = N := by rw [← hta, size_tx, takeL_len]
    have hsb : tb.size = M := by rw [← htb, size_tx, takeL_len]
    have hnm : ((N + M : Nat) : Int) = (N : Int) + (M : Int) := by omega
    have h1m : ((1 + M : Nat) : Int) = 1 + (M : Int) := by omega
    have C1 := Lib.hid (fun w => take_yes HBs.out (n := N) (by omega) t1 hta w)
    have C2 := Lib.hid (fun w => take_yes v1 (n := M) (by omega) t2 htb w)
    have C3 := Lib.hid (fun w => take_yes HBs.out (n := N + M) (by omega) t3 htc w)
    have C4 := Lib.hid (fun w => skip_yesI HBs.out (n := N + M) (by omega) t3 w)
    have C5 := Lib.hid (fun (w1 : World) (hb : Below w.heap.size w w1) => text_yes HBs.out htd w1 (powMore (HP.out.on hb) hb.size))
    have C6 := Lib.hid (fun (w1 : World) (hb : Below w.heap.size w w1) => read_yes HBs.out htd w1 (powMore (HP.out.on hb) hb.size) (errMore (HE.out.on hb) hb.size) (maxMore (HM.out.on hb) hb.size))
    have C7 := Lib.hid (fun w => split_yes HBs.out (l := 1 + M) (by omega) (by omega) hzt w)
    have C8 := Lib.hid (fun j w => skip_yesI (hzv j) (n := 1 + M) (by omega) (hzn j) w)
    have C9 := Lib.hid (fun w => validStream_any K W T m f a y2 w)
    rw [v2] at C9
    rw [hnm] at C3 C4
    rw [h1m] at C7 C8
    have HS := Lib.hid (And.intro hsum (And.intro hsa hsb))
    have HZ0 := Lib.hid hz0
    clear t1 t2 t3 v1 v2 hta htb htc htd hzd hz0 hzt hzn hzv hsum hsa hsb hnm h1m hy1 hy2 HTk HV HP HE HM HAt HBs HY0
    have c0 := (KK1.out).c0; have c1 := (KK1.out).c1; have c2 := (KK1.out).c2; have c3 := (KK1.out).c3; have c4 := (KK1.out).c4; have c5 := (KK1.out).c5; have c6 := (KK1.out).c6
    go_wp2_with fail
    refine (C1.out _).mono ?_
    rintro e w2 ⟨rfl, b2⟩
    obtain ⟨W2, hW2⟩ : ∃ W2, W2 = w2.alloc (.cells #[.int .i64 K, .int .i64 W, .int .i64 T, .int .i64 m, .int .i64 f, .int .i64 a, .int .i64 y1] 40) := ⟨_, rfl⟩
    have x2 : Below W1.heap.size W1 W2 := by rw [hW2]; exact b2.alloc b2.size _
    have KK1_2 := Lib.hid (KK1.out.below x2 KK1.out.lt)
    have N2 := Lib.hid (show SBox W2 w2.heap.size K W T m f a y1 by rw [hW2]; exact SBox.new _ _ _ _ _ _ _ _)
    have BB2 := Lib.hid (BB1.out.trans (x2.mono BB1.out.size))
    have HW2 := Lib.hid hW2
    clear c0 c1 c2 c3 c4 c5 c6
    have c0 := (N2.out).c0; have c1 := (N2.out).c1; have c2 := (N2.out).c2; have c3 := (N2.out).c3; have c4 := (N2.out).c4; have c5 := (N2.out).c5; have c6 := (N2.out).c6
    rw [hW2] at c0 c1 c2 c3 c4 c5 c6
    clear hW2 x2 b2
    go_wp2_with fail
    rw [← HW2.out]
    refine (C2.out _).mono ?_
    rintro e w3 ⟨rfl, b3⟩
    obtain ⟨W3, hW3⟩ : ∃ W2, W2 = w3.alloc (.cells #[.int .i64 K, .int .i64 W, .int .i64 T, .int .i64 m, .int .i64 f, .int .i64 a, .int .i64 y2] 40) := ⟨_, rfl⟩
    have x3 : Below W2.heap.size W2 W3 := by rw [hW3]; exact b3.alloc b3.size _
    have KK1_3 := Lib.hid (KK1_2.out.below x3 KK1_2.out.lt)
    have N2_3 := Lib.hid (N2.out.below x3 N2.out.lt)
    have N3 := Lib.hid (show SBox W3 w3.heap.size K W T m f a y2 by rw [hW3]; exact SBox.new _ _ _ _ _ _ _ _)
    have BB3 := Lib.hid (BB2.out.trans (x3.mono BB2.out.size))
    have HW3 := Lib.hid hW3
    clear c0 c1 c2 c3 c4 c5 c6
    have c0 := (KK1_3.out).c0; have c1 := (KK1_3.out).c1; have c2 := (KK1_3.out).c2; have c3 := (KK1_3.out).c3; have c4 := (KK1_3.out).c4; have c5 := (KK1_3.out).c5; have c6 := (KK1_3.out).c6
    rw [hW3] at c0 c1 c2 c3 c4 c5 c6
    clear hW3 x3 b3
    go_wp2_with fail
    rw [← HW3.out]
    refine (C3.out _).mono ?_
    rintro e w4 ⟨rfl, b4⟩
    obtain ⟨W4, hW4⟩ : ∃ W2, W2 = w4.alloc (.cells #[.int .i64 K, .int .i64 W, .int .i64 T, .int .i64 m, .int .i64 f, .int .i64 a, .int .i64 y2] 40) := ⟨_, rfl⟩
    have x4 : Below W3.heap.size W3 W4 := by rw [hW4]; exact b4.alloc b4.size _
    have KK1_4 := Lib.hid (KK1_3.out.below x4 KK1_3.out.lt)
    have N2_4 := Lib.hid (N2_3.out.below x4 N2_3.out.lt)
    have N3_4 := Lib.hid (N3.out.below x4 N3.out.lt)
    have N4 := Lib.hid (show SBox W4 w4.heap.size K W T m f a y2 by rw [hW4]; exact SBox.new _ _ _ _ _ _ _ _)
    have BB4 := Lib.hid (BB3.out.trans (x4.mono BB3.out.size))
    have HW4 := Lib.hid hW4
    clear c0 c1 c2 c3 c4 c5 c6
    have c0 := (KK1_4.out).c0; have c1 := (KK1_4.out).c1; have c2 := (KK1_4.out).c2; have c3 := (KK1_4.out).c3; have c4 := (KK1_4.out).c4; have c5 := (KK1_4.out).c5; have c6 := (KK1_4.out).c6
    rw [hW4] at c0 c1 c2 c3 c4 c5 c6
    clear hW4 x4 b4
    go_wp2_with fail
    rw [← HW4.out]
    refine (C4.out _).mono ?_
    rintro e w5 ⟨rfl, b5⟩
    obtain ⟨W5, hW5⟩ : ∃ W2, W2 = w5.alloc (.cells #[.int .i64 K, .int .i64 W, .int .i64 T, .int .i64 m, .int .i64 f, .int .i64 a, .int .i64 y2] 40) := ⟨_, rfl⟩
    have x5 : Below W4.heap.size W4 W5 := by rw [hW5]; exact b5.alloc b5.size _
    have KK1_5 := Lib.hid (KK1_4.out.below x5 KK1_4.out.lt)
    have N2_5 := Lib.hid (N2_4.out.below x5 N2_4.out.lt)
    have N3_5 := Lib.hid (N3_4.out.below x5 N3_4.out.lt)
    have N4_5 := Lib.hid (N4.out.below x5 N4.out.lt)
    have N5 := Lib.hid (show SBox W5 w5.heap.size K W T m f a y2 by rw [hW5]; exact SBox.new _ _ _ _ _ _ _ _)
    have BB5 := Lib.hid (BB4.out.trans (x5.mono BB4.out.size))
    have HW5 := Lib.hid hW5
    clear c0 c1 c2 c3 c4 c5 c6
    have c0 := (KK1_5.out).c0; have c1 := (KK1_5.out).c1; have c2 := (KK1_5.out).c2; have c3 := (KK1_5.out).c3; have c4 := (KK1_5.out).c4; have c5 := (KK1_5.out).c5; have c6 := (KK1_5.out).c6
    rw [hW5] at c0 c1 c2 c3 c4 c5 c6
    clear hW5 x5 b5
    go_wp2_with fail
    rw [← HW5.out]
    refine (C5.out _ BB5.out).mono ?_
    rintro e w6 ⟨rfl, b6⟩
    have BB6 := Lib.hid (BB5.out.trans (b6.mono BB5.out.size))
    have KK1_6 := Lib.hid (KK1_5.out.below b6 KK1_5.out.lt)
    have N2_6 := Lib.hid (N2_5.out.below b6 N2_5.out.lt)
    have N3_6 := Lib.hid (N3_5.out.below b6 N3_5.out.lt)
    have N4_6 := Lib.hid (N4_5.out.below b6 N4_5.out.lt)
    have N5_6 := Lib.hid (N5.out.below b6 N5.out.lt)
    clear b6 c0 c1 c2 c3 c4 c5 c6
    go_wp2_with fail
    refine (C6.out _ BB6.out).mono ?_
    rintro e w7 ⟨rfl, b7⟩
    obtain ⟨W7, hW7⟩ : ∃ W2, W2 = w7.alloc (.cells #[.int .i64 K, .int .i64 W, .int .i64 T, .int .i64 m, .int .i64 f, .int .i64 a, .int .i64 s] 40) := ⟨_, rfl⟩
    have x7 : Below w6.heap.size w6 W7 := by rw [hW7]; exact b7.alloc b7.size _
    have KK1_7 := Lib.hid (KK1_6.out.below x7 KK1_6.out.lt)
    have N2_7 := Lib.hid (N2_6.out.below x7 N2_6.out.lt)
    have N3_7 := Lib.hid (N3_6.out.below x7 N3_6.out.lt)
    have N4_7 := Lib.hid (N4_6.out.below x7 N4_6.out.lt)
    have N5_7 := Lib.hid (N5_6.out.below x7 N5_6.out.lt)
    have N7 := Lib.hid (show SBox W7 w7.heap.size K W T m f a s by rw [hW7]; exact SBox.new _ _ _ _ _ _ _ _)
    have BB7 := Lib.hid (BB6.out.trans (x7.mono BB6.out.size))
    have HW7 := Lib.hid hW7
    have c0 := 0
    have c1 := 0
    have c2 := 0
    have c3 := 0
    have c4 := 0
    have c5 := 0
    have c6 := 0
    clear c0 c1 c2 c3 c4 c5 c6
    have c0 := (KK1_7.out).c0; have c1 := (KK1_7.out).c1; have c2 := (KK1_7.out).c2; have c3 := (KK1_7.out).c3; have c4 := (KK1_7.out).c4; have c5 := (KK1_7.out).c5; have c6 := (KK1_7.out).c6
    rw [hW7] at c0 c1 c2 c3 c4 c5 c6
    clear hW7 x7 b7
    go_wp2_with fail
    rw [← HW7.out]
    refine (C7.out _).mono ?_
    rintro e w8 ⟨bp, cp, rfl, hbp1, hbp2, hpt, b8⟩
    have BB8 := Lib.hid (BB7.out.trans (b8.mono BB7.out.size))
    have KK1_8 := Lib.hid (KK1_7.out.below b8 KK1_7.out.lt)
    have N2_8 := Lib.hid (N2_7.out.below b8 N2_7.out.lt)
    have N3_8 := Lib.hid (N3_7.out.below b8 N3_7.out.lt)
    have N4_8 := Lib.hid (N4_7.out.below b8 N4_7.out.lt)
    have N5_8 := Lib.hid (N5_7.out.below b8 N5_7.out.lt)
    have N7_8 := Lib.hid (N7.out.below b8 N7.out.lt)
    have HPt := Lib.hid hpt
    obtain ⟨p0, p1, p2, p3, p4, p5, p6⟩ := hpt 0 (by decide)
    simp only [Nat.zero_mul, Nat.zero_add] at p0 p1 p2 p3 p4 p5 p6
    rw [HZ0.out] at p6
    clear b8 hpt c0 c1 c2 c3 c4 c5 c6
    have c0 := (KK1_8.out).c0; have c1 := (KK1_8.out).c1; have c2 := (KK1_8.out).c2; have c3 := (KK1_8.out).c3; have c4 := (KK1_8.out).c4; have c5 := (KK1_8.out).c5; have c6 := (KK1_8.out).c6
    have d0 := (N3_8.out).c0; have d1 := (N3_8.out).c1; have d2 := (N3_8.out).c2; have d3 := (N3_8.out).c3; have d4 := (N3_8.out).c4; have d5 := (N3_8.out).c5; have d6 := (N3_8.out).c6
    have g0 := (N4_8.out).c0; have g1 := (N4_8.out).c1; have g2 := (N4_8.out).c2; have g3 := (N4_8.out).c3; have g4 := (N4_8.out).c4; have g5 := (N4_8.out).c5; have g6 := (N4_8.out).c6
    have q0 := (N5_8.out).c0; have q1 := (N5_8.out).c1; have q2 := (N5_8.out).c2; have q3 := (N5_8.out).c3; have q4 := (N5_8.out).c4; have q5 := (N5_8.out).c5; have q6 := (N5_8.out).c6
    have r0 := (N7_8.out).c0; have r1 := (N7_8.out).c1; have r2 := (N7_8.out).c2; have r3 := (N7_8.out).c3; have r4 := (N7_8.out).c4; have r5 := (N7_8.out).c5; have r6 := (N7_8.out).c6
    have hadd := fun w => strAddS HS.out.1 (by have := HS.out.2; omega) w
    have hbe : (tc.toList == tc.toList) = true := by simp
    have mixed : Tryd.prog.follows .mixedOrders = true := by kernel_rfl
    go_wp2
    go_quiet (fail)
    obtain ⟨W8, hW8⟩ : ∃ W8, W8 = w8.drewN nq := ⟨_, rfl⟩
    have bq : Below w8.heap.size w8 W8 := by rw [hW8]; exact below_drewN (Below.refl _ _) nq
    have hbp3 : bp < W8.heap.size := Nat.lt_of_lt_of_le hbp2 bq.size
    have E8 := Lib.hid (HPt.out.below bq hbp2)
    have EN := Lib.hid (N4_8.out.below bq N4_8.out.lt)
    have EB := Lib.hid (BB8.out.trans (bq.mono BB8.out.size))
    have H8 := Lib.hid hW8
    have hwN : w4.heap.size < W8.heap.size := EN.out.lt
    clear bq c0 c1 c2 c3 c4 c5 c6 d0 d1 d2 d3 d4 d5 d6 g0 g1 g2 g3 g4 g5 g6 q0 q1 q2 q3 q4 q5 q6 r0 r1 r2 r3 r4 r5 r6 p0 p1 p2 p3 p4 p5 p6 hadd hbe hbp2
    go_wp2
    rw [← H8.out]
    clear hW8
    have I0 : Hid (Below W8.heap.size W8 W8) := Lib.hid (Below.refl _ _)
    go_loopw [25] (fun iv wr => (iv = .int .i64 1 ∨ iv = .int .i64 2 ∨ iv = .int .i64 3 ∨ iv = .int .i64 4) ∧ Hid (Below W8.heap.size W8 wr)) (fun iv _ => 4 - (intOf iv).toNat)
    case atStart => exact ⟨.inl rfl, I0⟩
    case round =>
      obtain ⟨hiv, HBl⟩ := hrel
      have hsz := HBl.out.size
      have HPw := Lib.hid (E8.out.below HBl.out hbp3)
      rcases hiv with rfl | rfl | rfl | rfl
      · have S8 := Lib.hid (C8.out 0)
        obtain ⟨p0, p1, p2, p3, p4, p5, p6⟩ := HPw.out 0 (by decide)
        simp only [Nat.reduceMul, Nat.zero_add] at p0 p1 p2 p3 p4 p5 p6
        simp only [Nat.zero_add] at S8
        go_wp2_with fail
        refine (S8.out _).mono ?_
        rintro e w9 ⟨rfl, b9⟩
        have h9 : Below W8.heap.size W8 w9 := HBl.out.trans (b9.mono hsz)
        have HP9 := HPw.out.below b9 (Nat.lt_of_lt_of_le hbp3 hsz)
        have hbp9 : bp < w9.heap.size := Nat.lt_of_lt_of_le hbp3 h9.size
        obtain ⟨W9, hW9⟩ : ∃ W9, W9 = w9.alloc (.cells #[.int .i64 K, .int .i64 W, .int .i64 T, .int .i64 m, .int .i64 f, .int .i64 a, .int .i64 (z 1)] 40) := ⟨_, rfl⟩
        have x9 : Below w9.heap.size w9 W9 := by rw [hW9]; exact (Below.refl _ _).alloc (Nat.le_refl _) _
        have n9 : SBox W9 w9.heap.size K W T m f a (z 1) := by rw [hW9]; exact SBox.new _ _ _ _ _ _ _ _
        have H9 := Lib.hid (h9.trans (x9.mono h9.size))
        obtain ⟨q0, q1, q2, q3, q4, q5, q6⟩ := (HP9.below x9 hbp9) 1 (by decide)
        simp only [Nat.reduceMul, Nat.reduceAdd] at q0 q1 q2 q3 q4 q5 q6
        have n0 := (n9).c0; have n1 := (n9).c1; have n2 := (n9).c2; have n3 := (n9).c3; have n4 := (n9).c4; have n5 := (n9).c5; have n6 := (n9).c6
        rw [hW9] at q0 q1 q2 q3 q4 q5 q6 n0 n1 n2 n3 n4 n5 n6 H9
        clear p0 p1 p2 p3 p4 p5 p6 b9 h9 HP9 x9 n9 hW9
        go_wp2
        go_quiet (fail)
        go_wp2
        go_roundw
        case rel => exact ⟨.inr (.inl rfl), Lib.hid (below_drewN H9.out _)⟩
        case measure => simp [intOf]
      · have S8 := Lib.hid (C8.out 1)
        obtain ⟨p0, p1, p2, p3, p4, p5, p6⟩ := HPw.out 1 (by decide)
        simp only [Nat.reduceMul, Nat.reduceAdd] at p0 p1 p2 p3 p4 p5 p6
        simp only [Nat.reduceAdd] at S8
        go_wp2_with fail
        refine (S8.out _).mono ?_
        rintro e w9 ⟨rfl, b9⟩
        have h9 : Below W8.heap.size W8 w9 := HBl.out.trans (b9.mono hsz)
        have HP9 := HPw.out.below b9 (Nat.lt_of_lt_of_le hbp3 hsz)
        have hbp9 : bp < w9.heap.size := Nat.lt_of_lt_of_le hbp3 h9.size
        obtain ⟨W9, hW9⟩ : ∃ W9, W9 = w9.alloc (.cells #[.int .i64 K, .int .i64 W, .int .i64 T, .int .i64 m, .int .i64 f, .int .i64 a, .int .i64 (z 2)] 40) := ⟨_, rfl⟩
        have x9 : Below w9.heap.size w9 W9 := by rw [hW9]; exact (Below.refl _ _).alloc (Nat.le_refl _) _
        have n9 : SBox W9 w9.heap.size K W T m f a (z 2) := by rw [hW9]; exact SBox.new _ _ _ _ _ _ _ _
        have H9 := Lib.hid (h9.trans (x9.mono h9.size))
        obtain ⟨q0, q1, q2, q3, q4, q5, q6⟩ := (HP9.below x9 hbp9) 2 (by decide)
        simp only [Nat.reduceMul, Nat.reduceAdd] at q0 q1 q2 q3 q4 q5 q6
        have n0 := (n9).c0; have n1 := (n9).c1; have n2 := (n9).c2; have n3 := (n9).c3; have n4 := (n9).c4; have n5 := (n9).c5; have n6 := (n9).c6
        rw [hW9] at q0 q1 q2 q3 q4 q5 q6 n0 n1 n2 n3 n4 n5 n6 H9
        clear p0 p1 p2 p3 p4 p5 p6 b9 h9 HP9 x9 n9 hW9
        go_wp2
        go_quiet (fail)
        go_wp2
        go_roundw
        case rel => exact ⟨.inr (.inr (.inl rfl)), Lib.hid (below_drewN H9.out _)⟩
        case measure => simp [intOf]
      · have S8 := Lib.hid (C8.out 2)
        obtain ⟨p0, p1, p2, p3, p4, p5, p6⟩ := HPw.out 2 (by decide)
        simp only [Nat.reduceMul, Nat.reduceAdd] at p0 p1 p2 p3 p4 p5 p6
        simp only [Nat.reduceAdd] at S8
        go_wp2_with fail
        refine (S8.out _).mono ?_
        rintro e w9 ⟨rfl, b9⟩
        have h9 : Below W8.heap.size W8 w9 := HBl.out.trans (b9.mono hsz)
        have HP9 := HPw.out.below b9 (Nat.lt_of_lt_of_le hbp3 hsz)
        have hbp9 : bp < w9.heap.size := Nat.lt_of_lt_of_le hbp3 h9.size
        obtain ⟨W9, hW9⟩ : ∃ W9, W9 = w9.alloc (.cells #[.int .i64 K, .int .i64 W, .int .i64 T, .int .i64 m, .int .i64 f, .int .i64 a, .int .i64 (z 3)] 40) := ⟨_, rfl⟩
        have x9 : Below w9.heap.size w9 W9 := by rw [hW9]; exact (Below.refl _ _).alloc (Nat.le_refl _) _
        have n9 : SBox W9 w9.heap.size K W T m f a (z 3) := by rw [hW9]; exact SBox.new _ _ _ _ _ _ _ _
        have H9 := Lib.hid (h9.trans (x9.mono h9.size))
        obtain ⟨q0, q1, q2, q3, q4, q5, q6⟩ := (HP9.below x9 hbp9) 3 (by decide)
        simp only [Nat.reduceMul, Nat.reduceAdd] at q0 q1 q2 q3 q4 q5 q6
        have n0 := (n9).c0; have n1 := (n9).c1; have n2 := (n9).c2; have n3 := (n9).c3; have n4 := (n9).c4; have n5 := (n9).c5; have n6 := (n9).c6
        rw [hW9] at q0 q1 q2 q3 q4 q5 q6 n0 n1 n2 n3 n4 n5 n6 H9
        clear p0 p1 p2 p3 p4 p5 p6 b9 h9 HP9 x9 n9 hW9
        go_wp2
        go_quiet (fail)
        go_wp2
        go_roundw
        case rel => exact ⟨.inr (.inr (.inr rfl)), Lib.hid (below_drewN H9.out _)⟩
        case measure => simp [intOf]
      · have N9 := EN.out.below HBl.out EN.out.lt
        have n0 := (N9).c0; have n1 := (N9).c1; have n2 := (N9).c2; have n3 := (N9).c3; have n4 := (N9).c4; have n5 := (N9).c5; have n6 := (N9).c6
        have EB9 := Lib.hid (EB.out.trans (HBl.out.mono EB.out.size))
        go_wp2_with fail
        refine (C9.out _).mono ?_
        rintro e w9 ⟨rfl, b9⟩
        have BE := Lib.hid (EB9.out.trans (b9.mono EB9.out.size))
        go_wp2
        go_ret
        exact ⟨rfl, BE.out⟩
theorem streams_v {w : World} {v u : Value} (h : Open.IsBytes w v) (h' : Open.IsBytes w u) (hp : Pow w.heap.size w) (he : Errs w.heap.size w) (hm : MaxL w.heap.size w) : Calls Tryd.prog 5 #[v, u] w fun e w' => e = .returned (.bool true) ∧ Below w.heap.size w w' := by
  obtain ⟨A, c, zs, rfl, hl, hz, hx⟩ := h.ex
  obtain ⟨A', c', ys, rfl, hl', hz', hx'⟩ := h'.ex
  exact streams_any A A' c c' zs ys w hp he hm hx hx' hl hl' hz hz'
end Go.Proofs.YtogadldnkhdjbaaDoor.StrM
