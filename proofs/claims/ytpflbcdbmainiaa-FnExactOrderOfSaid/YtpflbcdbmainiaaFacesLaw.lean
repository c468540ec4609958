/- The law on numbers drawn from a stream. -/
import Derived.Test.YtpflbcdbmainiaaFacesS
import Derived.Test.YtpflbcdbmainiaaFacesJ
import Derived.Test.YtpflbcdbmainiaaTakeExact
namespace Go.Proofs.Ytpflbcdbmainiaa.Face
open Go.RowKit Go.Proofs.Ytpflbcdbmainiaa Go.Proofs.Ytpflbcdbmainiaa.Base Go.Proofs.Ytpflbcdbmainiaa.Mem Go.Proofs.Ytpflbcdbmainiaa.Str Go.Proofs.Ytpflbcdbmainiaa.Take Go.Proofs.Ytpflbcdbmainiaa.Skip
set_option linter.unusedVariables false
/-- a list of the call's own, a stream, and whether there is one -/
def LsRet (L : List Int) (K' W' T' m' f' a' s' : Int) (r : Bool) (w : World) (e : Ending) (w' : World) : Prop := ∃ A c, e = .returned (.tuple #[.slice A L.length c, .agg #[.int .i64 K', .int .i64 W', .int .i64 T', .int .i64 m', .int .i64 f', .int .i64 a', .int .i64 s'], .bool r]) ∧ OwnI w' w.heap.size (.slice A L.length c) L ∧ Below w.heap.size w w'
theorem fs_both (K W T m f a s n c : Int) : ∃ (L : List Int) (K' W' T' m' f' a' s' : Int) (r : Bool), L.length ≤ 40 ∧ ∀ w e w', FsRet K W T m f a (facesR K W T m f a s n c) w e w' → LsRet L K' W' T' m' f' a' s' r w e w' := by
  cases h : facesR K W T m f a s n c with
  | none => exact ⟨[], 0, 0, 0, 0, 0, 0, 0, false, by simp, fun w e w' hr => ⟨none, 0, hr.2.1 rfl, World.ownsRow_nil _ _ _ _, hr.2.2⟩⟩
  | some p =>
    obtain ⟨L, s'⟩ := p
    refine ⟨L, K, W, T, m, f, a, s', true, ?_, fun w e w' hr => ?_⟩
    · unfold facesR at h
      split at h
      · split at h
        · rename_i h1 h2
          simp only [Bool.and_eq_true] at h2
          have := inR_true h2.2.2
          have hl := facesA_len _ _ _ h
          simp only [List.length_nil] at hl
          omega
        · cases h
      · cases h
    · obtain ⟨A, cp, h1, h2⟩ := hr.1 L s' rfl
      exact ⟨A, cp, h1, h2, hr.2.2⟩
set_option maxHeartbeats 2000000 in
set_option maxRecDepth 100000 in
theorem exactFacesOf_any (K W T m f a s n c : Int) (w : World) :
    Calls Try.prog 12 #[.agg #[.int .i64 K, .int .i64 W, .int .i64 T, .int .i64 m, .int .i64 f, .int .i64 a, .int .i64 s], .int .i64 n, .int .i64 c] w fun e w' => e = .returned (.bool true) ∧ Below w.heap.size w w' := by
  obtain ⟨L, K', W', T', m', f', a', s', r, hL, hv⟩ := fs_both K W T m f a s n c
  have HT := Lib.hid (fun w => toStream_any K W T m f a s w)
  have HS := Lib.hid (fun w => (specFaces_any K W T m f a s n c w).mono fun e w' h => hv w e w' h)
  have HI := Lib.hid (fun w => (implFaces_any K W T m f a s n c w).mono fun e w' h => hv w e w' h)
  have hok : (r != r) = false := by simp
  clear hv
  go_enter Try.func12, Try.ntmps12
  go_wp2_with fail
  refine (HT.out _).mono ?_; rintro e w1 ⟨rfl, hb1⟩
  go_wp2_with fail
  refine (HS.out _).mono ?_; rintro e w2 ⟨A_s, c_s, rfl, o_s, hb2⟩
  have hb := Base.Below.nextA hb1 hb2
  have B2 := Lib.hid hb
  have R3 := Lib.hid o_s.rd
  have hs2 : w.heap.size < w2.heap.size := by have := hb.size; simp only [World.size_alloc] at this; omega
  have c0 : w2.cell? ⟨w.heap.size, 0, none⟩ = some (.int .i64 K) := box_cells hb 0
  have c1 : w2.cell? ⟨w.heap.size, 1, none⟩ = some (.int .i64 W) := box_cells hb 1
  have c2 : w2.cell? ⟨w.heap.size, 2, none⟩ = some (.int .i64 T) := box_cells hb 2
  have c3 : w2.cell? ⟨w.heap.size, 3, none⟩ = some (.int .i64 m) := box_cells hb 3
  have c4 : w2.cell? ⟨w.heap.size, 4, none⟩ = some (.int .i64 f) := box_cells hb 4
  have c5 : w2.cell? ⟨w.heap.size, 5, none⟩ = some (.int .i64 a) := box_cells hb 5
  have c6 : w2.cell? ⟨w.heap.size, 6, none⟩ = some (.int .i64 s) := box_cells hb 6
  clear hb1 hb2 hb o_s
  go_wp2_with fail
  obtain ⟨W2, hW2⟩ : ∃ x, x = w2.alloc (.cells #[.int .i64 K', .int .i64 W', .int .i64 T', .int .i64 m', .int .i64 f', .int .i64 a', .int .i64 s'] 76) := ⟨_, rfl⟩
  have X2 := Lib.hid (show Below w2.heap.size w2 W2 by rw [hW2]; exact (Below.refl _ _).alloc (Nat.le_refl _) _)
  have K2 := Lib.hid (show SBox W2 w2.heap.size K' W' T' m' f' a' s' by rw [hW2]; exact SBox.new _ _ _ _ _ _ _ _)
  have z2 : w2.heap.size < W2.heap.size := K2.out.lt
  rw [← hW2]
  clear hW2 c0 c1 c2 c3 c4 c5 c6
  refine (HT.out _).mono ?_; rintro e w3 ⟨rfl, hb3⟩
  have hs3 := hb3.size
  go_wp2_with fail
  refine (HI.out _).mono ?_; rintro e w4 ⟨A_g, c_g, rfl, o_g, hb4⟩
  have hs4 := hb4.size
  have Y4 := Lib.hid (Base.Below.nextA X2.out (Base.Below.nextA hb3 hb4))
  have B4 := Lib.hid (Base.Below.nextA B2.out Y4.out)
  have G4 := Lib.hid o_g
  have K24 := Lib.hid (K2.out.below (Base.Below.nextA hb3 hb4) K2.out.lt)
  clear hb3 hb4 o_g
  go_wp2_with fail
  obtain ⟨W4, hW4⟩ : ∃ x, x = w4.alloc (.cells #[.int .i64 K', .int .i64 W', .int .i64 T', .int .i64 m', .int .i64 f', .int .i64 a', .int .i64 s'] 76) := ⟨_, rfl⟩
  have X4 := Lib.hid (show Below w4.heap.size w4 W4 by rw [hW4]; exact (Below.refl _ _).alloc (Nat.le_refl _) _)
  have K4 := Lib.hid (show SBox W4 w4.heap.size K' W' T' m' f' a' s' by rw [hW4]; exact SBox.new _ _ _ _ _ _ _ _)
  have z4 : w4.heap.size < W4.heap.size := K4.out.lt
  rw [← hW4]
  clear hW4
  have Y5 := Lib.hid (Base.Below.nextA Y4.out X4.out)
  have G5 := Lib.hid (OwnI.below G4.out X4.out)
  refine (eqI_yes A_g A_s c_g c_s _ _ L W4 (OwnI.rd G5.out) (R3.out.below Y5.out (Nat.le_refl _)) (by omega)).mono ?_
  rintro e w5 ⟨rfl, n5, e5⟩
  have x5 : Below W4.heap.size W4 w5 := by rw [e5]; exact below_drewN (Below.refl _ _) _
  have Y6 := Lib.hid (Base.Below.nextA Y5.out x5)
  have G6 := Lib.hid (OwnI.below G5.out x5)
  have K25 := Lib.hid ((K24.out.below X4.out K24.out.lt).below x5 (Nat.lt_of_lt_of_le K24.out.lt X4.out.size))
  have K45 := Lib.hid (K4.out.below x5 K4.out.lt)
  have hs5 := x5.size
  clear e5 x5
  have x0 := (K45.out).c0; have x1 := (K45.out).c1; have x2 := (K45.out).c2; have x3 := (K45.out).c3; have x4 := (K45.out).c4; have x5 := (K45.out).c5; have x6 := (K45.out).c6
  have y0 := (K25.out).c0; have y1 := (K25.out).c1; have y2 := (K25.out).c2; have y3 := (K25.out).c3; have y4 := (K25.out).c4; have y5 := (K25.out).c5; have y6 := (K25.out).c6
  go_wp2_with fail
  clear x0 x1 x2 x3 x4 x5 x6 y0 y1 y2 y3 y4 y5 y6
  refine (eqStream_yes K' W' T' m' f' a' s' _).mono ?_
  rintro e w6 ⟨rfl, hb6⟩
  have Y7 := Lib.hid (Base.Below.nextA Y6.out hb6)
  have G7 := Lib.hid (OwnI.below G6.out hb6)
  have K26 := Lib.hid (K25.out.below hb6 K25.out.lt)
  have hs6 := hb6.size
  clear hb6
  go_wp2_with fail
  refine (markI_any A_g c_g w3.heap.size 1 L.length L w6 rfl G7.out (by omega)).mono ?_
  rintro e w7 ⟨rfl, o7, g7⟩
  have b7 : Below w3.heap.size w6 w7 := grown_below g7 (fun q hq => by obtain ⟨_, _, h1, _⟩ := ownsRow_block o7 hq; exact h1) (by omega)
  have K27 := Lib.hid (K26.out.below b7 (by omega))
  have Y8 := Lib.hid (Y7.out.trans (b7.mono (by omega)))
  have B8 := Lib.hid (B2.out.trans (Y8.out.mono B2.out.size))
  have OM := Lib.hid o7
  have hkR : 1 + L.length ≤ 1099511627776 := by omega
  have HH := Lib.hid (fun (W : World) (hW : Below w7.heap.size w7 W) => heldI_yes A_g c_g _ 1 L.length W (by have := ownsRow_below OM.out hW; exact OwnI_rdm this) (by omega))
  clear b7 o7 g7
  have c0 : w7.cell? ⟨w.heap.size, 0, none⟩ = some (.int .i64 K) := box_cells B8.out 0
  have c1 : w7.cell? ⟨w.heap.size, 1, none⟩ = some (.int .i64 W) := box_cells B8.out 1
  have c2 : w7.cell? ⟨w.heap.size, 2, none⟩ = some (.int .i64 T) := box_cells B8.out 2
  have c3 : w7.cell? ⟨w.heap.size, 3, none⟩ = some (.int .i64 m) := box_cells B8.out 3
  have c4 : w7.cell? ⟨w.heap.size, 4, none⟩ = some (.int .i64 f) := box_cells B8.out 4
  have c5 : w7.cell? ⟨w.heap.size, 5, none⟩ = some (.int .i64 a) := box_cells B8.out 5
  have c6 : w7.cell? ⟨w.heap.size, 6, none⟩ = some (.int .i64 s) := box_cells B8.out 6
  go_wp2_with fail
  refine (HH.out w7 (Below.refl _ _)).mono ?_
  rintro e w' ⟨rfl, rfl⟩
  go_wp2_with fail
  clear c0 c1 c2 c3 c4 c5 c6
  refine (HT.out _).mono ?_; rintro e w8 ⟨rfl, hb8⟩
  go_wp2_with fail
  refine (HI.out _).mono ?_; rintro e w9 ⟨A_h, c_h, rfl, o_h, hb9⟩
  have Z9 := Lib.hid (Base.Below.nextA hb8 hb9)
  have H9 := Lib.hid o_h
  clear hb8 hb9 o_h
  go_wp2_with fail
  obtain ⟨W9, hW9⟩ : ∃ x, x = w9.alloc (.cells #[.int .i64 K', .int .i64 W', .int .i64 T', .int .i64 m', .int .i64 f', .int .i64 a', .int .i64 s'] 76) := ⟨_, rfl⟩
  have X9 := Lib.hid (show Below w9.heap.size w9 W9 by rw [hW9]; exact (Below.refl _ _).alloc (Nat.le_refl _) _)
  have K9 := Lib.hid (show SBox W9 w9.heap.size K' W' T' m' f' a' s' by rw [hW9]; exact SBox.new _ _ _ _ _ _ _ _)
  have z9 : w9.heap.size < W9.heap.size := K9.out.lt
  rw [← hW9]
  clear hW9
  have Z10 := Lib.hid (Base.Below.nextA Z9.out X9.out)
  refine (eqI_yes A_h A_s c_h c_s _ _ L W9 (OwnI.rd (OwnI.below H9.out X9.out)) (R3.out.below (Base.Below.nextA Y8.out Z10.out) (Nat.le_refl _)) (by omega)).mono ?_
  rintro e w10 ⟨rfl, n10, e10⟩
  have x10 : Below W9.heap.size W9 w10 := by rw [e10]; exact below_drewN (Below.refl _ _) _
  have Z11 := Lib.hid (Base.Below.nextA Z10.out x10)
  have K910 := Lib.hid (K9.out.below x10 K9.out.lt)
  have K210 := Lib.hid (K27.out.below Z11.out K27.out.lt)
  clear e10 x10
  have x0 := (K910.out).c0; have x1 := (K910.out).c1; have x2 := (K910.out).c2; have x3 := (K910.out).c3; have x4 := (K910.out).c4; have x5 := (K910.out).c5; have x6 := (K910.out).c6
  have y0 := (K210.out).c0; have y1 := (K210.out).c1; have y2 := (K210.out).c2; have y3 := (K210.out).c3; have y4 := (K210.out).c4; have y5 := (K210.out).c5; have y6 := (K210.out).c6
  go_wp2_with fail
  clear x0 x1 x2 x3 x4 x5 x6 y0 y1 y2 y3 y4 y5 y6
  refine (eqStream_yes K' W' T' m' f' a' s' _).mono ?_
  rintro e w11 ⟨rfl, hb11⟩
  have Z12 := Lib.hid (Base.Below.nextA Z11.out hb11)
  clear hb11
  go_wp2_with fail
  refine (HH.out _ Z12.out).mono ?_
  rintro e w' ⟨rfl, rfl⟩
  have BE := Lib.hid (Base.Below.boxed (Base.Below.nextA B8.out Z12.out))
  go_wp2
  go_ret
  exact ⟨rfl, BE.out⟩
theorem exactFacesOf_v {v : Value} (h : Open.IsStream v) (n c : Int) (w : World) : Calls Try.prog 12 #[v, .int .i64 n, .int .i64 c] w fun e w' => e = .returned (.bool true) ∧ Below w.heap.size w w' := by
  obtain ⟨K, W, T, m, f, a, s, rfl⟩ := h.ex
  exact exactFacesOf_any K W T m f a s n c w
end Go.Proofs.Ytpflbcdbmainiaa.Face
