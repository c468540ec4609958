/- The law on the parts of a stream. -/
import Derived.Test.YtpflbcdbmainiaaSplit
namespace Go.Proofs.Ytpflbcdbmainiaa.Split
open Go.RowKit Go.Proofs.Ytpflbcdbmainiaa Go.Proofs.Ytpflbcdbmainiaa.Base Go.Proofs.Ytpflbcdbmainiaa.Mem Go.Proofs.Ytpflbcdbmainiaa.Str Go.Proofs.Ytpflbcdbmainiaa.Take Go.Proofs.Ytpflbcdbmainiaa.Skip Go.Proofs.Ytpflbcdbmainiaa.MemS
set_option linter.unusedVariables false
theorem splitN_le (K W T m f a s n l : Int) : splitN K W T m f a s n l ≤ 8 := by
  unfold splitN
  split
  · rename_i h
    rw [Bool.and_eq_true] at h
    obtain ⟨p1, p2, _, _⟩ := splitB_true h.2
    omega
  · omega
set_option maxHeartbeats 1000000 in
set_option maxRecDepth 100000 in
theorem exactSplit_any (K W T m f a s n l : Int) (w : World) :
    Calls Try.prog 11 #[.agg #[.int .i64 K, .int .i64 W, .int .i64 T, .int .i64 m, .int .i64 f, .int .i64 a, .int .i64 s], .int .i64 n, .int .i64 l] w fun e w' => e = .returned (.bool true) ∧ Below w.heap.size w w' := by
  have hN := splitN_le K W T m f a s n l
  have HT := Lib.hid (fun w => toStream_any K W T m f a s w)
  have HS := Lib.hid (fun w => specSplit_any K W T m f a s n l w)
  have HI := Lib.hid (fun w => implSplit_any K W T m f a s n l w)
  generalize splitN K W T m f a s n l = N at *
  generalize splitR K W T m f a s n l = F at *
  generalize (streamB K W T m f a s && splitB n l) = r at *
  have hok : (r != r) = false := by simp
  go_enter Try.func11, Try.ntmps11
  go_wp2_with fail
  refine (HT.out _).mono ?_; rintro e w1 ⟨rfl, hb1⟩
  go_wp2_with fail
  refine (HS.out _).mono ?_; rintro e w2 ⟨A_s, c_s, rfl, o_s, hb2⟩
  have hb := Base.Below.nextA hb1 hb2
  have B2 := Lib.hid hb
  have R3 := Lib.hid o_s.rd
  have hs2 : w.heap.size + 1 ≤ w2.heap.size := by have := hb.size; simp only [World.size_alloc] at this; omega
  have c0 : w2.cell? ⟨w.heap.size, 0, none⟩ = some (.int .i64 K) := box_cells hb 0
  have c1 : w2.cell? ⟨w.heap.size, 1, none⟩ = some (.int .i64 W) := box_cells hb 1
  have c2 : w2.cell? ⟨w.heap.size, 2, none⟩ = some (.int .i64 T) := box_cells hb 2
  have c3 : w2.cell? ⟨w.heap.size, 3, none⟩ = some (.int .i64 m) := box_cells hb 3
  have c4 : w2.cell? ⟨w.heap.size, 4, none⟩ = some (.int .i64 f) := box_cells hb 4
  have c5 : w2.cell? ⟨w.heap.size, 5, none⟩ = some (.int .i64 a) := box_cells hb 5
  have c6 : w2.cell? ⟨w.heap.size, 6, none⟩ = some (.int .i64 s) := box_cells hb 6
  clear hb1 hb2 hb o_s
  go_wp2_with fail
  refine (HT.out _).mono ?_; rintro e w3 ⟨rfl, hb3⟩
  have hs3 := hb3.size
  clear c0 c1 c2 c3 c4 c5 c6
  go_wp2_with fail
  refine (HI.out _).mono ?_; rintro e w4 ⟨A_g, c_g, rfl, o_g, hb4⟩
  have hs4 := hb4.size
  have Y4 := Lib.hid (Base.Below.nextA hb3 hb4)
  have B4 := Lib.hid (Base.Below.nextA B2.out Y4.out)
  have G4 := Lib.hid o_g
  clear hb3 hb4 o_g
  go_wp2_with fail
  refine (eqS_yes A_g A_s c_g c_s w4.heap.size w2.heap.size N F w4 G4.out.rd (R3.out.below Y4.out (Nat.le_refl _)) (Nat.le_refl _) (by omega) (by omega)).mono ?_
  rintro e w5 ⟨rfl, hb5⟩
  have hs5 := hb5.size
  have Y5 := Lib.hid (Base.Below.nextA Y4.out hb5)
  have B5 := Lib.hid (Base.Below.nextA B4.out hb5)
  have G5 := Lib.hid (G4.out.below hb5)
  clear hb5
  go_wp2_with fail
  refine (markS_any A_g c_g w3.heap.size 1 N F w5 G5.out (by omega)).mono ?_
  rintro e w6 ⟨rfl, o6, g6⟩
  have OM := Lib.hid o6
  have b6 : Below w3.heap.size w5 w6 := grown_below g6 (fun q hq => by obtain ⟨_, _, h1, h2⟩ := ownsRow_block o6 hq; exact h1) (by omega)
  have hs6 := b6.size
  have Y6 := Lib.hid (Y5.out.trans (b6.mono (by omega)))
  have hb := B5.out.trans (b6.mono (by simp only [World.size_alloc]; omega))
  have B6 := Lib.hid hb
  have hq : (1 + 7 * N : Nat) ≤ 1000 := by omega
  clear o6 g6 b6
  generalize hM : (1 + 7 * N : Nat) = M at *
  have HH := Lib.hid (fun (w8 : World) (h8 : Below w6.heap.size w6 w8) => heldS_yes A_g c_g w6.heap.size 1 N w8 (OM.out.rd.below h8 (Nat.le_refl _)) (by omega))
  rw [hM] at HH
  have c0 : w6.cell? ⟨w.heap.size, 0, none⟩ = some (.int .i64 K) := box_cells hb 0
  have c1 : w6.cell? ⟨w.heap.size, 1, none⟩ = some (.int .i64 W) := box_cells hb 1
  have c2 : w6.cell? ⟨w.heap.size, 2, none⟩ = some (.int .i64 T) := box_cells hb 2
  have c3 : w6.cell? ⟨w.heap.size, 3, none⟩ = some (.int .i64 m) := box_cells hb 3
  have c4 : w6.cell? ⟨w.heap.size, 4, none⟩ = some (.int .i64 f) := box_cells hb 4
  have c5 : w6.cell? ⟨w.heap.size, 5, none⟩ = some (.int .i64 a) := box_cells hb 5
  have c6 : w6.cell? ⟨w.heap.size, 6, none⟩ = some (.int .i64 s) := box_cells hb 6
  clear hb hM
  go_wp2_with fail
  refine (HH.out _ (Below.refl _ _)).mono ?_
  rintro e w' ⟨rfl, rfl⟩
  go_wp2_with fail
  refine (HT.out _).mono ?_; rintro e w7 ⟨rfl, hb7⟩
  clear c0 c1 c2 c3 c4 c5 c6
  go_wp2_with fail
  refine (HI.out _).mono ?_; rintro e w8 ⟨A_h, c_h, rfl, o_h, hb8⟩
  have Z8 := Lib.hid (Base.Below.nextA hb7 hb8)
  have hs8 := Z8.out.size
  have H8 := Lib.hid o_h
  clear hb7 hb8 o_h
  go_wp2_with fail
  refine (eqS_yes A_h A_s c_h c_s w8.heap.size w2.heap.size N F w8 H8.out.rd (R3.out.below (Base.Below.nextA Y6.out Z8.out) (Nat.le_refl _)) (Nat.le_refl _) (by omega) (by omega)).mono ?_
  rintro e w9 ⟨rfl, hb9⟩
  have Z9 := Lib.hid (Base.Below.nextA Z8.out hb9)
  clear hb9
  go_wp2_with fail
  refine (HH.out _ Z9.out).mono ?_
  rintro e w' ⟨rfl, rfl⟩
  have BE := Lib.hid (((Below.refl w.heap.size w).alloc (Nat.le_refl _) _).trans ((Base.Below.nextA B6.out Z9.out).mono (by simp only [World.size_alloc]; omega)))
  go_wp2
  go_ret
  exact ⟨rfl, BE.out⟩
theorem exactSplit_v {v : Value} (h : Open.IsStream v) (n l : Int) (w : World) : Calls Try.prog 11 #[v, .int .i64 n, .int .i64 l] w fun e w' => e = .returned (.bool true) ∧ Below w.heap.size w w' := by
  obtain ⟨K, W, T, m, f, a, s, rfl⟩ := h.ex
  exact exactSplit_any K W T m f a s n l w
end Go.Proofs.Ytpflbcdbmainiaa.Split
