/- The law on radical inverses, walked. -/
import Derived.Test.YtjkcdnfmmfpbjaaInvLawM
import Derived.Test.YtjkcdnfmmfpbjaaHalLaw
import Derived.Test.YtjkcdnfmmfpbjaaRBits
import Derived.Test.YtjkcdnfmmfpbjaaR8
namespace Go.Proofs.Ytjkcdnfmmfpbjaa.InvW
open Go.RowKit Go.Proofs.Ytjkcdnfmmfpbjaa Go.Proofs.Ytjkcdnfmmfpbjaa.Base Go.Proofs.Ytjkcdnfmmfpbjaa.Mem Go.Proofs.Ytjkcdnfmmfpbjaa.Inv Go.Proofs.Ytjkcdnfmmfpbjaa.MemF Go.Proofs.Ytjkcdnfmmfpbjaa.Hal Go.Proofs.Ytjkcdnfmmfpbjaa.RBits
set_option linter.unusedVariables false
theorem invN_yes {n b : Nat} (hn : n ≤ 1000000) (hb : 2 ≤ b) (hb' : b ≤ 36) : invB (n : Int) (b : Int) = true := by simp [invB, inR]; omega
theorem impl_yes {n b : Nat} (hn : n ≤ 1000000) (hb : 2 ≤ b) (hb' : b ≤ 36) (w : World) : Calls Try.prog 11 #[.int .i64 (n : Int), .int .i64 (b : Int)] w fun e w' => e = .returned (.tuple #[.agg #[.int .i64 (numOf n b), .int .i64 (denOf n b)], .bool true]) ∧ Below w.heap.size w w' := by
  have := implInv_any n b w
  rwa [invN_yes hn hb hb'] at this
theorem hal_two {n b : Nat} (hn : n ≤ 1000000) (hb : 2 ≤ b) (hb' : b ≤ 36) : halN n [(b : Int), 2] = 2 ∧ halR n [(b : Int), 2] = [numOf n b, denOf n b, numOf n 2, denOf n 2] ∧ halB n [(b : Int), 2] = true := by
  have h1 := invN_yes hn hb hb'
  have h2 : invB (n : Int) 2 = true := invN_yes hn (Nat.le_refl 2) (by decide)
  have h3 : halB n [(b : Int), 2] = true := by simp [halB, h1, h2, inR]
  simp [halN, halR, h3, halF]
theorem rd_two (w : World) (x y : Int) (t : TypeId) : RdI (w.alloc (.cells #[.int .i64 x, .int .i64 y] t)) (w.heap.size + 1) (some ⟨w.heap.size, 0, none⟩) [x, y] := fun _ => by
  refine ⟨w.heap.size, 0, rfl, Nat.lt_succ_self _, fun i hi => ?_⟩
  have hi2 : i < 2 := hi
  have : i = 0 ∨ i = 1 := by omega
  rcases this with rfl | rfl
  · exact World.cell?_alloc_new w _ _ _
  · exact World.cell?_alloc_new w _ _ _
theorem below_new (w : World) (o : Obj) : Below w.heap.size w (w.alloc o) := (Below.refl _ _).alloc (Nat.le_refl _) _
set_option maxHeartbeats 4000000 in
set_option maxRecDepth 100000 in
theorem invLaw_any (A0 A1 : Option Addr) (c0 c1 : Nat) (zs ys : List Int) (w : World) (hl0 : zs.length ≤ 9223372036854775807) (hl1 : ys.length ≤ 9223372036854775807) (hz0' : ∀ z ∈ zs, 0 ≤ z ∧ z ≤ 255) (hz1' : ∀ z ∈ ys, 0 ≤ z ∧ z ≤ 255) (hx0 : RdB w w.heap.size A0 zs) (hx1 : RdB w w.heap.size A1 ys) :
    Calls Try.prog 5 #[.slice A0 zs.length c0, .slice A1 ys.length c1] w fun e w' => e = .returned (.bool true) ∧ Below w.heap.size w w' := by
  by_cases hlong : 48 < zs.length ∨ 48 < ys.length
  · clear hx0 hx1 hz0' hz1'
    go_enter Try.func5, Try.ntmps5
    go_wp2_with (go_at_call 21; refine (R8.r8Long_yes _ _ _ _ _ _ _ hlong hl0 hl1).mono ?_; rintro e w' ⟨rfl, rfl⟩)
    go_ret
    exact ⟨rfl, Below.refl _ _⟩
  have hs0 : zs.length ≤ 48 := by omega
  have hs1 : ys.length ≤ 48 := by omega
  have HNum := Lib.hid (r8Number_any A0 c0 zs 60000 w hx0 hs0 hz0')
  have HX1 := Lib.hid hx1
  have HZ1 := Lib.hid hz1'
  clear hx0 hx1 hz0' hz1' hlong
  go_enter Try.func5, Try.ntmps5
  go_wp2_with fail
  refine (R8.r8Long_no _ _ _ _ _ _ _ hs0 hs1).mono ?_
  rintro e w' ⟨rfl, rfl⟩
  go_wp2_with fail
  refine HNum.out.mono ?_
  rintro e w1 ⟨N, rfl, hN, b1⟩
  have hN2 : N ≤ 60000 := by omega
  have RY := Lib.hid ((HX1.out.below b1 (Nat.le_refl _)).more b1.size)
  have B1 := Lib.hid b1
  clear hN b1 HNum
  go_wp2_with fail
  refine (R8.r8At_any A1 c1 _ ys 0 35 _ HZ1.out hl1 RY.out (by decide)).mono ?_
  rintro e w' ⟨r, hr, hr', rfl, rfl⟩
  obtain ⟨b, hbe⟩ : ∃ b : Nat, 2 + r = (b : Int) := ⟨(2 + r).toNat, by omega⟩
  have hb : 2 ≤ b := by omega
  have hb' : b ≤ 36 := by omega
  have hadd : (2 : Int) + r = (b : Int) := hbe
  have hM : N / b ≤ 60000 := Nat.le_trans (Nat.div_le_self _ _) hN2
  have hdiv : (N : Int) / (b : Int) = ((N / b : Nat) : Int) := by simp
  have hrem : (N : Int) % (b : Int) = ((N % b : Nat) : Int) := by simp
  have hrl : N % b < b := Nat.mod_lt _ (by omega)
  have HL := Lib.hid (inv_law (n := N) (b := b) (by omega) hb hb')
  have HI1 := Lib.hid (fun W => impl_yes (n := N) (b := b) (by omega) hb hb' W)
  have HI2 := Lib.hid (fun W => impl_yes (n := N / b) (b := b) (by omega) hb hb' W)
  have HI3 : Hid (∀ W, Calls Try.prog 11 #[.int .i64 (N : Int), .int .i64 2] W fun e w' => e = .returned (.tuple #[.agg #[.int .i64 (numOf N 2), .int .i64 (denOf N 2)], .bool true]) ∧ Below W.heap.size W w') := Lib.hid (fun W => impl_yes (n := N) (b := 2) (by omega) (Nat.le_refl 2) (by decide) W)
  obtain ⟨t1, t2, t3⟩ := hal_two (n := N) (b := b) (by omega) hb hb'
  have HH : Hid (∀ (W : World), Calls Try.prog 15 #[.int .i64 (N : Int), .slice (some ⟨W.heap.size, 0, none⟩) 2 2] (W.alloc (.cells #[.int .i64 (b : Int), .int .i64 2] 2)) (FsRet 2 [numOf N b, denOf N b, numOf N 2, denOf N 2] true (W.alloc (.cells #[.int .i64 (b : Int), .int .i64 2] 2)))) := Lib.hid fun W => by
    have := implHal_any (some ⟨W.heap.size, 0, none⟩) 2 (W.heap.size + 1) (N : Int) [(b : Int), 2] (W.alloc (.cells #[.int .i64 (b : Int), .int .i64 2] 2)) (rd_two W _ _ _) (by simp) (by simp)
    rwa [t1, t2, t3] at this
  clear t1 t2 t3 hr hr' hbe
  generalize numOf (N : Int) (b : Int) = P1 at *
  generalize denOf (N : Int) (b : Int) = Q1 at *
  generalize numOf ((N / b : Nat) : Int) (b : Int) = P2 at *
  generalize denOf ((N / b : Nat) : Int) (b : Int) = Q2 at *
  generalize numOf (N : Int) 2 = P3 at *
  generalize denOf (N : Int) 2 = Q3 at *
  generalize hMe : N / b = M at *
  generalize hre : N % b = R at *
  have hrv := Lib.hid hre
  clear hMe hre
  go_wp2_with fail
  refine (HI1.out _).mono ?_
  rintro e w2 ⟨rfl, b2⟩
  have B2 := Lib.hid (B1.out.trans (b2.mono B1.out.size))
  have d0 : (w2.alloc (.cells #[.int .i64 P1, .int .i64 Q1] 23)).cell? ⟨w2.heap.size, 0, none⟩ = some (.int .i64 P1) := World.cell?_alloc_new w2 #[.int .i64 P1, .int .i64 Q1] 23 0
  have d1 : (w2.alloc (.cells #[.int .i64 P1, .int .i64 Q1] 23)).cell? ⟨w2.heap.size, 1, none⟩ = some (.int .i64 Q1) := World.cell?_alloc_new w2 #[.int .i64 P1, .int .i64 Q1] 23 1
  obtain ⟨V2, hV2⟩ : ∃ V, V = w2.alloc (.cells #[.int .i64 P1, .int .i64 Q1] 23) := ⟨_, rfl⟩
  rw [← hV2] at d0 d1
  have x2 : Below w2.heap.size w2 V2 := by rw [hV2]; exact below_new _ _
  have z2 : V2.heap.size = w2.heap.size + 1 := by rw [hV2]; simp
  have B3 := Lib.hid (B2.out.trans (x2.mono B2.out.size))
  clear b2 x2
  go_wp2_with fail
  rw [← hV2]
  clear hV2
  refine (HI2.out _).mono ?_
  rintro e w3 ⟨rfl, b3⟩
  have d0 := (b3.cell (p := ⟨w2.heap.size, 0, none⟩) (show w2.heap.size < V2.heap.size by omega)).trans d0
  have d1 := (b3.cell (p := ⟨w2.heap.size, 1, none⟩) (show w2.heap.size < V2.heap.size by omega)).trans d1
  have z3 := b3.size
  have e0 : (w3.alloc (.cells #[.int .i64 P2, .int .i64 Q2] 23)).cell? ⟨w3.heap.size, 0, none⟩ = some (.int .i64 P2) := World.cell?_alloc_new w3 #[.int .i64 P2, .int .i64 Q2] 23 0
  have e1 : (w3.alloc (.cells #[.int .i64 P2, .int .i64 Q2] 23)).cell? ⟨w3.heap.size, 1, none⟩ = some (.int .i64 Q2) := World.cell?_alloc_new w3 #[.int .i64 P2, .int .i64 Q2] 23 1
  obtain ⟨V3, hV3⟩ : ∃ V, V = w3.alloc (.cells #[.int .i64 P2, .int .i64 Q2] 23) := ⟨_, rfl⟩
  rw [← hV3] at e0 e1
  have x3 : Below w3.heap.size w3 V3 := by rw [hV3]; exact below_new _ _
  have d0 := (x3.cell (p := ⟨w2.heap.size, 0, none⟩) (show w2.heap.size < w3.heap.size by omega)).trans d0
  have d1 := (x3.cell (p := ⟨w2.heap.size, 1, none⟩) (show w2.heap.size < w3.heap.size by omega)).trans d1
  have zV3 : V3.heap.size = w3.heap.size + 1 := by rw [hV3]; simp
  have B4 := Lib.hid ((B3.out.trans (b3.mono B3.out.size)).trans (x3.mono (by have := B3.out.size; omega)))
  have x4 := Lib.hid (below_new V3 (.cells #[.int .i64 (b : Int), .int .i64 2] 2))
  have HHV := Lib.hid (HH.out V3)
  rw [zV3] at HHV
  clear b3 x3
  go_wp2_with fail
  rw [← hV3]
  refine HHV.out.mono ?_
  rintro e w4 ⟨A4, c4, rfl, o4, b4⟩
  have y4 := x4.out.trans (b4.mono (by simp))
  have z4 := y4.size
  have R4 := o4.rd
  obtain ⟨bb, off, rfl, hbb, hcc⟩ := R4 (by decide)
  have k0 := hcc 0 (by decide)
  have k1 := hcc 1 (by decide)
  have k2 := hcc 2 (by decide)
  have k3 := hcc 3 (by decide)
  have d0 := (y4.cell (p := ⟨w2.heap.size, 0, none⟩) (show w2.heap.size < V3.heap.size by omega)).trans d0
  have d1 := (y4.cell (p := ⟨w2.heap.size, 1, none⟩) (show w2.heap.size < V3.heap.size by omega)).trans d1
  have e0 := (y4.cell (p := ⟨w3.heap.size, 0, none⟩) (show w3.heap.size < V3.heap.size by omega)).trans e0
  have e1 := (y4.cell (p := ⟨w3.heap.size, 1, none⟩) (show w3.heap.size < V3.heap.size by omega)).trans e1
  have B5 := Lib.hid (B4.out.trans (y4.mono B4.out.size))
  simp at k0 k1 k2 k3
  have D4 := Lib.hid (And.intro d0 (And.intro d1 (And.intro e0 e1)))
  have K4 := Lib.hid (And.intro k0 (And.intro k1 (And.intro k2 k3)))
  clear d0 d1 e0 e1 k0 k1 k2 k3 hcc o4 b4 y4 R4 HHV x4
  go_wp2_with fail
  refine (HI3.out _).mono ?_
  rintro e w5 ⟨rfl, b5⟩
  have z5 := b5.size
  have h0 : (w5.alloc (.cells #[.int .i64 P3, .int .i64 Q3] 23)).cell? ⟨w5.heap.size, 0, none⟩ = some (.int .i64 P3) := World.cell?_alloc_new w5 #[.int .i64 P3, .int .i64 Q3] 23 0
  have h1 : (w5.alloc (.cells #[.int .i64 P3, .int .i64 Q3] 23)).cell? ⟨w5.heap.size, 1, none⟩ = some (.int .i64 Q3) := World.cell?_alloc_new w5 #[.int .i64 P3, .int .i64 Q3] 23 1
  obtain ⟨V5, hV5⟩ : ∃ V, V = w5.alloc (.cells #[.int .i64 P3, .int .i64 Q3] 23) := ⟨_, rfl⟩
  rw [← hV5] at h0 h1
  have x5 : Below w5.heap.size w5 V5 := by rw [hV5]; exact below_new _ _
  have y5 := b5.trans (x5.mono b5.size)
  have q2 : w2.heap.size < w4.heap.size := by omega
  have q3 : w3.heap.size < w4.heap.size := by omega
  have d0 := (y5.cell (p := ⟨w2.heap.size, 0, none⟩) q2).trans D4.out.1
  have d1 := (y5.cell (p := ⟨w2.heap.size, 1, none⟩) q2).trans D4.out.2.1
  have e0 := (y5.cell (p := ⟨w3.heap.size, 0, none⟩) q3).trans D4.out.2.2.1
  have e1 := (y5.cell (p := ⟨w3.heap.size, 1, none⟩) q3).trans D4.out.2.2.2
  have k0 := (y5.cell (p := ⟨bb, off, none⟩) hbb).trans K4.out.1
  have k1 := (y5.cell (p := ⟨bb, off + 1, none⟩) hbb).trans K4.out.2.1
  have k2 := (y5.cell (p := ⟨bb, off + 2, none⟩) hbb).trans K4.out.2.2.1
  have k3 := (y5.cell (p := ⟨bb, off + 3, none⟩) hbb).trans K4.out.2.2.2
  have BE := Lib.hid (B5.out.trans (y5.mono B5.out.size))
  obtain ⟨lp1, lq1, llt, lle, lp2, lq2, llt2, lle2, leq⟩ := HL.out
  have hV5' := Lib.hid hV5
  clear HI1 HI2 HI3 HH HL B1 B2 B3 B4 B5 HX1 HZ1 RY D4 K4 hV5 y5 x5 b5 z2 z3 zV3 z4 z5 hbb q2 q3
  go_wp2_with fail
  rw [← hV5'.out]
  clear hV5'
  have hbn : (b : Int) ≤ 36 := by omega
  have hrn : (R : Int) ≤ 36 := by omega
  obtain ⟨X1, m1⟩ : ∃ X1, P1 * (b : Int) = X1 := ⟨_, rfl⟩
  obtain ⟨X2, m2⟩ : ∃ X2, (R : Int) * Q1 = X2 := ⟨_, rfl⟩
  obtain ⟨X3, m4⟩ : ∃ X3, P2 * Q1 = X3 := ⟨_, rfl⟩
  have m3 : (X1 - X2) * Q2 = X3 := by rw [← m1, ← m2, ← m4, ← hrv.out]; exact leq
  have x1a : 0 ≤ X1 := by rw [← m1]; exact Int.mul_nonneg lp1 (by omega)
  have x1b : X1 ≤ 36000000 * 36 := by rw [← m1]; exact Int.mul_le_mul (by omega) hbn (by omega) (by decide)
  have x2a : 0 ≤ X2 := by rw [← m2]; exact Int.mul_nonneg (by omega) (by omega)
  have x2b : X2 ≤ 36 * 36000000 := by rw [← m2]; exact Int.mul_le_mul hrn lle (by omega) (by decide)
  have x3a : 0 ≤ X3 := by rw [← m4]; exact Int.mul_nonneg lp2 (by omega)
  have x3b : X3 ≤ 36000000 * 36000000 := by rw [← m4]; exact Int.mul_le_mul (by omega) lle (by omega) (by decide)
  clear leq hrv
  go_quiet (fail)
  go_wp2
  go_quiet (fail)
  go_wp2
  go_ret
  exact ⟨rfl, by first | exact below_drewN BE.out _ | exact below_drewN (below_drewN BE.out _) _⟩
/-- an argument of bytes of each -/
theorem invLaw_v {w : World} {v u : Value} (h : Open.IsBytes w v) (h' : Open.IsBytes w u) : Calls Try.prog 5 #[v, u] w fun e w' => e = .returned (.bool true) ∧ Below w.heap.size w w' := by
  obtain ⟨A, c, zs, rfl, hl, hz, hx⟩ := h.ex
  obtain ⟨A', c', ys, rfl, hl', hz', hx'⟩ := h'.ex
  exact invLaw_any A A' c c' zs ys w hl hl' hz hz' hx hx'
end Go.Proofs.Ytjkcdnfmmfpbjaa.InvW
