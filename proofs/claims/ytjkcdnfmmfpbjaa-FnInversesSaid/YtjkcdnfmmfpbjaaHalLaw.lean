/- The law on points of radical inverses. -/
import Derived.Test.YtjkcdnfmmfpbjaaHal
import Derived.Test.YtjkcdnfmmfpbjaaOpen
namespace Go.Proofs.Ytjkcdnfmmfpbjaa.Hal
open Go.RowKit Go.Proofs.Ytjkcdnfmmfpbjaa Go.Proofs.Ytjkcdnfmmfpbjaa.Base Go.Proofs.Ytjkcdnfmmfpbjaa.Mem Go.Proofs.Ytjkcdnfmmfpbjaa.Inv Go.Proofs.Ytjkcdnfmmfpbjaa.MemF Go.Proofs.Ytjkcdnfmmfpbjaa.Cpy
set_option linter.unusedVariables false
/-! ### The law (laws_gen.py) -/
set_option maxHeartbeats 4000000 in
set_option maxRecDepth 100000 in
theorem exactHal_any (A1 : Option Addr) (c1 : Nat) (n : Int) (ys : List Int) (w : World) (hl1 : ys.length ≤ 9223372036854775807) (hx1 : RdI w w.heap.size A1 ys) :
    Calls Try.prog 4 #[.int .i64 n, .slice A1 ys.length c1] w fun e w' => e = .returned (.bool true) ∧ Below w.heap.size w w' := by
  have hR1 := halN_le n ys
  by_cases hb1 : ys.length ≤ 1048576
  case neg =>
    clear hx1
    have hgt : (1048576 : Int) < (ys.length : Int) := by omega
    go_enter Try.func4, Try.ntmps4
    go_wp2
    go_ret
    exact ⟨rfl, Below.refl _ _⟩
  have HX1 := Lib.hid hx1
  clear hx1
  go_enter Try.func4, Try.ntmps4
  have CT1 := Lib.hid (fun (W : World) (hW : Below w.heap.size w W) => toI_any A1 c1 w.heap.size ys W (HX1.out.below hW (Nat.le_refl _)) hW.size hb1)
  have HS := Lib.hid (fun A c B W hx hB => specHal_any A c B n ys W hx hB hb1)
  have HI := Lib.hid (fun A c B W hx hB => implHal_any A c B n ys W hx hB hb1)
  generalize halN n ys = N at *
  generalize halR n ys = R at *
  generalize halB n ys = ok at *
  have hok : (ok != ok) = false := by simp
  go_wp2_with fail
  refine (CT1.out _ (Below.refl _ _)).mono ?_
  rintro e w1 ⟨g_t1, rfl, o_t1, b_w1⟩
  have B_w1 := Lib.hid (b_w1)
  have hs_w1 := (b_w1).size
  have t1 := Lib.hid o_t1
  clear b_w1 o_t1
  go_wp2_with fail
  refine (HS.out _ _ w1.heap.size w1 t1.out.rd (Nat.le_refl _)).mono ?_
  rintro e w2 ⟨A_s, c_s, rfl, o_s, b_w2⟩
  have B_w2 := Lib.hid (Base.Below.nextA B_w1.out b_w2)
  have hs_w2 := (b_w2).size
  have s := Lib.hid o_s
  clear b_w2 o_s
  have R3 := Lib.hid (s.out.rd)
  go_wp2_with fail
  refine (CT1.out _ B_w2.out).mono ?_
  rintro e w3 ⟨g_x1, rfl, o_x1, b_w3⟩
  have B_w3 := Lib.hid (Base.Below.nextA B_w2.out b_w3)
  have Y_w3 := Lib.hid (b_w3)
  have hs_w3 := (b_w3).size
  have x1 := Lib.hid o_x1
  clear b_w3 o_x1
  go_wp2_with fail
  refine (HI.out _ _ w3.heap.size w3 x1.out.rd (Nat.le_refl _)).mono ?_
  rintro e w4 ⟨A_g, c_g, rfl, o_g, b_w4⟩
  have B_w4 := Lib.hid (Base.Below.nextA B_w3.out b_w4)
  have x1_w4 := Lib.hid (x1.out.below b_w4)
  have Y_w4 := Lib.hid (Base.Below.nextA Y_w3.out b_w4)
  have hs_w4 := (b_w4).size
  have g := Lib.hid o_g
  clear b_w4 o_g
  go_wp2_with fail
  refine (MemF.eqF_yes A_g A_s c_g c_s _ _ N R w4 g.out.rd (R3.out.below Y_w4.out (Nat.le_refl _)) (by omega) (by omega) (by omega)).mono ?_
  rintro e w5 ⟨rfl, x_w5⟩
  have B_w5 := Lib.hid (Base.Below.nextA B_w4.out x_w5)
  have x1_w5 := Lib.hid (x1_w4.out.below x_w5)
  have g_w5 := Lib.hid (g.out.below x_w5)
  have Y_w5 := Lib.hid (Base.Below.nextA Y_w4.out x_w5)
  have hs_w5 := (x_w5).size
  clear x_w5
  go_wp2_with fail
  refine (CT1.out _ B_w5.out).mono ?_
  rintro e w6 ⟨g_u1, rfl, o_u1, b_w6⟩
  have B_w6 := Lib.hid (Base.Below.nextA B_w5.out b_w6)
  have x1_w6 := Lib.hid (x1_w5.out.below b_w6)
  have g_w6 := Lib.hid (g_w5.out.below b_w6)
  have Y_w6 := Lib.hid (Base.Below.nextA Y_w5.out b_w6)
  have hs_w6 := (b_w6).size
  have u1 := Lib.hid o_u1
  clear b_w6 o_u1
  go_wp2_with fail
  refine (eqI_yes _ _ _ _ _ _ ys w6 x1_w6.out.rd u1.out.rd (by omega)).mono ?_
  rintro e w7 ⟨rfl, n_w7, e_w7⟩
  have x_w7 : Below w6.heap.size w6 w7 := by rw [e_w7]; exact below_drewN (Below.refl _ _) _
  clear e_w7
  have B_w7 := Lib.hid (Base.Below.nextA B_w6.out x_w7)
  have x1_w7 := Lib.hid (x1_w6.out.below x_w7)
  have g_w7 := Lib.hid (g_w6.out.below x_w7)
  have Y_w7 := Lib.hid (Base.Below.nextA Y_w6.out x_w7)
  have hs_w7 := (x_w7).size
  clear x_w7
  go_wp2_with fail
  refine (markI_any _ _ w2.heap.size (1) ys.length ys w7 rfl x1_w7.out (by omega)).mono ?_
  rintro e w8 ⟨rfl, q_w8, g_w8⟩
  have b_w8 : Below w2.heap.size w7 w8 := grown_below g_w8 (fun q hq => (ownsRow_block q_w8 hq).choose_spec.2.1) (by omega)
  have a_w8 : Above w3.heap.size w7 w8 := Above.grown g_w8 (fun q hq => (ownsRow_block x1.out hq).choose_spec.2.2)
  clear q_w8 g_w8
  have B_w8 := Lib.hid (B_w7.out.trans (b_w8.mono (by omega)))
  have Y_w8 := Lib.hid (Y_w7.out.trans (b_w8.mono (by omega)))
  have g_w8 := Lib.hid (MemF.OwnF_above g_w7.out (fun g h1 h2 => a_w8 g (by omega) h2))
  have hs_w8 := b_w8.size
  clear a_w8 b_w8
  have hkk : 1 + ys.length ≤ 1099511627776 := by omega
  go_wp2_with fail
  refine (MemF.eqF_yes A_g A_s c_g c_s _ _ N R w8 g_w8.out.rd (R3.out.below Y_w8.out (Nat.le_refl _)) (by omega) (by omega) (by omega)).mono ?_
  rintro e w9 ⟨rfl, x_w9⟩
  have B_w9 := Lib.hid (Base.Below.nextA B_w8.out x_w9)
  have g_w9 := Lib.hid (g_w8.out.below x_w9)
  have Y_w9 := Lib.hid (Base.Below.nextA Y_w8.out x_w9)
  have hs_w9 := (x_w9).size
  clear x_w9
  go_wp2_with fail
  refine (MemF.markF_any A_g c_g w3.heap.size 1 N R w9 g_w9.out (by omega)).mono ?_
  rintro e w10 ⟨rfl, o_m, g_w10⟩
  have b_w10 : Below w3.heap.size w9 w10 := grown_below g_w10 (fun q hq => (ownsRow_block o_m hq).choose_spec.2.1) (by omega)
  clear g_w10
  have OM := Lib.hid o_m
  have B_w10 := Lib.hid (B_w9.out.trans (b_w10.mono (by omega)))
  have Y_w10 := Lib.hid (Y_w9.out.trans (b_w10.mono (by omega)))
  have hs_w10 := b_w10.size
  clear o_m b_w10
  have hkR : 1 + 2 * N ≤ 1099511627776 := by omega
  go_wp2_with fail
  refine (MemF.heldF_yes A_g c_g _ 1 N w10 (MemF.OwnF.rd OM.out) (by omega)).mono ?_
  rintro e w' ⟨rfl, rfl⟩
  go_wp2_with fail
  refine (CT1.out _ B_w10.out).mono ?_
  rintro e w11 ⟨g_t1, rfl, o_t1, b_w11⟩
  have B_w11 := Lib.hid (Base.Below.nextA B_w10.out b_w11)
  have Y_w11 := Lib.hid (Base.Below.nextA Y_w10.out b_w11)
  have Z_w11 := Lib.hid (b_w11)
  have hs_w11 := (b_w11).size
  have t1 := Lib.hid o_t1
  clear b_w11 o_t1
  go_wp2_with fail
  refine (HI.out _ _ w11.heap.size w11 t1.out.rd (Nat.le_refl _)).mono ?_
  rintro e w12 ⟨A_h, c_h, rfl, o_h, b_w12⟩
  have B_w12 := Lib.hid (Base.Below.nextA B_w11.out b_w12)
  have Y_w12 := Lib.hid (Base.Below.nextA Y_w11.out b_w12)
  have Z_w12 := Lib.hid (Base.Below.nextA Z_w11.out b_w12)
  have hs_w12 := (b_w12).size
  have h := Lib.hid o_h
  clear b_w12 o_h
  go_wp2_with fail
  refine (MemF.eqF_yes A_h A_s c_h c_s _ _ N R w12 h.out.rd (R3.out.below Y_w12.out (Nat.le_refl _)) (by omega) (by omega) (by omega)).mono ?_
  rintro e w13 ⟨rfl, x_w13⟩
  have B_w13 := Lib.hid (Base.Below.nextA B_w12.out x_w13)
  have h_w13 := Lib.hid (h.out.below x_w13)
  have Y_w13 := Lib.hid (Base.Below.nextA Y_w12.out x_w13)
  have Z_w13 := Lib.hid (Base.Below.nextA Z_w12.out x_w13)
  have hs_w13 := (x_w13).size
  clear x_w13
  go_wp2_with fail
  refine (MemF.heldF_yes A_g c_g _ 1 N w13 (MemF.OwnF.rd (MemF.OwnF.below OM.out Z_w13.out)) (by omega)).mono ?_
  rintro e w' ⟨rfl, rfl⟩
  go_wp2
  go_ret
  exact ⟨rfl, B_w13.out⟩
theorem exactHal_v {w : World} {u : Value} (n : Int) (h' : Open.IsInts w u) : Calls Try.prog 4 #[.int .i64 n, u] w fun e w' => e = .returned (.bool true) ∧ Below w.heap.size w w' := by
  obtain ⟨A', c', ys, rfl, hy, _, hy'⟩ := h'.ex
  exact exactHal_any A' c' n ys w hy hy'
end Go.Proofs.Ytjkcdnfmmfpbjaa.Hal
