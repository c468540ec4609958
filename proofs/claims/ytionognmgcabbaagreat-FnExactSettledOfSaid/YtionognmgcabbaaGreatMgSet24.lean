/- SettledOf: the law. -/
import Derived.Test.YtionognmgcabbaaGreatMgSet12
import Derived.Test.YtionognmgcabbaaGreatMgSet23
import Derived.Test.YtionognmgcabbaaGreatMgSet09
import Derived.Test.YtionognmgcabbaaGreatRows
import Derived.Below
import Derived.ChangeSame
import Derived.Carry
import Derived.OpenShut
import Derived.Lib.SmallJoins
namespace Go.Proofs.YtionognmgcabbaaGreat.SetL
open Go.RowKit Go.Proofs.YtionognmgcabbaaGreat Go.Proofs.YtionognmgcabbaaGreat.Base Go.Proofs.YtionognmgcabbaaGreat.Mem Go.Proofs.YtionognmgcabbaaGreat.MemF Go.Proofs.YtionognmgcabbaaGreat.ChM Go.Proofs.YtionognmgcabbaaGreat.GiveM Go.Proofs.YtionognmgcabbaaGreat.Ratio Go.Proofs.YtionognmgcabbaaGreat.Cpy
set_option linter.unusedVariables false
/-- a copy of a walk -/
def WalkCp (n : Nat) (L : Nat → Nat) (fs : Nat → List Int) (v : Value) (w : World) : Prop := ∃ g, v = .agg #[.slice (some ⟨g, 0, none⟩) n n] ∧ WalkM.RdFF w w.heap.size (some ⟨g, 0, none⟩) n L fs
theorem walkCp_mono (n : Nat) (L : Nat → Nat) (fs : Nat → List Int) : Rel.Mono (fun v w => WalkCp n L fs v w) := fun v w w' h hb => by
  obtain ⟨g, e, hr⟩ := h
  exact ⟨g, e, (hr.below hb (Nat.le_refl _)).more hb.size⟩
set_option maxHeartbeats 4000000 in
set_option maxRecDepth 100000 in
theorem exactSet_any (A0 : Option Addr) (c0 : Nat) (n : Nat) (L : Nat → Nat) (fs : Nat → List Int) (w : World) (hl0 : n ≤ 9223372036854775807) (hL : ∀ i, i < n → L i ≤ 9223372036854775807 ∧ (fs i).length = 2 * L i) (hx0 : WalkM.RdFF w w.heap.size A0 n L fs) :
    Calls Tryz.prog 7 #[.agg #[.slice A0 n c0]] w fun e w' => e = .returned (.bool true) ∧ Below w.heap.size w w' := by
  have hR1 := stN_le n L fs
  obtain ⟨W0, hW0⟩ : ∃ W0, W0 = w.alloc (.cells #[.slice A0 n c0] 24) := ⟨_, rfl⟩
  have hb0 : Below w.heap.size w W0 := by rw [hW0]; exact (Below.refl _ _).alloc (Nat.le_refl _) _
  have k0 : Blk.Blk W0 w.heap.size 24 #[.slice A0 n c0] := by rw [hW0]; exact Blk.Blk.new _ _ _
  have hw0 := k0.lt
  have HX0 := Lib.hid (hx0.below hb0 (Nat.le_refl _))
  have K_W0 := Lib.hid k0
  have B_W0 := Lib.hid hb0
  have HV_W0 := Lib.hid hW0
  have HLW := Lib.hid hL
  have P_W0 := Lib.hid (Below.refl W0.heap.size W0)
  clear hW0 hb0 k0 hL hx0
  have HSZ0 := Lib.hid (fun k (hk : 0 ≤ k) (hk2 : k ≤ 1048576) => CpyW.szW_any A0 c0 w.heap.size n k L fs W0 HX0.out (Nat.le_of_lt hw0) hl0 (fun i hi => (HLW.out i hi).1) hk hk2)
  go_enter Tryz.func7, Tryz.ntmps7
  go_wp2_with fail
  rw [← HV_W0.out]
  refine (HSZ0.out 1048576 (by omega) (by omega)).mono ?_
  rintro e w1 ⟨r0, rfl, hr0, b_w1⟩
  have B_w1 := Lib.hid (Base.Below.nextA B_W0.out b_w1)
  have P_w1 := Lib.hid (Base.Below.nextA P_W0.out b_w1)
  have K_w1 := Lib.hid (K_W0.out.belowS b_w1)
  have hs_w1 := (b_w1).size
  clear B_W0 P_W0 K_W0
  clear b_w1
  rcases hr0 with rfl | ⟨hr0a, hr0b⟩
  · go_wp2
    go_ret
    exact ⟨rfl, B_w1.out⟩
  have hb0 : n ≤ 1048576 := by omega
  have ht0 : CpyW.totL L n ≤ 1048576 := by omega
  have hr0c : r0 ≤ 1048576 := by omega
  have HLL := Lib.hid (fun i (hi : i < n) => Nat.le_trans (CpyW.le_totL (L := L) hi) ht0)
  clear hr0b
  have CT0 := Lib.hid (fun (W : World) (hP : Below W0.heap.size W0 W) => CpyW.toW_any A0 c0 w.heap.size n L fs W (HX0.out.below hP (Nat.le_of_lt hw0)) (Nat.le_trans (Nat.le_of_lt hw0) hP.size) hb0 HLL.out (fun i hi => (HLW.out i hi).2))
  have HS := Lib.hid (fun (A : Option Addr) (c : Nat) (B : Nat) (W : World) (hx : WalkM.RdFF W B A n L fs) (hB : B ≤ W.heap.size) => Wide.setOfS_any (L := L) (fs := fs) (c := c) (A := A) W hx hB HLL.out hb0)
  have HI := Lib.hid (fun (A : Option Addr) (c : Nat) (B : Nat) (W : World) (hx : WalkM.RdFF W B A n L fs) (hB : B ≤ W.heap.size) => setOfI_any (L := L) (fs := fs) (c := c) (A := A) W hx hB HLL.out hb0)
  generalize stN n L fs = N at *
  generalize stR n L fs = R at *
  generalize stO n L fs = ok at *
  have hok : (ok != ok) = false := by simp
  have ld0 := K_w1.out.at 0 (v := .slice A0 n c0) rfl
  go_wp2_with fail
  clear ld0
  refine (CT0.out _ P_w1.out).mono ?_
  rintro e w2 ⟨g_t0, us_t0, rfl, o_t0, b_w2⟩
  have B_w2 := Lib.hid (Base.Below.nextA B_w1.out b_w2)
  have P_w2 := Lib.hid (Base.Below.nextA P_w1.out b_w2)
  have K_w2 := Lib.hid (K_w1.out.belowS b_w2)
  have hs_w2 := (b_w2).size
  clear B_w1 P_w1 K_w1
  have t0 := Lib.hid o_t0
  clear b_w2 o_t0
  go_wp2_with fail
  refine (HS.out _ _ w2.heap.size w2 t0.out.rd (Nat.le_refl _)).mono ?_
  rintro e w3 ⟨A_s, c_s, rfl, o_s, b_w3⟩
  have B_w3 := Lib.hid (Base.Below.nextA B_w2.out b_w3)
  have P_w3 := Lib.hid (Base.Below.nextA P_w2.out b_w3)
  have K_w3 := Lib.hid (K_w2.out.belowS b_w3)
  have hs_w3 := (b_w3).size
  clear B_w2 P_w2 K_w2
  have s := Lib.hid o_s
  clear b_w3 o_s
  have R3 := Lib.hid (s.out.rd)
  have ld0 := K_w3.out.at 0 (v := .slice A0 n c0) rfl
  go_wp2_with fail
  clear ld0
  refine (CT0.out _ P_w3.out).mono ?_
  rintro e w4 ⟨g_x0, us_x0, rfl, o_x0, b_w4⟩
  have B_w4 := Lib.hid (Base.Below.nextA B_w3.out b_w4)
  have P_w4 := Lib.hid (Base.Below.nextA P_w3.out b_w4)
  have K_w4 := Lib.hid (K_w3.out.belowS b_w4)
  have Y_w4 := Lib.hid (b_w4)
  have hs_w4 := (b_w4).size
  clear B_w3 P_w3 K_w3
  have x0 := Lib.hid o_x0
  clear b_w4 o_x0
  obtain ⟨w5, hw5⟩ : ∃ V, V = w4.alloc (.cells #[.slice (some ⟨g_x0, 0, none⟩) n n] 33) := ⟨_, rfl⟩
  have y_w5 : Below w4.heap.size w4 w5 := by rw [hw5]; exact (Below.refl _ _).alloc (Nat.le_refl _) _
  have X_x0 : Hid (Blk.Blk w5 w4.heap.size 33 #[.slice (some ⟨g_x0, 0, none⟩) n n]) := Lib.hid (by rw [hw5]; exact Blk.Blk.new _ _ _)
  have HV_w5 := Lib.hid hw5
  have B_w5 := Lib.hid (Base.Below.nextA B_w4.out y_w5)
  have P_w5 := Lib.hid (Base.Below.nextA P_w4.out y_w5)
  have K_w5 := Lib.hid (K_w4.out.belowS y_w5)
  have x0_w5 := Lib.hid (x0.out.below y_w5)
  have Y_w5 := Lib.hid (Base.Below.nextA Y_w4.out y_w5)
  have hs_w5 := (y_w5).size
  clear B_w4 P_w4 K_w4
  have hx0b := X_x0.out.lt
  clear hw5 y_w5
  go_wp2_with fail
  rw [← HV_w5.out]
  refine (HI.out _ _ w5.heap.size w5 x0_w5.out.rd (Nat.le_refl _)).mono ?_
  rintro e w6 ⟨A_g, c_g, rfl, o_g, b_w6⟩
  have B_w6 := Lib.hid (Base.Below.nextA B_w5.out b_w6)
  have P_w6 := Lib.hid (Base.Below.nextA P_w5.out b_w6)
  have K_w6 := Lib.hid (K_w5.out.belowS b_w6)
  have x0_w6 := Lib.hid (x0_w5.out.below b_w6)
  have X_x0_w6 := Lib.hid (X_x0.out.belowS b_w6)
  have Y_w6 := Lib.hid (Base.Below.nextA Y_w5.out b_w6)
  have hs_w6 := (b_w6).size
  clear B_w5 P_w5 K_w5
  have g := Lib.hid o_g
  clear b_w6 o_g
  go_wp2_with fail
  refine (MemF.eqF_yes A_g A_s c_g c_s _ _ N R w6 g.out.rd (R3.out.below Y_w6.out (Nat.le_refl _)) (by omega) (by omega) (by omega)).mono ?_
  rintro e w7 ⟨rfl, x_w7⟩
  have B_w7 := Lib.hid (Base.Below.nextA B_w6.out x_w7)
  have P_w7 := Lib.hid (Base.Below.nextA P_w6.out x_w7)
  have K_w7 := Lib.hid (K_w6.out.belowS x_w7)
  have x0_w7 := Lib.hid (x0_w6.out.below x_w7)
  have g_w7 := Lib.hid (g.out.below x_w7)
  have X_x0_w7 := Lib.hid (X_x0_w6.out.belowS x_w7)
  have Y_w7 := Lib.hid (Base.Below.nextA Y_w6.out x_w7)
  have hs_w7 := (x_w7).size
  clear B_w6 P_w6 K_w6
  clear x_w7
  go_wp2
  have HXX := Lib.hid x0_w7.out.rd
  have KX := X_x0_w7
  have KW := K_w7
  have HPP := P_w7
  refine Rel.wp_region_rel 5 (by kernel_rfl) (by kernel_rfl) (fun F hF => ?_)
  simp only [List.take_succ_cons, List.take_zero, List.drop_succ_cons, List.drop_zero, Rel.putL] at hF ⊢
  have HF := Lib.hid hF
  clear hF
  have uv := @Rel.upon_value Tryz.prog
  have ue := @Rel.upon_enter Tryz.prog
  apply Rel.rel_pure
  apply Exists.intro
  refine ⟨fun vs wq hq hdp R hR => ?_, ?_⟩
  · (rw [HF.out, Rel.stepAt_eq]; clear hdp; have x0 := (KX.out.belowS hq).at 0 (v := .slice (some ⟨g_x0, 0, none⟩) n n) rfl; go_simp; exact hR)
  apply Rel.rel_pure
  apply Exists.intro
  refine ⟨fun vs wq hq hdp R hR => ?_, ?_⟩
  · (rw [HF.out, Rel.stepAt_eq]; clear hdp; have y0 := (KW.out.belowS hq).at 0 (v := .slice A0 n c0) rfl; go_simp; exact hR)
  refine Rel.rel_law (S := fun v w' => WalkCp n L fs v w') (walkCp_mono _ _ _) (fun vs wq hq hdp => ?_) ?_
  · (rw [HF.out, Rel.stepAt_eq]; have qd1 : vs 1 = _ := Rel.dep hdp 1 (by kernel_rfl); clear hdp; skip; go_simp; refine (CT0.out wq (Base.Below.nextA HPP.out hq)).mono ?_; rintro e w7 ⟨g, us, rfl, ho, hb⟩; exact ⟨_, rfl, ⟨g, rfl, ho.rd⟩, hb⟩)
  apply Rel.rel_same
  apply Exists.intro
  refine ⟨fun vs wq hq hdp => ?_, ?_⟩
  · (rw [HF.out, Rel.stepAt_eq]; have qd0 : vs 0 = _ := Rel.dep hdp 0 (by kernel_rfl); have qd2 : WalkCp _ _ _ (vs 2) wq := Rel.dep hdp 2 (by kernel_rfl); clear hdp; obtain ⟨gc, ev, hrd⟩ := qd2; go_simp; refine (CpyW.eqW_yes _ _ _ _ _ _ n L fs wq (HXX.out.below hq (Nat.le_refl _)) hrd (hq.size) (Nat.le_refl _) (by omega) (fun i hi => Nat.le_trans (HLL.out i hi) (by decide))).mono ?_; rintro e w7 ⟨rfl, hb⟩; exact ⟨_, rfl, rfl, hb⟩)
  apply Rel.rel_pure
  apply Exists.intro
  refine ⟨fun vs wq hq hdp R hR => ?_, ?_⟩
  · (rw [HF.out, Rel.stepAt_eq]; have qd3 : vs 3 = _ := Rel.dep hdp 3 (by kernel_rfl); clear hdp; skip; go_simp; exact hR)
  refine Rel.rel_end (fun vs w8 hq hall => ?_)
  rw [HF.out]
  have qe0 : vs 0 = _ := Rel.fin hall 0 (by decide)
  have qe1 : vs 1 = _ := Rel.fin hall 1 (by decide)
  have qe2 : WalkCp _ _ _ (vs 2) w8 := Rel.fin hall 2 (by decide)
  have qe3 : vs 3 = _ := Rel.fin hall 3 (by decide)
  have qe4 : vs 4 = _ := Rel.fin hall 4 (by decide)
  clear hall HF uv ue
  clear HXX KX KW HPP
  rw [show vs (0 + 1 + 1 + 1 + 1) = .bool false from qe4]
  have B_w8 := Lib.hid (Base.Below.nextA B_w7.out hq)
  have P_w8 := Lib.hid (Base.Below.nextA P_w7.out hq)
  have K_w8 := Lib.hid (K_w7.out.belowS hq)
  have x0_w8 := Lib.hid (x0_w7.out.below hq)
  have g_w8 := Lib.hid (g_w7.out.below hq)
  have X_x0_w8 := Lib.hid (X_x0_w7.out.belowS hq)
  have Y_w8 := Lib.hid (Base.Below.nextA Y_w7.out hq)
  have hs_w8 := (hq).size
  clear B_w7 P_w7 K_w7
  clear hq
  have ld0 := X_x0_w8.out.at 0 (v := .slice (some ⟨g_x0, 0, none⟩) n n) rfl
  go_wp2_with fail
  clear ld0
  clear qe0 qe1 qe2 qe3 qe4
  refine (CpyW.markW_any _ _ w3.heap.size w4.heap.size 1 n L fs us_x0 w8 x0_w8.out (by omega) (fun i hi g hg => by obtain ⟨_, _, _, h4⟩ := ownsRow_block (x0.out.rows.inner i hi) hg; exact h4) (by omega) (by omega)).mono ?_
  rintro e w9 ⟨rfl, b_w9, a_w9⟩
  have B_w9 := Lib.hid (B_w8.out.trans (b_w9.mono (by omega)))
  have P_w9 := Lib.hid (P_w8.out.trans (b_w9.mono (by omega)))
  have K_w9 := Lib.hid (K_w8.out.below b_w9 (by omega))
  have Y_w9 := Lib.hid (Y_w8.out.trans (b_w9.mono (by omega)))
  have g_w9 := Lib.hid (MemF.OwnF_above g_w8.out (fun g h1 h2 => a_w9 g (by omega) h2))
  have hs_w9 := b_w9.size
  clear a_w9 b_w9 B_w8 P_w8 K_w8
  have hkk : 1 + 2 * CpyW.totL L n ≤ 1099511627776 := by omega
  go_wp2_with fail
  refine (MemF.eqF_yes A_g A_s c_g c_s _ _ N R w9 g_w9.out.rd (R3.out.below Y_w9.out (Nat.le_refl _)) (by omega) (by omega) (by omega)).mono ?_
  rintro e w10 ⟨rfl, x_w10⟩
  have B_w10 := Lib.hid (Base.Below.nextA B_w9.out x_w10)
  have P_w10 := Lib.hid (Base.Below.nextA P_w9.out x_w10)
  have K_w10 := Lib.hid (K_w9.out.belowS x_w10)
  have g_w10 := Lib.hid (g_w9.out.below x_w10)
  have Y_w10 := Lib.hid (Base.Below.nextA Y_w9.out x_w10)
  have hs_w10 := (x_w10).size
  clear B_w9 P_w9 K_w9
  clear x_w10
  go_wp2_with fail
  refine (MemF.markF_any A_g c_g w5.heap.size 1 N R w10 g_w10.out (by omega)).mono ?_
  rintro e w11 ⟨rfl, o_m, g_w11⟩
  have b_w11 : Below w5.heap.size w10 w11 := grown_below g_w11 (fun q hq => (ownsRow_block o_m hq).choose_spec.2.1) (by omega)
  clear g_w11
  have OM := Lib.hid o_m
  have B_w11 := Lib.hid (B_w10.out.trans (b_w11.mono (by omega)))
  have P_w11 := Lib.hid (P_w10.out.trans (b_w11.mono (by omega)))
  have K_w11 := Lib.hid (K_w10.out.below b_w11 (by omega))
  have Y_w11 := Lib.hid (Y_w10.out.trans (b_w11.mono (by omega)))
  have hs_w11 := b_w11.size
  clear o_m b_w11 B_w10 P_w10 K_w10
  have hkR : 1 + 2 * N ≤ 1099511627776 := by omega
  go_wp2_with fail
  refine (MemF.heldF_yes A_g c_g _ 1 N w11 (MemF.OwnF.rd OM.out) (by omega)).mono ?_
  rintro e w' ⟨rfl, rfl⟩
  have ld0 := K_w11.out.at 0 (v := .slice A0 n c0) rfl
  go_wp2_with fail
  clear ld0
  refine (CT0.out _ P_w11.out).mono ?_
  rintro e w12 ⟨g_v0, us_v0, rfl, o_v0, b_w12⟩
  have B_w12 := Lib.hid (Base.Below.nextA B_w11.out b_w12)
  have P_w12 := Lib.hid (Base.Below.nextA P_w11.out b_w12)
  have K_w12 := Lib.hid (K_w11.out.belowS b_w12)
  have Y_w12 := Lib.hid (Base.Below.nextA Y_w11.out b_w12)
  have Z_w12 := Lib.hid (b_w12)
  have hs_w12 := (b_w12).size
  clear B_w11 P_w11 K_w11
  have v0 := Lib.hid o_v0
  clear b_w12 o_v0
  go_wp2_with fail
  refine (HI.out _ _ w12.heap.size w12 v0.out.rd (Nat.le_refl _)).mono ?_
  rintro e w13 ⟨A_h, c_h, rfl, o_h, b_w13⟩
  have B_w13 := Lib.hid (Base.Below.nextA B_w12.out b_w13)
  have P_w13 := Lib.hid (Base.Below.nextA P_w12.out b_w13)
  have K_w13 := Lib.hid (K_w12.out.belowS b_w13)
  have v0_w13 := Lib.hid (v0.out.below b_w13)
  have Y_w13 := Lib.hid (Base.Below.nextA Y_w12.out b_w13)
  have Z_w13 := Lib.hid (Base.Below.nextA Z_w12.out b_w13)
  have hs_w13 := (b_w13).size
  clear B_w12 P_w12 K_w12
  have h := Lib.hid o_h
  clear b_w13 o_h
  go_wp2_with fail
  refine (MemF.eqF_yes A_h A_s c_h c_s _ _ N R w13 h.out.rd (R3.out.below Y_w13.out (Nat.le_refl _)) (by omega) (by omega) (by omega)).mono ?_
  rintro e w14 ⟨rfl, x_w14⟩
  have B_w14 := Lib.hid (Base.Below.nextA B_w13.out x_w14)
  have P_w14 := Lib.hid (Base.Below.nextA P_w13.out x_w14)
  have K_w14 := Lib.hid (K_w13.out.belowS x_w14)
  have v0_w14 := Lib.hid (v0_w13.out.below x_w14)
  have h_w14 := Lib.hid (h.out.below x_w14)
  have Y_w14 := Lib.hid (Base.Below.nextA Y_w13.out x_w14)
  have Z_w14 := Lib.hid (Base.Below.nextA Z_w13.out x_w14)
  have hs_w14 := (x_w14).size
  clear B_w13 P_w13 K_w13
  clear x_w14
  go_wp2_with fail
  refine (MemF.heldF_yes A_g c_g _ 1 N w14 (MemF.OwnF.rd (MemF.OwnF.below OM.out Z_w14.out)) (by omega)).mono ?_
  rintro e w' ⟨rfl, rfl⟩
  go_wp2
  go_ret
  exact ⟨rfl, B_w14.out⟩
theorem exactSet_v {w : World} {u : Value} (h : Open.IsWalk w u) : Calls Tryz.prog 7 #[u] w fun e w' => e = .returned (.bool true) ∧ Below w.heap.size w w' := by
  obtain ⟨A, n, c, L, fs, rfl, hn, hL, hx⟩ := h.ex
  exact exactSet_any A c n L fs w hn hL hx
end Go.Proofs.YtionognmgcabbaaGreat.SetL
/- The row's last step where the world behind the call is known by 'Below' alone: the arguments read as they read before, whatever their types. -/
namespace Go.Proofs.YtionognmgcabbaaGreat.Frame
open Go.RowKit Go.WideShapes Go.ChangeShapes Go.Joins
set_option linter.unusedVariables false
theorem laidOut : laidOutB Tryz.prog = true := by kernel_rfl
theorem own : ownKnob Tryz.prog.godebug = none := by kernel_rfl
section
variable {H : Type} {enc : TypeId × Value → H} {P : Program}
theorem trodAll_below (hl : laidOutB P = true) {W W' : World} (hb : Below W.heap.size W W') :
    ∀ {ts : List TypeId} {vs : List Value} {ds : List (DataW H)} {ps : List MemPlace}, (ts.all fun t => P.readableRec t && decide (t < P.types.size)) = true →
      DataW.TrodAll enc P W 0 (fun _ => true) true ts vs ds ps → (∀ x ∈ ps, x.block < W.heap.size) → DataW.TrodAll enc P W' 0 (fun b => decide (b < W.heap.size)) true ts vs ds ps
  | [], vs, ds, ps, _, h, _ => by
    obtain ⟨rfl, rfl, rfl⟩ := trodAll_nil h
    exact trodAll_mk0
  | t :: ts, vs, ds, ps, hr, h, hlt => by
    simp only [List.all_cons, Bool.and_eq_true, decide_eq_true_eq] at hr
    obtain ⟨v, vs', d, ds', p, q, rfl, rfl, rfl, h0, h1⟩ := trodAll_cons h
    exact trodAll_cons_mk (Below.trod hl hr.1.1 hr.1.2 h0 hb fun x hx => hlt x (List.mem_append.2 (.inl hx))) (trodAll_below hl hb hr.2 h1 fun x hx => hlt x (List.mem_append.2 (.inr hx)))
theorem post_below {f : Func} {s : ChangeSpec} {apart fresh handsOn : Bool} {W W' : World} {args : Array Value} {v : Value} {ds : List (DataW H)} {before : List MemPlace}
    (hvars0 : s.vars = []) (hl : laidOutB P = true) (hr : (f.params.toList.all fun t => P.readableRec t && decide (t < P.types.size)) = true)
    (hW : DataW.Whole enc P f.params.toList s.vars apart W args.toList ds [] before)
    (hA : DataW.TrodAll enc P W 0 (fun _ => true) true f.params.toList args.toList ds before)
    (hargs : (s.fn H (ds ++ [])).args = ds) (hvars : (s.fn H (ds ++ [])).vars = [])
    (hres : ∀ (b : Nat) (sp : Nat → Bool) (hd : Bool), DataW.TrodAll enc P W' b sp hd f.resultTypes.toList (v.resultList f.resultTypes.size) (s.fn H (ds ++ [])).results [])
    (hb : Below W.heap.size W W') : s.post enc P f apart fresh handsOn false W args v W' := by
  have hlt : ∀ p ∈ before, p.block < W.heap.size := fun p hp => hW.lt p hp
  have hA' := trodAll_below (enc := enc) hl hb hr hA hlt
  refine ⟨ds, [], before, [], before, [], hW, hres _ _ _, ?_, ?_, World.keptBut_mono (fun p hp => ⟨hp, ?_⟩) (hb.frame (· ∈ before)), fun h => by cases h⟩
  · rw [hargs]; exact hA'
  · rw [hvars, hvars0]; exact rfl
  · right; simpa using hp
end
end Go.Proofs.YtionognmgcabbaaGreat.Frame
