/- Openers for lists of fractions, and for walks. -/
import Derived.Test.YtionognmgcabbaaMgIsR00
import Derived.Test.YtionognmgcabbaaMgIsR05
import Derived.Test.YtionognmgcabbaaMgIsR07
import Derived.Deep.Slices
import Derived.Test.YtionognmgcabbaaMgIsR12
import Derived.Test.YtionognmgcabbaaMgIsR22
import Derived.Test.YtionognmgcabbaaMgIsR08
import Derived.Test.YtionognmgcabbaaRows
import Derived.Below
import Derived.ChangeSame
import Derived.Carry
import Derived.OpenShut
import Derived.Lib.SmallJoins
namespace Go.Proofs.Ytionognmgcabbaa.Open
open Go.ChangeShapes Go.WideShapes Go.ChangeAt Go.RowKit Go.Joins Go.Proofs.Ytionognmgcabbaa
set_option linter.unusedVariables false
set_option maxRecDepth 100000
section
variable {H : Type} {enc : TypeId × Value → H} {w : World} {base b0 : Nat} {spare : Nat → Bool} {held : Bool} {v : Value} {d : DataW H} {p : List MemPlace}
theorem cellsFi : Try.prog.cellsOf 2 = 1 := by kernel_rfl
theorem cellsFr : Try.prog.cellsOf 69 = 2 := by kernel_rfl
theorem frac_cells {n : Nat} {cs : List Value} {x : DataW H × List MemPlace} (h : DataW.trod enc Try.prog w base spare held n 69 cs = some x) : ∃ a b : Int, cs = [.int .i64 a, .int .i64 b] := by
  obtain ⟨xs, n', _, _, hl, hlen, hg⟩ := DataW.trod_struct Try.underlying69 h
  obtain ⟨a, e0⟩ := field_int hlen hg 0 _ rfl rfl
  obtain ⟨b, e1⟩ := field_int hlen hg 1 _ rfl rfl
  rw [cellsFr] at hl
  match cs, hl with
  | [c0, c1], _ =>
    simp [cellsFi] at e0 e1
    exact ⟨a, b, by rw [e0, e1]⟩
/-- a list of fractions -/
structure IsFracs (w : World) (v : Value) : Prop where
  ex : ∃ (A : Option Addr) (n c : Nat) (fs : List Int), v = .slice A n c ∧ n ≤ 9223372036854775807 ∧ fs.length = 2 * n ∧ MemF.RdF w w.heap.size A n fs
theorem fracs_of {fuel : Nat} {c0 : Value} {y : DataW H × List MemPlace} (hf : DataW.trod enc Try.prog w base (fun _ => true) held fuel 25 [c0] = some y) : IsFracs w c0 := by
  rcases Go.Deep.open_slice Try.underlying25 hf with ⟨hcs, _⟩ | ⟨x, len, cap, m, n, D, Pl, hcs, _, hl, hm, hmm, _, hx⟩
  · simp at hcs
    subst hcs
    exact ⟨none, 0, 0, [], rfl, by decide, rfl, fun h => absurd h (by simp)⟩
  · simp at hcs
    subst hcs
    simp only [if_true] at hmm
    unfold maxLen at hm
    have hs2 : 0 < m → x.spot = none := fun h0 => by
      obtain ⟨cs', h1, h2⟩ := hx 0 h0
      rw [cellsFr] at h1
      obtain ⟨a, b, rfl⟩ := frac_cells h2
      have h3 := (World.cells?_some h1).2.2 0 (by decide)
      have e : (x.add (0 * 2)).add 0 = x := by simp [Addr.add]
      rw [e] at h3
      exact World.cell?_spot h3
    have each : ∀ i, i < m → ∃ l : List Int, l.length = 2 ∧ ∀ j, j < 2 → w.cell? (x.add (i * 2 + j)) = some (.int .i64 (l.getD j 0)) := fun i hi => by
      obtain ⟨cs', h1, h2⟩ := hx i hi
      rw [cellsFr] at h1
      obtain ⟨a, b, rfl⟩ := frac_cells h2
      obtain ⟨_, _, h3⟩ := World.cells?_some h1
      refine ⟨[a, b], rfl, fun j hj => ?_⟩
      have hs2 := hs2 (by omega)
      have h4 := h3 j hj
      rw [addr_add hs2] at h4
      rw [addr_add (a := ⟨x.block, x.off + i * 2, none⟩) rfl] at h4
      rw [addr_add hs2, ← Nat.add_assoc, h4]
      match j, hj with
      | 0, _ => rfl
      | 1, _ => rfl
      | j + 2, hj => exact absurd hj (by omega)
    obtain ⟨L, hL⟩ := Go.Deep.choose_lt each
    have hlen : ((List.range (2 * len)).map fun k => (L (k / 2)).getD (k % 2) 0).length = 2 * len := by simp
    refine ⟨some x, len, cap, (List.range (2 * len)).map fun k => (L (k / 2)).getD (k % 2) 0, rfl, by omega, hlen, fun h0 => ?_⟩
    have h00 := (hL 0 (by omega)).2 0 (by decide)
    rw [Nat.zero_mul, Nat.zero_add] at h00
    obtain ⟨hs, hb⟩ := spot_of h00
    refine ⟨x.block, x.off, by cases x; simp_all, hb, fun i hi => ?_⟩
    have h5 := (hL (i / 2) (by omega)).2 (i % 2) (Nat.mod_lt _ (by decide))
    rw [Nat.mul_comm, Nat.div_add_mod] at h5
    rw [← addr_add hs, h5]
    simp [List.getD, hi]
end
end Go.Proofs.Ytionognmgcabbaa.Open
/- Openers for walks and for a fraction by value. -/
namespace Go.Proofs.Ytionognmgcabbaa.Open
open Go.ChangeShapes Go.WideShapes Go.ChangeAt Go.RowKit Go.Joins Go.Proofs.Ytionognmgcabbaa
set_option linter.unusedVariables false
set_option maxRecDepth 100000
section
variable {H : Type} {enc : TypeId × Value → H} {w : World} {base b0 : Nat} {spare : Nat → Bool} {held : Bool} {v : Value} {d : DataW H} {p : List MemPlace}
theorem cellsFS : Try.prog.cellsOf 25 = 1 := by kernel_rfl
/-- lists of fractions -/
structure IsFracss (w : World) (v : Value) : Prop where
  ex : ∃ (A : Option Addr) (n c : Nat) (L : Nat → Nat) (fs : Nat → List Int), v = .slice A n c ∧ n ≤ 9223372036854775807 ∧ (∀ i, i < n → L i ≤ 9223372036854775807 ∧ (fs i).length = 2 * L i) ∧ WalkM.RdFF w w.heap.size A n L fs
theorem fracss_of {fuel : Nat} {c0 : Value} {y : DataW H × List MemPlace} (hf : DataW.trod enc Try.prog w base (fun _ => true) held fuel 22 [c0] = some y) : IsFracss w c0 := by
  rcases Go.Deep.open_slice Try.underlying22 hf with ⟨hcs, _⟩ | ⟨x, len, cap, m, n, D, Pl, hcs, _, hl, hm, hmm, _, hx⟩
  · simp at hcs
    subst hcs
    exact ⟨none, 0, 0, fun _ => 0, fun _ => [], rfl, by decide, fun i hi => absurd hi (Nat.not_lt_zero i), fun h => absurd h (by simp)⟩
  · simp at hcs
    subst hcs
    simp only [if_true] at hmm
    unfold maxLen at hm
    have each : ∀ i, i < m → ∃ u : Option Addr × Nat × Nat × List Int, w.cell? (x.add i) = some (.slice u.1 u.2.1 u.2.2.1) ∧ u.2.1 ≤ 9223372036854775807 ∧ u.2.2.2.length = 2 * u.2.1 ∧ MemF.RdF w w.heap.size u.1 u.2.1 u.2.2.2 := fun i hi => by
      obtain ⟨cs', h1, h2⟩ := hx i hi
      rw [cellsFS] at h1
      obtain ⟨hlen, _, h3⟩ := World.cells?_some h1
      match cs', hlen with
      | [c1], _ =>
        obtain ⟨A, n', c', fs, rfl, h4, h5, h6⟩ := (fracs_of h2).ex
        have h7 := h3 0 (by decide)
        rw [Nat.mul_one] at h7
        have e : (x.add i).add 0 = x.add i := by
          unfold Addr.add
          split <;> simp_all
        rw [e] at h7
        exact ⟨(A, n', c', fs), h7, h4, h5, h6⟩
    obtain ⟨U, hU⟩ := Go.Deep.choose_lt each
    refine ⟨some x, len, cap, fun i => (U i).2.1, fun i => (U i).2.2.2, rfl, by omega, fun i hi => ⟨(hU i (by omega)).2.1, (hU i (by omega)).2.2.1⟩, fun h0 => ?_⟩
    obtain ⟨hs, hb⟩ := spot_of (hU 0 (by omega)).1
    refine ⟨x.block, x.off, by cases x; simp_all, hb, fun i hi => ?_⟩
    obtain ⟨k1, _, _, k4⟩ := hU i (by omega)
    exact ⟨(U i).1, (U i).2.2.1, by rw [← addr_add hs]; exact k1, k4⟩
theorem cellsWalk : Try.prog.cellsOf 24 = 1 := by kernel_rfl
/-- a walk by value -/
structure IsWalk (w : World) (v : Value) : Prop where
  ex : ∃ (A : Option Addr) (n c : Nat) (L : Nat → Nat) (fs : Nat → List Int), v = .agg #[.slice A n c] ∧ n ≤ 9223372036854775807 ∧ (∀ i, i < n → L i ≤ 9223372036854775807 ∧ (fs i).length = 2 * L i) ∧ WalkM.RdFF w w.heap.size A n L fs
theorem walk (hv : Value.okWide Try.prog w .any b0 24 v) (h : DataW.Trod enc Try.prog w base (fun _ => true) held 24 v d p) : IsWalk w v := by
  obtain ⟨⟨cs⟩, rfl, hsz⟩ := okWide_struct Try.underlying24 hv
  obtain ⟨fuel, hf⟩ := h
  have hf' : DataW.trod enc Try.prog w base (fun _ => true) held fuel 24 cs = some (d, p) := by simpa [Value.cells] using hf
  obtain ⟨xs, n', _, _, hl, hlen, hg⟩ := DataW.trod_struct Try.underlying24 hf'
  have h1 := hg 0 _ rfl
  have l1 : 0 < xs.length := by rw [hlen]; decide
  rw [List.getElem?_eq_getElem l1] at h1
  rw [cellsWalk] at hl
  match cs, hl with
  | [c0], _ =>
    have h2 : DataW.trod enc Try.prog w base (fun _ => true) held n' 22 [c0] = some xs[0] := h1
    obtain ⟨A, n, c, L, fs, rfl, k⟩ := (fracss_of h2).ex
    exact ⟨A, n, c, L, fs, rfl, k⟩
end
end Go.Proofs.Ytionognmgcabbaa.Open
/- IsReversible: the law. -/
namespace Go.Proofs.Ytionognmgcabbaa.RevW
open Go.RowKit Go.Proofs.Ytionognmgcabbaa Go.Proofs.Ytionognmgcabbaa.Base Go.Proofs.Ytionognmgcabbaa.Mem Go.Proofs.Ytionognmgcabbaa.MemF Go.Proofs.Ytionognmgcabbaa.ChM Go.Proofs.Ytionognmgcabbaa.GiveM Go.Proofs.Ytionognmgcabbaa.Ratio Go.Proofs.Ytionognmgcabbaa.Cpy
set_option linter.unusedVariables false
/-- a copy of a walk -/
def WalkCp (n : Nat) (L : Nat → Nat) (fs : Nat → List Int) (v : Value) (w : World) : Prop := ∃ g, v = .agg #[.slice (some ⟨g, 0, none⟩) n n] ∧ WalkM.RdFF w w.heap.size (some ⟨g, 0, none⟩) n L fs
theorem walkCp_mono (n : Nat) (L : Nat → Nat) (fs : Nat → List Int) : Rel.Mono (fun v w => WalkCp n L fs v w) := fun v w w' h hb => by
  obtain ⟨g, e, hr⟩ := h
  exact ⟨g, e, (hr.below hb (Nat.le_refl _)).more hb.size⟩
set_option maxHeartbeats 4000000 in
set_option maxRecDepth 100000 in
theorem exactRev_any (A0 : Option Addr) (c0 : Nat) (n : Nat) (L : Nat → Nat) (fs : Nat → List Int) (w : World) (hl0 : n ≤ 9223372036854775807) (hL : ∀ i, i < n → L i ≤ 9223372036854775807 ∧ (fs i).length = 2 * L i) (hx0 : WalkM.RdFF w w.heap.size A0 n L fs) :
    Calls Try.prog 4 #[.agg #[.slice A0 n c0]] w fun e w' => e = .returned (.bool true) ∧ Below w.heap.size w w' := by
  obtain ⟨W0, hW0⟩ : ∃ W0, W0 = w.alloc (.cells #[.slice A0 n c0] 24) := ⟨_, rfl⟩
  have hb0 : Below w.heap.size w W0 := by rw [hW0]; exact (Below.refl _ _).alloc (Nat.le_refl _) _
  have k0 : Blk.Blk W0 w.heap.size 24 #[.slice A0 n c0] := by rw [hW0]; exact Blk.Blk.new _ _ _
  have hw0 := k0.lt
  have HX0 := Lib.hid (hx0.below hb0 (Nat.le_refl _))
  have K_W0 := Lib.hid k0
  have B_W0 := Lib.hid hb0
  have HV_W0 := Lib.hid hW0
  have HLW := Lib.hid hL
  have P_W0 := Lib.hid (Below.refl W0.heap.size W0)
  clear hW0 hb0 k0 hL hx0
  have HSZ0 := Lib.hid (fun k (hk : 0 ≤ k) (hk2 : k ≤ 1048576) => CpyW.szW_any A0 c0 w.heap.size n k L fs W0 HX0.out (Nat.le_of_lt hw0) hl0 (fun i hi => (HLW.out i hi).1) hk hk2)
  go_enter Try.func4, Try.ntmps4
  go_wp2_with fail
  rw [← HV_W0.out]
  refine (HSZ0.out 1048576 (by omega) (by omega)).mono ?_
  rintro e w1 ⟨r0, rfl, hr0, b_w1⟩
  have B_w1 := Lib.hid (Base.Below.nextA B_W0.out b_w1)
  have P_w1 := Lib.hid (Base.Below.nextA P_W0.out b_w1)
  have K_w1 := Lib.hid (K_W0.out.belowS b_w1)
  have hs_w1 := (b_w1).size
  clear B_W0 P_W0 K_W0
  clear b_w1
  rcases hr0 with rfl | ⟨hr0a, hr0b⟩
  · go_wp2
    go_ret
    exact ⟨rfl, B_w1.out⟩
  have hb0 : n ≤ 1048576 := by omega
  have ht0 : CpyW.totL L n ≤ 1048576 := by omega
  have hr0c : r0 ≤ 1048576 := by omega
  have HLL := Lib.hid (fun i (hi : i < n) => Nat.le_trans (CpyW.le_totL (L := L) hi) ht0)
  clear hr0b
  have CT0 := Lib.hid (fun (W : World) (hP : Below W0.heap.size W0 W) => CpyW.toW_any A0 c0 w.heap.size n L fs W (HX0.out.below hP (Nat.le_of_lt hw0)) (Nat.le_trans (Nat.le_of_lt hw0) hP.size) hb0 HLL.out (fun i hi => (HLW.out i hi).2))
  have HS := Lib.hid (fun (A : Option Addr) (c : Nat) (B : Nat) (W : World) (hx : WalkM.RdFF W B A n L fs) (hB : B ≤ W.heap.size) => RevL.revS_any (L := L) (fs := fs) (c := c) (A := A) W hx hB HLL.out hb0)
  have HI := Lib.hid (fun (A : Option Addr) (c : Nat) (B : Nat) (W : World) (hx : WalkM.RdFF W B A n L fs) (hB : B ≤ W.heap.size) => revI_any (L := L) (fs := fs) (c := c) (A := A) W hx hB HLL.out hb0)
  generalize rvB n L fs = ok at *
  have hok : (ok != ok) = false := by simp
  have ld0 := K_w1.out.at 0 (v := .slice A0 n c0) rfl
  go_wp2_with fail
  clear ld0
  refine (CT0.out _ P_w1.out).mono ?_
  rintro e w2 ⟨g_t0, us_t0, rfl, o_t0, b_w2⟩
  have B_w2 := Lib.hid (Base.Below.nextA B_w1.out b_w2)
  have P_w2 := Lib.hid (Base.Below.nextA P_w1.out b_w2)
  have K_w2 := Lib.hid (K_w1.out.belowS b_w2)
  have hs_w2 := (b_w2).size
  clear B_w1 P_w1 K_w1
  have t0 := Lib.hid o_t0
  clear b_w2 o_t0
  go_wp2_with fail
  refine (HS.out _ _ w2.heap.size w2 t0.out.rd (Nat.le_refl _)).mono ?_
  rintro e w3 ⟨rfl, b_w3⟩
  have B_w3 := Lib.hid (Base.Below.nextA B_w2.out b_w3)
  have P_w3 := Lib.hid (Base.Below.nextA P_w2.out b_w3)
  have K_w3 := Lib.hid (K_w2.out.belowS b_w3)
  have hs_w3 := (b_w3).size
  clear B_w2 P_w2 K_w2
  clear b_w3
  have ld0 := K_w3.out.at 0 (v := .slice A0 n c0) rfl
  go_wp2_with fail
  clear ld0
  refine (CT0.out _ P_w3.out).mono ?_
  rintro e w4 ⟨g_x0, us_x0, rfl, o_x0, b_w4⟩
  have B_w4 := Lib.hid (Base.Below.nextA B_w3.out b_w4)
  have P_w4 := Lib.hid (Base.Below.nextA P_w3.out b_w4)
  have K_w4 := Lib.hid (K_w3.out.belowS b_w4)
  have hs_w4 := (b_w4).size
  clear B_w3 P_w3 K_w3
  have x0 := Lib.hid o_x0
  clear b_w4 o_x0
  obtain ⟨w5, hw5⟩ : ∃ V, V = w4.alloc (.cells #[.slice (some ⟨g_x0, 0, none⟩) n n] 33) := ⟨_, rfl⟩
  have y_w5 : Below w4.heap.size w4 w5 := by rw [hw5]; exact (Below.refl _ _).alloc (Nat.le_refl _) _
  have X_x0 : Hid (Blk.Blk w5 w4.heap.size 33 #[.slice (some ⟨g_x0, 0, none⟩) n n]) := Lib.hid (by rw [hw5]; exact Blk.Blk.new _ _ _)
  have HV_w5 := Lib.hid hw5
  have B_w5 := Lib.hid (Base.Below.nextA B_w4.out y_w5)
  have P_w5 := Lib.hid (Base.Below.nextA P_w4.out y_w5)
  have K_w5 := Lib.hid (K_w4.out.belowS y_w5)
  have x0_w5 := Lib.hid (x0.out.below y_w5)
  have hs_w5 := (y_w5).size
  clear B_w4 P_w4 K_w4
  have hx0b := X_x0.out.lt
  clear hw5 y_w5
  go_wp2_with fail
  rw [← HV_w5.out]
  refine (HI.out _ _ w5.heap.size w5 x0_w5.out.rd (Nat.le_refl _)).mono ?_
  rintro e w6 ⟨rfl, b_w6⟩
  have B_w6 := Lib.hid (Base.Below.nextA B_w5.out b_w6)
  have P_w6 := Lib.hid (Base.Below.nextA P_w5.out b_w6)
  have K_w6 := Lib.hid (K_w5.out.belowS b_w6)
  have x0_w6 := Lib.hid (x0_w5.out.below b_w6)
  have X_x0_w6 := Lib.hid (X_x0.out.belowS b_w6)
  have hs_w6 := (b_w6).size
  clear B_w5 P_w5 K_w5
  clear b_w6
  go_wp2
  have HXX := Lib.hid x0_w6.out.rd
  have KX := X_x0_w6
  have KW := K_w6
  have HPP := P_w6
  refine Rel.wp_region_rel 5 (by kernel_rfl) (by kernel_rfl) (fun F hF => ?_)
  simp only [List.take_succ_cons, List.take_zero, List.drop_succ_cons, List.drop_zero, Rel.putL] at hF ⊢
  have HF := Lib.hid hF
  clear hF
  have uv := @Rel.upon_value Try.prog
  have ue := @Rel.upon_enter Try.prog
  apply Rel.rel_pure
  apply Exists.intro
  refine ⟨fun vs wq hq hdp R hR => ?_, ?_⟩
  · (rw [HF.out, Rel.stepAt_eq]; clear hdp; have x0 := (KX.out.belowS hq).at 0 (v := .slice (some ⟨g_x0, 0, none⟩) n n) rfl; go_simp; exact hR)
  apply Rel.rel_pure
  apply Exists.intro
  refine ⟨fun vs wq hq hdp R hR => ?_, ?_⟩
  · (rw [HF.out, Rel.stepAt_eq]; clear hdp; have y0 := (KW.out.belowS hq).at 0 (v := .slice A0 n c0) rfl; go_simp; exact hR)
  refine Rel.rel_law (S := fun v w' => WalkCp n L fs v w') (walkCp_mono _ _ _) (fun vs wq hq hdp => ?_) ?_
  · (rw [HF.out, Rel.stepAt_eq]; have qd1 : vs 1 = _ := Rel.dep hdp 1 (by kernel_rfl); clear hdp; skip; go_simp; refine (CT0.out wq (Base.Below.nextA HPP.out hq)).mono ?_; rintro e w7 ⟨g, us, rfl, ho, hb⟩; exact ⟨_, rfl, ⟨g, rfl, ho.rd⟩, hb⟩)
  apply Rel.rel_same
  apply Exists.intro
  refine ⟨fun vs wq hq hdp => ?_, ?_⟩
  · (rw [HF.out, Rel.stepAt_eq]; have qd0 : vs 0 = _ := Rel.dep hdp 0 (by kernel_rfl); have qd2 : WalkCp _ _ _ (vs 2) wq := Rel.dep hdp 2 (by kernel_rfl); clear hdp; obtain ⟨gc, ev, hrd⟩ := qd2; go_simp; refine (CpyW.eqW_yes _ _ _ _ _ _ n L fs wq (HXX.out.below hq (Nat.le_refl _)) hrd (hq.size) (Nat.le_refl _) (by omega) (fun i hi => Nat.le_trans (HLL.out i hi) (by decide))).mono ?_; rintro e w7 ⟨rfl, hb⟩; exact ⟨_, rfl, rfl, hb⟩)
  apply Rel.rel_pure
  apply Exists.intro
  refine ⟨fun vs wq hq hdp R hR => ?_, ?_⟩
  · (rw [HF.out, Rel.stepAt_eq]; have qd3 : vs 3 = _ := Rel.dep hdp 3 (by kernel_rfl); clear hdp; skip; go_simp; exact hR)
  refine Rel.rel_end (fun vs w7 hq hall => ?_)
  rw [HF.out]
  have qe0 : vs 0 = _ := Rel.fin hall 0 (by decide)
  have qe1 : vs 1 = _ := Rel.fin hall 1 (by decide)
  have qe2 : WalkCp _ _ _ (vs 2) w7 := Rel.fin hall 2 (by decide)
  have qe3 : vs 3 = _ := Rel.fin hall 3 (by decide)
  have qe4 : vs 4 = _ := Rel.fin hall 4 (by decide)
  clear hall HF uv ue
  clear HXX KX KW HPP
  rw [show vs (0 + 1 + 1 + 1 + 1) = .bool false from qe4]
  have B_w7 := Lib.hid (Base.Below.nextA B_w6.out hq)
  have P_w7 := Lib.hid (Base.Below.nextA P_w6.out hq)
  have K_w7 := Lib.hid (K_w6.out.belowS hq)
  have x0_w7 := Lib.hid (x0_w6.out.below hq)
  have X_x0_w7 := Lib.hid (X_x0_w6.out.belowS hq)
  have hs_w7 := (hq).size
  clear B_w6 P_w6 K_w6
  clear hq
  go_wp2
  go_ret
  exact ⟨rfl, B_w7.out⟩
theorem exactRev_v {w : World} {u : Value} (h : Open.IsWalk w u) : Calls Try.prog 4 #[u] w fun e w' => e = .returned (.bool true) ∧ Below w.heap.size w w' := by
  obtain ⟨A, n, c, L, fs, rfl, hn, hL, hx⟩ := h.ex
  exact exactRev_any A c n L fs w hn hL hx
end Go.Proofs.Ytionognmgcabbaa.RevW
/- The row's last step where the world behind the call is known by 'Below' alone: the arguments read as they read before, whatever their types. -/
namespace Go.Proofs.Ytionognmgcabbaa.Frame
open Go.RowKit Go.WideShapes Go.ChangeShapes Go.Joins
set_option linter.unusedVariables false
theorem laidOut : laidOutB Try.prog = true := by kernel_rfl
theorem own : ownKnob Try.prog.godebug = none := by kernel_rfl
section
variable {H : Type} {enc : TypeId × Value → H} {P : Program}
theorem trodAll_below (hl : laidOutB P = true) {W W' : World} (hb : Below W.heap.size W W') :
    ∀ {ts : List TypeId} {vs : List Value} {ds : List (DataW H)} {ps : List MemPlace}, (ts.all fun t => P.readableRec t && decide (t < P.types.size)) = true →
      DataW.TrodAll enc P W 0 (fun _ => true) true ts vs ds ps → (∀ x ∈ ps, x.block < W.heap.size) → DataW.TrodAll enc P W' 0 (fun b => decide (b < W.heap.size)) true ts vs ds ps
  | [], vs, ds, ps, _, h, _ => by
    obtain ⟨rfl, rfl, rfl⟩ := trodAll_nil h
    exact trodAll_mk0
  | t :: ts, vs, ds, ps, hr, h, hlt => by
    simp only [List.all_cons, Bool.and_eq_true, decide_eq_true_eq] at hr
    obtain ⟨v, vs', d, ds', p, q, rfl, rfl, rfl, h0, h1⟩ := trodAll_cons h
    exact trodAll_cons_mk (Below.trod hl hr.1.1 hr.1.2 h0 hb fun x hx => hlt x (List.mem_append.2 (.inl hx))) (trodAll_below hl hb hr.2 h1 fun x hx => hlt x (List.mem_append.2 (.inr hx)))
theorem post_below {f : Func} {s : ChangeSpec} {apart fresh handsOn : Bool} {W W' : World} {args : Array Value} {v : Value} {ds : List (DataW H)} {before : List MemPlace}
    (hvars0 : s.vars = []) (hl : laidOutB P = true) (hr : (f.params.toList.all fun t => P.readableRec t && decide (t < P.types.size)) = true)
    (hW : DataW.Whole enc P f.params.toList s.vars apart W args.toList ds [] before)
    (hA : DataW.TrodAll enc P W 0 (fun _ => true) true f.params.toList args.toList ds before)
    (hargs : (s.fn H (ds ++ [])).args = ds) (hvars : (s.fn H (ds ++ [])).vars = [])
    (hres : ∀ (b : Nat) (sp : Nat → Bool) (hd : Bool), DataW.TrodAll enc P W' b sp hd f.resultTypes.toList (v.resultList f.resultTypes.size) (s.fn H (ds ++ [])).results [])
    (hb : Below W.heap.size W W') : s.post enc P f apart fresh handsOn false W args v W' := by
  have hlt : ∀ p ∈ before, p.block < W.heap.size := fun p hp => hW.lt p hp
  have hA' := trodAll_below (enc := enc) hl hb hr hA hlt
  refine ⟨ds, [], before, [], before, [], hW, hres _ _ _, ?_, ?_, World.keptBut_mono (fun p hp => ⟨hp, ?_⟩) (hb.frame (· ∈ before)), fun h => by cases h⟩
  · rw [hargs]; exact hA'
  · rw [hvars, hvars0]; exact rfl
  · right; simpa using hp
end
end Go.Proofs.Ytionognmgcabbaa.Frame
