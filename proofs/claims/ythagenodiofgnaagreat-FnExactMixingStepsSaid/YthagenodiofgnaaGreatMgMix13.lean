/- The program: the steps until a walk is settled. -/
import Derived.Test.YthagenodiofgnaaGreatMgMix12
import Derived.Test.YthagenodiofgnaaGreatMgMix09
import Derived.Test.YthagenodiofgnaaGreatMgMix08
import Derived.Test.YthagenodiofgnaaGreatMgMix06
import Derived.Test.YthagenodiofgnaaGreatMgMix00
namespace Go.Proofs.YthagenodiofgnaaGreat.Ratio
open Go.RowKit Go.Proofs.YthagenodiofgnaaGreat Go.Proofs.YthagenodiofgnaaGreat.Base Go.Proofs.YthagenodiofgnaaGreat.Mem Go.Proofs.YthagenodiofgnaaGreat.NatM Go.Proofs.YthagenodiofgnaaGreat.Nat32 Go.Proofs.YthagenodiofgnaaGreat.RatM Go.Proofs.YthagenodiofgnaaGreat.Blk Go.Proofs.YthagenodiofgnaaGreat.MemF Go.Proofs.YthagenodiofgnaaGreat.ChM Go.Proofs.YthagenodiofgnaaGreat.GaussM Go.Proofs.YthagenodiofgnaaGreat.WalkM Go.Proofs.YthagenodiofgnaaGreat.GiveM
open Go.Proofs.YthagenodiofgnaaGreat.ValF (vfB vfB_true validI_any)
open Go.Proofs.YthagenodiofgnaaGreat.Inv (natOf natOf_eq len_pos Rat3 not_slice not_bool frz)
set_option linter.unusedVariables false
theorem MatR.rd {w : World} {B gL R n : Nat} {M : Nat → Nat → Rat} {gs cp : Nat → Nat} {cl : Array Value} {css : Nat → Array Value} (h : MatR w B gL R n M gs cp cl css) : RdRR w (some ⟨gL, 0, none⟩) R (fun _ => n) M := fun h0 =>
 ⟨gL, rfl, h.top.lt, fun i hi => ⟨some ⟨gs i, 0, none⟩, cp i, h.top.at i (h.cell i hi), (h.row i hi).rd⟩⟩
theorem MatR.setRow {w : World} {B gL R n k g' c' : Nat} {M : Nat → Nat → Rat} {f' : Nat → Rat} {gs cp : Nat → Nat} {cl cs' : Array Value} {css : Nat → Array Value} (h : MatR w B gL R n M gs cp cl css) (hk : k < R) (hr : RowG w g' n f' cs') (hB : B ≤ g') (hne : ∀ i, i < R → gs i ≠ g') (hL : gL ≠ g') :
  ∃ gs2 cp2 cl2 css2, MatR (w.setCell ⟨gL, k, none⟩ (.slice (some ⟨g', 0, none⟩) n c')) B gL R n (fun i => if i = k then f' else M i) gs2 cp2 cl2 css2 := by
 have ck := h.cell k hk
 have hx := h.top.at k ck
 refine ⟨fun i => if i = k then g' else gs i, fun i => if i = k then c' else cp i, _, fun i => if i = k then cs' else css i, h.top.setTo k _ rfl, h.lowL, fun i hi => ?_, fun i hi => ?_, fun i hi => ?_, fun a b ha hb e => ?_⟩
 ·by_cases e : i = k
  ·subst e
   simp only [if_true]
   exact Array.getElem?_setIfInBounds_self_of_lt (Array.getElem?_eq_some_iff.1 ck).1
  ·rw [Array.getElem?_setIfInBounds_ne (fun h => e h.symm)]
   simp only [e, if_false]
   exact h.cell i hi
 ·by_cases e : i = k
  ·subst e
   simp only [if_true]
   exact hr.setS hx hL _
  ·simp only [e, if_false]
   exact (h.row i hi).setS hx (fun e2 => h.neL hi e2.symm) _
 ·by_cases e : i = k
  ·subst e; simp only [if_true]; exact hB
  ·simp only [e, if_false]; exact h.low i hi
 ·by_cases e1 : a = k
  ·by_cases e2 : b = k
   ·omega
   ·simp only [e1, e2, if_true, if_false] at e
    exact absurd e.symm (hne b hb)
  ·by_cases e2 : b = k
   ·simp only [e1, e2, if_true, if_false] at e
    exact absurd e (hne a ha)
   ·simp only [e1, e2, if_false] at e
    exact h.inj a b ha hb e
def BuRel (n : Nat) (w : World) (kv lv : Value) (wr : World) : Prop :=
 ∃ (k : Nat) (us : List Value), kv = .int .i64 (k : Int) ∧ k ≤ n ∧ Hid (OwnRG wr w.heap.size lv k n (fun k => fq (unF n k)) us) ∧ Hid (Below w.heap.size w wr)
def mxG (n : Nat) (fs : Nat → List Int) (t k : Nat) : Nat → Nat → Rat := fun i => if i < k then mxP n fs i (t + 1) else mxP n fs i t
def MxRel (n : Nat) (fs : Nat → List Int) (C : Nat → Bool) (R : Int) (ok : Bool) (gL : Nat) (w : World) (sv : Value) (wr : World) : Prop :=
 ∃ (t m : Nat) (gs cp : Nat → Nat) (cl : Array Value) (css : Nat → Array Value), sv = .int .i64 (t : Int) ∧ t + m = 31 ∧ Hid (MatR wr w.heap.size gL n n (fun k => mxP n fs k t) gs cp cl css) ∧ Hid (Below w.heap.size w wr) ∧ Hid (mxT C m t = (R, ok))
def MyRel (n : Nat) (fs : Nat → List Int) (t gL : Nat) (w : World) (kv : Value) (wr : World) : Prop :=
 ∃ (k : Nat) (gs cp : Nat → Nat) (cl : Array Value) (css : Nat → Array Value), kv = .int .i64 (k : Int) ∧ k ≤ n ∧ Hid (MatR wr w.heap.size gL n n (mxG n fs t k) gs cp cl css) ∧ Hid (Below w.heap.size w wr)
set_option maxHeartbeats 4000000 in
set_option maxRecDepth 100000 in
theorem mixI_any {A : Option Addr} {c B n : Nat} {L : Nat → Nat} {fs : Nat → List Int} {x y : Int} (w : World) (hx : RdFF w B A n L fs) (hB : B ≤ w.heap.size) (hL : ∀ i, i < n → L i ≤ 1048576) (hn : n ≤ 1048576) :
  Calls Tryz.prog 9 #[.agg #[.slice A n c], .agg #[.int .i64 x, .int .i64 y]] w fun e w' => e = .returned (.tuple #[.int .i64 (mxQ n L fs x y), .bool (mxO n L fs x y)]) ∧ Below w.heap.size w w' := by
 obtain ⟨ir, ri, rz0, rz1, rz2⟩ := info_parts infoRR
 obtain ⟨W0, hW0⟩ : ∃ W0, W0 = (w.alloc (.cells #[.slice A n c] 32)).alloc (.cells #[.int .i64 x, .int .i64 y] 34) := ⟨_, rfl⟩
 have hb0 : Below w.heap.size w W0 := by rw [hW0]; exact ((Below.refl _ _).alloc (Nat.le_refl _) _).alloc (by simp) _
 have K0 : Hid (Blk W0 w.heap.size 32 #[.slice A n c]) := Lib.hid (by rw [hW0]; exact (Blk.new w _ _).alloc _)
 have K3 : Hid (Blk W0 (w.heap.size + 1) 34 #[.int .i64 x, .int .i64 y]) := Lib.hid (by rw [hW0]; exact Blk.newAt _ _ (by simp))
 have HX0 := Lib.hid ((hx.below hb0 hB).more (Nat.le_trans hB hb0.size))
 have HST := Lib.hid (fun W (h : Below W0.heap.size W0 W) => setOfI_any (c := c) W (HX0.out.below h (Nat.le_refl _)) h.size hL hn)
 have HVA := Lib.hid (validI_any x y W0)
 have HB0 := Lib.hid hb0
 have HW0 := Lib.hid hW0
 clear hx hb0 hW0 hL
 have x0 := K3.out.at 0 (v := .int .i64 x) rfl
 have x1 := K3.out.at 1 (v := .int .i64 y) rfl
 rw [HW0.out] at x0 x1
 cases hvf : vfB x y with
 | false =>
  have HEE := Lib.hid (mx_no (n := n) (L := L) (fs := fs) (x := x) (y := y) (by unfold mxB; rw [hvf]; rfl))
  rw [hvf] at HVA
  clear hvf
  go_enter Tryz.func9, Tryz.ntmps9
  go_wp2_with fail
  rw [← HW0.out]
  clear x0 x1
  refine HVA.out.mono ?_
  rintro e w1 ⟨rfl, hb1⟩
  have HBZ := Lib.hid (Base.Below.nextA HB0.out hb1)
  clear hb1
  go_wp2
  go_ret2
  exact ⟨by rw [HEE.out.1, HEE.out.2]; rfl, HBZ.out⟩
 | true =>
  rw [hvf] at HVA
  have HVF := Lib.hid (vfB_true.1 hvf)
  have HVFB := Lib.hid hvf
  clear hvf
  go_enter Tryz.func9, Tryz.ntmps9
  go_wp2_with fail
  rw [← HW0.out]
  clear x0 x1
  refine HVA.out.mono ?_
  rintro e w1 ⟨rfl, hb1⟩
  have HW1 := Lib.hid hb1
  have y0 := (K0.out.belowS hb1).at 0 (v := .slice A n c) rfl
  clear hb1 HVA
  go_wp2_with fail
  refine (HST.out _ HW1.out).mono ?_
  rintro e w2 ⟨As, cs, rfl, hos, hb2⟩
  have HW2 := Lib.hid (Base.Below.nextA HW1.out hb2)
  cases hso : stO n L fs with
  | false =>
   have HEE := Lib.hid (mx_no (n := n) (L := L) (fs := fs) (x := x) (y := y) (by unfold mxB; rw [hso, Bool.and_false]))
   have HBZ := Lib.hid (Base.Below.nextA HB0.out HW2.out)
   clear hso hos hb2 y0
   go_wp2
   go_ret2
   exact ⟨by rw [HEE.out.1, HEE.out.2]; rfl, HBZ.out⟩
  | true =>
   obtain ⟨hsv, hwk, _, hsm, hsN, hsR⟩ := stO_true hso
   have HEE := Lib.hid (mx_yes (n := n) (L := L) (fs := fs) (x := x) (y := y) (by unfold mxB; rw [HVFB.out, hso]; rfl))
   obtain ⟨hn1, hn6, hLn, hfs, _, _⟩ := wk_all hwk
   obtain ⟨hvo, hfo⟩ := outF_vf hsm
   rw [hsN, hsR] at hos
   rw [hsN]
   have HRW := Lib.hid (rowsI_any (c := c) w2 (HX0.out.below HW2.out (Nat.le_refl _)) HW2.out.size (fun i hi => by rw [hLn i hi]; exact hfs i hi) (fun i hi => by rw [hLn i hi]; omega) (by omega))
   have HRT := Lib.hid (fun W (h : Below w2.heap.size w2 W) => ratios_any (c := cs) W (hos.rd.below h (Nat.le_refl _)) h.size hvo (show n ≤ 1000 by omega))
   have HLN := Lib.hid hLn
   have HFO := Lib.hid hfo
   have HOK := Lib.hid (fun k t (ht : t ≤ 30) => run_ok hn1 hn6 ht (un_vf n k) hfs)
   have HDO := Lib.hid (fun k t (ht : t ≤ 30) => mx_ok (k := k) hn1 hn6 ht hfs hsm)
   have y1 := (K0.out.belowS HW2.out).at 0 (v := .slice A n c) rfl
   clear y0 hsv hwk hsm hsN hsR hLn hfs hvo hfo hos hb2 HST hso HW1 HVFB
   go_wp2_with fail
   refine HRW.out.mono ?_
   rintro e w3 ⟨A3, c3, rfl, hrr, hb3⟩
   have HRT3 := Lib.hid (HRT.out w3 hb3)
   have HRR := Lib.hid (hrr.congrL (L' := fun _ => n) HLN.out)
   have HW3 := Lib.hid (Base.Below.nextA HW2.out hb3)
   clear y1 hrr hb3 HRW HRT HLN
   go_wp2_with fail
   refine HRT3.out.mono ?_
   rintro e w4 ⟨v, cs4, rfl, ho4, hb4⟩
   obtain ⟨A4, c4, rfl, _⟩ := ho4.form
   go_upto_region 7 with (fail)
   obtain ⟨W5, hW5⟩ : ∃ W5, W5 = w4.alloc (.cells #[.slice A4 n c4] 76) := ⟨_, rfl⟩
   rw [← hW5]
   obtain ⟨g9, hg9⟩ : ∃ g9, g9 = w4.heap.size := ⟨_, rfl⟩
   rw [← hg9]
   have hb5 : Below w4.heap.size w4 W5 := by rw [hW5]; exact (Below.refl _ _).alloc (Nat.le_refl _) _
   have K9 : Hid (Blk W5 g9 76 #[.slice A4 n c4]) := Lib.hid (by rw [hW5, hg9]; exact Blk.new w4 _ _)
   have HTG : Hid (RdR W5 A4 n (stX n fs)) := Lib.hid (ho4.rd.below hb5 |>.congr HFO.out)
   have HM : Hid (RdRR W5 A3 n (fun _ => n) (wM fs)) := Lib.hid (HRR.out.below (Base.Below.nextA hb4 hb5))
   have HW5 := Lib.hid (Base.Below.nextA HW3.out (Base.Below.nextA hb4 hb5))
   have K3b := Lib.hid (K3.out.belowS HW5.out)
   have H0 : Hid (BuRel n W5 (.int .i64 0) (.slice (some ⟨W5.heap.size, 0, none⟩) 0 0) (W5.alloc (.cells #[] 76))) := Lib.hid ⟨0, [], rfl, Nat.zero_le _, Lib.hid (OwnRG.lit0 W5 _ _), Lib.hid ((Below.refl _ _).alloc (Nat.le_refl _) _)⟩
   have HZ0 := Lib.hid (fun W' => whole_rt 0 0 (by decide) ⟨rfl, rfl, by decide⟩ W')
   have HZ1 := Lib.hid (fun W' => whole_rt 1 1 (by decide) ⟨rfl, rfl, by decide +kernel⟩ W')
   clear hW5 hg9 hb4 hb5 ho4 HRR HRT3 HW3 HW2 HFO HX0
   go_wp2
   go_loopw [33, 10] (fun kv lv wr => BuRel n W5 kv lv wr) (fun kv _ _ => n - (intOf kv).toNat)
   case atStart => exact H0.out
   case round =>
    obtain ⟨k, us, rfl, hk, HO, HB⟩ := hrel
    clear H0
    obtain ⟨Al, cl, hlv, hAl⟩ := ownsRow_form HO.out.row
    subst hlv
    by_cases hkn : k < n
    ·have hkn2 : (k : Int) < (n : Int) := by omega
     go_wp2_with fail
     refine (HZ0.out _).mono ?_
     rintro e w6 ⟨v, rfl, hv, hb6⟩
     obtain ⟨s, A1, k1, c1, A2, k2, c2, rfl, hI⟩ := hv.open
     obtain ⟨W7, hW7⟩ : ∃ W7, W7 = w6.alloc (.cells #[.bool s, .slice A1 k1 c1, .slice A2 k2 c2] 82) := ⟨_, rfl⟩
     have hb7 : Below w6.heap.size w6 W7 := by rw [hW7]; exact (Below.refl _ _).alloc (Nat.le_refl _) _
     have K7 : Blk W7 w6.heap.size 82 #[.bool s, .slice A1 k1 c1, .slice A2 k2 c2] := by rw [hW7]; exact Blk.new w6 _ _
     have HRP := Lib.hid (repeat_any (c := 1) (N := n) W7 (K7.at 0 rfl) (K7.at 1 rfl) (K7.at 2 rfl) K7.lt (hI.below hb7) (by omega) (by omega))
     have HB7 := Lib.hid (Base.Below.nextA hb6 hb7)
     have HW7 := Lib.hid hW7
     clear hv hI hb6 hb7 K7 hW7
     go_wp2_with fail
     rw [← HW7.out]
     refine HRP.out.mono ?_
     rintro e w8 ⟨cr, rfl, hR, hb8⟩
     obtain ⟨g, hg⟩ : ∃ g, g = W7.heap.size := ⟨_, rfl⟩
     rw [← hg] at hR ⊢
     have hwg : wr.heap.size ≤ g := by rw [hg]; exact HB7.out.size
     have HB8 := Lib.hid (Base.Below.nextA HB7.out hb8)
     have HR8 := Lib.hid hR.toG
     clear hg hR hb8 HRP HW7 HB7
     go_wp2_with fail
     refine (HZ1.out _).mono ?_
     rintro e wA ⟨v, rfl, hv, hbA⟩
     obtain ⟨t, C1, m1, l1, C2, m2, l2, rfl, hI⟩ := hv.open
     have HRA := HR8.out.below hbA
     obtain ⟨css', hput⟩ := HRA.put hkn hI
     obtain ⟨s3, B1, j1, e1, B2, j2, e2, z3, z4, z5, _⟩ := HRA.els k hkn
     have d0 := HRA.blk.at (k * 3) z3
     have d1 := HRA.blk.at (k * 3 + 1) z4
     have d2 := HRA.blk.at (k * 3 + 2) z5
     have z0 := HRA.blk.frz (k * 3)
     have z1 := HRA.blk.frz (k * 3 + 1)
     have z2 := HRA.blk.frz (k * 3 + 2)
     obtain ⟨WB, hWB⟩ : ∃ WB, WB = put3o wA g (k * 3) (.bool t) (.slice C1 m1 l1) (.slice C2 m2 l2) := ⟨_, rfl⟩
     have hbB : Below wr.heap.size wr WB := by rw [hWB]; exact put3o_below (Base.Below.nextA HB8.out hbA) hwg _ _ _
     have hG : RowG WB g n (fq (unF n k)) css' := by
      rw [hWB]
      exact hput.congr (fun i hi => by rw [un_fq hi]; rfl)
     unfold put3o at hWB
     have HWB := Lib.hid hWB
     have HP := Lib.hid (fun (w2 : World) v'' ca tt hown hgr hnu => OwnRG.push (f := fun k => fq (unF n k)) (w2 := w2) (v' := v'') (c := n) (ca := ca) (t := tt) HO.out hbB hG hwg HB.out.size hown hgr hnu)
     have HOB := Lib.hid (World.ownsRow.alloc (ownsRow_below HO.out.row hbB) (.cells #[.slice (some ⟨g, 0, none⟩) n n] 76))
     have HNB := Lib.hid ((HO.out.nou.below hbB).below ((Below.refl WB.heap.size WB).alloc (Nat.le_refl _) (.cells #[.slice (some ⟨g, 0, none⟩) n n] 76)))
     have HBB := Lib.hid (fun (w2 : World) (hg : (WB.alloc (.cells #[.slice (some ⟨g, 0, none⟩) n n] 76)).grownBy w2 (Value.slice Al k cl).ownBlock) => (below_next (Nat.le_refl _) HB.out (hbB.alloc hbB.size _)).trans (grown_below hg (fun g e => (ownsRow_block HO.out.row e).choose_spec.2.1) (Nat.le_trans HB.out.size (hbB.alloc hbB.size _).size)))
     have hsB := hbB.size
     have hs1 := HB.out.size
     clear hwg hWB hput hv hI hbA hbB hG HRA z3 z4 z5 HB8 HR8 HB HO
     go_upto_region 13 with (fail)
     rw [← HWB.out]
     clear HWB d0 d1 d2 z0 z1 z2
     go_wp2_with (at_builtin; refine wpList_append_noU _ rfl (.tmp 45) (.tmp 47) 74 rfl W5.heap.size 76 ir (.slice none 0 0) 1 24 Tryz.underlying74 ri rz0 rz1 rz2 rfl (by decide) _ _ _ rfl HOB.out ⟨WB.heap.size, 0, none⟩ 1 1 [.slice (some ⟨g, 0, none⟩) n n] rfl rfl ?p1a ?p2a ?p3a ?p4a ?p5a HNB.out notU_one notU_zero1 ?_)
     try case p1a => exact news_one _ _ _ (by simp)
     try case p2a => first | exact one_slice | (intro u hu; simp at hu; subst hu; rfl)
     try case p3a => first | (simp only [maxLen]; omega) | omega
     try case p4a => omega
     try case p5a => first | (simp only [World.size_alloc]; omega) | omega
     intro v'' wC hown' hg' hnu' _
     have HN5 : Hid (BuRel n W5 (.int .i64 ((k : Int) + 1)) v'' wC) := Lib.hid ⟨k + 1, _, by simp, hkn, Lib.hid (HP.out wC v'' _ _ hown' hg' hnu'), Lib.hid (HBB.out wC hg')⟩
     clear hown' hg' hnu' HP HOB HNB HBB
     go_wp2
     go_roundw
     case rel => exact HN5.out
     case measure => simp [intOf]; omega
    ·obtain rfl : n = k := by omega
     obtain ⟨gL, rfl, _, _⟩ := hAl (by omega)
     obtain ⟨gs, cp, cm, css, hmat⟩ := HO.out.mat
     obtain ⟨C, hC⟩ : ∃ C, C = mxC n fs x y := ⟨_, rfl⟩
     rw [← hC] at HEE
     obtain ⟨R, ok, hRT⟩ : ∃ R ok, mxT C 31 0 = (R, ok) := ⟨_, _, rfl⟩
     rw [hRT] at HEE
     have H1 : Hid (MxRel n fs C R ok gL W5 (.int .i64 0) wr) := Lib.hid ⟨0, 31, gs, cp, cm, css, rfl, rfl, Lib.hid hmat, HB, Lib.hid hRT⟩
     have HC := Lib.hid hC
     clear hmat hC hRT HO HB hAl HZ0 HZ1
     go_wp2
     go_loopw [13] (fun sv w2 => MxRel n fs C R ok gL W5 sv w2) (fun sv _ => 31 - (intOf sv).toNat)
     case atStart => exact H1.out
     case round =>
      obtain ⟨t, m, gs, cp, cl2, css, rfl, htm, HMT, HB, HT⟩ := hrel
      clear H1
      by_cases ht : t ≤ 30
      ·have ht2 : (t : Int) ≤ 30 := by omega
       have HCN := Lib.hid (mixCon_any (c := cl) (c2 := c4) (F := fun k => mxP n fs k t) wr (K9.out.belowS HB.out) (K3b.out.belowS HB.out) HMT.out.rd (HTG.out.below HB.out) (by omega) (by omega) (fun k hk => HDO.out k t ht) HVF.out)
       rw [show nearB n n (fun k => mxP n fs k t) (stX n fs) (qf x y) = C t by rw [HC.out]; rfl] at HCN
       obtain ⟨m', rfl⟩ : ∃ m', m = m' + 1 := ⟨m - 1, by omega⟩
       cases hct : C t with
       | true =>
        have hres := HT.out
        rw [mxT, hct, if_pos rfl] at hres
        injection hres with hr1 hr2
        have HR1 := Lib.hid hr1
        have HR2 := Lib.hid hr2
        rw [hct] at HCN
        clear hct hr1 hr2 HT
        go_wp2_with fail
        refine HCN.out.mono ?_
        rintro e w9 ⟨rfl, hb9⟩
        have HBZ := Lib.hid (Base.Below.nextA HB0.out (Base.Below.nextA HW5.out (Base.Below.nextA HB.out hb9)))
        clear hb9 HCN HMT HB
        go_wp2
        go_ret2
        exact ⟨by rw [HEE.out.1, HEE.out.2, ← HR1.out, ← HR2.out]; rfl, HBZ.out⟩
       | false =>
        have HT2 : Hid (mxT C m' (t + 1) = (R, ok)) := Lib.hid (by have := HT.out; rwa [mxT, hct, if_neg (by decide)] at this)
        rw [hct] at HCN
        clear hct HT
        go_wp2_with fail
        refine HCN.out.mono ?_
        rintro e w9 ⟨rfl, hb9⟩
        have H2 : Hid (MyRel n fs t gL W5 (.int .i64 0) w9) := Lib.hid ⟨0, gs, cp, cl2, css, rfl, Nat.zero_le _, Lib.hid (HMT.out.below hb9), Lib.hid (Base.Below.nextA HB.out hb9)⟩
        clear hb9 HCN HMT HB
        go_wp2
        go_loopw [61] (fun kv w3 => MyRel n fs t gL W5 kv w3) (fun kv _ => n - (intOf kv).toNat)
        case atStart => exact H2.out
        case round =>
         obtain ⟨k, gs, cp, cl2, css, rfl, hk, HMT, HB⟩ := hrel
         clear H2
         by_cases hkn2 : k < n
         ·have hkn3 : (k : Int) < (n : Int) := by omega
          have y0 := HMT.out.top.at k (HMT.out.cell k hkn2)
          have hrk := (HMT.out.row k hkn2).rd
          have hok := HOK.out k t ht
          have hck : mxG n fs t k k = mxP n fs k t := by unfold mxG; rw [if_neg (Nat.lt_irrefl k)]
          rw [hck] at hrk
          have HWK := Lib.hid (walked_any (c := c3) (c' := cp k) wr (HM.out.below HB.out) hrk (by omega) (by omega) hok)
          have HST2 := Lib.hid (fun (w2 : World) g' cs' (hr : RowR w2 g' n (stepR n (wM fs) (mxP n fs k t)) cs') (hlow : wr.heap.size ≤ g') (hb : Below wr.heap.size wr w2) => (HMT.out.below hb).setRow (c' := n) hkn2 hr.toG (Nat.le_trans HB.out.size hlow) (fun i hi => by have := (HMT.out.row i hi).blk.lt; omega) (by have := HMT.out.top.lt; omega))
          have HY := Lib.hid (fun (w2 : World) (hb : Below wr.heap.size wr w2) => (HMT.out.below hb).top.at k (HMT.out.cell k hkn2))
          have HZ := Lib.hid (fun (w2 : World) (hb : Below wr.heap.size wr w2) => (HMT.out.below hb).top.frz k)
          have hlow := HMT.out.lowL
          clear hrk hok hck HMT
          go_wp2_with fail
          refine HWK.out.mono ?_
          rintro e w9 ⟨g', cs', rfl, hr', hlo', hb9⟩
          obtain ⟨gs2, cp2, cl3, css2, hm2⟩ := HST2.out w9 g' cs' hr' hlo' hb9
          have d0 := HY.out w9 hb9
          have z0 := HZ.out w9 hb9
          have HN : Hid (MyRel n fs t gL W5 (.int .i64 ((k : Int) + 1)) (w9.setCell ⟨gL, k, none⟩ (.slice (some ⟨g', 0, none⟩) n n))) := Lib.hid ⟨k + 1, gs2, cp2, cl3, css2, by simp, hkn2, Lib.hid (hm2.congr fun i j hi hj => by
           unfold mxG
           by_cases e : i = k
           ·subst e; rw [if_pos rfl, if_pos (Nat.lt_succ_self i)]; rfl
           ·rw [if_neg e]
            by_cases e2 : i < k
            ·rw [if_pos e2, if_pos (by omega)]
            ·rw [if_neg e2, if_neg (by omega)]), Lib.hid ((Base.Below.nextA HB.out hb9).setCell (p := ⟨gL, k, none⟩) hlow _)⟩
          clear hr' hlo' hb9 hm2 HST2 HY HZ HWK HB y0
          go_wp2
          go_roundw
          case rel => exact HN.out
          case measure => simp [intOf]; omega
         ·obtain rfl : n = k := by omega
          have HN : Hid (MxRel n fs C R ok gL W5 (.int .i64 ((t : Int) + 1)) wr) := Lib.hid ⟨t + 1, m', gs, cp, cl2, css, by simp, by omega, Lib.hid (HMT.out.congr fun i j hi hj => by unfold mxG; rw [if_pos hi]), HB, HT2⟩
          clear HMT HB HT2
          go_wp2
          go_roundw
          case rel => exact HN.out
          case measure => simp [intOf]; omega
      ·obtain rfl : m = 0 := by omega
       have hres := HT.out
       rw [mxT] at hres
       injection hres with hr1 hr2
       have HR1 := Lib.hid hr1
       have HR2 := Lib.hid hr2
       have HBZ := Lib.hid (Base.Below.nextA HB0.out (Base.Below.nextA HW5.out HB.out))
       have ht2 : ¬ (t : Int) ≤ 30 := by omega
       clear hr1 hr2 HT HMT HB
       go_wp2
       go_ret2
       exact ⟨by rw [HEE.out.1, HEE.out.2, ← HR1.out, ← HR2.out]; rfl, HBZ.out⟩
end Go.Proofs.YthagenodiofgnaaGreat.Ratio
namespace Go.Proofs.YthagenodiofgnaaGreat.Fine
open Go.RowKit Go.Proofs.YthagenodiofgnaaGreat Go.Proofs.YthagenodiofgnaaGreat.Base Go.Proofs.YthagenodiofgnaaGreat.Mem Go.Proofs.YthagenodiofgnaaGreat.RatM Go.Proofs.YthagenodiofgnaaGreat.Two Go.Proofs.YthagenodiofgnaaGreat.Blk
set_option linter.unusedVariables false
def FRet (q : Rat) (w : World) (e : Ending) (w' : World) : Prop := e = .returned (.tuple #[.agg #[.int .i64 (numQ q), .int .i64 (denQ q)], .bool (smallQ q)]) ∧ Below w.heap.size w w'
theorem mul_parts {n1 d1 n2 d2 : Int} (h1 : VF n1 d1) (h2 : VF n2 d2) :
  ∃ N1 N2 : Int, ∃ D1 D2 : Nat, lowV n1 d2.toNat = .agg #[.int .i64 N1, .int .i64 (D2 : Int)] ∧ lowV n2 d1.toNat = .agg #[.int .i64 N2, .int .i64 (D1 : Int)] ∧
   -1000000000000000000 ≤ N1 ∧ N1 ≤ 1000000000000000000 ∧ -1000000000000000000 ≤ N2 ∧ N2 ≤ 1000000000000000000 ∧ D1 ≤ 1000000000000000000 ∧ D2 ≤ 1000000000000000000 ∧
   (qf n1 d1 * qf n2 d2).num.natAbs = N1.natAbs * N2.natAbs ∧ (qf n1 d1 * qf n2 d2).den = D2 * D1 ∧
   (decide (N1 < 0) = decide (N2 < 0) → (qf n1 d1 * qf n2 d2).num = ((N1.natAbs * N2.natAbs : Nat) : Int)) ∧ (decide (N1 < 0) ≠ decide (N2 < 0) → (qf n1 d1 * qf n2 d2).num = -((N1.natAbs * N2.natAbs : Nat) : Int)) := by
 obtain ⟨a1, a2, a3, a4, a5⟩ := h1
 obtain ⟨b1, b2, b3, b4, b5⟩ := h2
 have hd1 : 0 < d1.toNat := by omega
 have hd2 : 0 < d2.toNat := by omega
 have p1 : 0 < Nat.gcd n1.natAbs d2.toNat := Nat.gcd_pos_of_pos_right _ hd2
 have p2 : 0 < Nat.gcd n2.natAbs d1.toNat := Nat.gcd_pos_of_pos_right _ hd1
 obtain ⟨_, q1, s1⟩ := exact_div (Nat.gcd_dvd_left n1.natAbs d2.toNat) p1
 obtain ⟨_, q2, s2⟩ := exact_div (Nat.gcd_dvd_left n2.natAbs d1.toNat) p2
 have hc := prod_cop hd1 hd2 a5 b5
 have hv := prod_val (decide (n1 < 0) != decide (n2 < 0)) (n1 := n1.natAbs) (n2 := n2.natAbs) hd1 hd2
 have hm := qv_mul (decide (n1 < 0)) (decide (n2 < 0)) (n := n1.natAbs) (n' := n2.natAbs) (d := d1.toNat) (d' := d2.toNat) (by omega) (by omega)
 have hne : d2.toNat / Nat.gcd n1.natAbs d2.toNat * (d1.toNat / Nat.gcd n2.natAbs d1.toNat) ≠ 0 := by
  refine Nat.mul_ne_zero ?_ ?_
  ·exact Nat.ne_of_gt (Nat.div_pos (Nat.gcd_le_right _ hd2) p1)
  ·exact Nat.ne_of_gt (Nat.div_pos (Nat.gcd_le_right _ hd1) p2)
 have e : qf n1 d1 * qf n2 d2 = qv (decide (n1 < 0) != decide (n2 < 0)) (n1.natAbs / Nat.gcd n1.natAbs d2.toNat * (n2.natAbs / Nat.gcd n2.natAbs d1.toNat)) (d2.toNat / Nat.gcd n1.natAbs d2.toNat * (d1.toNat / Nat.gcd n2.natAbs d1.toNat)) := by
  rw [hv, hm]; rfl
 obtain ⟨l1, l2⟩ := low_of (s := decide (n1 < 0) != decide (n2 < 0)) hne hc
 have l0 := (own_num (s := decide (n1 < 0) != decide (n2 < 0)) hne hc).1
 refine ⟨_, _, d1.toNat / Nat.gcd n2.natAbs d1.toNat, d2.toNat / Nat.gcd n1.natAbs d2.toNat, rfl, rfl, ?_, ?_, ?_, ?_, ?_, ?_, ?_, ?_, ?_, ?_⟩
 ·have := Nat.div_le_self n1.natAbs (Nat.gcd n1.natAbs d2.toNat); omega
 ·have := Nat.div_le_self n1.natAbs (Nat.gcd n1.natAbs d2.toNat); omega
 ·have := Nat.div_le_self n2.natAbs (Nat.gcd n2.natAbs d1.toNat); omega
 ·have := Nat.div_le_self n2.natAbs (Nat.gcd n2.natAbs d1.toNat); omega
 ·have := Nat.div_le_self d1.toNat (Nat.gcd n2.natAbs d1.toNat); omega
 ·have := Nat.div_le_self d2.toNat (Nat.gcd n1.natAbs d2.toNat); omega
 ·rw [e, l0, q1, q2]
 ·rw [e, l2]
 ·intro hs
  rw [e, l1, q1, q2]
  simp only [s1, s2] at hs
  rw [hs, bne_self_eq_false]; rfl
 ·intro hs
  rw [e, l1, q1, q2]
  simp only [s1, s2] at hs
  have : (decide (n1 < 0) != decide (n2 < 0)) = true := by simpa using hs
  rw [this]; rfl
theorem smallE (t : Nat) : ∃ (i : Int) (b : Bool), b = decide (t ≤ 1000000000000000000) ∧ (b = true → i = (t : Int)) ∧ Hid (∀ w, Calls Tryz.prog 137 #[two t] w fun e w' => e = .returned (.tuple #[.int .i64 i, .bool b]) ∧ Below w.heap.size w w') :=
 ⟨_, _, rfl, fun h => by rw [if_pos (of_decide_eq_true h)], Lib.hid (fun w => small_any t w)⟩
set_option maxHeartbeats 4000000 in
set_option maxRecDepth 100000 in
theorem fMul_any {n1 d1 n2 d2 : Int} (h1 : VF n1 d1) (h2 : VF n2 d2) (w : World) : Calls Tryz.prog 114 #[.agg #[.int .i64 n1, .int .i64 d1], .agg #[.int .i64 n2, .int .i64 d2]] w (FRet (qf n1 d1 * qf n2 d2) w) := by
 obtain ⟨N1, N2, D1, D2, ea, eb, r1, r2, r3, r4, r5, r6, hnum, hden, hsame, hdiff⟩ := mul_parts h1 h2
 have HM1 := Lib.hid (fun W => fMakeG n1 d2.toNat h1.2.2.1 h1.2.2.2.1 (by have := h2.1; omega) (by have := h2.2.1; omega) W)
 have HM2 := Lib.hid (fun W => fMakeG n2 d1.toNat h2.2.2.1 h2.2.2.2.1 (by have := h1.1; omega) (by have := h1.2.1; omega) W)
 rw [ea, show ((d2.toNat : Nat) : Int) = d2 by have := h2.1; omega] at HM1
 rw [eb, show ((d1.toNat : Nat) : Int) = d1 by have := h1.1; omega] at HM2
 have HX1 := Lib.hid (fun W => maxG N1 r1 r2 W)
 have HX2 := Lib.hid (fun W => maxG N2 r3 r4 W)
 have HT1 := Lib.hid (fun W => times_any N1.natAbs N2.natAbs (by omega) (by omega) W)
 have HT2 := Lib.hid (fun W => times_any D2 D1 r6 r5 W)
 obtain ⟨i1, b1, f1, f2, HS1⟩ := smallE (N1.natAbs * N2.natAbs)
 obtain ⟨i2, b2, f3, f4, HS2⟩ := smallE (D2 * D1)
 rw [← hnum] at HT1 HS1 f1 f2
 rw [← hden] at HT2 HS2 f3 f4
 have hend : (b1 = false ∨ b2 = false → smallQ (qf n1 d1 * qf n2 d2) = false ∧ numQ (qf n1 d1 * qf n2 d2) = 0 ∧ denQ (qf n1 d1 * qf n2 d2) = 0) ∧ (b1 = true → b2 = true → smallQ (qf n1 d1 * qf n2 d2) = true ∧ (decide (N1 < 0) = decide (N2 < 0) → numQ (qf n1 d1 * qf n2 d2) = i1) ∧ (decide (N1 < 0) ≠ decide (N2 < 0) → numQ (qf n1 d1 * qf n2 d2) = -i1) ∧ denQ (qf n1 d1 * qf n2 d2) = i2 ∧ 0 ≤ i1 ∧ i1 ≤ 1000000000000000000) := by
  refine ⟨fun h => small_no ?_, fun e1 e2 => ?_⟩
  ·rcases h with h | h
   ·rw [f1] at h; exact .inl (of_decide_eq_false h)
   ·rw [f3] at h; exact .inr (of_decide_eq_false h)
  ·have k1 := f2 e1
   have k2 := f4 e2
   rw [f1] at e1
   rw [f3] at e2
   obtain ⟨g1, g2, g3⟩ := small_yes (of_decide_eq_true e1) (of_decide_eq_true e2)
   have := of_decide_eq_true e1
   refine ⟨g1, fun hs => ?_, fun hs => ?_, by rw [g3, k2], by omega, by omega⟩
   ·rw [g2, hsame hs, k1, hnum]
   ·rw [g2, hdiff hs, k1, hnum]
 have HEnd := Lib.hid hend
 clear f1 f2 f3 f4 hend
 have g1 : -1000000000000000000 ≤ n1 ∧ n1 ≤ 1000000000000000000 := ⟨h1.2.2.1, h1.2.2.2.1⟩
 clear h1 h2 ea eb hnum hden hsame hdiff
 generalize qf n1 d1 * qf n2 d2 = q at *
 generalize N1.natAbs = A1 at *
 generalize N2.natAbs = A2 at *
 obtain ⟨W3, hW3⟩ : ∃ W3, W3 = ((w.alloc (.cells #[.int .i64 n1, .int .i64 d1] 34)).alloc (.cells #[.int .i64 n2, .int .i64 d2] 34)).alloc (.cells #[.int .i64 0, .int .i64 0] 34) := ⟨_, rfl⟩
 have K0 : Hid (Blk W3 w.heap.size 34 #[.int .i64 n1, .int .i64 d1]) := Lib.hid (by rw [hW3]; exact ((Blk.new w _ _).alloc _).alloc _)
 have K1 : Hid (Blk W3 (w.heap.size + 1) 34 #[.int .i64 n2, .int .i64 d2]) := Lib.hid (by rw [hW3]; exact (Blk.newAt _ _ (by simp)).alloc _)
 have KR : Hid (Blk W3 (w.heap.size + 1 + 1) 34 #[.int .i64 0, .int .i64 0]) := Lib.hid (by rw [hW3]; exact Blk.newAt _ _ (by simp))
 have HB : Hid (Below w.heap.size w W3) := Lib.hid (by rw [hW3]; exact (((Below.refl _ _).alloc (Nat.le_refl _) _).alloc (by simp) _).alloc (by simp; omega) _)
 have HW := Lib.hid hW3
 clear hW3
 go_enter Tryz.func114, Tryz.ntmps114
 go_wp2_with fail
 rw [← HW.out]
 refine (HM1.out _).mono ?_
 rintro e w1 ⟨rfl, hb1⟩
 have K0a := K0.out.belowS hb1
 have K1a := K1.out.belowS hb1
 have KRa := KR.out.belowS hb1
 have HBa := Lib.hid (Base.Below.nextA HB.out hb1)
 have x0 := K1a.at 0 (v := .int .i64 n2) rfl
 have x1 := K0a.at 1 (v := .int .i64 d1) rfl
 have hz1 : w.heap.size + 1 < w1.heap.size := K1a.lt
 have hz0 : w.heap.size < w1.heap.size := K0a.lt
 have KK := Lib.hid (And.intro K0a (And.intro K1a KRa))
 clear hb1 K0a K1a KRa K0 K1 KR HB HW
 go_wp2_with fail
 obtain ⟨W4, hW4⟩ : ∃ W4, W4 = w1.alloc (.cells #[.int .i64 N1, .int .i64 (D2 : Int)] 34) := ⟨_, rfl⟩
 rw [← hW4]
 have K0 : Hid (Blk W4 w.heap.size 34 #[.int .i64 n1, .int .i64 d1]) := Lib.hid (by rw [hW4]; exact KK.out.1.alloc _)
 have K1 : Hid (Blk W4 (w.heap.size + 1) 34 #[.int .i64 n2, .int .i64 d2]) := Lib.hid (by rw [hW4]; exact KK.out.2.1.alloc _)
 have KR : Hid (Blk W4 (w.heap.size + 1 + 1) 34 #[.int .i64 0, .int .i64 0]) := Lib.hid (by rw [hW4]; exact KK.out.2.2.alloc _)
 have KA : Hid (Blk W4 w1.heap.size 34 #[.int .i64 N1, .int .i64 (D2 : Int)]) := Lib.hid (by rw [hW4]; exact Blk.new w1 _ _)
 have HB : Hid (Below w.heap.size w W4) := Lib.hid (by rw [hW4]; exact HBa.out.alloc HBa.out.size _)
 have hz4 : w1.heap.size < W4.heap.size := KA.out.lt
 clear hW4 KK HBa x0 x1
 refine (HM2.out _).mono ?_
 rintro e w2 ⟨rfl, hb2⟩
 obtain ⟨W5, hW5⟩ : ∃ W5, W5 = w2.alloc (.cells #[.int .i64 N2, .int .i64 (D1 : Int)] 34) := ⟨_, rfl⟩
 have KR5 : Hid (Blk W5 (w.heap.size + 1 + 1) 34 #[.int .i64 0, .int .i64 0]) := Lib.hid (by rw [hW5]; exact (KR.out.belowS hb2).alloc _)
 have KA5 : Hid (Blk W5 w1.heap.size 34 #[.int .i64 N1, .int .i64 (D2 : Int)]) := Lib.hid (by rw [hW5]; exact (KA.out.belowS hb2).alloc _)
 have KB5 : Hid (Blk W5 w2.heap.size 34 #[.int .i64 N2, .int .i64 (D1 : Int)]) := Lib.hid (by rw [hW5]; exact Blk.new w2 _ _)
 have HB5 : Hid (Below w.heap.size w W5) := Lib.hid (by
  have := Base.Below.nextA HB.out hb2
  rw [hW5]; exact this.alloc this.size _)
 have HW5 := Lib.hid hW5
 clear hW5 hb2 K0 K1 KR KA HB
 go_wp2_with fail
 rw [← HW5.out]
 have hlw : w.heap.size + 1 + 1 < W5.heap.size := KR5.out.lt
 have hlA : w1.heap.size < W5.heap.size := KA5.out.lt
 have hlB : w2.heap.size < W5.heap.size := KB5.out.lt
 clear HW5
 unfold two at HT1 HS1 HT2 HS2
 have hn1 : IntKind.i64.wrap (-N1) = -N1 := by rw [IntKind.wrap_i64]; omega
 have hn2 : IntKind.i64.wrap (-N2) = -N2 := by rw [IntKind.wrap_i64]; omega
 (refine wp_region_below (by kernel_rfl) (by kernel_rfl) ?_; (repeat (refine wpQuiet_step (fun K hK => ?_); go_simp; first | (refine hK _ ?_; clear hK K) | (apply Exists.intro; refine ⟨fun wq hq => ?_, hK _ ?_⟩; (first | rfl | (have x0 := (KA5.out.belowS hq).at 0 (v := .int .i64 N1) rfl; have x1 := (KB5.out.belowS hq).at 0 (v := .int .i64 N2) rfl; first | (go_simp; done) | (go_simp; rfl) | (first | (go_at_call 80; refine (HX1.out _).mono ?_; rintro e w7 ⟨rfl, rfl⟩; exact ⟨rfl, hq⟩) | (go_at_call 80; refine (HX2.out _).mono ?_; rintro e w7 ⟨rfl, rfl⟩; exact ⟨rfl, hq⟩) | (go_at_call 132; refine (HT1.out _).mono ?_; rintro e w7 ⟨rfl, hb7⟩; exact ⟨rfl, Base.Below.nextA hq hb7⟩) | (go_at_call 137; refine (HS1.out _).mono ?_; rintro e w7 ⟨rfl, hb7⟩; exact ⟨rfl, Base.Below.nextA hq hb7⟩)))); clear hK K))); refine wpQuiet_nil ?_; intro wq hq)
 have KAq := KA5.out.belowS hq
 have KBq := KB5.out.belowS hq
 have KRq := KR5.out.belowS hq
 have HBq := Lib.hid (Base.Below.nextA HB5.out hq)
 have x0 := KAq.at 1 (v := .int .i64 (D2 : Int)) rfl
 have x1 := KBq.at 1 (v := .int .i64 (D1 : Int)) rfl
 have KK := Lib.hid (And.intro KAq (And.intro KBq KRq))
 clear KAq KBq KRq hq KA5 KB5 KR5 HB5 HM1 HM2 HX1 HX2 HT1 HS1 hn1 hn2
 go_wp2_with fail
 refine (HT2.out _).mono ?_
 rintro e w8 ⟨rfl, hb8⟩
 have HB8 := Lib.hid hb8
 clear hb8
 go_wp2_with fail
 refine (HS2.out _).mono ?_
 rintro e w9 ⟨rfl, hb9⟩
 have hb := Base.Below.nextA HB8.out hb9
 have KA9 := KK.out.1.belowS hb
 have KB9 := KK.out.2.1.belowS hb
 have KR9 := KK.out.2.2.belowS hb
 have HB9 := Lib.hid (Base.Below.nextA HBq.out hb)
 have y0 := KA9.at 0 (v := .int .i64 N1) rfl
 have y1 := KB9.at 0 (v := .int .i64 N2) rfl
 have z0 := KR9.frz 0
 have z1 := KR9.frz 1
 have c0 := KR9.at 0 (v := .int .i64 0) rfl
 have c1 := KR9.at 1 (v := .int .i64 0) rfl
 have KR := Lib.hid KR9
 clear x0 x1 KK hb hb9 HB8 HBq HT2 HS2 KA9 KB9 KR9
 cases b1 with
 | false =>
  have HE := Lib.hid (HEnd.out.1 (.inl rfl))
  clear HEnd
  have S := (KR.out.setTo 0 (.int .i64 0) rfl).setTo 1 (.int .i64 0) rfl
  have s0 := S.at 0 rfl
  have s1 := S.at 1 rfl
  cases b2 <;>
  ·go_wp2
   refine bodyPost_ret (v := .tuple #[.agg #[.int .i64 0, .int .i64 0], .bool false]) (by simp [results, Tryz.results114, go_sem, s0, s1]) rfl ⟨by rw [HE.out.1, HE.out.2.1, HE.out.2.2], (HB9.out.setCell (by simp; omega) _).setCell (by simp; omega) _⟩
 | true =>
  cases b2 with
  | false =>
   have HE := Lib.hid (HEnd.out.1 (.inr rfl))
   clear HEnd
   have S := (KR.out.setTo 0 (.int .i64 0) rfl).setTo 1 (.int .i64 0) rfl
   have s0 := S.at 0 rfl
   have s1 := S.at 1 rfl
   go_wp2
   refine bodyPost_ret (v := .tuple #[.agg #[.int .i64 0, .int .i64 0], .bool false]) (by simp [results, Tryz.results114, go_sem, s0, s1]) rfl ⟨by rw [HE.out.1, HE.out.2.1, HE.out.2.2], (HB9.out.setCell (by simp; omega) _).setCell (by simp; omega) _⟩
  | true =>
   obtain ⟨e1, hs, hd, e2, k0, k1⟩ := HEnd.out.2 rfl rfl
   have HE := Lib.hid (And.intro e1 (And.intro e2 (And.intro hs hd)))
   clear HEnd e1 e2 hs hd
   have hneg : decide (N1 < 0) = false ∨ decide (N1 < 0) = true := by cases decide (N1 < 0) <;> simp
   have hneg2 : decide (N2 < 0) = false ∨ decide (N2 < 0) = true := by cases decide (N2 < 0) <;> simp
   rcases hneg with g1 | g1 <;> rcases hneg2 with g2 | g2
   ·have HQ := Lib.hid (HE.out.2.2.1 (by rw [g1, g2]))
    have S := (KR.out.setTo 0 (.int .i64 i1) rfl).setTo 1 (.int .i64 i2) rfl
    have s0 := S.at 0 rfl
    have s1 := S.at 1 rfl
    go_wp2
    refine bodyPost_ret (v := .tuple #[.agg #[.int .i64 i1, .int .i64 i2], .bool true]) (by simp [results, Tryz.results114, go_sem, s0, s1]) rfl ⟨by rw [HE.out.1, HE.out.2.1, HQ.out], (HB9.out.setCell (by simp; omega) _).setCell (by simp; omega) _⟩
   ·have HQ := Lib.hid (HE.out.2.2.2 (by rw [g1, g2]; decide))
    have S := (KR.out.setTo 0 (.int .i64 (-i1)) rfl).setTo 1 (.int .i64 i2) rfl
    have s0 := S.at 0 rfl
    have s1 := S.at 1 rfl
    go_wp2
    refine bodyPost_ret (v := .tuple #[.agg #[.int .i64 (-i1), .int .i64 i2], .bool true]) (by simp [results, Tryz.results114, go_sem, s0, s1]) rfl ⟨by rw [HE.out.1, HE.out.2.1, HQ.out], (HB9.out.setCell (by simp; omega) _).setCell (by simp; omega) _⟩
   ·have HQ := Lib.hid (HE.out.2.2.2 (by rw [g1, g2]; decide))
    have S := (KR.out.setTo 0 (.int .i64 (-i1)) rfl).setTo 1 (.int .i64 i2) rfl
    have s0 := S.at 0 rfl
    have s1 := S.at 1 rfl
    go_wp2
    refine bodyPost_ret (v := .tuple #[.agg #[.int .i64 (-i1), .int .i64 i2], .bool true]) (by simp [results, Tryz.results114, go_sem, s0, s1]) rfl ⟨by rw [HE.out.1, HE.out.2.1, HQ.out], (HB9.out.setCell (by simp; omega) _).setCell (by simp; omega) _⟩
   ·have HQ := Lib.hid (HE.out.2.2.1 (by rw [g1, g2]))
    have S := (KR.out.setTo 0 (.int .i64 i1) rfl).setTo 1 (.int .i64 i2) rfl
    have s0 := S.at 0 rfl
    have s1 := S.at 1 rfl
    go_wp2
    refine bodyPost_ret (v := .tuple #[.agg #[.int .i64 i1, .int .i64 i2], .bool true]) (by simp [results, Tryz.results114, go_sem, s0, s1]) rfl ⟨by rw [HE.out.1, HE.out.2.1, HQ.out], (HB9.out.setCell (by simp; omega) _).setCell (by simp; omega) _⟩
end Go.Proofs.YthagenodiofgnaaGreat.Fine
namespace Go.Proofs.YthagenodiofgnaaGreat.Big
open Go.RowKit Go.Proofs.YthagenodiofgnaaGreat Go.Proofs.YthagenodiofgnaaGreat.Base Go.Proofs.YthagenodiofgnaaGreat.Mem Go.Proofs.YthagenodiofgnaaGreat.BigM
set_option linter.unusedVariables false
def zs (xs : List Nat) : List Int := xs.map Int.ofNat
theorem zs_len (xs : List Nat) : (zs xs).length = xs.length := by simp [zs]
theorem zs_get (xs : List Nat) (i : Nat) : (zs xs).getD i 0 = ((xs.getD i 0 : Nat) : Int) := by
 simp only [zs, List.getD_eq_getElem?_getD, List.getElem?_map]
 cases xs[i]? <;> rfl
theorem zs_snoc (xs : List Nat) (d : Nat) : ints (zs xs) ++ [.int .i64 (d : Int)] = ints (zs (xs ++ [d])) := by simp [zs, ints]
def Dig (w : World) (B : Nat) (v : Value) (xs : List Nat) : Prop := w.ownsRow B 2 1 v xs.length (ints (zs xs))
def IsB (w : World) (x : Nat) (v : Value) : Prop := Dig w 0 v (bigL x)
def BRet (x : Nat) (w : World) (e : Ending) (w' : World) : Prop := ∃ v, e = .returned v ∧ IsB w' x v ∧ Below w.heap.size w w'
theorem Dig.form {w : World} {B : Nat} {v : Value} {xs : List Nat} (h : Dig w B v xs) : ∃ A c, v = .slice A xs.length c ∧ (0 < xs.length → ∃ g, A = some ⟨g, 0, none⟩ ∧ B ≤ g ∧ g < w.heap.size) := ownsRow_form h
theorem Dig.below {w w' : World} {B : Nat} {v : Value} {xs : List Nat} (h : Dig w B v xs) (hb : Below w.heap.size w w') : Dig w' B v xs := ownsRow_below h hb
theorem Dig.base {w : World} {B B' : Nat} {v : Value} {xs : List Nat} (h : Dig w B v xs) (hb : B' ≤ B) : Dig w B' v xs := ownsRow_base h hb
theorem Dig.cell {w : World} {B n c : Nat} {A : Option Addr} {xs : List Nat} (h : Dig w B (.slice A n c) xs) {i : Nat} (hi : i < xs.length) : ∃ g, A = some ⟨g, 0, none⟩ ∧ B ≤ g ∧ g < w.heap.size ∧ w.cell? ⟨g, i, none⟩ = some (.int .i64 ((xs.getD i 0 : Nat) : Int)) := by
 obtain ⟨A', c', e, hf⟩ := h.form
 injection e with e1 e2 e3
 subst e1 e2 e3
 obtain ⟨g, rfl, h1, h2⟩ := hf (by omega)
 refine ⟨g, rfl, h1, h2, ?_⟩
 rw [World.ownsRow.cellAt h i (by omega), ints_get _ i (by rw [zs_len]; exact hi), zs_get]
theorem Dig.take {w : World} {B n c : Nat} {A : Option Addr} {xs : List Nat} (h : Dig w B (.slice A n c) xs) {k : Nat} (hk : k ≤ xs.length) : Dig w B (.slice A k c) (xs.take k) := by
 obtain ⟨A', c', e, hf⟩ := h.form
 injection e with e1 e2 e3
 subst e1 e2 e3
 unfold Dig at h ⊢
 rw [List.length_take, Nat.min_eq_left hk]
 refine ⟨by rw [ints_len, zs_len, List.length_take, Nat.min_eq_left hk, Nat.mul_one], ?_⟩
 rcases h.2 with ⟨h0, h1⟩ | ⟨g, cap, cur, e, h1, hh, h2⟩
 ·injection h0 with e1 e2 e3
  subst e1 e3
  have : k = 0 := by omega
  subst this
  refine .inl ⟨rfl, ?_⟩
  first | rfl | omega
 ·injection e with e1 e2 e3
  subst e1 e3
  refine .inr ⟨g, c, cur, rfl, h1, hh, by omega, h2.2.1, h2.2.2.1, ?_⟩
  have h3 := h2.2.2.2
  simp only [Nat.mul_one] at h3 ⊢
  have h4 := congrArg (List.take k) h3
  rw [List.take_take, Nat.min_eq_left hk] at h4
  rw [h4]
  simp only [zs, ints, List.map_take]
theorem IsB.below {w w' : World} {x : Nat} {v : Value} (h : IsB w x v) (hb : Below w.heap.size w w') : IsB w' x v := Dig.below h hb
theorem BRet.of {x : Nat} {w w' : World} {v : Value} {B : Nat} {xs : List Nat} (h : Dig w' B v xs) (hx : xs = bigL x) (hb : Below w.heap.size w w') : BRet x w (.returned v) w' := by
 subst hx; exact ⟨v, rfl, h.base (Nat.zero_le _), hb⟩
theorem and30 (x : Nat) (h : x < 9223372036854775808) : bits .and .i64 (x : Int) 1073741823 = ((x % 1073741824 : Nat) : Int) := by
 have := Bits.i64_and_nat x 1073741823 h (by decide)
 rw [Nat.and_two_pow_sub_one_eq_mod x 30] at this
 exact this
def OfRel (x : Nat) (w : World) (nv ov : Value) (wr : World) : Prop :=
 ∃ (m : Nat) (ys : List Nat), nv = .int .i64 (m : Int) ∧ m ≤ x ∧ ys.length ≤ 3 ∧ Hid (bigL x = ys ++ bigL m) ∧ Hid (Dig wr w.heap.size ov ys) ∧ Hid (Below w.heap.size w wr)
theorem Dig.push {w wr w3 : World} {v v' : Value} {ys : List Nat} {d : Nat} {cs : Array Value} {t : TypeId} (hO : Dig wr w.heap.size v ys) (hb : Below w.heap.size w wr)
  (hown : w3.ownsRow w.heap.size 2 1 v' (ys.length + 1) (ints (zs ys) ++ [.int .i64 (d : Int)])) (hg : (wr.alloc (.cells cs t)).grownBy w3 v.ownBlock) : Dig w3 w.heap.size v' (ys ++ [d]) ∧ Below w.heap.size w w3 := by
 refine ⟨?_, ?_⟩
 ·unfold Dig
  rw [List.length_append, List.length_singleton, ← zs_snoc]
  exact hown
 ·exact (hb.alloc hb.size _).trans (grown_below hg (fun g e => by
   obtain ⟨_, _, h1, _⟩ := ownsRow_block hO e
   exact h1) (by simp; have := hb.size; omega))
theorem OfRel.next {x m : Nat} {w wr w3 : World} {v v' : Value} {ys : List Nat} {cs : Array Value} {t : TypeId} (hpos : 0 < m) (hm : m ≤ x) (hx : x < 9223372036854775808) (hd : bigL x = ys ++ bigL m) (hO : Dig wr w.heap.size v ys) (hb : Below w.heap.size w wr)
  (hown : w3.ownsRow w.heap.size 2 1 v' (ys.length + 1) (ints (zs ys) ++ [.int .i64 ((m % D30 : Nat) : Int)])) (hg : (wr.alloc (.cells cs t)).grownBy w3 v.ownBlock) : OfRel x w (.int .i64 ((m / D30 : Nat) : Int)) v' w3 := by
 obtain ⟨h1, h2⟩ := hO.push hb hown hg
 have h3 := of_step hd (Nat.ne_of_gt hpos)
 refine ⟨m / D30, ys ++ [m % D30], rfl, Nat.le_trans (Nat.div_le_self _ _) hm, ?_, Lib.hid h3, Lib.hid h1, Lib.hid h2⟩
 have h4 := bigL_len_le (x := x) (k := 3) (Nat.lt_of_lt_of_le hx (by decide))
 have h5 := congrArg List.length h3
 rw [List.length_append] at h5
 omega
set_option maxHeartbeats 1000000 in
set_option maxRecDepth 100000 in
theorem bigOf_any (x : Nat) (hx : x < 9223372036854775808) (w : World) : Calls Tryz.prog 33 #[.int .i64 (x : Int)] w (BRet x w) := by
 obtain ⟨i0, hi, hz0, hz1, hz2⟩ := info_parts infoI
 have H0 : Hid (OfRel x w (.int .i64 (x : Int)) (.slice (some ⟨w.heap.size, 0, none⟩) 0 0) (w.alloc (.cells #[] 2))) := Lib.hid
  ⟨x, [], rfl, Nat.le_refl _, by simp, Lib.hid rfl, Lib.hid (World.ownsRow_made w #[] 0 (Nat.le_refl _) (Nat.zero_le _) (by simp)), Lib.hid ((Below.refl _ _).alloc (Nat.le_refl _) _)⟩
 have HX := Lib.hid hx
 go_enter Tryz.func33, Tryz.ntmps33
 go_wp2
 go_loopw [0, 3] (fun nv ov wr => OfRel x w nv ov wr) (fun nv _ _ => (intOf nv).toNat)
 case atStart => exact H0.out
 case round =>
  obtain ⟨m, ys, rfl, hm, hl, hd, hO, hb⟩ := hrel
  clear H0
  by_cases hpos : 0 < m
  ·have hand := and30 m (by omega)
   have hdiv : (m : Int) / 1073741824 = ((m / D30 : Nat) : Int) := by simp [D30]
   have hlt : m / D30 < m := Nat.div_lt_self hpos (by decide)
   have HN := Lib.hid (fun w3 v' cs t hown hg => OfRel.next (w3 := w3) (v' := v') (cs := cs) (t := t) hpos hm HX.out hd.out hO.out hb.out hown hg)
   have hsz := hb.out.size
   have hown := World.ownsRow.alloc hO.out (.cells #[.int .i64 ((m % 1073741824 : Nat) : Int)] 2)
   have HW := Lib.hid hown
   clear hown hO hb hd hx
   unfold D30 at HN hdiv hlt
   generalize m % 1073741824 = d at *
   go_wp2_with (at_builtin; refine wpList_append_own_at _ rfl (.tmp 9) (.tmp 12) 64 rfl w.heap.size 2 i0 (.int .i64 0) 1 8 Tryz.underlying64 hi hz0 hz1 hz2 rfl (by decide) _ _ _ rfl HW.out ⟨wr.heap.size, 0, none⟩ 1 1 [.int .i64 (d : Int)] rfl rfl ?p1a ?p2a ?p3a ?p4a ?p5a ?_)
   try case p1a => exact news_one _ _ _ (by simp)
   try case p2a => first | exact one_int | rfl | simp
   try case p3a => first | (simp only [maxLen]; omega) | omega
   try case p4a => omega
   try case p5a => first | (simp only [World.size_alloc]; omega) | omega
   intro v' w3 hown' hg' _ he
   have HN3 := Lib.hid (HN.out w3 v' _ _ hown' hg')
   clear hown' hg' he HN HW
   generalize m / 1073741824 = q at *
   go_wp2
   go_roundw
   case rel => exact HN3.out
   case measure => simp [intOf]; omega
  ·obtain rfl : m = 0 := by omega
   have hR := hd.out
   rw [bigL_zero, List.append_nil] at hR
   have HR := Lib.hid (BRet.of hO.out hR.symm hb.out)
   clear hR hO hb hd
   go_wp2
   go_ret
   exact HR.out
end Go.Proofs.YthagenodiofgnaaGreat.Big
namespace Go.Proofs.YthagenodiofgnaaGreat.Big
open Go.RowKit Go.Proofs.YthagenodiofgnaaGreat Go.Proofs.YthagenodiofgnaaGreat.Base Go.Proofs.YthagenodiofgnaaGreat.Mem Go.Proofs.YthagenodiofgnaaGreat.BigM
set_option linter.unusedVariables false
def PlusSt (x y i C X Y : Nat) (ys : List Nat) : Prop := X = x / D30 ^ i ∧ Y = y / D30 ^ i ∧ ys.length = i ∧ bigL (x + y) = ys ++ bigL (X + Y + C) ∧ C ≤ 1
def PlusRel (x y : Nat) (w : World) (iv cv ov : Value) (wr : World) : Prop :=
 ∃ (i C X Y : Nat) (ys : List Nat), iv = .int .i64 (i : Int) ∧ cv = .int .i64 (C : Int) ∧ i ≤ 4000000 ∧ Hid (PlusSt x y i C X Y ys) ∧ Hid (Dig wr w.heap.size ov ys) ∧ Hid (Below w.heap.size w wr)
theorem PlusSt.next {x y i C X Y a b S : Nat} {ys : List Nat} (h : PlusSt x y i C X Y ys) (ha : a = (bigL x).getD i 0) (hb : b = (bigL y).getD i 0) (hS : S = C + a + b) (hpos : 0 < X + Y + C) :
  PlusSt x y (i + 1) (S / D30) (X / D30) (Y / D30) (ys ++ [S % D30]) := by
 obtain ⟨h1, h2, h3, h4, h5⟩ := h
 rw [dig_at, ← h1] at ha
 rw [dig_at, ← h2] at hb
 have e := of_step h4 (Nat.ne_of_gt hpos)
 have hx := Nat.mod_add_div X D30
 have hy := Nat.mod_add_div Y D30
 have e1 : X + Y + C = S + D30 * (X / D30 + Y / D30) := by rw [Nat.mul_add]; omega
 have e2 : (X + Y + C) % D30 = S % D30 := by rw [e1, Nat.add_mul_mod_self_left]
 have e3 : (X + Y + C) / D30 = X / D30 + Y / D30 + S / D30 := by rw [e1, Nat.add_mul_div_left _ _ (by decide : 0 < D30)]; omega
 rw [e2, e3] at e
 refine ⟨by rw [pow_succ_div, h1], by rw [pow_succ_div, h2], by rw [List.length_append, h3]; rfl, e, ?_⟩
 have l1 : X % D30 < D30 := Nat.mod_lt _ (by decide)
 have l2 : Y % D30 < D30 := Nat.mod_lt _ (by decide)
 unfold D30 at *
 omega
theorem PlusRel.next {x y i C X Y a b S : Nat} {w wr w3 : World} {v v' : Value} {ys : List Nat} {cs : Array Value} {t : TypeId} (h : PlusSt x y i C X Y ys) (hl : (bigL (x + y)).length ≤ 4000000) (ha : a = (bigL x).getD i 0) (hb : b = (bigL y).getD i 0) (hS : S = C + a + b) (hpos : 0 < X + Y + C)
  (hO : Dig wr w.heap.size v ys) (hbl : Below w.heap.size w wr)
  (hown : w3.ownsRow w.heap.size 2 1 v' (ys.length + 1) (ints (zs ys) ++ [.int .i64 ((S % D30 : Nat) : Int)])) (hg : (wr.alloc (.cells cs t)).grownBy w3 v.ownBlock) : PlusRel x y w (.int .i64 ((i : Int) + 1)) (.int .i64 ((S / D30 : Nat) : Int)) v' w3 := by
 obtain ⟨h1, h2⟩ := hO.push hbl hown hg
 have h3 := h.next ha hb hS hpos
 have h4 := h3.2.2.2.1
 have h5 := congrArg List.length h4
 have h6 := h3.2.2.1
 rw [List.length_append] at h5
 exact ⟨i + 1, S / D30, X / D30, Y / D30, ys ++ [S % D30], by simp, rfl, by omega, Lib.hid h3, Lib.hid h1, Lib.hid h2⟩
theorem PlusRel.done {x y i C X Y : Nat} {w wr : World} {v : Value} {ys : List Nat} (h : PlusSt x y i C X Y ys) (h0 : X + Y + C = 0) (hO : Dig wr w.heap.size v ys) (hbl : Below w.heap.size w wr) : BRet (x + y) w (.returned v) wr := by
 obtain ⟨h1, h2, h3, h4, h5⟩ := h
 rw [h0, bigL_zero, List.append_nil] at h4
 exact BRet.of hO h4.symm hbl
set_option maxHeartbeats 4000000 in
set_option maxRecDepth 100000 in
theorem bigPlus_any {x y : Nat} {u v : Value} (w : World) (hx : IsB w x u) (hy : IsB w y v) (hl : (bigL x).length ≤ 1000000) (hl' : (bigL y).length ≤ 1000000) : Calls Tryz.prog 83 #[u, v] w (BRet (x + y) w) := by
 obtain ⟨i0, hi, hz0, hz1, hz2⟩ := info_parts infoI
 have HL : Hid ((bigL (x + y)).length ≤ 4000000) := Lib.hid (by have := len_add x y; omega)
 have HLX : Hid (∀ i, i < (bigL x).length ↔ 0 < x / D30 ^ i) := Lib.hid (fun i => lt_iff x i)
 have HLY : Hid (∀ i, i < (bigL y).length ↔ 0 < y / D30 ^ i) := Lib.hid (fun i => lt_iff y i)
 have HDX := Lib.hid (fun i => okN_at (bigL_ok x) i)
 have HDY := Lib.hid (fun i => okN_at (bigL_ok y) i)
 have H0 : Hid (PlusRel x y w (.int .i64 0) (.int .i64 0) (.slice (some ⟨w.heap.size, 0, none⟩) 0 0) (w.alloc (.cells #[] 2))) := Lib.hid
  ⟨0, 0, x, y, [], rfl, rfl, Nat.zero_le _, Lib.hid ⟨by simp, by simp, rfl, rfl, Nat.zero_le _⟩, Lib.hid (World.ownsRow_made w #[] 0 (Nat.le_refl _) (Nat.zero_le _) (by simp)), Lib.hid ((Below.refl _ _).alloc (Nat.le_refl _) _)⟩
 obtain ⟨A, c, rfl, _⟩ := Dig.form hx
 obtain ⟨A', c', rfl, _⟩ := Dig.form hy
 have HX := Lib.hid hx
 have HY := Lib.hid hy
 clear hx hy
 go_enter Tryz.func83, Tryz.ntmps83
 go_wp2
 go_loopw [7, 6, 5] (fun iv cv ov wr => PlusRel x y w iv cv ov wr) (fun iv _ _ _ => 4000001 - (intOf iv).toNat)
 case atStart => exact H0.out
 case round =>
  obtain ⟨i, C, X, Y, ys, rfl, rfl, hil, hst, hO, hb⟩ := hrel
  clear H0
  have hC := hst.out.2.2.2.2
  have hyl : ys.length ≤ 4000000 := by have := hst.out.2.2.1; omega
  have hX := (HLX.out i)
  have hY := (HLY.out i)
  rw [← hst.out.1] at hX
  rw [← hst.out.2.1] at hY
  have HPX := Lib.hid hX
  have HPY := Lib.hid hY
  have hsz := hb.out.size
  clear hX hY
  have hax := HDX.out i
  have hay := HDY.out i
  unfold D30 at hax hay
  obtain ⟨a, ha⟩ : ∃ a, a = (bigL x).getD i 0 := ⟨_, rfl⟩
  obtain ⟨b, hbd⟩ : ∃ b, b = (bigL y).getD i 0 := ⟨_, rfl⟩
  rw [← ha] at hax
  rw [← hbd] at hay
  have HN := Lib.hid (fun (hpos : 0 < X + Y + C) S (hS : S = C + a + b) w3 v' cs t hown hg => PlusRel.next (w3 := w3) (v' := v') (cs := cs) (t := t) hst.out HL.out ha hbd hS hpos hO.out hb.out hown hg)
  by_cases h1 : i < (bigL x).length
  ·obtain ⟨g, rfl, _, hgl, hca⟩ := Dig.cell (HX.out.below hb.out) h1
   rw [← ha] at hca
   have hpos : 0 < X + Y + C := by have := HPX.out.1 h1; omega
   by_cases h2 : i < (bigL y).length
   ·obtain ⟨g', rfl, _, hgl', hcb⟩ := Dig.cell (HY.out.below hb.out) h2
    rw [← hbd] at hcb
    obtain ⟨S, hS⟩ : ∃ S, S = C + a + b := ⟨_, rfl⟩
    replace HN := Lib.hid (HN.out hpos S hS)
    clear hpos ha hbd
    have hand := and30 S (by omega)
    have hcS : (S : Int) = (C : Int) + (a : Int) + (b : Int) := by omega
    rw [hcS] at hand
    have hdiv : ((C : Int) + (a : Int) + (b : Int)) / 1073741824 = ((S / D30 : Nat) : Int) := by rw [← hcS]; simp [D30]
    have hown := World.ownsRow.alloc hO.out (.cells #[.int .i64 ((S % 1073741824 : Nat) : Int)] 2)
    have HW := Lib.hid hown
    clear hown hO hb hst hcS
    unfold D30 at HN hdiv
    generalize S % 1073741824 = d at *
    generalize S / 1073741824 = q at *
    go_wp2_with (at_builtin; refine wpList_append_own_at _ rfl (.tmp 45) (.tmp 48) 64 rfl w.heap.size 2 i0 (.int .i64 0) 1 8 Tryz.underlying64 hi hz0 hz1 hz2 rfl (by decide) _ _ _ rfl HW.out ⟨wr.heap.size, 0, none⟩ 1 1 [.int .i64 (d : Int)] rfl rfl ?p1a ?p2a ?p3a ?p4a ?p5a ?_)
    try case p1a => exact news_one _ _ _ (by simp)
    try case p2a => first | exact one_int | rfl | simp
    try case p3a => first | (simp only [maxLen]; omega) | omega
    try case p4a => omega
    try case p5a => first | (simp only [World.size_alloc]; omega) | omega
    intro v' w3 hown' hg' _ he
    have HN3 := Lib.hid (HN.out w3 v' _ _ hown' hg')
    clear hown' hg' he HN HW
    go_wp2
    go_roundw
    case rel => exact HN3.out
    case measure => simp [intOf]; omega
   ·have hb0 : b = 0 := by rw [hbd]; exact getD_none (by omega)
    subst hb0
    obtain ⟨S, hS⟩ : ∃ S, S = C + a := ⟨_, rfl⟩
    replace HN := Lib.hid (HN.out hpos S (by omega))
    clear hpos ha hbd
    have hand := and30 S (by omega)
    have hcS : (S : Int) = (C : Int) + (a : Int) := by omega
    rw [hcS] at hand
    have hdiv : ((C : Int) + (a : Int)) / 1073741824 = ((S / D30 : Nat) : Int) := by rw [← hcS]; simp [D30]
    have hown := World.ownsRow.alloc hO.out (.cells #[.int .i64 ((S % 1073741824 : Nat) : Int)] 2)
    have HW := Lib.hid hown
    clear hown hO hb hst hcS
    unfold D30 at HN hdiv
    generalize S % 1073741824 = d at *
    generalize S / 1073741824 = q at *
    go_wp2_with (at_builtin; refine wpList_append_own_at _ rfl (.tmp 45) (.tmp 48) 64 rfl w.heap.size 2 i0 (.int .i64 0) 1 8 Tryz.underlying64 hi hz0 hz1 hz2 rfl (by decide) _ _ _ rfl HW.out ⟨wr.heap.size, 0, none⟩ 1 1 [.int .i64 (d : Int)] rfl rfl ?p1a ?p2a ?p3a ?p4a ?p5a ?_)
    try case p1a => exact news_one _ _ _ (by simp)
    try case p2a => first | exact one_int | rfl | simp
    try case p3a => first | (simp only [maxLen]; omega) | omega
    try case p4a => omega
    try case p5a => first | (simp only [World.size_alloc]; omega) | omega
    intro v' w3 hown' hg' _ he
    have HN3 := Lib.hid (HN.out w3 v' _ _ hown' hg')
    clear hown' hg' he HN HW
    go_wp2
    go_roundw
    case rel => exact HN3.out
    case measure => simp [intOf]; omega
  ·have ha0 : a = 0 := by rw [ha]; exact getD_none (by omega)
   subst ha0
   by_cases h2 : i < (bigL y).length
   ·obtain ⟨g', rfl, _, hgl', hcb⟩ := Dig.cell (HY.out.below hb.out) h2
    rw [← hbd] at hcb
    have hpos : 0 < X + Y + C := by have := HPY.out.1 h2; omega
    obtain ⟨S, hS⟩ : ∃ S, S = C + b := ⟨_, rfl⟩
    replace HN := Lib.hid (HN.out hpos S (by omega))
    clear hpos ha hbd
    have hand := and30 S (by omega)
    have hcS : (S : Int) = (C : Int) + (b : Int) := by omega
    rw [hcS] at hand
    have hdiv : ((C : Int) + (b : Int)) / 1073741824 = ((S / D30 : Nat) : Int) := by rw [← hcS]; simp [D30]
    have hown := World.ownsRow.alloc hO.out (.cells #[.int .i64 ((S % 1073741824 : Nat) : Int)] 2)
    have HW := Lib.hid hown
    clear hown hO hb hst hcS
    unfold D30 at HN hdiv
    generalize S % 1073741824 = d at *
    generalize S / 1073741824 = q at *
    go_wp2_with (at_builtin; refine wpList_append_own_at _ rfl (.tmp 45) (.tmp 48) 64 rfl w.heap.size 2 i0 (.int .i64 0) 1 8 Tryz.underlying64 hi hz0 hz1 hz2 rfl (by decide) _ _ _ rfl HW.out ⟨wr.heap.size, 0, none⟩ 1 1 [.int .i64 (d : Int)] rfl rfl ?p1a ?p2a ?p3a ?p4a ?p5a ?_)
    try case p1a => exact news_one _ _ _ (by simp)
    try case p2a => first | exact one_int | rfl | simp
    try case p3a => first | (simp only [maxLen]; omega) | omega
    try case p4a => omega
    try case p5a => first | (simp only [World.size_alloc]; omega) | omega
    intro v' w3 hown' hg' _ he
    have HN3 := Lib.hid (HN.out w3 v' _ _ hown' hg')
    clear hown' hg' he HN HW
    go_wp2
    go_roundw
    case rel => exact HN3.out
    case measure => simp [intOf]; omega
   ·have hb0 : b = 0 := by rw [hbd]; exact getD_none (by omega)
    subst hb0
    by_cases h3 : 0 < C
    ·have hpos : 0 < X + Y + C := by omega
     obtain ⟨S, hS⟩ : ∃ S, S = C := ⟨_, rfl⟩
     replace HN := Lib.hid (HN.out hpos S (by omega))
     clear hpos ha hbd
     have hand := and30 S (by omega)
     have hcS : (S : Int) = (C : Int) := by omega
     rw [hcS] at hand
     have hdiv : ((C : Int)) / 1073741824 = ((S / D30 : Nat) : Int) := by rw [← hcS]; simp [D30]
     have hown := World.ownsRow.alloc hO.out (.cells #[.int .i64 ((S % 1073741824 : Nat) : Int)] 2)
     have HW := Lib.hid hown
     clear hown hO hb hst hcS
     unfold D30 at HN hdiv
     generalize S % 1073741824 = d at *
     generalize S / 1073741824 = q at *
     go_wp2_with (at_builtin; refine wpList_append_own_at _ rfl (.tmp 45) (.tmp 48) 64 rfl w.heap.size 2 i0 (.int .i64 0) 1 8 Tryz.underlying64 hi hz0 hz1 hz2 rfl (by decide) _ _ _ rfl HW.out ⟨wr.heap.size, 0, none⟩ 1 1 [.int .i64 (d : Int)] rfl rfl ?p1a ?p2a ?p3a ?p4a ?p5a ?_)
     try case p1a => exact news_one _ _ _ (by simp)
     try case p2a => first | exact one_int | rfl | simp
     try case p3a => first | (simp only [maxLen]; omega) | omega
     try case p4a => omega
     try case p5a => first | (simp only [World.size_alloc]; omega) | omega
     intro v' w3 hown' hg' _ he
     have HN3 := Lib.hid (HN.out w3 v' _ _ hown' hg')
     clear hown' hg' he HN HW
     go_wp2
     go_roundw
     case rel => exact HN3.out
     case measure => simp [intOf]; omega
    ·have h0 : X + Y + C = 0 := by
      have := HPX.out
      have := HPY.out
      omega
     have HR := Lib.hid (PlusRel.done hst.out h0 hO.out hb.out)
     clear hO hb hst HN h0 ha hbd
     go_wp2
     go_ret
     exact HR.out
end Go.Proofs.YthagenodiofgnaaGreat.Big
namespace Go.Proofs.YthagenodiofgnaaGreat.Big
open Go.RowKit Go.Proofs.YthagenodiofgnaaGreat Go.Proofs.YthagenodiofgnaaGreat.Base Go.Proofs.YthagenodiofgnaaGreat.Mem Go.Proofs.YthagenodiofgnaaGreat.BigM
set_option linter.unusedVariables false
def cmpN (x y : Nat) : Int := if x < y then -1 else if y < x then 1 else 0
theorem cmpN_lt {x y : Nat} (h : x < y) : cmpN x y = -1 := by simp [cmpN, h]
theorem cmpN_gt {x y : Nat} (h : y < x) : cmpN x y = 1 := by
 unfold cmpN; rw [if_neg (by omega), if_pos h]
theorem cmpN_eq {x y : Nat} (h : x = y) : cmpN x y = 0 := by
 unfold cmpN; rw [if_neg (by omega), if_neg (by omega)]
theorem IsB.cell {w : World} {x n c : Nat} {A : Option Addr} (h : IsB w x (.slice A n c)) {i : Nat} (hi : i < (bigL x).length) : ∃ g, A = some ⟨g, 0, none⟩ ∧ w.cell? ⟨g, i, none⟩ = some (.int .i64 (((bigL x).getD i 0 : Nat) : Int)) := by
 obtain ⟨g, e, _, _, h4⟩ := Dig.cell h hi
 exact ⟨g, e, h4⟩
set_option maxHeartbeats 2000000 in
set_option maxRecDepth 100000 in
theorem bigCmp_any {x y : Nat} {u v : Value} (w : World) (hx : IsB w x u) (hy : IsB w y v) (hl : (bigL x).length ≤ 4000000) (hl' : (bigL y).length ≤ 4000000) : Calls Tryz.prog 82 #[u, v] w fun e w' => e = .returned (.int .i64 (cmpN x y)) ∧ Drawn w w' := by
 obtain ⟨A, c, rfl, _⟩ := Dig.form hx
 obtain ⟨A', c', rfl, _⟩ := Dig.form hy
 have HX := Lib.hid (fun wr (hD : Drawn w wr) i (hi : i < (bigL x).length) => IsB.cell (hx.below hD.below) hi)
 have HY := Lib.hid (fun wr (hD : Drawn w wr) i (hi : i < (bigL y).length) => IsB.cell (hy.below hD.below) hi)
 have vx := bigL_val x
 have vy := bigL_val y
 have ox := bigL_ok x
 have oy := bigL_ok y
 have l1 := @bigL_len_lt x y
 have l2 := @bigL_len_lt y x
 clear hx hy
 generalize hxs : bigL x = xs at *
 generalize hys : bigL y = ys at *
 have HV := Lib.hid (And.intro vx vy)
 have HO := Lib.hid (And.intro ox oy)
 by_cases hlen : xs.length = ys.length
 ·have heq : ((xs.length : Int) != (ys.length : Int)) = false := by simp [hlen]
  have HL := Lib.hid hlen
  clear vx vy ox oy l1 l2 hlen hxs hys
  go_enter Tryz.func82, Tryz.ntmps82
  go_wp2
  go_loopw [5] (fun iv wr => ∃ n : Nat, n ≤ xs.length ∧ iv = .int .i64 ((n : Int) - 1) ∧ Hid (∀ j, n ≤ j → j < xs.length → xs.getD j 0 = ys.getD j 0) ∧ Drawn w wr) (fun iv _ => (intOf iv + 1).toNat)
  case atStart => exact ⟨xs.length, Nat.le_refl _, rfl, Lib.hid (fun j h1 h2 => absurd h2 (by omega)), Drawn.refl _⟩
  case round =>
   obtain ⟨n, hn, rfl, he, hD⟩ := hrel
   have HD := Lib.hid hD
   clear hD
   by_cases hpos : 0 < n
   ·obtain ⟨m, rfl⟩ : ∃ m, n = m + 1 := ⟨n - 1, by omega⟩
    obtain ⟨b, rfl, g⟩ := HX.out wr HD.out m (by omega)
    obtain ⟨b', rfl, g'⟩ := HY.out wr HD.out m (by have := HL.out; omega)
    have hmy : m < ys.length := by have := HL.out; omega
    have e1 : (((m + 1 : Nat) : Int) - 1) = (m : Int) := by omega
    rw [e1]
    have i0 : (0 : Int) ≤ (m : Int) := Int.natCast_nonneg _
    have i1 : (m : Int) < (xs.length : Int) := by omega
    have i2 : (m : Int) < (ys.length : Int) := by omega
    clear e1
    by_cases hz : xs.getD m 0 = ys.getD m 0
    ·have HN : Hid (∀ j, m ≤ j → j < xs.length → xs.getD j 0 = ys.getD j 0) := Lib.hid fun j h1 h2 => by
      rcases Nat.lt_or_ge m j with h | h
      ·exact he.out j (by omega) h2
      ·rw [show j = m by omega]; exact hz
     rw [hz] at g
     clear hz
     generalize ys.getD m 0 = y1 at *
     have hb3 : decide (y1 < y1) = false := decide_eq_false (by omega)
     go_wp2
     go_quiet (fail)
     go_wp2
     go_quiet (fail)
     go_wp2
     go_roundw
     case rel => exact ⟨m, by omega, by congr 1, HN, HD.out.next _⟩
     case measure => simp [intOf]
    ·rcases Nat.lt_or_gt_of_ne hz with hlt | hgt
     ·have HR := Lib.hid (cmp_lt (n := m) HL.out HO.out.1 HO.out.2 (by omega) (fun j h1 h2 => he.out j h1 h2) hlt)
      have hb2 : decide (((xs.getD m 0 : Nat) : Int) < ((ys.getD m 0 : Nat) : Int)) = true := decide_eq_true (by omega)
      have hb3 : decide (xs.getD m 0 < ys.getD m 0) = true := decide_eq_true hlt
      clear hz hlt
      generalize xs.getD m 0 = x1 at *
      generalize ys.getD m 0 = y1 at *
      go_wp2
      go_quiet (fail)
      go_wp2
      go_ret
      exact ⟨ret_int (by rw [HV.out.1, HV.out.2] at HR; exact (cmpN_lt HR.out).symm), HD.out.next _⟩
     ·have HR := Lib.hid (cmp_lt (n := m) HL.out.symm HO.out.2 HO.out.1 (by omega) (fun j h1 h2 => (he.out j h1 (by have := HL.out; omega)).symm) hgt)
      have hb2 : decide (((xs.getD m 0 : Nat) : Int) < ((ys.getD m 0 : Nat) : Int)) = false := decide_eq_false (by omega)
      have hb3 : decide (xs.getD m 0 < ys.getD m 0) = false := decide_eq_false (by omega)
      have hb4 : decide (((ys.getD m 0 : Nat) : Int) < ((xs.getD m 0 : Nat) : Int)) = true := decide_eq_true (by omega)
      have hb5 : decide (ys.getD m 0 < xs.getD m 0) = true := decide_eq_true (by omega)
      clear hz hgt
      generalize xs.getD m 0 = x1 at *
      generalize ys.getD m 0 = y1 at *
      go_wp2
      go_quiet (fail)
      go_wp2
      go_quiet (fail)
      go_wp2
      go_ret
      exact ⟨ret_int (by rw [HV.out.1, HV.out.2] at HR; exact (cmpN_gt HR.out).symm), (HD.out.next _).next _⟩
   ·obtain rfl : n = 0 := by omega
    have HE := Lib.hid ((val_cmp HL.out HO.out.1 HO.out.2 0 (Nat.zero_le _) he.out).2.2 (by simp))
    go_wp2
    go_ret
    exact ⟨ret_int (by rw [HV.out.1, HV.out.2] at HE; exact (cmpN_eq HE.out).symm), HD.out⟩
 ·have heq : ((xs.length : Int) != (ys.length : Int)) = true := by simp; omega
  rcases Nat.lt_or_gt_of_ne hlen with h | h
  ·have HR := Lib.hid (cmpN_lt (l1 h))
   clear vx vy ox oy l1 l2 hlen hxs hys
   go_enter Tryz.func82, Tryz.ntmps82
   go_wp2
   go_ret
   exact ⟨ret_int HR.out.symm, Drawn.refl _⟩
  ·have HR := Lib.hid (cmpN_gt (l2 h))
   have hn : ¬ xs.length < ys.length := by omega
   clear vx vy ox oy l1 l2 hlen hxs hys
   go_enter Tryz.func82, Tryz.ntmps82
   go_wp2
   go_ret
   exact ⟨ret_int HR.out.symm, Drawn.refl _⟩
end Go.Proofs.YthagenodiofgnaaGreat.Big
