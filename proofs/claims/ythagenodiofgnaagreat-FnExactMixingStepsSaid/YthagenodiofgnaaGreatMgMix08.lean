/- The program: whether a list are chances. -/
import Derived.Test.YthagenodiofgnaaGreatMgMix06
import Derived.Test.YthagenodiofgnaaGreatMgMix07
import Derived.Deep.Cut
import Derived.Test.YthagenodiofgnaaGreatMgMix00
import Derived.Laws.IdiomCopy
import Derived.Laws.BitsAllLaws
import Derived.IntWalk
import Derived.Shelf.Lay
import Derived.Shelf.Strconv.Itoa0
import Derived.Lib.ItoaNum
import Derived.Test.YthagenodiofgnaaGreatMgMix05
import Derived.Test.YthagenodiofgnaaGreatMgMix04
import Derived.Test.YthagenodiofgnaaGreatMgMix03
namespace Go.Proofs.YthagenodiofgnaaGreat.Ratio
open Go.RowKit Go.Proofs.YthagenodiofgnaaGreat Go.Proofs.YthagenodiofgnaaGreat.Base Go.Proofs.YthagenodiofgnaaGreat.Mem Go.Proofs.YthagenodiofgnaaGreat.NatM Go.Proofs.YthagenodiofgnaaGreat.Nat32 Go.Proofs.YthagenodiofgnaaGreat.RatM Go.Proofs.YthagenodiofgnaaGreat.Blk Go.Proofs.YthagenodiofgnaaGreat.MemF Go.Proofs.YthagenodiofgnaaGreat.ChM Go.Proofs.YthagenodiofgnaaGreat.ValF Go.Proofs.YthagenodiofgnaaGreat.GaussM
open Go.Proofs.YthagenodiofgnaaGreat.Inv (natOf natOf_eq len_pos Rat3 not_slice not_bool frz)
set_option linter.unusedVariables false
theorem closureF_any (n d : Int) (w : World) : Calls Tryz.prog 139 #[.agg #[.int .i64 n, .int .i64 d]] w fun e w' => e = .returned (.bool (!vfB n d)) ∧ Below w.heap.size w w' := by
 have HV := Lib.hid (validI_any n d (w.alloc (.cells #[.int .i64 n, .int .i64 d] 34)))
 have HB : Hid (Below w.heap.size w (w.alloc (.cells #[.int .i64 n, .int .i64 d] 34))) := Lib.hid ((Below.refl _ _).alloc (Nat.le_refl _) _)
 go_enter Tryz.func139, Tryz.ntmps139
 go_wp2_with fail
 refine HV.out.mono ?_
 rintro e w1 ⟨rfl, hb1⟩
 have HB1 := Lib.hid (Base.Below.nextA HB.out hb1)
 clear hb1 HB HV
 go_wp2
 go_ret
 exact ⟨rfl, HB1.out⟩
def IdxRetB (b : Bool) (w : World) (e : Ending) (w' : World) : Prop := ∃ r : Int, e = .returned (.int .i64 r) ∧ ((r = -1 ∧ b = true) ∨ (0 ≤ r ∧ b = false)) ∧ Below w.heap.size w w'
set_option maxHeartbeats 1000000 in
theorem indexF_any {A : Option Addr} {c B n : Nat} {fs : List Int} (w : World) (hx : RdF w B A n fs) (hB : B ≤ w.heap.size) (hn : n ≤ 1099511627776) :
  Calls Tryz.prog 144 #[.slice A n c, .func (Fn.func 139) #[] #[]] w (IdxRetB (vfAll fs n) w) := by
 have HX := Lib.hid (hx.more hB)
 clear hx
 go_enter Tryz.func144, Tryz.ntmps144
 go_wp2
 go_loopw [8] (fun iv wr => ∃ i : Nat, iv = .int .i64 (i : Int) ∧ i ≤ n ∧ Hid (∀ j, j < i → vfB (fs.getD (2 * j) 0) (fs.getD (2 * j + 1) 0) = true) ∧ Hid (Below w.heap.size w wr)) (fun iv _ => n - (intOf iv).toNat)
 case atStart => exact ⟨0, rfl, Nat.zero_le _, Lib.hid fun j hj => absurd hj (Nat.not_lt_zero j), Lib.hid (Below.refl _ _)⟩
 case round =>
  obtain ⟨i, rfl, hi, hall, HB⟩ := hrel
  by_cases hlt : i < n
  ·obtain ⟨b, off, rfl, hbl, g1, g2⟩ := (HX.out.below HB.out (Nat.le_refl _)).at hlt
   have HV := Lib.hid (fun W => closureF_any (fs.getD (2 * i) 0) (fs.getD (2 * i + 1) 0) W)
   have HNO := Lib.hid (fun h => (show vfAll fs n = false from all_no hlt h))
   have HYES := Lib.hid (fun (h : vfB (fs.getD (2 * i) 0) (fs.getD (2 * i + 1) 0) = true) j (hj : j < i + 1) => (show vfB (fs.getD (2 * j) 0) (fs.getD (2 * j + 1) 0) = true by
    rcases Nat.lt_or_ge j i with h1 | h1
    ·exact hall.out j h1
    ·obtain rfl : j = i := by omega
     exact h))
   have hsz := HB.out.size
   generalize fs.getD (2 * i) 0 = x0 at *
   generalize fs.getD (2 * i + 1) 0 = x1 at *
   go_wp2_with fail
   refine (HV.out _).mono ?_
   rintro e w1 ⟨rfl, hb1⟩
   have HB1 := Lib.hid (Base.Below.nextA HB.out hb1)
   cases hv : vfB x0 x1 with
   | false =>
    have HE := Lib.hid (HNO.out hv)
    clear HNO HYES HV hb1 hv HB g1 g2 hall
    go_wp2
    go_ret
    exact ⟨(i : Int), rfl, .inr ⟨by omega, HE.out⟩, HB1.out⟩
   | true =>
    have HA := Lib.hid (HYES.out hv)
    clear HNO HYES HV hb1 hv HB g1 g2 hall
    go_wp2
    go_roundw
    case rel => exact ⟨i + 1, by simp, hlt, HA, HB1⟩
    case measure => simp [intOf]; omega
  ·obtain rfl : i = n := by omega
   have HE : Hid (vfAll fs i = true) := Lib.hid (all_range.2 hall.out)
   clear hall
   go_wp2
   go_ret
   exact ⟨-1, rfl, .inl ⟨rfl, HE.out⟩, HB.out⟩
def put3 (w : World) (b : Nat) (v0 v1 v2 : Value) : World := ((w.setCell ⟨b, 0, none⟩ v0).setCell ⟨b, 1, none⟩ v1).setCell ⟨b, 2, none⟩ v2
theorem put3_blk {w : World} {b : Nat} {t : TypeId} {u0 u1 u2 : Value} (K : Blk w b t #[u0, u1, u2]) (v0 v1 v2 : Value) : Blk (put3 w b v0 v1 v2) b t #[v0, v1, v2] := ((K.setTo 0 v0 rfl).setTo 1 v1 rfl).setTo 2 v2 rfl
theorem put3_other {w : World} {b b' : Nat} {t : TypeId} {cs : Array Value} (K : Blk w b' t cs) (hne : b ≠ b') (v0 v1 v2 : Value) : Blk (put3 w b v0 v1 v2) b' t cs := ((K.other v0 hne).other v1 hne).other v2 hne
theorem put3_below {w0 w : World} {b B : Nat} (h : Below B w0 w) (hb : B ≤ b) (v0 v1 v2 : Value) : Below B w0 (put3 w b v0 v1 v2) := ((h.setCell (p := ⟨b, 0, none⟩) hb v0).setCell (p := ⟨b, 1, none⟩) hb v1).setCell (p := ⟨b, 2, none⟩) hb v2
theorem rdU_put3 {w : World} {A : Option Addr} {xs : List Nat} {b : Nat} {t : TypeId} {s : Bool} {A1 A2 : Option Addr} {k1 c1 k2 c2 : Nat} (h : RdU w w.heap.size A xs) (K : Blk w b t #[.bool s, .slice A1 k1 c1, .slice A2 k2 c2]) (v0 v1 v2 : Value) : RdU (put3 w b v0 v1 v2) (put3 w b v0 v1 v2).heap.size A xs := by
 have e : (put3 w b v0 v1 v2).heap.size = w.heap.size := by simp [put3]
 rw [e]
 have K0 := K.setTo 0 v0 rfl
 have K1 := K0.setTo 1 v1 rfl
 exact ((h.non (K.at 0 (v := .bool s) rfl) (not_bool _) _).non (K0.at 1 (v := .slice A1 k1 c1) rfl) (not_slice _ _ _) _).non (K1.at 2 (v := .slice A2 k2 c2) rfl) (not_slice _ _ _) _
theorem IsRt.put3 {w : World} {q : Rat} {v : Value} {b : Nat} {t : TypeId} {s : Bool} {A1 A2 : Option Addr} {k1 c1 k2 c2 : Nat} (h : IsRt w q v) (K : Blk w b t #[.bool s, .slice A1 k1 c1, .slice A2 k2 c2]) (v0 v1 v2 : Value) : IsRt (put3 w b v0 v1 v2) q v := by
 obtain ⟨A, c, A', c', e, h1, h2⟩ := h
 exact ⟨A, c, A', c', e, rdU_put3 h1 K _ _ _, rdU_put3 h2 K _ _ _⟩
theorem IsRt.open {w : World} {q : Rat} {v : Value} (h : IsRt w q v) : ∃ s A1 k1 c1 A2 k2 c2, v = .agg #[.bool s, .slice A1 k1 c1, .slice A2 k2 c2] ∧ IsRt w q (.agg #[.bool s, .slice A1 k1 c1, .slice A2 k2 c2]) := by
 have h' := h
 obtain ⟨A, c, A', c', e, _, _⟩ := h
 rw [e] at h'
 exact ⟨_, A, _, c, A', _, c', e, h'⟩
theorem isRt_mono (q : Rat) : Rel.Mono (fun v w => IsRt w q v) := fun v w w' h hb => h.below hb
theorem containsF_any {A : Option Addr} {c B n : Nat} {fs : List Int} (w : World) (hx : RdF w B A n fs) (hB : B ≤ w.heap.size) (hn : n ≤ 1099511627776) :
  Calls Tryz.prog 138 #[.slice A n c, .func (Fn.func 139) #[] #[]] w fun e w' => e = .returned (.bool (!vfAll fs n)) ∧ Below w.heap.size w w' := by
 have hc := Lib.hid (indexF_any (c := c) w hx hB hn)
 clear hx
 go_enter Tryz.func138, Tryz.ntmps138
 go_wp2_with fail
 refine hc.out.mono ?_
 rintro e w' ⟨r, rfl, ⟨rfl, hb⟩ | ⟨hr, hb⟩, hbl⟩
 ·have HB := Lib.hid hbl
  clear hbl
  go_wp2
  go_ret
  exact ⟨ret_bool (by simp [hb]), HB.out⟩
 ·have HB := Lib.hid hbl
  clear hbl
  go_wp2
  go_ret
  exact ⟨ret_bool (by simp [hb]), HB.out⟩
theorem areFr_any {A : Option Addr} {c B n : Nat} {fs : List Int} (w : World) (hx : RdF w B A n fs) (hB : B ≤ w.heap.size) (hn : n ≤ 1099511627776) :
  Calls Tryz.prog 127 #[.slice A n c] w fun e w' => e = .returned (.bool (vfAll fs n)) ∧ Below w.heap.size w w' := by
 have hc := Lib.hid (containsF_any (c := c) w hx hB hn)
 clear hx
 go_enter Tryz.func127, Tryz.ntmps127
 go_wp2_with fail
 refine hc.out.mono ?_
 rintro e w' ⟨rfl, hbl⟩
 have HB := Lib.hid hbl
 clear hbl
 go_wp2
 go_ret
 exact ⟨ret_bool (by simp), HB.out⟩
theorem lenF_any (A : Option Addr) (n c : Nat) (w : World) (h : n ≤ 9223372036854775807) :
  Calls Tryz.prog 126 #[.slice A n c] w fun e w' => e = .returned (.int .i64 (n : Int)) ∧ w = w' := by
 go_enter Tryz.func126, Tryz.ntmps126
 go_wp2
 go_ret
 exact ⟨rfl, rfl⟩
def ChRel (fs : List Int) (n g : Nat) (w : World) (iv : Value) (wr : World) : Prop :=
 ∃ (i : Nat) (s : Bool) (A1 : Option Addr) (k1 c1 : Nat) (A2 : Option Addr) (k2 c2 : Nat), iv = .int .i64 (i : Int) ∧ i ≤ n ∧ Hid (Blk wr g 82 #[.bool s, .slice A1 k1 c1, .slice A2 k2 c2]) ∧ Hid (IsRt wr (sumR i (fq fs)) (.agg #[.bool s, .slice A1 k1 c1, .slice A2 k2 c2])) ∧
  Hid (∀ j, j < i → decide (0 ≤ fs.getD (2 * j) 0) = true) ∧ Hid (Below w.heap.size w wr)
theorem cmpQ_zero (q r : Rat) : (cmpQ q r == 0) = decide (q = r) := by
 unfold cmpQ
 by_cases h : q = r
 ·simp [h]
 ·by_cases h2 : q < r
  ·simp [h, h2]
  ·simp [h, h2]
theorem whole_rt (n : Int) (q : Rat) (hn : n.natAbs ≤ 1000000000000000000) (h : q.num = n ∧ q.den = 1 ∧ decide (q < 0) = decide (n < 0)) (w : World) : Calls Tryz.prog 42 #[.int .i64 n] w fun e w' => ∃ v, e = .returned v ∧ IsRt w' q v ∧ Below w.heap.size w w' := by
 refine (whole_any n hn w).mono fun e w' hr => ?_
 obtain ⟨A, c, A', c', e1, h1, h2, h3⟩ := hr
 refine ⟨_, e1, ⟨A, c, A', c', ?_, ?_, ?_⟩, h3⟩
 ·rw [h.2.2, h.1, h.2.1]
 ·rw [h.1]; exact h1
 ·rw [h.2.1]; exact h2
set_option maxHeartbeats 4000000 in
set_option maxRecDepth 100000 in
theorem areCh_any {A : Option Addr} {c B n : Nat} {fs : List Int} (w : World) (hx : RdF w B A n fs) (hB : B ≤ w.heap.size) (hn : n ≤ 1099511627776) : Calls Tryz.prog 101 #[.slice A n c] w fun e w' => e = .returned (.bool (chB fs n)) ∧ Below w.heap.size w w' := by
 have HX := Lib.hid (hx.more hB)
 have HFA := Lib.hid (areFr_any (c := c) w hx hB hn)
 have HL := Lib.hid (fun W => lenF_any A n c W (by omega))
 clear hx
 by_cases h12 : ¬ (1 ≤ n ∧ n ≤ 16)
 ·have HE : Hid (chB fs n = false) := Lib.hid (by
   by_cases h1 : n < 1
   ·exact chB_short h1
   ·exact chB_long (by omega))
  have hr : inR (n : Int) 1 16 = false := inR_no (by omega)
  go_enter Tryz.func101, Tryz.ntmps101
  go_wp2_with fail
  refine (HL.out _).mono ?_
  rintro e w1 ⟨rfl, rfl⟩
  go_wp2_with fail
  refine (inRange_any _ _ _ _).mono ?_
  rintro e w1 ⟨rfl, rfl⟩
  rw [hr]
  go_wp2
  go_ret
  exact ⟨by rw [HE.out]; rfl, Below.refl _ _⟩
 obtain ⟨h1, h2⟩ : 1 ≤ n ∧ n ≤ 16 := by omega
 have hr : inR (n : Int) 1 16 = true := inR_yes (by omega)
 go_enter Tryz.func101, Tryz.ntmps101
 go_wp2_with fail
 refine (HL.out _).mono ?_
 rintro e w1 ⟨rfl, rfl⟩
 go_wp2_with fail
 refine (inRange_any _ _ _ _).mono ?_
 rintro e w1 ⟨rfl, rfl⟩
 rw [hr]
 go_wp2_with fail
 refine HFA.out.mono ?_
 rintro e w1 ⟨rfl, hb1⟩
 have HB1 := Lib.hid hb1
 clear hb1
 cases hv : vfAll fs n with
 | false =>
  have HE := Lib.hid (chB_vf hv)
  go_wp2
  go_ret
  exact ⟨by rw [HE.out]; rfl, HB1.out⟩
 | true =>
  have HV := Lib.hid (vfAll_true.1 hv)
  have HV2 := Lib.hid hv
  clear hv HFA h12 hr HL
  go_wp2_with fail
  refine (whole_rt 0 0 (by decide) ⟨rfl, rfl, by decide⟩ _).mono ?_
  rintro e w2 ⟨v, rfl, hv0, hb2⟩
  obtain ⟨s, A1, k1, c1, A2, k2, c2, rfl, hv⟩ := hv0.open
  have HB2 := Lib.hid (Base.Below.nextA HB1.out hb2)
  have HI0 := Lib.hid hv
  clear hb2 hv hv0
  go_upto_region 4 with (fail)
  obtain ⟨W3, hW3⟩ : ∃ W3, W3 = w2.alloc (.cells #[.bool s, .slice A1 k1 c1, .slice A2 k2 c2] 82) := ⟨_, rfl⟩
  rw [← hW3]
  obtain ⟨g3, hg3⟩ : ∃ g3, g3 = w2.heap.size := ⟨_, rfl⟩
  rw [← hg3]
  have hlt3 : w.heap.size ≤ g3 := by rw [hg3]; exact HB2.out.size
  have H0 : Hid (ChRel fs n g3 w (.int .i64 0) W3) := Lib.hid (by
   have hb3 : Below w2.heap.size w2 W3 := by rw [hW3]; exact (Below.refl _ _).alloc (Nat.le_refl _) _
   exact ⟨0, s, A1, k1, c1, A2, k2, c2, rfl, Nat.zero_le _, Lib.hid (by rw [hW3, hg3]; exact Blk.new w2 _ _), Lib.hid (HI0.out.below hb3), Lib.hid (fun j hj => absurd hj (Nat.not_lt_zero j)), Lib.hid (Base.Below.nextA HB2.out hb3)⟩)
  clear hW3 hg3 HI0 HB2 HB1
  go_wp2
  go_loopw [18] (fun iv wr => ChRel fs n g3 w iv wr) (fun iv _ => n - (intOf iv).toNat)
  case atStart => exact H0.out
  case round =>
   obtain ⟨i, s, A1, k1, c1, A2, k2, c2, rfl, hi, K3r, HIr, hall, HB⟩ := hrel
   clear H0
   by_cases hlt : i < n
   ·obtain ⟨b, off, rfl, hbl, g1, g2⟩ := (HX.out.below HB.out (Nat.le_refl _)).at hlt
    have HW := Lib.hid (fun W => ratioOf_vf (HV.out i hlt) W)
    have hfq : qf (fs.getD (2 * i) 0) (fs.getD (2 * i + 1) 0) = fq fs i := rfl
    rw [hfq] at HW
    clear hfq
    have HNO := Lib.hid (fun h => (show posAll fs n = false from all_no hlt h))
    have HYES := Lib.hid (fun (h : decide (0 ≤ fs.getD (2 * i) 0) = true) j (hj : j < i + 1) => (show decide (0 ≤ fs.getD (2 * j) 0) = true by
     rcases Nat.lt_or_ge j i with h1 | h1
     ·exact hall.out j h1
     ·obtain rfl : j = i := by omega
      exact h))
    have HZ : Hid (szR (sumR i (fq fs)) ≤ 200000 ∧ szR (fq fs i) ≤ 200000) := Lib.hid (by
     have z1 := dgb_sz (dgb_sum (n := i) (m := 2) (f := fq fs) (fun j hj => dgb_vf (HV.out j (by omega))))
     have z2 := dgb_sz (dgb_vf (HV.out i hlt))
     exact ⟨by omega, by rw [show fq fs i = qf (fs.getD (2 * i) 0) (fs.getD (2 * i + 1) 0) from rfl]; omega⟩)
    have HSM : Hid (sumR (i + 1) (fq fs) = sumR i (fq fs) + fq fs i) := Lib.hid rfl
    generalize fs.getD (2 * i) 0 = x0 at *
    generalize fs.getD (2 * i + 1) 0 = x1 at *
    generalize fq fs i = q at *
    generalize sumR i (fq fs) = s0 at *
    go_upto_region 7 with (fail)
    obtain ⟨W1, hW1⟩ : ∃ W1, W1 = wr.alloc (.cells #[.int .i64 x0, .int .i64 x1] 34) := ⟨_, rfl⟩
    rw [← hW1]
    obtain ⟨g5, hg5⟩ : ∃ g5, g5 = wr.heap.size := ⟨_, rfl⟩
    rw [← hg5]
    have KF : Hid (Blk W1 g5 34 #[.int .i64 x0, .int .i64 x1]) := Lib.hid (by rw [hW1, hg5]; exact Blk.new wr _ _)
    have hbw : Below wr.heap.size wr W1 := by rw [hW1]; exact (Below.refl _ _).alloc (Nat.le_refl _) _
    have K3 := Lib.hid (K3r.out.belowS hbw)
    have HS := Lib.hid (HIr.out.below hbw)
    have HB1 := Lib.hid (Base.Below.nextA HB.out hbw)
    have y0 := KF.out.at 0 (v := .int .i64 x0) rfl
    clear hW1 hg5 hbw K3r HIr HB g1 g2 hbl hall
    by_cases hx0 : x0 < 0
    ·have HE := Lib.hid (chB_neg (HNO.out (by simp; omega)))
     clear HNO HYES
     go_wp2
     go_ret
     exact ⟨by rw [HE.out]; rfl, HB1.out⟩
    have HA := Lib.hid (HYES.out (by simp; omega))
    clear HNO HYES
    go_upto_region 9 with (fail)
    clear y0
    refine Rel.wp_region_rel 4 (by kernel_rfl) (by kernel_rfl) (fun F hF => ?_)
    simp only [List.take_succ_cons, List.take_zero, List.drop_succ_cons, List.drop_zero, Rel.putL] at hF ⊢
    have HF := Lib.hid hF
    clear hF
    have uv := @Rel.upon_value Tryz.prog
    have ue := @Rel.upon_enter Tryz.prog
    apply Rel.rel_pure
    apply Exists.intro
    refine ⟨fun vs wq hq hdp R hR => ?_, ?_⟩
    ·(rw [HF.out, Rel.stepAt_eq]; clear hdp; have x0 := (K3.out.belowS hq).at 0 (v := .bool s) rfl; have x1 := (K3.out.belowS hq).at 1 (v := .slice A1 k1 c1) rfl; have x2 := (K3.out.belowS hq).at 2 (v := .slice A2 k2 c2) rfl; go_simp; exact hR)
    apply Rel.rel_pure
    apply Exists.intro
    refine ⟨fun vs wq hq hdp R hR => ?_, ?_⟩
    ·(rw [HF.out, Rel.stepAt_eq]; clear hdp; have y0 := (KF.out.belowS hq).at 0 (v := .int .i64 x0) rfl; have y1 := (KF.out.belowS hq).at 1 (v := .int .i64 x1) rfl; go_simp; exact hR)
    refine Rel.rel_law (S := fun v w' => IsRt w' q v) (isRt_mono _) (fun vs wq hq hdp => ?_) ?_
    ·(rw [HF.out, Rel.stepAt_eq]; have qd1 : vs 1 = _ := Rel.dep hdp 1 (by kernel_rfl); clear hdp; skip; go_simp; refine (HW.out _).mono ?_; rintro e w7 ⟨A, c, A', c', rfl, d1, d2, hb⟩; exact ⟨_, rfl, ⟨A, c, A', c', rfl, d1.1, d2.1⟩, hb⟩)
    refine Rel.rel_law (S := fun v w' => IsRt w' (s0 + q) v) (isRt_mono _) (fun vs wq hq hdp => ?_) ?_
    ·(rw [HF.out, Rel.stepAt_eq]; have qd0 : vs 0 = _ := Rel.dep hdp 0 (by kernel_rfl); have qd2 : IsRt wq _ (vs 2) := Rel.dep hdp 2 (by kernel_rfl); clear hdp; skip; go_simp; refine (ratPlus wq (HS.out.below hq) qd2 HZ.out.1 HZ.out.2).mono ?_; rintro e w7 h; obtain ⟨v, rfl, hv, hb⟩ := h.is; exact ⟨_, rfl, hv, hb⟩)
    refine Rel.rel_end (fun vs wq hq hall => ?_)
    rw [HF.out]
    have qe0 : vs 0 = _ := Rel.fin hall 0 (by decide)
    have qe1 : vs 1 = _ := Rel.fin hall 1 (by decide)
    have qe2 : IsRt wq _ (vs 2) := Rel.fin hall 2 (by decide)
    have qe3 : IsRt wq _ (vs 3) := Rel.fin hall 3 (by decide)
    clear hall HF uv ue
    obtain ⟨t, C1, m1, l1, C2, m2, l2, ev, hI⟩ := qe3.open
    have K3q := K3.out.belowS hq
    have HN : Hid (ChRel fs n g3 w (.int .i64 ((i : Int) + 1)) (put3 wq g3 (.bool t) (.slice C1 m1 l1) (.slice C2 m2 l2))) := Lib.hid
     ⟨i + 1, t, C1, m1, l1, C2, m2, l2, by simp, hlt, Lib.hid (put3_blk K3q _ _ _), Lib.hid (by rw [HSM.out]; exact hI.put3 K3q _ _ _), HA, Lib.hid (put3_below (Base.Below.nextA HB1.out hq) hlt3 _ _ _)⟩
    have z0 := K3q.frz 0
    have z1 := K3q.frz 1
    have z2 := K3q.frz 2
    have d0 := K3q.at 0 (v := .bool s) rfl
    have d1 := K3q.at 1 (v := .slice A1 k1 c1) rfl
    have d2 := K3q.at 2 (v := .slice A2 k2 c2) rfl
    unfold put3 at HN
    clear K3q hI qe3 qe0 qe1 qe2 hq K3 KF HS HB1 HW HZ HSM HA
    go_wp2
    go_roundw
    case rel => exact HN.out
    case measure => simp [intOf]; omega
   ·obtain rfl : i = n := by omega
    have HE := Lib.hid ((chB_sum (fs := fs) h1 h2 HV2.out (all_range.2 hall.out)).trans (cmpQ_zero _ _).symm)
    have HZ : Hid (szR (sumR i (fq fs)) ≤ 200000 ∧ szR (1 : Rat) ≤ 200000) := Lib.hid (by
     have z1 := dgb_sz (dgb_sum (n := i) (m := 2) (f := fq fs) (fun j hj => dgb_vf (HV.out j (by omega))))
     exact ⟨by omega, by
      have : Dg (B32 ^ 1) (1 : Rat) := ⟨by decide, by decide⟩
      have := dgb_sz this
      omega⟩)
    clear hall
    have K3 := Lib.hid K3r.out
    have HS := Lib.hid HIr.out
    have HB1 := Lib.hid HB.out
    have HW1 := Lib.hid (fun W => whole_rt 1 1 (by decide) ⟨rfl, rfl, by decide⟩ W)
    clear K3r HIr HB
    generalize sumR i (fq fs) = s0 at *
    go_upto_region 11 with (fail)
    refine Rel.wp_region_rel 4 (by kernel_rfl) (by kernel_rfl) (fun F hF => ?_)
    simp only [List.take_succ_cons, List.take_zero, List.drop_succ_cons, List.drop_zero, Rel.putL] at hF ⊢
    have HF := Lib.hid hF
    clear hF
    have uv := @Rel.upon_value Tryz.prog
    have ue := @Rel.upon_enter Tryz.prog
    apply Rel.rel_pure
    apply Exists.intro
    refine ⟨fun vs wq hq hdp R hR => ?_, ?_⟩
    ·(rw [HF.out, Rel.stepAt_eq]; clear hdp; have x0 := (K3.out.belowS hq).at 0 (v := .bool s) rfl; have x1 := (K3.out.belowS hq).at 1 (v := .slice A1 k1 c1) rfl; have x2 := (K3.out.belowS hq).at 2 (v := .slice A2 k2 c2) rfl; go_simp; exact hR)
    refine Rel.rel_law (S := fun v w' => IsRt w' 1 v) (isRt_mono _) (fun vs wq hq hdp => ?_) ?_
    ·(rw [HF.out, Rel.stepAt_eq]; clear hdp; skip; go_simp; exact HW1.out _)
    apply Rel.rel_same
    apply Exists.intro
    refine ⟨fun vs wq hq hdp => ?_, ?_⟩
    ·(rw [HF.out, Rel.stepAt_eq]; have qd0 : vs 0 = _ := Rel.dep hdp 0 (by kernel_rfl); have qd1 : IsRt wq _ (vs 1) := Rel.dep hdp 1 (by kernel_rfl); clear hdp; skip; go_simp; refine (ratCompare wq (HS.out.below hq) qd1 HZ.out.1 HZ.out.2).mono ?_; rintro e w7 ⟨rfl, hb⟩; exact ⟨_, rfl, rfl, hb⟩)
    apply Rel.rel_pure
    apply Exists.intro
    refine ⟨fun vs wq hq hdp R hR => ?_, ?_⟩
    ·(rw [HF.out, Rel.stepAt_eq]; have qd2 : vs 2 = _ := Rel.dep hdp 2 (by kernel_rfl); clear hdp; skip; go_simp; exact hR)
    refine Rel.rel_end (fun vs wq hq hall => ?_)
    rw [HF.out]
    have qe0 : vs 0 = _ := Rel.fin hall 0 (by decide)
    have qe1 : IsRt wq _ (vs 1) := Rel.fin hall 1 (by decide)
    have qe2 : vs 2 = _ := Rel.fin hall 2 (by decide)
    have qe3 : vs 3 = _ := Rel.fin hall 3 (by decide)
    clear hall HF uv ue
    have HBF := Lib.hid (Base.Below.nextA HB1.out hq)
    clear hq K3 HS HZ HW1
    go_wp2
    go_ret
    exact ⟨ret_bool HE.out.symm, HBF.out⟩
end Go.Proofs.YthagenodiofgnaaGreat.Ratio
namespace Go.Proofs.YthagenodiofgnaaGreat.Ratio
open Go.RowKit Go.Proofs.YthagenodiofgnaaGreat Go.Proofs.YthagenodiofgnaaGreat.Base Go.Proofs.YthagenodiofgnaaGreat.Mem Go.Proofs.YthagenodiofgnaaGreat.NatM Go.Proofs.YthagenodiofgnaaGreat.Nat32 Go.Proofs.YthagenodiofgnaaGreat.RatM Go.Proofs.YthagenodiofgnaaGreat.Blk
open Go.Proofs.YthagenodiofgnaaGreat.Inv (natOf natOf_eq len_pos Rat3 not_slice not_bool frz)
set_option linter.unusedVariables false
structure RowR (w : World) (g n : Nat) (f : Nat → Rat) (cs : Array Value) : Prop where
 blk : Blk w g 82 cs
 size : cs.size = n * 3
 els : ∀ i, i < n → ∃ s A1 k1 c1 A2 k2 c2, cs[i * 3]? = some (.bool s) ∧ cs[i * 3 + 1]? = some (.slice A1 k1 c1) ∧ cs[i * 3 + 2]? = some (.slice A2 k2 c2) ∧ IsRt w (f i) (.agg #[.bool s, .slice A1 k1 c1, .slice A2 k2 c2])
theorem RowR.below {w w' : World} {g n : Nat} {f : Nat → Rat} {cs : Array Value} (h : RowR w g n f cs) (hb : Below w.heap.size w w') : RowR w' g n f cs :=
 ⟨h.blk.belowS hb, h.size, fun i hi => by
  obtain ⟨s, A1, k1, c1, A2, k2, c2, x0, x1, x2, hr⟩ := h.els i hi
  exact ⟨s, A1, k1, c1, A2, k2, c2, x0, x1, x2, hr.below hb⟩⟩
theorem RowR.rd {w : World} {g n : Nat} {f : Nat → Rat} {cs : Array Value} (h : RowR w g n f cs) : RdR w (some ⟨g, 0, none⟩) n f := fun h0 => by
 refine ⟨g, rfl, h.blk.lt, fun i hi => ?_⟩
 obtain ⟨s, A1, k1, c1, A2, k2, c2, x0, x1, x2, hr⟩ := h.els i hi
 exact ⟨s, A1, k1, c1, A2, k2, c2, h.blk.at _ x0, h.blk.at _ x1, h.blk.at _ x2, hr⟩
def put3o (w : World) (b o : Nat) (v0 v1 v2 : Value) : World := ((w.setCell ⟨b, o, none⟩ v0).setCell ⟨b, o + 1, none⟩ v1).setCell ⟨b, o + 2, none⟩ v2
theorem isRt_put3o {w : World} {q : Rat} {v : Value} {b o : Nat} {s : Bool} {A1 A2 : Option Addr} {k1 c1 k2 c2 : Nat} (h : IsRt w q v) {t : TypeId} {cs : Array Value} (K : Blk w b t cs) (x0 : cs[o]? = some (.bool s)) (x1 : cs[o + 1]? = some (.slice A1 k1 c1)) (x2 : cs[o + 2]? = some (.slice A2 k2 c2)) (v0 v1 v2 : Value) : IsRt (put3o w b o v0 v1 v2) q v := by
 obtain ⟨A, c, A', c', e, h1, h2⟩ := h
 have e0 : (put3o w b o v0 v1 v2).heap.size = w.heap.size := by simp [put3o]
 have K0 := K.setTo o v0 rfl
 have K1 := K0.setTo (o + 1) v1 rfl
 have y1 : (cs.setIfInBounds o v0)[o + 1]? = some (.slice A1 k1 c1) := by rw [Array.getElem?_setIfInBounds_ne (by omega)]; exact x1
 have y2 : ((cs.setIfInBounds o v0).setIfInBounds (o + 1) v1)[o + 2]? = some (.slice A2 k2 c2) := by rw [Array.getElem?_setIfInBounds_ne (by omega), Array.getElem?_setIfInBounds_ne (by omega)]; exact x2
 have key : ∀ {A : Option Addr} {xs : List Nat}, RdU w w.heap.size A xs → RdU (put3o w b o v0 v1 v2) (put3o w b o v0 v1 v2).heap.size A xs := fun {A xs} hr => by
  rw [e0]
  exact ((hr.non (K.at o x0) (not_bool _) _).non (K0.at (o + 1) y1) (not_slice _ _ _) _).non (K1.at (o + 2) y2) (not_slice _ _ _) _
 exact ⟨A, c, A', c', e, key h1, key h2⟩
theorem RowR.put {w : World} {g n k : Nat} {f : Nat → Rat} {cs : Array Value} {q : Rat} {t : Bool} {C1 C2 : Option Addr} {m1 l1 m2 l2 : Nat} (h : RowR w g n f cs) (hk : k < n) (hq : IsRt w q (.agg #[.bool t, .slice C1 m1 l1, .slice C2 m2 l2])) :
  ∃ cs', RowR (put3o w g (k * 3) (.bool t) (.slice C1 m1 l1) (.slice C2 m2 l2)) g n (fun i => if i = k then q else f i) cs' := by
 obtain ⟨s, A1, k1, c1, A2, k2, c2, x0, x1, x2, _⟩ := h.els k hk
 have hz := h.size
 refine ⟨((cs.setIfInBounds (k * 3) (.bool t)).setIfInBounds (k * 3 + 1) (.slice C1 m1 l1)).setIfInBounds (k * 3 + 2) (.slice C2 m2 l2), ?_, by simp [hz], fun i hi => ?_⟩
 ·exact ((h.blk.setTo (k * 3) _ rfl).setTo (k * 3 + 1) _ rfl).setTo (k * 3 + 2) _ rfl
 ·by_cases e : i = k
  ·subst e
   refine ⟨t, C1, m1, l1, C2, m2, l2, ?_, ?_, ?_, ?_⟩
   ·rw [Array.getElem?_setIfInBounds_ne (by omega), Array.getElem?_setIfInBounds_ne (by omega), Array.getElem?_setIfInBounds_self_of_lt (by omega)]
   ·rw [Array.getElem?_setIfInBounds_ne (by omega), Array.getElem?_setIfInBounds_self_of_lt (by simp; omega)]
   ·rw [Array.getElem?_setIfInBounds_self_of_lt (by simp; omega)]
   ·rw [if_pos rfl]
    exact isRt_put3o hq h.blk x0 x1 x2 _ _ _
  ·obtain ⟨s', B1, j1, e1, B2, j2, e2, y0, y1, y2, hr⟩ := h.els i hi
   refine ⟨s', B1, j1, e1, B2, j2, e2, ?_, ?_, ?_, ?_⟩
   ·rw [Array.getElem?_setIfInBounds_ne (by omega), Array.getElem?_setIfInBounds_ne (by omega), Array.getElem?_setIfInBounds_ne (by omega)]; exact y0
   ·rw [Array.getElem?_setIfInBounds_ne (by omega), Array.getElem?_setIfInBounds_ne (by omega), Array.getElem?_setIfInBounds_ne (by omega)]; exact y1
   ·rw [Array.getElem?_setIfInBounds_ne (by omega), Array.getElem?_setIfInBounds_ne (by omega), Array.getElem?_setIfInBounds_ne (by omega)]; exact y2
   ·rw [if_neg e]
    exact isRt_put3o hr h.blk x0 x1 x2 _ _ _
theorem put3o_below {w0 w : World} {b B o : Nat} (h : Below B w0 w) (hb : B ≤ b) (v0 v1 v2 : Value) : Below B w0 (put3o w b o v0 v1 v2) := ((h.setCell (p := ⟨b, o, none⟩) hb v0).setCell (p := ⟨b, o + 1, none⟩) hb v1).setCell (p := ⟨b, o + 2, none⟩) hb v2
theorem run_make3 (n : Nat) (hn : n ≤ 1048576) (w : World) : (Instr.makeSlice 76 (.int .i64 (n : Int)) (.int .i64 (n : Int))).run Tryz.prog w = .ok (.slice (some ⟨w.heap.size, 0, none⟩) n n) (w.alloc (.cells (madeCells (Value.agg #[.bool false, .slice none 0 0, .slice none 0 0]).cells (n * 3)) 82)) := by
 obtain ⟨i, hi, hzz⟩ := Option.map_eq_some_iff.1 infoR
 simp only [Prod.mk.injEq] at hzz
 obtain ⟨hz, hs, hb⟩ := hzz
 have hr := run_make (P := Tryz.prog) w 76 82 i _ Tryz.underlying76 hi hz .i64 .i64 n n (by omega) (Int.le_refl _) (by rw [hb]; omega) (by omega)
 simp only [Int.toNat_natCast, hs] at hr
 exact hr
end Go.Proofs.YthagenodiofgnaaGreat.Ratio
namespace Go.Proofs.YthagenodiofgnaaGreat.CopyR
open Go.RowKit Go.Proofs.YthagenodiofgnaaGreat Go.Proofs.YthagenodiofgnaaGreat.Base
set_option linter.unusedVariables false
theorem run_copy_wide {P : Program} (w : World) (dT sT ty elem : TypeId) (size m b o dLen dCap : Nat) (a : Addr) (sLen sCap : Nat) (cs : List Value)
  (hu : P.underlying dT = some (.slice elem)) (hs : (P.info? elem).map (·.size) = some size) (hm : m = Nat.min sLen dLen) (hn : cs.length = m * size)
  (hsrc : ∀ j v, cs[j]? = some v → w.cell? (a.add j) = some v) (hc : ∀ j, j < cs.length → (w.cell? ⟨b, o + j, none⟩).isSome = true) (hf : ∀ j, j < cs.length → w.frozen? ⟨b, o + j, none⟩ = false) (h1 : ∀ v ∈ cs, v.oneCell' = true) :
  (Builtin.copy_ #[dT, sT] ty #[.slice (some ⟨b, o, none⟩) dLen dCap, .slice (some a) sLen sCap]).run P w = .ok (goInt m) (w.setCells b o cs) := by
 have hl := run_loadCells_list (P := P) w a cs hsrc
 have hst := run_storeCells_cells (P := P) b o cs 0 w (by simpa using hc) (by simpa using hf) h1
 cases hq : P.info? elem with
 | none => simp [hq] at hs
 | some i =>
  have hi : i.size = size := by simpa [hq] using hs
  simp [Builtin.copy_, run_underlying hu, Builtin.lenOf, Builtin.firstCells, sizeOf, typeInfo, hq, hi, ← hm, ← hn, hl, hst]
end Go.Proofs.YthagenodiofgnaaGreat.CopyR
namespace Go.Proofs.YthagenodiofgnaaGreat.Choose
open Go.RowKit Go.Proofs.YthagenodiofgnaaGreat Go.Proofs.YthagenodiofgnaaGreat.Base Go.Proofs.YthagenodiofgnaaGreat.Bits
set_option linter.unusedVariables false
theorem and32 (x : Int) (h0 : 0 ≤ x) (h : x < 18446744073709551616) : bits .and .u64 x 4294967295 = x % 4294967296 := by
 have := u64_and_nat x.toNat 4294967295 (by omega) (by omega)
 rw [show (4294967295 : Nat) = 2 ^ 32 - 1 from rfl, Nat.and_two_pow_sub_one_eq_mod] at this
 have e : (x.toNat : Int) = x := by omega
 rw [e, show ((2 ^ 32 - 1 : Nat) : Int) = 4294967295 from rfl] at this
 rw [this]; omega
set_option maxHeartbeats 400000 in
theorem mul64_any (x y : Nat) (w : World) (hx : x < 18446744073709551616) (hy : y < 4294967296) (hxy : x * y < 18446744073709551616) :
  Calls Tryz.prog 122 #[.int .u64 x, .int .u64 y] w fun e w' => e = .returned (.tuple #[.int .u64 0, .int .u64 (x * y : Nat)]) ∧ w = w' := by
 have e1 := and32 y (by omega) (by omega)
 have e2 := and32 x (by omega) (by omega)
 have e3 : (y : Int) % 4294967296 = y := by omega
 have e4 : (y : Int) / 4294967296 = 0 := by omega
 rw [e3] at e1
 obtain ⟨a, ha⟩ : ∃ a, a = x / 4294967296 := ⟨_, rfl⟩
 obtain ⟨b, hb⟩ : ∃ b, b = x % 4294967296 := ⟨_, rfl⟩
 have hb2 : b < 4294967296 := by omega
 have hxe : x = a * 4294967296 + b := by omega
 have hp : x * y = a * y * 4294967296 + b * y := by rw [hxe, Nat.add_mul, Nat.mul_assoc, Nat.mul_comm 4294967296 y, ← Nat.mul_assoc]
 have hq : b * y < 4294967296 * 4294967296 := Nat.mul_lt_mul_of_lt_of_le hb2 (by omega) (by omega)
 have f1 : (x : Int) / 4294967296 = a := by omega
 have f2 : (x : Int) % 4294967296 = b := by omega
 have f3 : (x : Int) * y = ((x * y : Nat) : Int) := by simp
 rw [f2] at e2
 have g1 : (a : Int) * y = ((a * y : Nat) : Int) := by simp
 have g2 : (b : Int) * y = ((b * y : Nat) : Int) := by simp
 generalize x * y = m at *
 generalize a * y = p at *
 generalize b * y = q at *
 have e5 := and32 ((p : Int) + q / 4294967296) (by omega) (by omega)
 have e6 : ((p : Int) + q / 4294967296) % 4294967296 = (p : Int) + q / 4294967296 := by omega
 have e7 : ((p : Int) + q / 4294967296) / 4294967296 = 0 := by omega
 rw [e6] at e5
 clear e3 e6 ha hb hp hxe
 go_enter Tryz.func122, Tryz.ntmps122
 go_wp2
 go_ret2
 exact ⟨rfl, rfl⟩
end Go.Proofs.YthagenodiofgnaaGreat.Choose
namespace Go.Proofs.YthagenodiofgnaaGreat.MulW
open Go.RowKit Go.Proofs.YthagenodiofgnaaGreat Go.Proofs.YthagenodiofgnaaGreat.Base Go.Proofs.YthagenodiofgnaaGreat.Choose
set_option linter.unusedVariables false
theorem mulW_any (x y : Nat) (w : World) (hx : x < 18446744073709551616) (hy : y < 4294967296) (hxy : x * y < 18446744073709551616) :
  Calls Tryz.prog 88 #[.int .u64 x, .int .u64 y] w fun e w' => e = .returned (.tuple #[.int .u64 0, .int .u64 (x * y : Nat)]) ∧ w = w' := by
 have HM := Lib.hid (mul64_any x y w hx hy hxy)
 generalize x * y = z at *
 go_enter Tryz.func88, Tryz.ntmps88
 go_wp2_with fail
 refine HM.out.mono ?_
 rintro e w' ⟨rfl, rfl⟩
 go_wp2
 go_ret2
 exact ⟨rfl, rfl⟩
end Go.Proofs.YthagenodiofgnaaGreat.MulW
namespace Go.Proofs.YthagenodiofgnaaGreat.Ratio
open Go.RowKit Go.Proofs.YthagenodiofgnaaGreat Go.Proofs.YthagenodiofgnaaGreat.Base Go.Proofs.YthagenodiofgnaaGreat.Mem Go.Proofs.YthagenodiofgnaaGreat.NatM Go.Proofs.YthagenodiofgnaaGreat.Nat32 Go.Proofs.YthagenodiofgnaaGreat.RatM Go.Proofs.YthagenodiofgnaaGreat.Blk
set_option linter.unusedVariables false
theorem blk_setCells {b : Nat} {t : TypeId} : ∀ (vs : List Value) (o : Nat) (w : World) (cs : Array Value), Blk w b t cs → ∃ cs' : Array Value, Blk (w.setCells b o vs) b t cs' ∧ cs'.size = cs.size ∧ ∀ j, j < cs.size → cs'[j]? = if o ≤ j ∧ j < o + vs.length then vs[j - o]? else cs[j]?
 | [], o, w, cs, h => ⟨cs, h, rfl, fun j hj => by rw [if_neg (by simp)]⟩
 | v :: vs, o, w, cs, h => by
  obtain ⟨cs', h1, h2, h3⟩ := blk_setCells vs (o + 1) (w.setCell ⟨b, o, none⟩ v) (cs.setIfInBounds o v) (h.set o v)
  have hz : (cs.setIfInBounds o v).size = cs.size := by simp
  refine ⟨cs', h1, h2.trans hz, fun j hj => ?_⟩
  rw [h3 j (by rw [hz]; exact hj)]
  by_cases e : j = o
  ·subst e
   rw [if_neg (by omega), if_pos ⟨Nat.le_refl _, by simp⟩, Nat.sub_self, Array.getElem?_setIfInBounds_self_of_lt hj]
   rfl
  ·by_cases k : o + 1 ≤ j ∧ j < o + 1 + vs.length
   ·rw [if_pos k, if_pos ⟨by omega, by rw [List.length_cons]; omega⟩, show j - o = (j - (o + 1)) + 1 by omega]
    rfl
   ·rw [if_neg k, if_neg (by rw [List.length_cons]; omega), Array.getElem?_setIfInBounds_ne (by omega)]
def pk (v0 v1 v2 : Value) (j : Nat) : Value := if j = 0 then v0 else if j = 1 then v1 else v2
def rep (v0 v1 v2 : Value) (m : Nat) : List Value := (List.range (m * 3)).map fun j => pk v0 v1 v2 (j % 3)
theorem rep_len (v0 v1 v2 : Value) (m : Nat) : (rep v0 v1 v2 m).length = m * 3 := by simp [rep]
theorem rep_get (v0 v1 v2 : Value) {m j : Nat} (h : j < m * 3) : (rep v0 v1 v2 m)[j]? = some (pk v0 v1 v2 (j % 3)) := by
 simp [rep, h]
theorem rep_one {v0 v1 v2 : Value} {m : Nat} (h0 : v0.oneCell' = true) (h1 : v1.oneCell' = true) (h2 : v2.oneCell' = true) : ∀ v ∈ rep v0 v1 v2 m, v.oneCell' = true := by
 intro v hv
 obtain ⟨j, _, rfl⟩ := List.mem_map.1 hv
 unfold pk
 split
 ·exact h0
 ·split
  ·exact h1
  ·exact h2
structure RepB (w : World) (g N n : Nat) (v0 v1 v2 : Value) : Prop where
 blk : ∃ cs, Blk w g 82 cs ∧ cs.size = N * 3 ∧ ∀ j, j < n * 3 → cs[j]? = some (pk v0 v1 v2 (j % 3))
theorem RepB.cells {w : World} {g N n : Nat} {v0 v1 v2 : Value} (h : RepB w g N n v0 v1 v2) {m : Nat} (hm : m ≤ n) : ∀ j v, (rep v0 v1 v2 m)[j]? = some v → w.cell? ⟨g, j, none⟩ = some v := fun j v hj => by
 obtain ⟨cs, K, hz, hc⟩ := h.blk
 have hl : j < m * 3 := by have := (List.getElem?_eq_some_iff.1 hj).1; rwa [rep_len] at this
 rw [rep_get _ _ _ hl] at hj
 rw [K.cell, hc j (by omega), hj]
theorem RepB.some {w : World} {g N n : Nat} {v0 v1 v2 : Value} (h : RepB w g N n v0 v1 v2) {j : Nat} (hj : j < N * 3) : (w.cell? ⟨g, j, none⟩).isSome = true := by
 obtain ⟨cs, K, hz, hc⟩ := h.blk
 rw [K.cell, Array.getElem?_eq_getElem (by omega)]; rfl
theorem RepB.frz {w : World} {g N n : Nat} {v0 v1 v2 : Value} (h : RepB w g N n v0 v1 v2) (j : Nat) : w.frozen? ⟨g, j, none⟩ = false := by
 obtain ⟨cs, K, hz, hc⟩ := h.blk
 exact K.frz j
theorem RepB.copied {w : World} {g N n m : Nat} {v0 v1 v2 : Value} (h : RepB w g N n v0 v1 v2) (hm : n + m ≤ N) : RepB (w.setCells g (n * 3) (rep v0 v1 v2 m)) g N (n + m) v0 v1 v2 := by
 obtain ⟨cs, K, hz, hc⟩ := h.blk
 obtain ⟨cs', K', hz', hc'⟩ := blk_setCells (rep v0 v1 v2 m) (n * 3) w cs K
 refine ⟨cs', K', hz'.trans hz, fun j hj => ?_⟩
 rw [hc' j (by omega), rep_len]
 by_cases e : n * 3 ≤ j
 ·rw [if_pos ⟨e, by omega⟩, rep_get _ _ _ (by omega)]
  rw [show (j - n * 3) % 3 = j % 3 by omega]
 ·rw [if_neg (by omega), hc j (by omega)]
theorem RepB.row {w : World} {g N : Nat} {q : Rat} {s : Bool} {A1 A2 : Option Addr} {k1 c1 k2 c2 : Nat} (h : RepB w g N N (.bool s) (.slice A1 k1 c1) (.slice A2 k2 c2)) (hq : IsRt w q (.agg #[.bool s, .slice A1 k1 c1, .slice A2 k2 c2])) : ∃ cs, RowR w g N (fun _ => q) cs := by
 obtain ⟨cs, K, hz, hc⟩ := h.blk
 refine ⟨cs, K, hz, fun i hi => ⟨s, A1, k1, c1, A2, k2, c2, ?_, ?_, ?_, hq⟩⟩
 ·rw [hc _ (by omega), show (i * 3) % 3 = 0 by omega]; rfl
 ·rw [hc _ (by omega), show (i * 3 + 1) % 3 = 1 by omega]; rfl
 ·rw [hc _ (by omega), show (i * 3 + 2) % 3 = 2 by omega]; rfl
theorem RepB.made (w : World) (N : Nat) (v0 v1 v2 : Value) : RepB (w.alloc (.cells (madeCells (Value.agg #[.bool false, .slice none 0 0, .slice none 0 0]).cells (N * 3)) 82)) w.heap.size N 0 v0 v1 v2 := by
 refine ⟨_, Blk.new w _ _, ?_, fun j hj => absurd hj (by omega)⟩
 simp [madeCells]
end Go.Proofs.YthagenodiofgnaaGreat.Ratio
namespace Go.Proofs.YthagenodiofgnaaGreat.Ratio
open Go.RowKit Go.Proofs.YthagenodiofgnaaGreat Go.Proofs.YthagenodiofgnaaGreat.Base Go.Proofs.YthagenodiofgnaaGreat.Mem Go.Proofs.YthagenodiofgnaaGreat.NatM Go.Proofs.YthagenodiofgnaaGreat.Nat32 Go.Proofs.YthagenodiofgnaaGreat.RatM Go.Proofs.YthagenodiofgnaaGreat.Blk
open Go.Proofs.YthagenodiofgnaaGreat.Inv (natOf natOf_eq len_pos Rat3 not_slice not_bool frz)
set_option linter.unusedVariables false
def RepRet (n : Nat) (q : Rat) (w : World) (e : Ending) (w' : World) : Prop := ∃ cs, e = .returned (.slice (some ⟨w.heap.size, 0, none⟩) n n) ∧ RowR w' w.heap.size n (fun _ => q) cs ∧ Below w.heap.size w w'
def RepRel (N g : Nat) (v0 v1 v2 : Value) (w : World) (nv : Value) (wr : World) : Prop :=
 ∃ n : Nat, nv = .int .i64 (n : Int) ∧ 1 ≤ n ∧ n ≤ N ∧ Hid (RepB wr g N n v0 v1 v2) ∧ Hid (Below w.heap.size w wr)
theorem infoR3 : (Tryz.prog.info? 82).map (·.size) = some 3 := by kernel_rfl
theorem below_setCellsG {B g : Nat} (hg : B ≤ g) : ∀ (vs : List Value) (o : Nat) {w0 w : World}, Below B w0 w → Below B w0 (w.setCells g o vs)
 | [], _, _, _, h => h
 | v :: vs, o, _, _, h => below_setCellsG hg vs (o + 1) (h.setCell (p := ⟨g, o, none⟩) hg v)
theorem RepB.drew {w : World} {g N n : Nat} {v0 v1 v2 : Value} (h : RepB w g N n v0 v1 v2) : RepB w.drew g N n v0 v1 v2 := by
 obtain ⟨cs, K, r⟩ := h.blk
 exact ⟨cs, K.drew, r⟩
theorem run_self {wr : World} {g N n : Nat} {s : Bool} {A1 A2 : Option Addr} {k1 c1 k2 c2 : Nat} (h : RepB wr g N n (.bool s) (.slice A1 k1 c1) (.slice A2 k2 c2)) (hn : n < N) (m : Nat) (hm : m = Nat.min n (N - n)) :
  (Builtin.copy_ #[76, 76] 3 #[.slice (some ⟨g, n * 3, none⟩) (N - n) (N - n), .slice (some ⟨g, 0, none⟩) n N]).run Tryz.prog wr = .ok (goInt m) (wr.setCells g (n * 3) (rep (.bool s) (.slice A1 k1 c1) (.slice A2 k2 c2) m)) := by
 have h1 : m ≤ n := by rw [hm]; exact Nat.min_le_left _ _
 have h2 : m ≤ N - n := by rw [hm]; exact Nat.min_le_right _ _
 exact CopyR.run_copy_wide (P := Tryz.prog) wr 76 76 3 82 3 m g (n * 3) (N - n) (N - n) ⟨g, 0, none⟩ n N (rep (.bool s) (.slice A1 k1 c1) (.slice A2 k2 c2) m) Tryz.underlying76
  infoR3
  hm (rep_len _ _ _ _) (fun j v hj => by rw [Addr.add_lit, Nat.zero_add]; exact h.cells h1 j v hj)
  (fun j hj => by rw [rep_len] at hj; exact h.some (by omega)) (fun j hj => h.frz _) (rep_one rfl rfl rfl)
set_option maxHeartbeats 4000000 in
set_option maxRecDepth 100000 in
theorem repeat_any {c b0 N : Nat} {q : Rat} {s : Bool} {A1 A2 : Option Addr} {k1 c1 k2 c2 : Nat} (w : World) (x0 : w.cell? ⟨b0, 0, none⟩ = some (.bool s)) (x1 : w.cell? ⟨b0, 1, none⟩ = some (.slice A1 k1 c1)) (x2 : w.cell? ⟨b0, 2, none⟩ = some (.slice A2 k2 c2)) (hb0 : b0 < w.heap.size) (hq : IsRt w q (.agg #[.bool s, .slice A1 k1 c1, .slice A2 k2 c2])) (h1 : 1 ≤ N) (hN : N ≤ 1000) :
  Calls Tryz.prog 41 #[.slice (some ⟨b0, 0, none⟩) 1 c, .int .i64 (N : Int)] w (RepRet N q w) := by
 have HM : Hid (∀ W, Calls Tryz.prog 88 #[.int .u64 1, .int .u64 (N : Int)] W fun e w' => e = .returned (.tuple #[.int .u64 0, .int .u64 (N : Nat)]) ∧ W = w') := Lib.hid (fun W => by have := MulW.mulW_any 1 N W (by decide) (by omega) (by omega); rwa [Nat.one_mul] at this)
 have hmk := fun w => run_make3 N (by omega) w
 obtain ⟨g, hg⟩ : ∃ g, g = w.heap.size := ⟨_, rfl⟩
 obtain ⟨W1, hW1⟩ : ∃ W1, W1 = w.alloc (.cells (madeCells (Value.agg #[.bool false, .slice none 0 0, .slice none 0 0]).cells (N * 3)) 82) := ⟨_, rfl⟩
 have HB1 : Hid (Below w.heap.size w W1) := Lib.hid (by rw [hW1]; exact (Below.refl _ _).alloc (Nat.le_refl _) _)
 have K0 : Hid (RepB W1 g N 0 (.bool s) (.slice A1 k1 c1) (.slice A2 k2 c2)) := Lib.hid (by rw [hW1, hg]; exact RepB.made w N _ _ _)
 obtain ⟨W2, hcp, hK2, hB2⟩ : ∃ W2, (Builtin.copy_ #[76, 76] 3 #[.slice (some ⟨w.heap.size, 0, none⟩) N N, .slice (some ⟨b0, 0, none⟩) 1 c]).run Tryz.prog (w.alloc (.cells (madeCells #[.bool false, .slice none 0 0, .slice none 0 0] (N * 3)) 82)) = .ok (.int .i64 1) W2 ∧ RepB W2 g N 1 (.bool s) (.slice A1 k1 c1) (.slice A2 k2 c2) ∧ Below w.heap.size w W2 := by
  have hr := CopyR.run_copy_wide (P := Tryz.prog) W1 76 76 3 82 3 1 g 0 N N ⟨b0, 0, none⟩ 1 c (rep (.bool s) (.slice A1 k1 c1) (.slice A2 k2 c2) 1) Tryz.underlying76 infoR3
   (Nat.min_eq_left h1).symm (rep_len _ _ _ _) (fun j v hj => by
    have hl : j < 1 * 3 := by have := (List.getElem?_eq_some_iff.1 hj).1; rwa [rep_len] at this
    rw [rep_get _ _ _ hl] at hj
    rw [Addr.add_lit, Nat.zero_add]
    refine (HB1.out.cell (p := ⟨b0, j, none⟩) hb0).trans ?_
    rw [← hj]
    match j, hl with
    | 0, _ => exact x0
    | 1, _ => exact x1
    | 2, _ => exact x2
    | j + 3, h => exact absurd h (by omega))
   (fun j hj => by rw [rep_len] at hj; rw [Nat.zero_add]; exact K0.out.some (by omega)) (fun j hj => K0.out.frz _) (rep_one rfl rfl rfl)
  refine ⟨W1.setCells g 0 (rep (.bool s) (.slice A1 k1 c1) (.slice A2 k2 c2) 1), ?_, ?_, ?_⟩
  ·rw [← hg]
   rw [hW1] at hr ⊢
   exact hr
  ·have := K0.out.copied (m := 1) (by omega)
   rwa [Nat.zero_mul, Nat.zero_add] at this
  ·exact below_setCellsG (Nat.le_of_eq hg.symm) _ _ HB1.out
 have HK2 := Lib.hid hK2
 have HB2 := Lib.hid hB2
 have HG := Lib.hid hg
 have HQ := Lib.hid hq
 clear hq hW1 hg x0 x1 x2 hK2 hB2 K0 HB1
 go_enter Tryz.func41, Tryz.ntmps41
 go_wp2_with fail
 refine (HM.out _).mono ?_
 rintro e w' ⟨rfl, rfl⟩
 go_wp2
 clear hcp hmk
 rw [← HG.out]
 go_loopw [8] (fun nv wr => RepRel N g (.bool s) (.slice A1 k1 c1) (.slice A2 k2 c2) w nv wr) (fun nv _ => N - (intOf nv).toNat)
 case atStart => exact ⟨1, rfl, Nat.le_refl _, h1, HK2, HB2⟩
 case round =>
  obtain ⟨n, rfl, hn1, hn, HK, HB⟩ := hrel
  by_cases hlt : n < N
  ·obtain ⟨m, hm⟩ : ∃ m, m = Nat.min n (N - n) := ⟨_, rfl⟩
   have hm1 : m ≤ N - n := by rw [hm]; exact Nat.min_le_right _ _
   have hm0 : 1 ≤ m := by rw [hm]; exact (Nat.le_min).2 ⟨hn1, by omega⟩
   have hcp := run_self HK.out.drew hlt m hm
   have HK3 : Hid (RepB (wr.drew.setCells g (n * 3) (rep (.bool s) (.slice A1 k1 c1) (.slice A2 k2 c2) m)) g N (n + m) (.bool s) (.slice A1 k1 c1) (.slice A2 k2 c2)) := Lib.hid (HK.out.drew.copied (by omega))
   have HB3 : Hid (Below w.heap.size w (wr.drew.setCells g (n * 3) (rep (.bool s) (.slice A1 k1 c1) (.slice A2 k2 c2) m))) := Lib.hid (below_setCellsG (Nat.le_of_eq HG.out.symm) _ _ HB.out.drew)
   generalize wr.drew.setCells g (n * 3) (rep (.bool s) (.slice A1 k1 c1) (.slice A2 k2 c2) m) = W3 at *
   clear hm HK HB
   go_wp2
   go_region
   all_goals
    go_wp2
    go_roundw
    case rel => exact ⟨n + m, by go_num, by omega, by omega, HK3, HB3⟩
    case measure => simp [intOf]; omega
  ·obtain rfl : n = N := by omega
   obtain ⟨cs, hR⟩ := HK.out.row (HQ.out.below HB.out)
   have HR : Hid (RepRet n q w (.returned (.slice (some ⟨g, 0, none⟩) n n)) wr) := Lib.hid ⟨cs, by rw [HG.out], by rw [← HG.out]; exact hR, HB.out⟩
   clear hR
   go_wp2
   go_ret
   exact HR.out
end Go.Proofs.YthagenodiofgnaaGreat.Ratio
namespace Go.Proofs.YthagenodiofgnaaGreat.RowN
open Go.RowKit Go.Proofs.YthagenodiofgnaaGreat Go.Proofs.YthagenodiofgnaaGreat.Base Go.Proofs.YthagenodiofgnaaGreat.Mem Go.Proofs.YthagenodiofgnaaGreat.Bits
set_option linter.unusedVariables false
end Go.Proofs.YthagenodiofgnaaGreat.RowN
namespace Go.Proofs.YthagenodiofgnaaGreat.ExtM
open Go.RowKit Go.Proofs.YthagenodiofgnaaGreat Go.Proofs.YthagenodiofgnaaGreat.Base Go.Proofs.YthagenodiofgnaaGreat.RatM Go.Proofs.YthagenodiofgnaaGreat.GaussM Go.Proofs.YthagenodiofgnaaGreat.ChM Go.Proofs.YthagenodiofgnaaGreat.RowN
set_option linter.unusedVariables false
end Go.Proofs.YthagenodiofgnaaGreat.ExtM
namespace Go.Proofs
open Go.Shelf
end Go.Proofs
namespace Go.Proofs.YthagenodiofgnaaGreat.Deg
open Go.RowKit Go.Proofs.YthagenodiofgnaaGreat Go.Proofs.YthagenodiofgnaaGreat.Base
theorem bitLen_le (p : Nat) (h : p < 9223372036854775808) : Lib.bitLen p ≤ 64 := by
 by_cases h0 : p = 0
 ·subst h0; decide
 ·have hb := Lib.bitLenAux_bounds 64 p (by omega) (by omega)
  have e0 : Lib.bitLenAux 64 p = Lib.bitLen p := rfl
  rw [e0] at hb
  rcases Nat.lt_or_ge 64 (Lib.bitLen p) with h | h
  ·have := Nat.pow_le_pow_right (n := 2) (by decide) (show 64 ≤ Lib.bitLen p - 1 by omega)
   have e : (2 : Nat) ^ 64 = 18446744073709551616 := by decide
   omega
  ·exact h
end Go.Proofs.YthagenodiofgnaaGreat.Deg
namespace Go.Proofs.YthagenodiofgnaaGreat.Ratio
open Go.RowKit Go.Proofs.YthagenodiofgnaaGreat Go.Proofs.YthagenodiofgnaaGreat.Base Go.Proofs.YthagenodiofgnaaGreat.Mem Go.Proofs.YthagenodiofgnaaGreat.NatM Go.Proofs.YthagenodiofgnaaGreat.Nat32 Go.Proofs.YthagenodiofgnaaGreat.RatM Go.Proofs.YthagenodiofgnaaGreat.Blk Go.Proofs.YthagenodiofgnaaGreat.MemF Go.Proofs.YthagenodiofgnaaGreat.ChM Go.Proofs.YthagenodiofgnaaGreat.ValF Go.Proofs.YthagenodiofgnaaGreat.GaussM Go.Proofs.YthagenodiofgnaaGreat.Deg
set_option linter.unusedVariables false
theorem chB_range {fs : List Int} {n : Nat} (h : chB fs n = true) : 1 ≤ n ∧ n ≤ 16 := by
 simp only [chB, Bool.and_eq_true, decide_eq_true_eq] at h
 exact ⟨h.1, h.2.1⟩
end Go.Proofs.YthagenodiofgnaaGreat.Ratio
namespace Go.Proofs.YthagenodiofgnaaGreat.ExtM
open Go.RowKit Go.Proofs.YthagenodiofgnaaGreat Go.Proofs.YthagenodiofgnaaGreat.Base Go.Proofs.YthagenodiofgnaaGreat.RatM Go.Proofs.YthagenodiofgnaaGreat.GaussM Go.Proofs.YthagenodiofgnaaGreat.ChM Go.Proofs.YthagenodiofgnaaGreat.RowN Go.Proofs.YthagenodiofgnaaGreat.Ratio Go.Proofs.YthagenodiofgnaaGreat.GiveM
set_option linter.unusedVariables false
theorem chB_all {fs : List Int} {n : Nat} (h : chB fs n = true) : AllVF fs n := by
 unfold chB at h
 simp only [Bool.and_eq_true] at h
 exact vfAll_true.1 h.2.2.1
end Go.Proofs.YthagenodiofgnaaGreat.ExtM
namespace Go.Proofs.YthagenodiofgnaaGreat.Ratio
open Go.RowKit Go.Proofs.YthagenodiofgnaaGreat Go.Proofs.YthagenodiofgnaaGreat.Base Go.Proofs.YthagenodiofgnaaGreat.Mem Go.Proofs.YthagenodiofgnaaGreat.NatM Go.Proofs.YthagenodiofgnaaGreat.Nat32 Go.Proofs.YthagenodiofgnaaGreat.RatM Go.Proofs.YthagenodiofgnaaGreat.Blk Go.Proofs.YthagenodiofgnaaGreat.MemF Go.Proofs.YthagenodiofgnaaGreat.ChM Go.Proofs.YthagenodiofgnaaGreat.GaussM Go.Proofs.YthagenodiofgnaaGreat.ExtM Go.Proofs.YthagenodiofgnaaGreat.RowN
open Go.Proofs.YthagenodiofgnaaGreat.Inv (natOf natOf_eq len_pos Rat3 not_slice not_bool frz)
set_option linter.unusedVariables false
def RowRet (N : Nat) (f : Nat → Rat) (w : World) (e : Ending) (w' : World) : Prop := ∃ g cs, e = .returned (.slice (some ⟨g, 0, none⟩) N N) ∧ RowR w' g N f cs ∧ w.heap.size ≤ g ∧ Below w.heap.size w w'
end Go.Proofs.YthagenodiofgnaaGreat.Ratio
namespace Go.Proofs.YthagenodiofgnaaGreat.Ratio
open Go.RowKit Go.Proofs.YthagenodiofgnaaGreat Go.Proofs.YthagenodiofgnaaGreat.Base Go.Proofs.YthagenodiofgnaaGreat.Mem Go.Proofs.YthagenodiofgnaaGreat.NatM Go.Proofs.YthagenodiofgnaaGreat.Nat32 Go.Proofs.YthagenodiofgnaaGreat.RatM
open Go.Proofs.YthagenodiofgnaaGreat.Inv (natOf natOf_eq len_pos Rat3 not_slice not_bool frz)
set_option linter.unusedVariables false
theorem rtAbs (s : Bool) (k1 k2 c1 c2 : Nat) (A1 A2 : Option Addr) (w : World) : Calls Tryz.prog 91 #[.agg #[.bool s, .slice A1 k1 c1, .slice A2 k2 c2]] w fun e w' => e = .returned (.agg #[.bool false, .slice A1 k1 c1, .slice A2 k2 c2]) ∧ Below w.heap.size w w' := by
 go_enter Tryz.func91, Tryz.ntmps91
 go_wp2
 refine bodyPost_ret (v := .agg #[.bool false, .slice A1 k1 c1, .slice A2 k2 c2]) (by simp [results, Tryz.results91, go_sem]) rfl ⟨rfl, ?_⟩
 exact ((Below.refl _ _).alloc (Nat.le_refl _) _).alloc (by simp) _
def absR (q : Rat) : Rat := if q < 0 then -q else q
theorem absR_parts (q : Rat) : decide (absR q < 0) = false ∧ (absR q).num.natAbs = q.num.natAbs ∧ (absR q).den = q.den := by
 unfold absR
 split
 ·rename_i h
  exact ⟨by rw [decide_eq_false_iff_not]; grind, by rw [Rat.neg_num, Int.natAbs_neg], by rw [Rat.neg_den]⟩
 ·rename_i h
  exact ⟨by rw [decide_eq_false_iff_not]; exact h, rfl, rfl⟩
theorem szR_abs (q : Rat) : szR (absR q) = szR q := by
 obtain ⟨_, h2, h3⟩ := absR_parts q
 unfold szR
 rw [h2, h3]
theorem ratAbs {q : Rat} {v : Value} (w : World) (hv : IsRt w q v) : Calls Tryz.prog 91 #[v] w (RV (absR q) w) := by
 obtain ⟨A1, c1, A2, c2, rfl, h1, h2⟩ := hv
 refine (rtAbs (decide (q < 0)) (natL q.num.natAbs).length (natL q.den).length c1 c2 A1 A2 w).mono ?_
 rintro e w' ⟨rfl, hb⟩
 obtain ⟨g1, g2, g3⟩ := absR_parts q
 refine ⟨A1, c1, A2, c2, ?_, ?_, ?_, hb⟩
 ·rw [g1, g2, g3]
 ·rw [g2]; exact (h1.below hb (Nat.le_refl _)).more hb.size
 ·rw [g3]; exact (h2.below hb (Nat.le_refl _)).more hb.size
end Go.Proofs.YthagenodiofgnaaGreat.Ratio
set_option linter.unusedVariables false
namespace Go.Proofs.YthagenodiofgnaaGreat.RatM
def Ov (D b : Nat) (q : Rat) : Prop := (∃ x : Int, q * (D : Rat) = (x : Rat)) ∧ -(b : Rat) ≤ q ∧ q ≤ (b : Rat)
theorem cast_le {a b : Nat} (h : a ≤ b) : (a : Rat) ≤ (b : Rat) := by
 obtain ⟨k, rfl⟩ := Nat.le.dest h
 rw [Rat.natCast_add]
 have : (0 : Rat) ≤ (k : Rat) := Rat.natCast_nonneg
 grind
theorem Ov.more {D b c : Nat} {q : Rat} (h : Ov D b q) (hb : b ≤ c) : Ov D c q := by
 have := cast_le hb
 refine ⟨h.1, ?_, ?_⟩
 ·have := h.2.1; grind
 ·have := h.2.2; grind
theorem Ov.scale {D b E : Nat} {q : Rat} (h : Ov D b q) : Ov (D * E) b q := by
 obtain ⟨⟨x, hx⟩, h2⟩ := h
 refine ⟨⟨x * E, ?_⟩, h2⟩
 rw [Rat.natCast_mul, ← Rat.mul_assoc, hx, Rat.intCast_mul]
 rfl
theorem Ov.zero (D : Nat) : Ov D 0 0 := by
 refine ⟨⟨0, by rw [Rat.zero_mul]; rfl⟩, ?_, ?_⟩ <;> decide
theorem Ov.add {D b c : Nat} {q r : Rat} (h : Ov D b q) (g : Ov D c r) : Ov D (b + c) (q + r) := by
 obtain ⟨⟨x, hx⟩, h2, h3⟩ := h
 obtain ⟨⟨y, hy⟩, g2, g3⟩ := g
 refine ⟨⟨x + y, ?_⟩, ?_, ?_⟩
 ·rw [Rat.add_mul, hx, hy, Rat.intCast_add]
 ·rw [Rat.natCast_add]; grind
 ·rw [Rat.natCast_add]; grind
theorem Ov.neg {D b : Nat} {q : Rat} (h : Ov D b q) : Ov D b (-q) := by
 obtain ⟨⟨x, hx⟩, h2, h3⟩ := h
 refine ⟨⟨-x, ?_⟩, ?_, ?_⟩
 ·rw [Rat.neg_mul, hx, Rat.intCast_neg]
 ·grind
 ·grind
theorem Ov.sub {D b c : Nat} {q r : Rat} (h : Ov D b q) (g : Ov D c r) : Ov D (b + c) (q - r) := by
 rw [Rat.sub_eq_add_neg]; exact h.add g.neg
theorem mul_bound {a b x y : Rat} (h1 : -a ≤ x) (h2 : x ≤ a) (g1 : -b ≤ y) (g2 : y ≤ b) (ha : 0 ≤ a) (hb : 0 ≤ b) : x * y ≤ a * b := by
 by_cases hx : 0 ≤ x
 ·have e1 := Rat.mul_le_mul_of_nonneg_left (c := x) g2 hx
  have e2 := Rat.mul_le_mul_of_nonneg_right (c := b) h2 hb
  grind
 ·have e1 := Rat.mul_le_mul_of_nonneg_left (c := -x) (show -y ≤ b by grind) (by grind)
  have e2 := Rat.mul_le_mul_of_nonneg_right (c := b) (show -x ≤ a by grind) hb
  grind
theorem Ov.mul {D E b c : Nat} {q r : Rat} (h : Ov D b q) (g : Ov E c r) : Ov (D * E) (b * c) (q * r) := by
 obtain ⟨⟨x, hx⟩, h2, h3⟩ := h
 obtain ⟨⟨y, hy⟩, g2, g3⟩ := g
 have hb : (0 : Rat) ≤ (b : Rat) := Rat.natCast_nonneg
 have hc : (0 : Rat) ≤ (c : Rat) := Rat.natCast_nonneg
 refine ⟨⟨x * y, ?_⟩, ?_, ?_⟩
 ·rw [Rat.natCast_mul, Rat.intCast_mul, ← hx, ← hy]; grind
 ·have := mul_bound (x := -q) (y := r) (a := b) (b := c) (by grind) (by grind) g2 g3 hb hc
  rw [Rat.natCast_mul]; grind
 ·have := mul_bound h2 h3 g2 g3 hb hc
  rw [Rat.natCast_mul]; grind
theorem Ov.abs {D b : Nat} {q : Rat} (h : Ov D b q) : Ov D b (if q < 0 then -q else q) := by
 split
 ·exact h.neg
 ·exact h
theorem num_of (q : Rat) : q * (q.den : Rat) = (q.num : Rat) := by
 have h := Rat.mkRat_self q
 rw [Rat.mkRat_eq_div] at h
 have hd : (q.den : Rat) ≠ 0 := natCast_ne q.den_nz
 have e : q * (q.den : Rat) = ((q.num : Rat) / (q.den : Rat)) * (q.den : Rat) := by rw [h]
 rw [e]
 exact Rat.div_mul_cancel hd
theorem Ov.parts {D b : Nat} {q : Rat} (hD : 0 < D) (h : Ov D b q) : q.den ≤ D ∧ q.num.natAbs ≤ b * D := by
 obtain ⟨⟨x, hx⟩, h2, h3⟩ := h
 have hqd : (q.den : Rat) ≠ 0 := natCast_ne q.den_nz
 have e1 : q * (q.den : Rat) = (q.num : Rat) := num_of q
 have e2 : (q.num : Rat) * (D : Rat) = (x : Rat) * (q.den : Rat) := by rw [← e1, ← hx]; grind
 have e3 : q.num * (D : Int) = x * (q.den : Int) := by
  have : ((q.num * (D : Int) : Int) : Rat) = ((x * (q.den : Int) : Int) : Rat) := by
   rw [Rat.intCast_mul, Rat.intCast_mul]; exact e2
  exact Rat.intCast_inj.1 this
 have e4 : q.num.natAbs * D = x.natAbs * q.den := by
  have := congrArg Int.natAbs e3
  rw [Int.natAbs_mul, Int.natAbs_mul, Int.natAbs_natCast, Int.natAbs_natCast] at this
  exact this
 have hdvd : q.den ∣ D := by
  have h1 : q.den ∣ q.num.natAbs * D := by rw [e4]; exact Nat.dvd_mul_left _ _
  exact Nat.Coprime.dvd_of_dvd_mul_left (by rw [Nat.coprime_comm]; exact q.reduced) h1
 have hle := Nat.le_of_dvd hD hdvd
 refine ⟨hle, ?_⟩
 have hb : (q.num.natAbs : Rat) ≤ (b : Rat) * (q.den : Rat) := by
  have hd0 : (0 : Rat) ≤ (q.den : Rat) := Rat.natCast_nonneg
  have k1 := Rat.mul_le_mul_of_nonneg_right h3 hd0
  have k2 := Rat.mul_le_mul_of_nonneg_right h2 hd0
  rw [e1] at k1 k2
  rcases Int.natAbs_eq q.num with e | e
  ·have : (q.num : Rat) = (q.num.natAbs : Rat) := by rw [e]; simp; rfl
   grind
  ·have : (q.num : Rat) = -(q.num.natAbs : Rat) := by rw [e]; simp; rfl
   grind
 have hb2 : ((q.num.natAbs : Nat) : Rat) ≤ ((b * q.den : Nat) : Rat) := by rw [Rat.natCast_mul]; exact hb
 have := Rat.natCast_le_natCast.1 hb2
 exact Nat.le_trans this (Nat.mul_le_mul_left b hle)
end Go.Proofs.YthagenodiofgnaaGreat.RatM
namespace Go.Proofs.YthagenodiofgnaaGreat.Ratio
open Go.RowKit Go.Proofs.YthagenodiofgnaaGreat Go.Proofs.YthagenodiofgnaaGreat.Base Go.Proofs.YthagenodiofgnaaGreat.Mem Go.Proofs.YthagenodiofgnaaGreat.NatM Go.Proofs.YthagenodiofgnaaGreat.Nat32 Go.Proofs.YthagenodiofgnaaGreat.RatM Go.Proofs.YthagenodiofgnaaGreat.GaussM Go.Proofs.YthagenodiofgnaaGreat.ChM
set_option linter.unusedVariables false
theorem qf_half : qf 1 2 = (2 : Rat)⁻¹ := by decide +kernel
def disR (n : Nat) (f g : Nat → Rat) : Rat := sumR n (fun i => absR (f i - g i)) * (2 : Rat)⁻¹
theorem ov_abs {D b : Nat} {q : Rat} (h : Ov D b q) : Ov D b (absR q) := h.abs
theorem ov_sum {D b n : Nat} {f : Nat → Rat} (h : ∀ i, i < n → Ov D b (f i)) : Ov D (n * b) (sumR n f) := by
 induction n with
 | zero => rw [Nat.zero_mul]; exact Ov.zero D
 | succ n ih =>
  rw [Nat.add_mul, Nat.one_mul]
  exact (ih fun i hi => h i (by omega)).add (h n (by omega))
theorem ov_dg {D b m : Nat} {q : Rat} (hD : 0 < D) (h : Ov D b q) (hm : D < B32 ^ m) (hm2 : b * D < B32 ^ m) : Dg (B32 ^ m) q := by
 obtain ⟨h1, h2⟩ := h.parts hD
 exact ⟨by omega, by omega⟩
theorem ov_sz {D b m : Nat} {q : Rat} (hD : 0 < D) (hb : 0 < b) (h : Ov D b q) (hm : b * D < B32 ^ m) : szR q ≤ 2 * m := by
 refine dgb_sz (ov_dg hD h ?_ hm)
 exact Nat.lt_of_le_of_lt (Nat.le_mul_of_pos_left D hb) hm
def denP (fs : List Int) : Nat → Nat
 | 0 => 1
 | n + 1 => denP fs n * (fs.getD (2 * n + 1) 0).toNat
theorem denP_pos {fs : List Int} : ∀ {n : Nat}, AllVF fs n → 0 < denP fs n
 | 0, _ => Nat.one_pos
 | n + 1, h => Nat.mul_pos (denP_pos fun i hi => h i (by omega)) (by have := (h n (by omega)).1; omega)
theorem denP_le {fs : List Int} : ∀ {n : Nat}, AllVF fs n → denP fs n ≤ 1000000000000000000 ^ n
 | 0, _ => Nat.le_refl _
 | n + 1, h => by
  rw [Nat.pow_succ]
  refine Nat.mul_le_mul (denP_le fun i hi => h i (by omega)) ?_
  have := (h n (by omega)).2.1
  omega
theorem denP_dvd {fs : List Int} : ∀ {n i : Nat}, i < n → (fs.getD (2 * i + 1) 0).toNat ∣ denP fs n
 | 0, _, h => absurd h (Nat.not_lt_zero _)
 | n + 1, i, h => by
  rcases Nat.lt_or_ge i n with h1 | h1
  ·exact Nat.dvd_trans (denP_dvd h1) (Nat.dvd_mul_right _ _)
  ·obtain rfl : i = n := by omega
   exact Nat.dvd_mul_left _ _
theorem ov_of {q : Rat} {D b : Nat} (hd : q.den ∣ D) (hn : q.num.natAbs ≤ b) : Ov D b q := by
 obtain ⟨k, rfl⟩ := hd
 have e1 : q * (q.den : Rat) = (q.num : Rat) := num_of q
 have h1 : (1 : Rat) ≤ (q.den : Rat) := by
  have := cast_le (show 1 ≤ q.den from q.den_pos)
  exact this
 have hb0 : (0 : Rat) ≤ (b : Rat) := Rat.natCast_nonneg
 have hb : -(b : Rat) ≤ (q.num : Rat) ∧ (q.num : Rat) ≤ (b : Rat) := by
  have h2 := cast_le hn
  have h0 : (0 : Rat) ≤ ((q.num.natAbs : Nat) : Rat) := Rat.natCast_nonneg
  rcases Int.natAbs_eq q.num with e | e
  ·have : (q.num : Rat) = (q.num.natAbs : Rat) := by rw [e]; simp; rfl
   exact ⟨by grind, by grind⟩
  ·have : (q.num : Rat) = -(q.num.natAbs : Rat) := by rw [e]; simp; rfl
   exact ⟨by grind, by grind⟩
 refine ⟨⟨q.num * (k : Int), ?_⟩, ?_, ?_⟩
 ·rw [Rat.natCast_mul, ← Rat.mul_assoc, e1, Rat.intCast_mul]; rfl
 ·by_cases h : 0 ≤ q
  ·grind
  ·have h2 := Rat.mul_le_mul_of_nonneg_left (c := -q) h1 (by grind)
   grind
 ·by_cases h : 0 ≤ q
  ·have h2 := Rat.mul_le_mul_of_nonneg_left (c := q) h1 h
   grind
  ·grind
theorem ov_vf {n d : Int} {D : Nat} (h : VF n d) (hd : d.toNat ∣ D) : Ov D 1000000000000000000 (qf n d) := by
 obtain ⟨g1, g2, _⟩ := h.num
 refine ov_of ?_ ?_
 ·rw [show (qf n d).den = d.toNat by omega]; exact hd
 ·rw [g1]; have := h.2.2.1; have := h.2.2.2.1; omega
theorem ov_fq {fs : List Int} {n i : Nat} (h : AllVF fs n) (hi : i < n) : Ov (denP fs n) 1000000000000000000 (fq fs i) := ov_vf (h i hi) (denP_dvd hi)
end Go.Proofs.YthagenodiofgnaaGreat.Ratio
namespace Go.Proofs.YthagenodiofgnaaGreat.Ratio
open Go.RowKit Go.Proofs.YthagenodiofgnaaGreat Go.Proofs.YthagenodiofgnaaGreat.Base Go.Proofs.YthagenodiofgnaaGreat.Mem Go.Proofs.YthagenodiofgnaaGreat.NatM Go.Proofs.YthagenodiofgnaaGreat.Nat32 Go.Proofs.YthagenodiofgnaaGreat.RatM Go.Proofs.YthagenodiofgnaaGreat.GaussM Go.Proofs.YthagenodiofgnaaGreat.ChM
set_option linter.unusedVariables false
def stepR (n : Nat) (M : Nat → Nat → Rat) (p : Nat → Rat) : Nat → Rat := fun k => sumR n (fun i => p i * M i k)
def runR (n : Nat) (M : Nat → Nat → Rat) (p : Nat → Rat) : Nat → Nat → Rat
 | 0 => p
 | t + 1 => stepR n M (runR n M p t)
theorem ov_step {n D E b e : Nat} {M : Nat → Nat → Rat} {p : Nat → Rat} (hp : ∀ i, i < n → Ov D b (p i)) (hM : ∀ i k, i < n → k < n → Ov E e (M i k)) {k : Nat} (hk : k < n) : Ov (D * E) (n * (b * e)) (stepR n M p k) :=
 ov_sum fun i hi => (hp i hi).mul (hM i k hi hk)
theorem ov_run {n D E b e : Nat} {M : Nat → Nat → Rat} {p : Nat → Rat} (hp : ∀ i, i < n → Ov D b (p i)) (hM : ∀ i k, i < n → k < n → Ov E e (M i k)) : ∀ t k, k < n → Ov (D * E ^ t) (b * (n * e) ^ t) (runR n M p t k)
 | 0, k, hk => by
  show Ov (D * E ^ 0) (b * (n * e) ^ 0) (p k)
  simpa using hp k hk
 | t + 1, k, hk => by
  have := ov_step (fun i hi => ov_run hp hM t i hi) hM hk
  have e1 : D * E ^ (t + 1) = D * E ^ t * E := by rw [Nat.pow_succ, Nat.mul_assoc]
  have e2 : b * (n * e) ^ (t + 1) = n * (b * (n * e) ^ t * e) := by
   rw [Nat.pow_succ]
   generalize (n * e) ^ t = X
   rw [Nat.mul_comm n (b * X * e), Nat.mul_assoc (b * X) e n, ← Nat.mul_assoc b X (n * e), Nat.mul_comm e n]
  rw [e1, e2]
  exact this
def wM (fs : Nat → List Int) : Nat → Nat → Rat := fun i k => fq (fs i) k
def denW (fs : Nat → List Int) (n : Nat) : Nat → Nat
 | 0 => 1
 | i + 1 => denW fs n i * denP (fs i) n
theorem denW_pos {fs : Nat → List Int} {n : Nat} : ∀ {m : Nat}, (∀ i, i < m → AllVF (fs i) n) → 0 < denW fs n m
 | 0, _ => Nat.one_pos
 | m + 1, h => Nat.mul_pos (denW_pos fun i hi => h i (by omega)) (denP_pos (h m (by omega)))
theorem denW_le {fs : Nat → List Int} {n : Nat} : ∀ {m : Nat}, (∀ i, i < m → AllVF (fs i) n) → denW fs n m ≤ (1000000000000000000 ^ n) ^ m
 | 0, _ => Nat.le_refl _
 | m + 1, h => by
  rw [Nat.pow_succ]
  exact Nat.mul_le_mul (denW_le fun i hi => h i (by omega)) (denP_le (h m (by omega)))
theorem denW_dvd {fs : Nat → List Int} {n : Nat} : ∀ {m i k : Nat}, i < m → k < n → ((fs i).getD (2 * k + 1) 0).toNat ∣ denW fs n m
 | 0, _, _, h, _ => absurd h (Nat.not_lt_zero _)
 | m + 1, i, k, h, hk => by
  rcases Nat.lt_or_ge i m with h1 | h1
  ·exact Nat.dvd_trans (denW_dvd h1 hk) (Nat.dvd_mul_right _ _)
  ·obtain rfl : i = m := by omega
   exact Nat.dvd_trans (denP_dvd hk) (Nat.dvd_mul_left _ _)
theorem ov_wM {fs : Nat → List Int} {n m i k : Nat} (h : ∀ i, i < m → AllVF (fs i) n) (hi : i < m) (hk : k < n) : Ov (denW fs n m) 1000000000000000000 (wM fs i k) := ov_vf (h i hi k hk) (denW_dvd hi hk)
end Go.Proofs.YthagenodiofgnaaGreat.Ratio
