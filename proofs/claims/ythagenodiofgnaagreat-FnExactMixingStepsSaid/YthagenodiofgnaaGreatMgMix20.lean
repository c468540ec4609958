/- The reference: whether a list are chances; the bits of a source. -/
import Derived.Test.YthagenodiofgnaaGreatMgMix19
import Derived.Test.YthagenodiofgnaaGreatMgMix06
import Derived.Test.YthagenodiofgnaaGreatMgMix05
import Derived.Test.YthagenodiofgnaaGreatMgMix15
import Derived.Test.YthagenodiofgnaaGreatMgMix16
import Derived.Test.YthagenodiofgnaaGreatMgMix11
import Derived.Test.YthagenodiofgnaaGreatMgMix09
import Derived.Deep.Cut
import Derived.Test.YthagenodiofgnaaGreatMgMix10
namespace Go.Proofs.YthagenodiofgnaaGreat.Wide
open Go.RowKit Go.Proofs.YthagenodiofgnaaGreat Go.Proofs.YthagenodiofgnaaGreat.Base Go.Proofs.YthagenodiofgnaaGreat.Mem Go.Proofs.YthagenodiofgnaaGreat.RatM Go.Proofs.YthagenodiofgnaaGreat.BigM Go.Proofs.YthagenodiofgnaaGreat.Big Go.Proofs.YthagenodiofgnaaGreat.Fine Go.Proofs.YthagenodiofgnaaGreat.Blk Go.Proofs.YthagenodiofgnaaGreat.GaussM Go.Proofs.YthagenodiofgnaaGreat.MemF Go.Proofs.YthagenodiofgnaaGreat.ValF Go.Proofs.YthagenodiofgnaaGreat.ChM
set_option linter.unusedVariables false
set_option maxHeartbeats 1000000 in
theorem fAll_any {A : Option Addr} {c B n : Nat} {fs : List Int} (w : World) (hx : RdF w B A n fs) (hB : B ≤ w.heap.size) (hn : n ≤ 1099511627776) : Calls Tryz.prog 115 #[.slice A n c] w fun e w' => e = .returned (.bool (vfAll fs n)) ∧ Below w.heap.size w w' := by
 have HX := Lib.hid (hx.more hB)
 clear hx
 go_enter Tryz.func115, Tryz.ntmps115
 go_wp2
 go_loopw [3] (fun iv wr => ∃ i : Nat, iv = .int .i64 (i : Int) ∧ i ≤ n ∧ Hid (∀ j, j < i → vfB (fs.getD (2 * j) 0) (fs.getD (2 * j + 1) 0) = true) ∧ Hid (Below w.heap.size w wr)) (fun iv _ => n - (intOf iv).toNat)
 case atStart => exact ⟨0, rfl, Nat.zero_le _, Lib.hid fun j hj => absurd hj (Nat.not_lt_zero j), Lib.hid (Below.refl _ _)⟩
 case round =>
  obtain ⟨i, rfl, hi, hall, HB⟩ := hrel
  by_cases hlt : i < n
  ·obtain ⟨b, off, rfl, hbl, g1, g2⟩ := (HX.out.below HB.out (Nat.le_refl _)).at hlt
   have HV := Lib.hid (fun W => validS_any (fs.getD (2 * i) 0) (fs.getD (2 * i + 1) 0) W)
   have HNO := Lib.hid (fun h => (show vfAll fs n = false from all_no hlt h))
   have HYES := Lib.hid (fun (h : vfB (fs.getD (2 * i) 0) (fs.getD (2 * i + 1) 0) = true) j (hj : j < i + 1) => (show vfB (fs.getD (2 * j) 0) (fs.getD (2 * j + 1) 0) = true by
    rcases Nat.lt_or_ge j i with h1 | h1
    ·exact hall.out j h1
    ·obtain rfl : j = i := by omega
     exact h))
   have hsz := HB.out.size
   generalize fs.getD (2 * i) 0 = x0 at *
   generalize fs.getD (2 * i + 1) 0 = x1 at *
   go_wp2_with fail
   refine (HV.out _).mono ?_
   rintro e w1 ⟨rfl, hb1⟩
   have HB1 := Lib.hid (Base.Below.nextA HB.out hb1)
   cases hv : vfB x0 x1 with
   | false =>
    have HE := Lib.hid (HNO.out hv)
    clear HNO HYES HV hb1 hv HB g1 g2 hall
    go_wp2
    go_ret
    exact ⟨by rw [HE.out]; rfl, HB1.out⟩
   | true =>
    have HA := Lib.hid (HYES.out hv)
    clear HNO HYES HV hb1 hv HB g1 g2 hall
    go_wp2
    go_roundw
    case rel => exact ⟨i + 1, by simp, hlt, HA, HB1⟩
    case measure => simp [intOf]; omega
  ·obtain rfl : i = n := by omega
   have HE : Hid (vfAll fs i = true) := Lib.hid (all_range.2 hall.out)
   clear hall
   go_wp2
   go_ret
   exact ⟨by rw [HE.out]; rfl, HB.out⟩
theorem cmpW_zero (q r : Rat) : (cmpW q r == 0) = decide (q = r) := by
 unfold cmpW
 by_cases h : q = r
 ·simp [h]
 ·by_cases h2 : q < r
  ·simp [h, h2]
  ·simp [h, h2]
set_option maxHeartbeats 2000000 in
set_option maxRecDepth 100000 in
theorem isS_any {A : Option Addr} {c B n : Nat} {fs : List Int} (w : World) (hx : RdF w B A n fs) (hB : B ≤ w.heap.size) (hn : n ≤ 1099511627776) : Calls Tryz.prog 73 #[.slice A n c] w fun e w' => e = .returned (.bool (chB fs n)) ∧ Below w.heap.size w w' := by
 have HX := Lib.hid (hx.more hB)
 have HFA := Lib.hid (fAll_any (c := c) w hx hB hn)
 clear hx
 by_cases h1 : n < 1
 ·have HE := Lib.hid (chB_short (fs := fs) h1)
  have h1' : (n : Int) < 1 := by omega
  go_enter Tryz.func73, Tryz.ntmps73
  go_wp2
  go_ret
  exact ⟨by rw [HE.out]; rfl, Below.refl _ _⟩
 by_cases h2 : 16 < n
 ·have HE := Lib.hid (chB_long (fs := fs) h2)
  have h1' : ¬ (n : Int) < 1 := by omega
  have h2' : (16 : Int) < n := by omega
  go_enter Tryz.func73, Tryz.ntmps73
  go_wp2
  go_ret
  exact ⟨by rw [HE.out]; rfl, Below.refl _ _⟩
 have h1' : ¬ (n : Int) < 1 := by omega
 have h2' : ¬ (16 : Int) < n := by omega
 go_enter Tryz.func73, Tryz.ntmps73
 go_wp2_with fail
 refine HFA.out.mono ?_
 rintro e w1 ⟨rfl, hb1⟩
 have HB1 := Lib.hid hb1
 clear hb1
 cases hv : vfAll fs n with
 | false =>
  have HE := Lib.hid (chB_vf hv)
  go_wp2
  go_ret
  exact ⟨by rw [HE.out]; rfl, HB1.out⟩
 | true =>
  have HV := Lib.hid hv
  clear hv
  go_wp2
  go_loopw [3] (fun iv wr => ∃ i : Nat, iv = .int .i64 (i : Int) ∧ i ≤ n ∧ Hid (∀ j, j < i → decide (0 ≤ fs.getD (2 * j) 0) = true) ∧ wr = w1) (fun iv _ => n - (intOf iv).toNat)
  case atStart => exact ⟨0, rfl, Nat.zero_le _, Lib.hid fun j hj => absurd hj (Nat.not_lt_zero j), rfl⟩
  case round =>
   obtain ⟨i, rfl, hi, hall, rfl⟩ := hrel
   by_cases hlt : i < n
   ·obtain ⟨b, off, rfl, hbl, g1, g2⟩ := (HX.out.below HB1.out (Nat.le_refl _)).at hlt
    have HNO := Lib.hid (fun h => (show posAll fs n = false from all_no hlt h))
    have HYES := Lib.hid (fun (h : decide (0 ≤ fs.getD (2 * i) 0) = true) j (hj : j < i + 1) => (show decide (0 ≤ fs.getD (2 * j) 0) = true by
     rcases Nat.lt_or_ge j i with h1 | h1
     ·exact hall.out j h1
     ·obtain rfl : j = i := by omega
      exact h))
    generalize fs.getD (2 * i) 0 = x0 at *
    generalize fs.getD (2 * i + 1) 0 = x1 at *
    by_cases hx0 : x0 < 0
    ·have HE := Lib.hid (chB_neg (HNO.out (by simp; omega)))
     clear HNO HYES
     go_wp2
     go_ret
     exact ⟨by rw [HE.out]; rfl, HB1.out⟩
    ·have HA := Lib.hid (HYES.out (by simp; omega))
     clear HNO HYES hall
     go_wp2
     go_roundw
     case rel => exact ⟨i + 1, by simp, hlt, HA, by first | trivial | rfl⟩
     case measure => simp [intOf]; omega
   ·obtain rfl : i = n := by omega
    have HE := Lib.hid (chB_sum (fs := fs) (n := i) (by omega) (by omega) HV.out (all_range.2 hall.out))
    have HW1 := Lib.hid (wides_any (c := c) wr (HX.out.below HB1.out (Nat.le_refl _)) HB1.out.size (vfAll_true.1 HV.out) (by omega))
    have HO := Lib.hid (fun W => wideOf_any vf_one W)
    rw [qf_one] at HO
    clear hall
    go_wp2_with fail
    refine HW1.out.mono ?_
    rintro e w2 ⟨v2, cs2, rfl, hv2, hb2⟩
    have HB2 := Lib.hid (Base.Below.nextA HB1.out hb2)
    have HV2 := Lib.hid (hv2.base (Nat.zero_le _))
    clear hv2 hb2
    go_wp2_with fail
    refine (sum_any w2 HV2.out (by omega) (by omega) (by omega)).mono ?_
    rintro e w3 ⟨v3, rfl, hv3, hb3⟩
    have HB3 := Lib.hid (Base.Below.nextA HB2.out hb3)
    have HV3 := Lib.hid hv3
    clear hv3 hb3
    go_wp2_with fail
    refine (HO.out w3).mono ?_
    rintro e w4 ⟨v4, rfl, hv4, hb4⟩
    have HB4 := Lib.hid (Base.Below.nextA HB3.out hb4)
    have HV4 := Lib.hid hv4
    replace HV3 := Lib.hid (HV3.out.below hb4)
    clear hv4 hb4
    go_wp2_with fail
    refine (cmp_any w4 HV3.out HV4.out (by omega) (by omega) (by omega)).mono ?_
    rintro e w5 ⟨rfl, hb5⟩
    have HB5 := Lib.hid (Base.Below.nextA HB4.out hb5)
    have HE2 := Lib.hid (HE.out.trans (cmpW_zero _ _).symm)
    clear hb5 HE
    generalize cmpW (sumR i (fq fs)) 1 = cw at *
    go_wp2
    go_ret
    exact ⟨ret_bool HE2.out.symm, HB5.out⟩
end Go.Proofs.YthagenodiofgnaaGreat.Wide
namespace Go.Proofs.YthagenodiofgnaaGreat.Wide
open Go.RowKit Go.Proofs.YthagenodiofgnaaGreat Go.Proofs.YthagenodiofgnaaGreat.Base Go.Proofs.YthagenodiofgnaaGreat.Mem Go.Proofs.YthagenodiofgnaaGreat.MemF Go.Proofs.YthagenodiofgnaaGreat.ChM Go.Proofs.YthagenodiofgnaaGreat.WalkM
set_option linter.unusedVariables false
set_option maxHeartbeats 2000000 in
set_option maxRecDepth 100000 in
theorem walkS_any {A : Option Addr} {c B n b0 : Nat} {L : Nat → Nat} {fs : Nat → List Int} (w : World) (h0 : w.cell? ⟨b0, 0, none⟩ = some (.slice A n c)) (hb0 : b0 < w.heap.size) (hx : RdFF w B A n L fs) (hB : B ≤ w.heap.size) (hL : ∀ i, i < n → L i ≤ 1099511627776) (hn : n ≤ 1099511627776) :
  Calls Tryz.prog 27 #[.pointer (some ⟨b0, 0, none⟩)] w fun e w' => e = .returned (.bool (wkB n L fs)) ∧ Below w.heap.size w w' := by
 have HX := Lib.hid (hx.more hB)
 clear hx
 by_cases h1 : n < 1
 ·have HE := Lib.hid (wkB_out (L := L) (fs := fs) (n := n) (by omega))
  have h1' : (n : Int) < 1 := by omega
  go_enter Tryz.func27, Tryz.ntmps27
  go_wp2
  go_ret
  exact ⟨by rw [HE.out]; rfl, Below.refl _ _⟩
 by_cases h2 : 6 < n
 ·have HE := Lib.hid (wkB_out (L := L) (fs := fs) (n := n) (by omega))
  have h1' : ¬ (n : Int) < 1 := by omega
  have h2' : (6 : Int) < n := by omega
  go_enter Tryz.func27, Tryz.ntmps27
  go_wp2
  go_ret
  exact ⟨by rw [HE.out]; rfl, Below.refl _ _⟩
 have h1' : ¬ (n : Int) < 1 := by omega
 have h2' : ¬ (6 : Int) < n := by omega
 have HIN := Lib.hid (wkB_in (L := L) (fs := fs) (n := n) (by omega))
 go_enter Tryz.func27, Tryz.ntmps27
 go_wp2
 go_loopw [4] (fun iv wr => ∃ i : Nat, iv = .int .i64 (i : Int) ∧ i ≤ n ∧ Hid (∀ j, j < i → rowOk n L fs j = true) ∧ Hid (Below w.heap.size w wr)) (fun iv _ => n - (intOf iv).toNat)
 case atStart => exact ⟨0, rfl, Nat.zero_le _, Lib.hid fun j hj => absurd hj (Nat.not_lt_zero j), Lib.hid (Below.refl _ _)⟩
 case round =>
  obtain ⟨i, rfl, hi, hall, HB⟩ := hrel
  have d0 := (HB.out.cell (p := ⟨b0, 0, none⟩) hb0).trans h0
  by_cases hlt : i < n
  ·obtain ⟨b, off, A', c', rfl, hbl, g, hr⟩ := (HX.out.below HB.out (Nat.le_refl _)).at hlt
   have HNO := Lib.hid (fun h : rowOk n L fs i = false => (show wkB n L fs = false by rw [HIN.out]; exact all_no hlt h))
   have HYES := Lib.hid (fun (h : rowOk n L fs i = true) j (hj : j < i + 1) => (show rowOk n L fs j = true by
    rcases Nat.lt_or_ge j i with h1 | h1
    ·exact hall.out j h1
    ·obtain rfl : j = i := by omega
     exact h))
   have HI := Lib.hid (isS_any (c := c') wr hr HB.out.size (hL i hlt))
   have HOK : Hid (rowOk n L fs i = (decide (L i = n) && chB (fs i) (L i))) := Lib.hid rfl
   clear hr hall
   generalize L i = l at *
   by_cases hln : l = n
   ·have HLN := Lib.hid hln
    have hne : ((l : Int) != (n : Int)) = false := by simp [hln]
    clear hln
    go_wp2_with fail
    refine HI.out.mono ?_
    rintro e w1 ⟨rfl, hb1⟩
    have HB1 := Lib.hid (Base.Below.nextA HB.out hb1)
    clear hb1 d0
    cases hc : chB (fs i) l with
    | false =>
     have HE := Lib.hid (HNO.out (by rw [HOK.out, hc, Bool.and_false]))
     clear HNO HYES hc HOK
     go_wp2
     go_ret
     exact ⟨by rw [HE.out]; rfl, HB1.out⟩
    | true =>
     have HA := Lib.hid (HYES.out (by rw [HOK.out, hc, Bool.and_true]; simpa using HLN.out))
     clear HNO HYES hc HOK
     go_wp2
     go_roundw
     case rel => exact ⟨i + 1, by simp, hlt, HA, HB1⟩
     case measure => simp [intOf]; omega
   ·have hne : ((l : Int) != (n : Int)) = true := by simp; omega
    have HE := Lib.hid (HNO.out (by rw [HOK.out, decide_eq_false hln]; rfl))
    clear HNO HYES hln
    go_wp2
    go_ret
    exact ⟨by rw [HE.out]; rfl, HB.out⟩
  ·obtain rfl : i = n := by omega
   have HE : Hid (wkB i L fs = true) := Lib.hid (by rw [HIN.out]; exact all_range.2 hall.out)
   clear hall
   go_wp2
   go_ret
   exact ⟨by rw [HE.out]; rfl, HB.out⟩
end Go.Proofs.YthagenodiofgnaaGreat.Wide
namespace Go.Proofs.YthagenodiofgnaaGreat.Wide
open Go.RowKit Go.Proofs.YthagenodiofgnaaGreat Go.Proofs.YthagenodiofgnaaGreat.Base Go.Proofs.YthagenodiofgnaaGreat.Mem Go.Proofs.YthagenodiofgnaaGreat.RatM Go.Proofs.YthagenodiofgnaaGreat.BigM Go.Proofs.YthagenodiofgnaaGreat.Big Go.Proofs.YthagenodiofgnaaGreat.Fine Go.Proofs.YthagenodiofgnaaGreat.Blk Go.Proofs.YthagenodiofgnaaGreat.MemF Go.Proofs.YthagenodiofgnaaGreat.GiveM
set_option linter.unusedVariables false
set_option maxHeartbeats 2000000 in
set_option maxRecDepth 100000 in
theorem giveS_any {v : Value} {n m : Nat} {f : Nat → Rat} {cs : List Value} (w : World) (hx : OwnW w 0 v n f m cs) (hm : m ≤ 400000) (hn : n ≤ 1000) : Calls Tryz.prog 30 #[v] w (FsRet (gN f n) (gR f n) (smallAll f n) w) := by
 obtain ⟨A, c, rfl, _⟩ := hx.form
 have HX := Lib.hid hx
 obtain ⟨i2, ki, kz0, kz1, kz2⟩ := info_parts infoFr
 have H0 := Lib.hid (GRel.start f n w)
 clear hx
 go_enter Tryz.func30, Tryz.ntmps30
 go_wp2
 go_loopw [5, 4] (fun iv sv wr => GRel f n w iv sv wr) (fun iv _ _ => n - (intOf iv).toNat)
 case atStart => exact H0.out
 case round =>
  obtain ⟨i, rfl, hi, HO, HA, HB⟩ := hrel
  clear H0
  by_cases hlt : i < n
  ·obtain ⟨g, s', B1, j1, e1, B2, j2, e2, fb, gn, gd, n', d', rfl, hgl, y0, y1, y2, y3, y4, y5, hp'⟩ := (HX.out.below HB.out).at hlt
   have HE : IsW wr (f i) m (.agg #[.bool s', .slice B1 j1 e1, .slice B2 j2 e2, .bool fb, .int .i64 gn, .int .i64 gd]) := ⟨_, _, _, _, _, _, _, _, _, _, _, _, rfl, hp'⟩
   have HG := Lib.hid (give_any wr HE hm)
   have HF : Hid (∀ w1 w2 v' cs t, smallQ (f i) = true → Below wr.heap.size wr w1 → _ → _ → _) := Lib.hid (fun w1 w2 v' cs t hv h1 hown hg => GRel.next (w1 := w1) (w2 := w2) (v' := v') (cs := cs) (t := t) hlt HO.out HA.out hv HB.out h1 hown hg)
   have HNO := Lib.hid (fun h => GiveM.small_no hlt (show smallQ (f i) = false from h))
   clear HE hp' hgl
   generalize f i = q at *
   unfold FRet at HG
   generalize numQ q = P at *
   generalize denQ q = Q at *
   go_wp2_with fail
   refine HG.out.mono ?_
   rintro e w1 ⟨rfl, hb1⟩
   have HB1 := Lib.hid hb1
   clear hb1 y0 y1 y2 y3 y4 y5 HG
   go_upto_region 6 with (fail)
   obtain ⟨W2, hW2⟩ : ∃ W2, W2 = w1.alloc (.cells #[.int .i64 P, .int .i64 Q] 34) := ⟨_, rfl⟩
   rw [← hW2]
   have K2 : Hid (Blk W2 w1.heap.size 34 #[.int .i64 P, .int .i64 Q]) := Lib.hid (by rw [hW2]; exact Blk.new w1 _ _)
   have HB2 : Hid (Below wr.heap.size wr W2) := Lib.hid (by rw [hW2]; exact HB1.out.alloc HB1.out.size _)
   have hsz := HB.out.size
   have hsz2 := HB2.out.size
   cases hs : smallQ q with
   | false =>
    have HN := Lib.hid (HNO.out hs)
    have HBB := Lib.hid (Base.Below.nextA HB.out HB2.out)
    clear hW2 hs HNO HF
    go_wp2
    go_ret2
    rw [HN.out.1, HN.out.2.1, HN.out.2.2]
    exact FsRet.no HBB.out
   | true =>
    have HNN := Lib.hid (fun w3 v' cs t hown hg => HF.out W2 w3 v' cs t hs HB2.out hown hg)
    have HW2 := Lib.hid (World.ownsRow.alloc (ownsRow_below HO.out HB2.out) (.cells #[.int .i64 P, .int .i64 Q] 34))
    have x0 := K2.out.at 0 (v := .int .i64 P) rfl
    have x1 := K2.out.at 1 (v := .int .i64 Q) rfl
    clear hW2 hs HNO HF HO HA HB HB1 HB2
    go_wp2_with (at_builtin; refine wpList_append_own_at _ rfl (.tmp 25) (.tmp 27) 41 rfl w.heap.size 34 i2 (.agg #[.int .i64 0, .int .i64 0]) 2 16 Tryz.underlying41 ki kz0 kz1 kz2 rfl (by decide) _ _ _ rfl HW2.out ⟨W2.heap.size, 0, none⟩ 1 1 [.int .i64 P, .int .i64 Q] rfl rfl ?p1a ?p2a ?p3a ?p4a ?p5a ?_)
    try case p1a => exact MemF.news_two _ _ (by simp)
    try case p2a => exact MemF.ones_two
    try case p3a => first | (simp only [maxLen]; omega) | omega
    try case p4a => omega
    try case p5a => first | (simp only [World.size_alloc]; omega) | omega
    intro v' w3 hown' hg' _ he
    have HN3 := Lib.hid (HNN.out w3 v' _ _ hown' hg')
    clear hown' hg' he HNN HW2
    go_wp2
    go_roundw
    case rel => exact HN3.out
    case measure => simp [intOf]; omega
  ·obtain rfl : i = n := by omega
   obtain ⟨A', cp, rfl, _⟩ := HO.out.form
   have HY := Lib.hid (GiveM.small_yes' HA.out)
   clear HA
   go_wp2
   go_ret2
   rw [HY.out.1, HY.out.2.1, HY.out.2.2]
   exact ⟨A', cp, rfl, HO.out, HB.out⟩
end Go.Proofs.YthagenodiofgnaaGreat.Wide
namespace Go.Proofs.YthagenodiofgnaaGreat.ComS
open Go.RowKit Go.Proofs.YthagenodiofgnaaGreat Go.Proofs.YthagenodiofgnaaGreat.Base Go.Proofs.YthagenodiofgnaaGreat.Mem Go.Proofs.YthagenodiofgnaaGreat.BigM Go.Proofs.YthagenodiofgnaaGreat.Big Go.Proofs.YthagenodiofgnaaGreat.Blk Go.Proofs.YthagenodiofgnaaGreat.MemF Go.Proofs.YthagenodiofgnaaGreat.ChM Go.Proofs.YthagenodiofgnaaGreat.ComM Go.Proofs.YthagenodiofgnaaGreat.RatM Go.Proofs.YthagenodiofgnaaGreat.WalkM Go.Proofs.YthagenodiofgnaaGreat.GiveM Go.Proofs.YthagenodiofgnaaGreat.Wide Go.Proofs.YthagenodiofgnaaGreat.Ratio
set_option linter.unusedVariables false
theorem chB_pos {fs : List Int} {n : Nat} (h : chB fs n = true) : ∀ k, k < n → 0 ≤ fs.getD (2 * k) 0 := fun k hk => by
 unfold chB at h
 simp only [Bool.and_eq_true] at h
 have := all_range.1 h.2.2.2.1 k hk
 simpa using this
def W24 : Nat := 2400
def v0 (ps : List Int) (n : Nat) : Nat → Nat := comN ps n
def rN (fs : Nat → List Int) (n : Nat) : Nat → Nat := comN (catF fs n) (n * n)
def dA (fs : Nat → List Int) (n : Nat) : Nat := comD (catF fs n) (n * n)
def denT (ps : List Int) (fs : Nat → List Int) (n t : Nat) : Nat := comD ps n * dA fs n ^ t
def vT (ps : List Int) (fs : Nat → List Int) (n t : Nat) : Nat → Nat := ComM.runN n (rN fs n) (v0 ps n) t
structure RunOk (ps : List Int) (fs : Nat → List Int) (n : Nat) : Prop where
 pos : ∀ t, 0 < denT ps fs n t
 val : ∀ t k, k < n → qv false (vT ps fs n t k) (denT ps fs n t) = runR n (wM fs) (fq ps) t k
 vlt : ∀ t k, t ≤ 30 → k < n → vT ps fs n t k < D30 ^ W24
 rlt : ∀ j, j < n * n → rN fs n j < D30 ^ 75
 dlt : ∀ t, t ≤ 30 → denT ps fs n t < D30 ^ W24
 alt : dA fs n < D30 ^ 75
theorem lt_pow {x k : Nat} (h : (bigL x).length ≤ k) : x < D30 ^ k := Nat.lt_of_lt_of_le (big_lt_pow x) (Nat.pow_le_pow_right D30_pos h)
theorem lt_more {x j k : Nat} (h : x < D30 ^ j) (hk : j ≤ k) : x < D30 ^ k := Nat.lt_of_lt_of_le h (Nat.pow_le_pow_right D30_pos hk)
theorem pow_lt {x k t : Nat} (hx : 0 < x) (h : x < D30 ^ k) (ht : 0 < t) : x ^ t < D30 ^ (k * t) := by
 rw [Nat.pow_mul]
 exact Nat.pow_lt_pow_left h (by omega)
theorem runOk {ps : List Int} {fs : Nat → List Int} {n : Nat} (hn1 : 1 ≤ n) (hn : n ≤ 6) (h1 : AllVF ps n) (p1 : ∀ k, k < n → 0 ≤ ps.getD (2 * k) 0) (h2 : ∀ i, i < n → AllVF (fs i) n) (p2 : ∀ i k, i < n → k < n → 0 ≤ (fs i).getD (2 * k) 0) (hl : ∀ i, i < n → (fs i).length = 2 * n) : RunOk ps fs n := by
 have hcv := catF_vf hl h2
 have hcp := catF_pos hl p2
 have hnn : n * n ≤ 36 := Nat.mul_le_mul hn hn
 have d0 := comD_pos h1
 have d1 := comD_pos hcv
 have hd0 : comD ps n < D30 ^ 13 := lt_pow (Nat.le_trans (comD_len h1) (by omega))
 have hd1 : dA fs n < D30 ^ 75 := lt_pow (Nat.le_trans (comD_len hcv) (by omega))
 have hv : ∀ i, i < n → v0 ps n i < D30 ^ 15 := fun i hi => lt_pow (Nat.le_trans (comN_len h1 hi) (by omega))
 have hR : ∀ j, j < n * n → rN fs n j < D30 ^ 75 := fun j hj => lt_pow (Nat.le_trans (comN_len hcv hj) (by omega))
 refine ⟨fun t => Nat.mul_pos d0 (Nat.pow_pos d1), fun t k hk => ?_, fun t k ht hk => ?_, hR, fun t ht => ?_, hd1⟩
 ·rw [qv_over]
  refine over_run d0 d1 (fun i hi => ?_) (fun i k hi hk => ?_) t k hk
  ·rw [← qv_over]; exact com_val h1 (p1 i hi) hi
  ·have hj : i * n + k < n * n := by
    have := Nat.mul_le_mul_right n (show i + 1 ≤ n by omega)
    rw [Nat.add_mul] at this
    omega
   rw [← qv_over]
   have := com_val hcv (hcp _ hj) hj
   rw [catF_fq hl hi hk] at this
   exact this
 ·exact lt_more (k := W24) (run_lt (show n ≤ 1000 by omega) hv hR t k hk) (by unfold W24; omega)
 ·rcases Nat.eq_zero_or_pos t with rfl | h0
  ·unfold denT; rw [Nat.pow_zero, Nat.mul_one]; exact lt_more (k := W24) hd0 (by decide)
  ·exact lt_more (k := W24) (mul_lt hd0 (pow_lt d1 hd1 h0)) (by unfold W24; omega)
end Go.Proofs.YthagenodiofgnaaGreat.ComS
namespace Go.Proofs.YthagenodiofgnaaGreat.Wide
open Go.RowKit Go.Proofs.YthagenodiofgnaaGreat Go.Proofs.YthagenodiofgnaaGreat.Base Go.Proofs.YthagenodiofgnaaGreat.Mem Go.Proofs.YthagenodiofgnaaGreat.RatM Go.Proofs.YthagenodiofgnaaGreat.BigM Go.Proofs.YthagenodiofgnaaGreat.Big Go.Proofs.YthagenodiofgnaaGreat.Fine Go.Proofs.YthagenodiofgnaaGreat.Blk Go.Proofs.YthagenodiofgnaaGreat.GaussM
open Go.Proofs.YthagenodiofgnaaGreat.Ratio (swF)
set_option linter.unusedVariables false
def CellW (w : World) (cs : Array Value) (i : Nat) (q : Rat) (m : Nat) : Prop := ∃ s A1 k1 c1 A2 k2 c2 fine fn fd nn dd, cs[i * 6]? = some (.bool s) ∧ cs[i * 6 + 1]? = some (.slice A1 k1 c1) ∧ cs[i * 6 + 2]? = some (.slice A2 k2 c2) ∧ cs[i * 6 + 3]? = some (.bool fine) ∧ cs[i * 6 + 4]? = some (.int .i64 fn) ∧ cs[i * 6 + 5]? = some (.int .i64 fd) ∧ Parts w q m s (.slice A1 k1 c1) (.slice A2 k2 c2) fine fn fd nn dd
structure RowV (w : World) (g n : Nat) (f : Nat → Rat) (m : Nat) (cs : Array Value) : Prop where
 blk : Blk w g 107 cs
 size : n * 6 ≤ cs.size
 els : ∀ i, i < n → CellW w cs i (f i) m
theorem RowV.below {w w' : World} {g n m : Nat} {f : Nat → Rat} {cs : Array Value} (h : RowV w g n f m cs) (hb : Below w.heap.size w w') : RowV w' g n f m cs :=
 ⟨h.blk.belowS hb, h.size, fun i hi => by
  obtain ⟨s, A1, k1, c1, A2, k2, c2, fine, fn, fd, nn, dd, x0, x1, x2, x3, x4, x5, hp⟩ := h.els i hi
  exact ⟨s, A1, k1, c1, A2, k2, c2, fine, fn, fd, nn, dd, x0, x1, x2, x3, x4, x5, hp.below hb⟩⟩
theorem RowV.more {w : World} {g n m m' : Nat} {f : Nat → Rat} {cs : Array Value} (h : RowV w g n f m cs) (hm : m ≤ m') : RowV w g n f m' cs :=
 ⟨h.blk, h.size, fun i hi => by
  obtain ⟨s, A1, k1, c1, A2, k2, c2, fine, fn, fd, nn, dd, x0, x1, x2, x3, x4, x5, hp⟩ := h.els i hi
  exact ⟨s, A1, k1, c1, A2, k2, c2, fine, fn, fd, nn, dd, x0, x1, x2, x3, x4, x5, hp.more hm⟩⟩
theorem RowV.congr {w : World} {g n m : Nat} {f f' : Nat → Rat} {cs : Array Value} (h : RowV w g n f m cs) (hf : ∀ i, i < n → f i = f' i) : RowV w g n f' m cs :=
 ⟨h.blk, h.size, fun i hi => by rw [← hf i hi]; exact h.els i hi⟩
theorem OwnW.toV {w : World} {B g n c m : Nat} {f : Nat → Rat} {cs : List Value} (h : OwnW w B (.slice (some ⟨g, 0, none⟩) n c) n f m cs) : ∃ cur, RowV w g n f m cur := by
 obtain ⟨cur, hc, _, _⟩ := ownsRow_block h.row (g := g) rfl
 have hlen : cs.length = n * 6 := h.row.1
 have hcell : ∀ o, o < n * 6 → cur[o]? = cs[o]? := fun o ho => by
  rw [← cell_of_row w g o cur _ (0, 0) hc]
  exact World.ownsRow.cellAt h.row o (by omega)
 refine ⟨cur, hc, ?_, fun i hi => ?_⟩
 ·rcases Nat.eq_zero_or_pos n with h0 | h0
  ·omega
  ·have := hcell (n * 6 - 1) (by omega)
   rw [List.getElem?_eq_getElem (by omega)] at this
   have := (Array.getElem?_eq_some_iff.1 this).1
   omega
 ·obtain ⟨s, A1, k1, c1, A2, k2, c2, fine, fn, fd, nn, dd, e, hp⟩ := h.els i hi
  have key : ∀ k, k < 6 → cur[i * 6 + k]? = (six s (.slice A1 k1 c1) (.slice A2 k2 c2) fine fn fd)[k]? := fun k hk => by
   rw [hcell (i * 6 + k) (by omega), ← e, List.getElem?_take, if_pos hk, List.getElem?_drop]
  exact ⟨s, A1, k1, c1, A2, k2, c2, fine, fn, fd, nn, dd, key 0 (by decide), key 1 (by decide), key 2 (by decide), key 3 (by decide), key 4 (by decide), key 5 (by decide), hp⟩
theorem RowV.kept {w w' : World} {g n B k m size : Nat} {f : Nat → Rat} {cs : Array Value} {v : Value} {us : List Value} {t : TypeId} (h : RowV w g n f m cs) (hr : w.ownsRow B t size v k us) (ht : t ≠ 2) (ht2 : t ≠ 107) (hg : w.grownBy w' v.ownBlock) : RowV w' g n f m cs := by
 have hne : v.ownBlock ≠ some g := fun e => by
  obtain ⟨cur, hc, _⟩ := ownsRow_block hr e
  have hb := h.blk
  unfold Blk at hb
  rw [hb] at hc
  injection hc with hc
  injection hc with _ hc _
  exact ht2 hc.symm
 refine ⟨h.blk.kept hg hne, h.size, fun i hi => ?_⟩
 obtain ⟨s, A1, k1, c1, A2, k2, c2, fine, fn, fd, nn, dd, x0, x1, x2, x3, x4, x5, hp⟩ := h.els i hi
 exact ⟨s, A1, k1, c1, A2, k2, c2, fine, fn, fd, nn, dd, x0, x1, x2, x3, x4, x5, hp.kept hr ht hg⟩
def put6o (w : World) (b o : Nat) (v0 v1 v2 v3 v4 v5 : Value) : World := (((((w.setCell ⟨b, o, none⟩ v0).setCell ⟨b, o + 1, none⟩ v1).setCell ⟨b, o + 2, none⟩ v2).setCell ⟨b, o + 3, none⟩ v3).setCell ⟨b, o + 4, none⟩ v4).setCell ⟨b, o + 5, none⟩ v5
theorem Parts.put6o {w : World} {q : Rat} {m b o : Nat} {s : Bool} {vn vd : Value} {fine : Bool} {fn fd : Int} {n d : Nat} {t : TypeId} {cs : Array Value} (h : Parts w q m s vn vd fine fn fd n d) (K : Blk w b t cs) (ht : t ≠ 2) (v0 v1 v2 v3 v4 v5 : Value) : Parts (Wide.put6o w b o v0 v1 v2 v3 v4 v5) q m s vn vd fine fn fd n d := by
 have K0 := K.setTo o v0 rfl
 have K1 := K0.setTo (o + 1) v1 rfl
 have K2 := K1.setTo (o + 2) v2 rfl
 have K3 := K2.setTo (o + 3) v3 rfl
 have K4 := K3.setTo (o + 4) v4 rfl
 exact (((((h.store K ht).store K0 ht).store K1 ht).store K2 ht).store K3 ht).store K4 ht
theorem put6o_below {w0 w : World} {b B o : Nat} (h : Below B w0 w) (hb : B ≤ b) (v0 v1 v2 v3 v4 v5 : Value) : Below B w0 (put6o w b o v0 v1 v2 v3 v4 v5) :=
 (((((h.setCell (p := ⟨b, o, none⟩) hb v0).setCell (p := ⟨b, o + 1, none⟩) hb v1).setCell (p := ⟨b, o + 2, none⟩) hb v2).setCell (p := ⟨b, o + 3, none⟩) hb v3).setCell (p := ⟨b, o + 4, none⟩) hb v4).setCell (p := ⟨b, o + 5, none⟩) hb v5
theorem blk_put6o {w : World} {b b' o : Nat} {t : TypeId} {cs : Array Value} (K : Blk w b' t cs) (hne : b ≠ b') (v0 v1 v2 v3 v4 v5 : Value) : Blk (put6o w b o v0 v1 v2 v3 v4 v5) b' t cs :=
 (((((K.other v0 hne).other v1 hne).other v2 hne).other v3 hne).other v4 hne).other v5 hne
def setA (cs : Array Value) (o : Nat) (v0 v1 v2 v3 v4 v5 : Value) : Array Value := (((((cs.setIfInBounds o v0).setIfInBounds (o + 1) v1).setIfInBounds (o + 2) v2).setIfInBounds (o + 3) v3).setIfInBounds (o + 4) v4).setIfInBounds (o + 5) v5
theorem setA_far {cs : Array Value} {o j : Nat} (v0 v1 v2 v3 v4 v5 : Value) (h : j < o ∨ o + 5 < j) : (setA cs o v0 v1 v2 v3 v4 v5)[j]? = cs[j]? := by
 unfold setA
 rw [Array.getElem?_setIfInBounds_ne (by omega), Array.getElem?_setIfInBounds_ne (by omega), Array.getElem?_setIfInBounds_ne (by omega), Array.getElem?_setIfInBounds_ne (by omega), Array.getElem?_setIfInBounds_ne (by omega), Array.getElem?_setIfInBounds_ne (by omega)]
theorem setA_at {cs : Array Value} {o : Nat} (v0 v1 v2 v3 v4 v5 : Value) (h : o + 5 < cs.size) : (setA cs o v0 v1 v2 v3 v4 v5)[o]? = some v0 ∧ (setA cs o v0 v1 v2 v3 v4 v5)[o + 1]? = some v1 ∧ (setA cs o v0 v1 v2 v3 v4 v5)[o + 2]? = some v2 ∧ (setA cs o v0 v1 v2 v3 v4 v5)[o + 3]? = some v3 ∧ (setA cs o v0 v1 v2 v3 v4 v5)[o + 4]? = some v4 ∧ (setA cs o v0 v1 v2 v3 v4 v5)[o + 5]? = some v5 := by
 unfold setA
 refine ⟨?_, ?_, ?_, ?_, ?_, ?_⟩
 ·rw [Array.getElem?_setIfInBounds_ne (by omega), Array.getElem?_setIfInBounds_ne (by omega), Array.getElem?_setIfInBounds_ne (by omega), Array.getElem?_setIfInBounds_ne (by omega), Array.getElem?_setIfInBounds_ne (by omega), Array.getElem?_setIfInBounds_self_of_lt (by omega)]
 ·rw [Array.getElem?_setIfInBounds_ne (by omega), Array.getElem?_setIfInBounds_ne (by omega), Array.getElem?_setIfInBounds_ne (by omega), Array.getElem?_setIfInBounds_ne (by omega), Array.getElem?_setIfInBounds_self_of_lt (by simp; omega)]
 ·rw [Array.getElem?_setIfInBounds_ne (by omega), Array.getElem?_setIfInBounds_ne (by omega), Array.getElem?_setIfInBounds_ne (by omega), Array.getElem?_setIfInBounds_self_of_lt (by simp; omega)]
 ·rw [Array.getElem?_setIfInBounds_ne (by omega), Array.getElem?_setIfInBounds_ne (by omega), Array.getElem?_setIfInBounds_self_of_lt (by simp; omega)]
 ·rw [Array.getElem?_setIfInBounds_ne (by omega), Array.getElem?_setIfInBounds_self_of_lt (by simp; omega)]
 ·rw [Array.getElem?_setIfInBounds_self_of_lt (by simp; omega)]
theorem RowV.put {w : World} {g n k m : Nat} {f : Nat → Rat} {cs : Array Value} {q : Rat} {s fine : Bool} {A1 A2 : Option Addr} {k1 c1 k2 c2 nn dd : Nat} {fn fd : Int} (h : RowV w g n f m cs) (hk : k < n) (hq : Parts w q m s (.slice A1 k1 c1) (.slice A2 k2 c2) fine fn fd nn dd) :
  RowV (put6o w g (k * 6) (.bool s) (.slice A1 k1 c1) (.slice A2 k2 c2) (.bool fine) (.int .i64 fn) (.int .i64 fd)) g n (fun i => if i = k then q else f i) m (setA cs (k * 6) (.bool s) (.slice A1 k1 c1) (.slice A2 k2 c2) (.bool fine) (.int .i64 fn) (.int .i64 fd)) := by
 have hz := h.size
 refine ⟨?_, by simp [setA]; omega, fun i hi => ?_⟩
 ·exact (((((h.blk.setTo (k * 6) _ rfl).setTo (k * 6 + 1) _ rfl).setTo (k * 6 + 2) _ rfl).setTo (k * 6 + 3) _ rfl).setTo (k * 6 + 4) _ rfl).setTo (k * 6 + 5) _ rfl
 ·by_cases e : i = k
  ·subst e
   obtain ⟨y0, y1, y2, y3, y4, y5⟩ := setA_at (cs := cs) (o := i * 6) (.bool s) (.slice A1 k1 c1) (.slice A2 k2 c2) (.bool fine) (.int .i64 fn) (.int .i64 fd) (by omega)
   rw [if_pos rfl]
   exact ⟨s, A1, k1, c1, A2, k2, c2, fine, fn, fd, nn, dd, y0, y1, y2, y3, y4, y5, hq.put6o h.blk (by decide) _ _ _ _ _ _⟩
  ·obtain ⟨s', B1, j1, e1, B2, j2, e2, fi, gn, gd, n', d', x0, x1, x2, x3, x4, x5, hp⟩ := h.els i hi
   rw [if_neg e]
   refine ⟨s', B1, j1, e1, B2, j2, e2, fi, gn, gd, n', d', ?_, ?_, ?_, ?_, ?_, ?_, hp.put6o h.blk (by decide) _ _ _ _ _ _⟩ <;> (rw [setA_far _ _ _ _ _ _ (by omega)]; assumption)
theorem RowV.beside {w : World} {g b o n m : Nat} {f : Nat → Rat} {cs cb : Array Value} {t : TypeId} (h : RowV w g n f m cs) (hb : Blk w b t cb) (ht : t ≠ 2) (hne : b ≠ g) (v0 v1 v2 v3 v4 v5 : Value) : RowV (put6o w b o v0 v1 v2 v3 v4 v5) g n f m cs :=
 ⟨blk_put6o h.blk hne _ _ _ _ _ _, h.size, fun i hi => by
  obtain ⟨s, A1, k1, c1, A2, k2, c2, fine, fn, fd, nn, dd, x0, x1, x2, x3, x4, x5, hp⟩ := h.els i hi
  exact ⟨s, A1, k1, c1, A2, k2, c2, fine, fn, fd, nn, dd, x0, x1, x2, x3, x4, x5, hp.put6o hb ht _ _ _ _ _ _⟩⟩
theorem RowV.set {w : World} {g b o n m : Nat} {f : Nat → Rat} {cs cb : Array Value} {t : TypeId} (h : RowV w g n f m cs) (hb : Blk w b t cb) (ht : t ≠ 2) (hne : b ≠ g) (u : Value) : RowV (w.setCell ⟨b, o, none⟩ u) g n f m cs :=
 ⟨h.blk.other u hne, h.size, fun i hi => by
  obtain ⟨s, A1, k1, c1, A2, k2, c2, fine, fn, fd, nn, dd, x0, x1, x2, x3, x4, x5, hp⟩ := h.els i hi
  exact ⟨s, A1, k1, c1, A2, k2, c2, fine, fn, fd, nn, dd, x0, x1, x2, x3, x4, x5, hp.store hb ht⟩⟩
structure MatW (w : World) (B gL R n : Nat) (M : Nat → Nat → Rat) (m : Nat) (gs cp : Nat → Nat) (cl : Array Value) (css : Nat → Array Value) : Prop where
 top : Blk w gL 58 cl
 lowL : B ≤ gL
 cell : ∀ i, i < R → cl[i]? = some (.slice (some ⟨gs i, 0, none⟩) n (cp i))
 row : ∀ i, i < R → RowV w (gs i) n (M i) m (css i)
 low : ∀ i, i < R → B ≤ gs i
 inj : ∀ i j, i < R → j < R → gs i = gs j → i = j
theorem MatW.below {w w' : World} {B gL R n m : Nat} {M : Nat → Nat → Rat} {gs cp : Nat → Nat} {cl : Array Value} {css : Nat → Array Value} (h : MatW w B gL R n M m gs cp cl css) (hb : Below w.heap.size w w') : MatW w' B gL R n M m gs cp cl css :=
 ⟨h.top.belowS hb, h.lowL, h.cell, fun i hi => (h.row i hi).below hb, h.low, h.inj⟩
theorem MatW.more {w : World} {B gL R n m m' : Nat} {M : Nat → Nat → Rat} {gs cp : Nat → Nat} {cl : Array Value} {css : Nat → Array Value} (h : MatW w B gL R n M m gs cp cl css) (hm : m ≤ m') : MatW w B gL R n M m' gs cp cl css :=
 ⟨h.top, h.lowL, h.cell, fun i hi => (h.row i hi).more hm, h.low, h.inj⟩
theorem MatW.congr {w : World} {B gL R n m : Nat} {M M' : Nat → Nat → Rat} {gs cp : Nat → Nat} {cl : Array Value} {css : Nat → Array Value} (h : MatW w B gL R n M m gs cp cl css) (hM : ∀ r c, r < R → c < n → M r c = M' r c) : MatW w B gL R n M' m gs cp cl css :=
 ⟨h.top, h.lowL, h.cell, fun i hi => (h.row i hi).congr fun c hc => hM i c hi hc, h.low, h.inj⟩
theorem MatW.neL {w : World} {B gL R n m : Nat} {M : Nat → Nat → Rat} {gs cp : Nat → Nat} {cl : Array Value} {css : Nat → Array Value} (h : MatW w B gL R n M m gs cp cl css) {i : Nat} (hi : i < R) : gs i ≠ gL := fun e => by
 have h1 := (h.row i hi).blk
 have h2 := h.top
 rw [e] at h1
 unfold Blk at h1 h2
 rw [h1] at h2
 injection h2 with h2
 injection h2 with _ h2 _
 exact absurd h2 (by decide)
theorem MatW.put {w : World} {B gL R n r c m : Nat} {M : Nat → Nat → Rat} {gs cp : Nat → Nat} {cl : Array Value} {css : Nat → Array Value} {q : Rat} {s fine : Bool} {A1 A2 : Option Addr} {k1 c1 k2 c2 nn dd : Nat} {fn fd : Int} (h : MatW w B gL R n M m gs cp cl css) (hr : r < R) (hc : c < n) (hq : Parts w q m s (.slice A1 k1 c1) (.slice A2 k2 c2) fine fn fd nn dd) :
  ∃ css', MatW (put6o w (gs r) (c * 6) (.bool s) (.slice A1 k1 c1) (.slice A2 k2 c2) (.bool fine) (.int .i64 fn) (.int .i64 fd)) B gL R n (fun i j => if i = r ∧ j = c then q else M i j) m gs cp cl css' := by
 have hp := (h.row r hr).put hc hq
 have hne := h.neL hr
 refine ⟨fun i => if i = r then setA (css r) (c * 6) (.bool s) (.slice A1 k1 c1) (.slice A2 k2 c2) (.bool fine) (.int .i64 fn) (.int .i64 fd) else css i, blk_put6o h.top hne _ _ _ _ _ _, h.lowL, h.cell, fun i hi => ?_, h.low, h.inj⟩
 by_cases e : i = r
 ·subst e
  simp only [if_true, true_and]
  exact hp
 ·simp only [e, if_false, false_and]
  exact (h.row i hi).beside (h.row r hr).blk (by decide) (fun e2 => e (h.inj i r hi hr e2.symm)) _ _ _ _ _ _
theorem MatW.swap {w : World} {B gL R n i k m : Nat} {M : Nat → Nat → Rat} {gs cp : Nat → Nat} {cl : Array Value} {css : Nat → Array Value} (h : MatW w B gL R n M m gs cp cl css) (hi : i < R) (hk : k < R) :
  ∃ cl', MatW ((w.setCell ⟨gL, i, none⟩ (.slice (some ⟨gs k, 0, none⟩) n (cp k))).setCell ⟨gL, k, none⟩ (.slice (some ⟨gs i, 0, none⟩) n (cp i))) B gL R n (swapM M i k) m (swF gs i k) (swF cp i k) cl' (swF css i k) := by
 have ci := h.cell i hi
 have ck := h.cell k hk
 have K1 := h.top.setTo i (.slice (some ⟨gs k, 0, none⟩) n (cp k)) rfl
 have hck : (cl.setIfInBounds i (.slice (some ⟨gs k, 0, none⟩) n (cp k)))[k]? = some (.slice (some ⟨gs k, 0, none⟩) n (cp k)) := by
  by_cases e : i = k
  ·subst e
   exact Array.getElem?_setIfInBounds_self_of_lt (Array.getElem?_eq_some_iff.1 ci).1
  ·rw [Array.getElem?_setIfInBounds_ne e]; exact ck
 refine ⟨_, K1.setTo k _ rfl, h.lowL, fun r hr => ?_, fun r hr => ?_, fun r hr => ?_, fun a b ha hb e => ?_⟩
 ·unfold swF
  by_cases e : r = k
  ·subst e
   simp only [if_true]
   exact Array.getElem?_setIfInBounds_self_of_lt (Array.getElem?_eq_some_iff.1 hck).1
  ·rw [Array.getElem?_setIfInBounds_ne (fun h => e h.symm)]
   by_cases e2 : r = i
   ·subst e2
    simp only [e, if_false, if_true]
    exact Array.getElem?_setIfInBounds_self_of_lt (Array.getElem?_eq_some_iff.1 ci).1
   ·rw [Array.getElem?_setIfInBounds_ne (fun h => e2 h.symm)]
    simp only [e, e2, if_false]
    exact h.cell r hr
 ·have key : ∀ j, j < R → RowV ((w.setCell ⟨gL, i, none⟩ (.slice (some ⟨gs k, 0, none⟩) n (cp k))).setCell ⟨gL, k, none⟩ (.slice (some ⟨gs i, 0, none⟩) n (cp i))) (gs j) n (M j) m (css j) := fun j hj =>
   (((h.row j hj).set h.top (by decide) (fun e => h.neL hj e.symm) _).set K1 (by decide) (fun e => h.neL hj e.symm) _)
  unfold swF swapM
  by_cases e : r = k
  ·subst e
   simp only [if_true]
   exact key i hi
  ·by_cases e2 : r = i
   ·subst e2
    simp only [e, if_false, if_true]
    exact key k hk
   ·simp only [e, e2, if_false]
    exact key r hr
 ·unfold swF
  split
  ·exact h.low i hi
  ·split
   ·exact h.low k hk
   ·exact h.low r hr
 ·exact Ratio.swF_inj hi hk h.inj ha hb e
theorem MatW.mid {w : World} {B gL R n i k m : Nat} {M : Nat → Nat → Rat} {gs cp : Nat → Nat} {cl : Array Value} {css : Nat → Array Value} (h : MatW w B gL R n M m gs cp cl css) (hi : i < R) (hk : k < R) :
  (w.setCell ⟨gL, i, none⟩ (.slice (some ⟨gs k, 0, none⟩) n (cp k))).cell? ⟨gL, k, none⟩ = some (.slice (some ⟨gs k, 0, none⟩) n (cp k)) := by
 refine (h.top.setTo i _ rfl).at k ?_
 by_cases e : i = k
 ·subst e
  exact Array.getElem?_setIfInBounds_self_of_lt (Array.getElem?_eq_some_iff.1 (h.cell i hi)).1
 ·rw [Array.getElem?_setIfInBounds_ne e]; exact h.cell k hk
end Go.Proofs.YthagenodiofgnaaGreat.Wide
namespace Go.Proofs.YthagenodiofgnaaGreat.Wide
open Go.RowKit Go.Proofs.YthagenodiofgnaaGreat Go.Proofs.YthagenodiofgnaaGreat.Base Go.Proofs.YthagenodiofgnaaGreat.Mem Go.Proofs.YthagenodiofgnaaGreat.RatM Go.Proofs.YthagenodiofgnaaGreat.BigM Go.Proofs.YthagenodiofgnaaGreat.Big Go.Proofs.YthagenodiofgnaaGreat.Fine Go.Proofs.YthagenodiofgnaaGreat.Blk Go.Proofs.YthagenodiofgnaaGreat.GaussM
set_option linter.unusedVariables false
structure OwnWW (w : World) (B : Nat) (v : Value) (n L : Nat) (f : Nat → Nat → Rat) (m : Nat) (us : List Value) : Prop where
 row : w.ownsRow B 58 1 v n us
 els : ∀ i, i < n → ∃ g c cs, us[i]? = some (.slice (some ⟨g, 0, none⟩) L c) ∧ RowV w g L (f i) m cs ∧ B ≤ g
 inj : ∀ (i j g c d : Nat), us[i]? = some (Value.slice (some ⟨g, 0, none⟩) L c) → us[j]? = some (Value.slice (some ⟨g, 0, none⟩) L d) → i = j
theorem OwnWW.below {w w' : World} {B n L m : Nat} {v : Value} {f : Nat → Nat → Rat} {us : List Value} (h : OwnWW w B v n L f m us) (hb : Below w.heap.size w w') : OwnWW w' B v n L f m us :=
 ⟨ownsRow_below h.row hb, fun i hi => by
  obtain ⟨g, c, cs, e, hr, hB⟩ := h.els i hi
  exact ⟨g, c, cs, e, hr.below hb, hB⟩, h.inj⟩
theorem OwnWW.lit0 (w : World) (L : Nat) (f : Nat → Nat → Rat) (m : Nat) : OwnWW (w.alloc (.cells #[] 58)) w.heap.size (.slice (some ⟨w.heap.size, 0, none⟩) 0 0) 0 L f m [] :=
 ⟨World.ownsRow_made w #[] 0 (Nat.le_refl _) (Nat.zero_le _) (by simp), fun i hi => absurd hi (Nat.not_lt_zero i), fun i j g c d h => by cases h⟩
theorem OwnWW.push {wr w1 w2 : World} {B n L m g c : Nat} {v v' : Value} {f : Nat → Nat → Rat} {us : List Value} {cs : Array Value} {ca : Array Value} {t : TypeId} (h : OwnWW wr B v n L f m us) (h1 : Below wr.heap.size wr w1) (hr : RowV w1 g L (f n) m cs) (hg0 : wr.heap.size ≤ g) (hB : B ≤ wr.heap.size)
  (hown : w2.ownsRow B 58 1 v' (n + 1) (us ++ [.slice (some ⟨g, 0, none⟩) L c])) (hg : (w1.alloc (.cells ca t)).grownBy w2 v.ownBlock) : OwnWW w2 B v' (n + 1) L f m (us ++ [.slice (some ⟨g, 0, none⟩) L c]) := by
 have hb2 : Below w1.heap.size w1 (w1.alloc (.cells ca t)) := (Below.refl _ _).alloc (Nat.le_refl _) _
 have hA := (h.below h1).below hb2
 have hlen : us.length = n := by have := h.row.1; omega
 have hold : ∀ (i g' d : Nat), us[i]? = some (Value.slice (some ⟨g', 0, none⟩) L d) → g' ≠ g := fun i g' d e e2 => by
  have hi : i < n := by have := (List.getElem?_eq_some_iff.1 e).1; omega
  obtain ⟨g'', c'', cs'', e3, hr3, _⟩ := h.els i hi
  rw [e] at e3
  injection e3 with e3
  injection e3 with e3 _ _
  injection e3 with e3
  injection e3 with e3 _ _
  have := hr3.blk.lt
  omega
 refine ⟨hown, fun i hi => ?_, fun i j g' c' d' e1 e2 => ?_⟩
 ·rcases Nat.lt_or_ge i n with hlt | hge
  ·obtain ⟨g', c', cs', e, hr', hB'⟩ := hA.els i hlt
   exact ⟨g', c', cs', by rw [List.getElem?_append_left (by omega)]; exact e, hr'.kept hA.row (by decide) (by decide) hg, hB'⟩
  ·obtain rfl : i = n := by omega
   exact ⟨g, c, cs, by rw [List.getElem?_append_right (by omega), hlen, Nat.sub_self]; rfl, (hr.below hb2).kept hA.row (by decide) (by decide) hg, by omega⟩
 ·have hi := (List.getElem?_eq_some_iff.1 e1).1
  have hj := (List.getElem?_eq_some_iff.1 e2).1
  simp only [List.length_append, List.length_cons, List.length_nil] at hi hj
  rcases Nat.lt_or_ge i n with h1 | h1 <;> rcases Nat.lt_or_ge j n with h2 | h2
  ·rw [List.getElem?_append_left (by omega)] at e1 e2
   exact h.inj i j g' c' d' e1 e2
  ·rw [List.getElem?_append_left (by omega)] at e1
   obtain rfl : j = us.length := by omega
   rw [List.getElem?_append_right (by omega), Nat.sub_self] at e2
   simp only [List.getElem?_cons_zero, Option.some.injEq, Value.slice.injEq, Addr.mk.injEq, and_true, true_and] at e2
   exact absurd e2.1.symm (hold i g' c' e1)
  ·rw [List.getElem?_append_left (by omega)] at e2
   obtain rfl : i = us.length := by omega
   rw [List.getElem?_append_right (by omega), Nat.sub_self] at e1
   simp only [List.getElem?_cons_zero, Option.some.injEq, Value.slice.injEq, Addr.mk.injEq, and_true, true_and] at e1
   exact absurd e1.1.symm (hold j g' d' e2)
  ·omega
theorem OwnWW.form {w : World} {B n L m : Nat} {v : Value} {f : Nat → Nat → Rat} {us : List Value} (h : OwnWW w B v n L f m us) : ∃ A c, v = .slice A n c ∧ (0 < n → ∃ g, A = some ⟨g, 0, none⟩ ∧ B ≤ g ∧ g < w.heap.size) := ownsRow_form h.row
theorem OwnWW.congr {w : World} {B n L m : Nat} {v : Value} {f f' : Nat → Nat → Rat} {us : List Value} (h : OwnWW w B v n L f m us) (hf : ∀ i j, i < n → j < L → f i j = f' i j) : OwnWW w B v n L f' m us :=
 ⟨h.row, fun i hi => by
  obtain ⟨g, c, cs, e, hr, hB⟩ := h.els i hi
  exact ⟨g, c, cs, e, hr.congr (fun j hj => hf i j hi hj), hB⟩, h.inj⟩
theorem OwnWW.mat {w : World} {B n L m gL cL : Nat} {f : Nat → Nat → Rat} {us : List Value} (h : OwnWW w B (.slice (some ⟨gL, 0, none⟩) n cL) n L f m us) : ∃ gs cp cl css, MatW w B gL n L f m gs cp cl css := by
 obtain ⟨cur, hc, hBL, _⟩ := ownsRow_block h.row (g := gL) rfl
 have hlen : us.length = n := by have := h.row.1; omega
 have hcell : ∀ i, i < n → cur[i]? = us[i]? := fun i hi => by
  rw [← cell_of_row w gL i cur _ (0, 0) hc]
  exact World.ownsRow.cellAt h.row i (by omega)
 have key : ∀ i, ∃ p : Nat × Nat × Array Value, i < n → us[i]? = some (.slice (some ⟨p.1, 0, none⟩) L p.2.1) ∧ RowV w p.1 L (f i) m p.2.2 ∧ B ≤ p.1 := fun i => by
  by_cases hi : i < n
  ·obtain ⟨g, c, cs, e, hr, hB⟩ := h.els i hi
   exact ⟨⟨g, c, cs⟩, fun _ => ⟨e, hr, hB⟩⟩
  ·exact ⟨⟨0, 0, #[]⟩, fun h' => absurd h' hi⟩
 obtain ⟨p, hp⟩ := Classical.axiomOfChoice key
 refine ⟨fun i => (p i).1, fun i => (p i).2.1, cur, fun i => (p i).2.2, hc, hBL, fun i hi => by rw [hcell i hi]; exact (hp i hi).1, fun i hi => (hp i hi).2.1, fun i hi => (hp i hi).2.2, fun i j hi hj e => ?_⟩
 have e1 := (hp i hi).1
 have e2 := (hp j hj).1
 have e3 : (p i).1 = (p j).1 := e
 rw [← e3] at e2
 exact h.inj i j _ _ _ e1 e2
end Go.Proofs.YthagenodiofgnaaGreat.Wide
namespace Go.Proofs.YthagenodiofgnaaGreat.Wide
open Go.RowKit Go.Proofs.YthagenodiofgnaaGreat Go.Proofs.YthagenodiofgnaaGreat.Base Go.Proofs.YthagenodiofgnaaGreat.Mem Go.Proofs.YthagenodiofgnaaGreat.RatM Go.Proofs.YthagenodiofgnaaGreat.BigM Go.Proofs.YthagenodiofgnaaGreat.Big Go.Proofs.YthagenodiofgnaaGreat.Fine Go.Proofs.YthagenodiofgnaaGreat.Blk
set_option linter.unusedVariables false
set_option maxHeartbeats 400000 in
set_option maxRecDepth 100000 in
theorem fMakeN (n b : Int) (d : Nat) (h1 : -1000000000000000000 ≤ n) (h2 : n ≤ 1000000000000000000) (hd : 0 < d) (hd2 : d ≤ 1000000000000000000) (hb : -b = (d : Int)) (w : World) : Calls Tryz.prog 98 #[.int .i64 n, .int .i64 b] w fun e w' => e = .returned (lowV (-n) d) ∧ Below w.heap.size w w' := by
 have hg0 : 0 < Nat.gcd (-n).natAbs d := Nat.gcd_pos_of_pos_right _ hd
 have hg1 : Nat.gcd (-n).natAbs d ≤ d := Nat.gcd_le_right _ hd
 have hdv := Nat.gcd_dvd_left (-n).natAbs d
 obtain ⟨e1, _, _⟩ := exact_div hdv hg0
 have e2 : (d : Int) / ((Nat.gcd (-n).natAbs d : Nat) : Int) = ((d / Nat.gcd (-n).natAbs d : Nat) : Int) := by simp
 have b2 : d / Nat.gcd (-n).natAbs d ≤ d := Nat.div_le_self _ _
 have b3 : ((-n) / ((Nat.gcd (-n).natAbs d : Nat) : Int)).natAbs ≤ 1000000000000000000 := by
  obtain ⟨_, q2, _⟩ := exact_div hdv hg0
  rw [q2]; exact Nat.le_trans (Nat.div_le_self _ _) (by omega)
 have HM := Lib.hid (fun W => maxG (-n) (by omega) (by omega) W)
 have HG := Lib.hid (fun W => gcdG (-n).natAbs d (by omega) hd2 W)
 have hlt : b < 0 := by omega
 have hw1 : IntKind.i64.wrap (-n) = -n := by rw [IntKind.wrap_i64]; omega
 have hw2 : IntKind.i64.wrap n = n := by rw [IntKind.wrap_i64]; omega
 have hw3 : IntKind.i64.wrap (-b) = d := by rw [IntKind.wrap_i64]; omega
 rw [Int.neg_neg] at HM
 unfold lowV
 clear hdv
 generalize (-n) / ((Nat.gcd (-n).natAbs d : Nat) : Int) = N at *
 generalize d / Nat.gcd (-n).natAbs d = D at *
 generalize Nat.gcd (-n).natAbs d = G at *
 rw [Int.natAbs_neg] at HM HG
 go_enter Tryz.func98, Tryz.ntmps98
 go_wp2_with fail
 have hm := HM.out (w.alloc (.cells #[.int .i64 0, .int .i64 0] 34))
 refine Calls.mono hm ?_
 rintro e w1 ⟨rfl, rfl⟩
 go_wp2_with fail
 have hg := HG.out (w.alloc (.cells #[.int .i64 0, .int .i64 0] 34))
 refine Calls.mono hg ?_
 rintro e w1 ⟨rfl, rfl⟩
 clear hm hg HM HG hw1 hw2 hw3 hb
 go_wp2_with fail
 go_region
 go_wp2
 refine bodyPost_ret (v := .agg #[.int .i64 N, .int .i64 (D : Int)]) (by simp [results, Tryz.results98, go_sem]) rfl ⟨rfl, ?_⟩
 exact ((Below.refl _ _).alloc (Nat.le_refl _) _).drew
theorem lowV_one {n : Int} {d : Nat} (h : Nat.gcd n.natAbs d = 1) : lowV n d = .agg #[.int .i64 n, .int .i64 (d : Int)] := by
 unfold lowV
 rw [h]
 simp
theorem inv_vf {fn fd : Int} (h : VF fn fd) (h0 : fn ≠ 0) : (0 < fn → VF fd fn ∧ qf fd fn = (qf fn fd)⁻¹) ∧ (fn < 0 → VF (-fd) (-fn) ∧ qf (-fd) (-fn) = (qf fn fd)⁻¹) := by
 obtain ⟨h1, h2, h3, h4, h5⟩ := h
 have hn : fn.natAbs ≠ 0 := by omega
 have hd : fd.toNat ≠ 0 := by omega
 have hd2 : fd.natAbs = fd.toNat := by omega
 refine ⟨fun hp => ⟨⟨by omega, by omega, by omega, by omega, ?_⟩, ?_⟩, fun hp => ⟨⟨by omega, by omega, by omega, by omega, ?_⟩, ?_⟩⟩
 ·rw [hd2, show fn.toNat = fn.natAbs by omega, Nat.gcd_comm]; exact h5
 ·unfold qf
  rw [decide_eq_false (show ¬ fd < 0 by omega), decide_eq_false (show ¬ fn < 0 by omega), hd2, show fn.toNat = fn.natAbs by omega]
  exact qv_inv false hn hd
 ·rw [show (-fd).natAbs = fd.toNat by omega, show (-fn).toNat = fn.natAbs by omega, Nat.gcd_comm]; exact h5
 ·unfold qf
  rw [decide_eq_true (show -fd < 0 by omega), decide_eq_true (show fn < 0 by omega), show (-fd).natAbs = fd.toNat by omega, show (-fn).toNat = fn.natAbs by omega]
  exact qv_inv true hn hd
set_option maxHeartbeats 1000000 in
set_option maxRecDepth 100000 in
theorem over_any {q : Rat} {m : Nat} {v : Value} (w : World) (hv : IsW w q m v) (hq : q ≠ 0) (h2 : 2 ≤ m) : Calls Tryz.prog 111 #[v] w (WRet q⁻¹ m w) := by
 obtain ⟨s, A1, k1, c1, A2, k2, c2, fine, fn, fd, n, d, rfl, hp⟩ := hv
 obtain ⟨W2, hW2⟩ : ∃ W2, W2 = (w.alloc (.cells #[.bool s, .slice A1 k1 c1, .slice A2 k2 c2, .bool fine, .int .i64 fn, .int .i64 fd] 107)).alloc (.cells #[.bool false, .slice none 0 0, .slice none 0 0, .bool false, .int .i64 0, .int .i64 0] 107) := ⟨_, rfl⟩
 have K0 : Hid (Blk W2 w.heap.size 107 #[.bool s, .slice A1 k1 c1, .slice A2 k2 c2, .bool fine, .int .i64 fn, .int .i64 fd]) := Lib.hid (by rw [hW2]; exact (Blk.new w _ _).alloc _)
 have KR : Hid (Blk W2 (w.heap.size + 1) 107 #[.bool false, .slice none 0 0, .slice none 0 0, .bool false, .int .i64 0, .int .i64 0]) := Lib.hid (by rw [hW2]; exact Blk.newAt _ _ (by simp))
 have hb2 : Below w.heap.size w W2 := by rw [hW2]; exact ((Below.refl _ _).alloc (Nat.le_refl _) _).alloc (by simp) _
 have HB := Lib.hid hb2
 have HP := Lib.hid (hp.below hb2)
 have HW := Lib.hid hW2
 have HZ := Lib.hid (hp.zero.1)
 clear hW2 hb2 hp
 cases fine with
 | false =>
  have hn : n ≠ 0 := fun e => hq (HZ.out.1 e)
  have HPI : Hid (Parts W2 q⁻¹ m s (.slice A2 k2 c2) (.slice A1 k1 c1) false 0 0 d n) := Lib.hid ⟨HP.out.den, HP.out.num, by omega, by rw [← HP.out.val]; exact qv_inv s hn (by have := HP.out.pos; omega), HP.out.ld, HP.out.ln, fun e => by cases e⟩
  clear HP HZ hn hq
  generalize q⁻¹ = r at *
  go_enter Tryz.func111, Tryz.ntmps111
  have x0 := K0.out.at 0 (v := .bool s) rfl
  have x1 := K0.out.at 1 (v := .slice A1 k1 c1) rfl
  have x2 := K0.out.at 2 (v := .slice A2 k2 c2) rfl
  have x3 := K0.out.at 3 (v := .bool false) rfl
  go_upto_region 1 with (fail)
  rw [← HW.out]
  have z0 := (KR.out).frz 0
  have z1 := (KR.out).frz 1
  have z2 := (KR.out).frz 2
  have z3 := (KR.out).frz 3
  have z4 := (KR.out).frz 4
  have z5 := (KR.out).frz 5
  have r0 := (KR.out).at 0 (v := .bool false) rfl
  have r1 := (KR.out).at 1 (v := .slice none 0 0) rfl
  have r2 := (KR.out).at 2 (v := .slice none 0 0) rfl
  have r3 := (KR.out).at 3 (v := .bool false) rfl
  have r4 := (KR.out).at 4 (v := .int .i64 0) rfl
  have r5 := (KR.out).at 5 (v := .int .i64 0) rfl
  have SS := put6_blk (KR.out) (.bool s) (.slice A2 k2 c2) (.slice A1 k1 c1) (.bool false) (.int .i64 0) (.int .i64 0)
  unfold put6 at SS
  have s0 := SS.at 0 rfl
  have s1 := SS.at 1 rfl
  have s2 := SS.at 2 rfl
  have s3 := SS.at 3 rfl
  have s4 := SS.at 4 rfl
  have s5 := SS.at 5 rfl
  have HFIN := Lib.hid (WRet.put (HPI.out) (KR.out) (HB.out) (Nat.le_succ _))
  clear SS
  unfold put6 at HFIN
  go_wp2
  refine bodyPost_ret (v := .agg #[.bool s, .slice A2 k2 c2, .slice A1 k1 c1, .bool false, .int .i64 0, .int .i64 0]) (by simp [results, Tryz.results111, go_sem, s0, s1, s2, s3, s4, s5]) rfl ?_
  exact HFIN.out
 | true =>
  obtain ⟨hvf, hqf, _, _⟩ := HP.out.small rfl
  have hf0 : fn ≠ 0 := fun e => by
   subst e
   apply hq
   rw [← hqf]
   unfold qf
   exact qv_zero _ _
  obtain ⟨i1, i2⟩ := inv_vf hvf hf0
  rw [hqf] at i1 i2
  have hgc : Nat.gcd fd.natAbs fn.natAbs = 1 := by
   have := hvf.2.2.2.2
   rw [Nat.gcd_comm, show fd.natAbs = fd.toNat by have := hvf.1; omega]
   exact this
  have HMK : Hid (∃ gn gd, VF gn gd ∧ qf gn gd = q⁻¹ ∧ ∀ W, Calls Tryz.prog 98 #[.int .i64 fd, .int .i64 fn] W fun e w' => e = .returned (.agg #[.int .i64 gn, .int .i64 gd]) ∧ Below W.heap.size W w') := Lib.hid (by
   have b1 := hvf.1
   have b2 := hvf.2.1
   have b3 := hvf.2.2.1
   have b4 := hvf.2.2.2.1
   rcases Int.lt_or_gt_of_ne hf0 with h | h
   ·refine ⟨_, _, (i2 h).1, (i2 h).2, fun W => ?_⟩
    have := fMakeN fd fn fn.natAbs (by omega) (by omega) (by omega) (by omega) (by omega) W
    rw [lowV_one (by rw [Int.natAbs_neg]; exact hgc), show ((fn.natAbs : Nat) : Int) = -fn by omega] at this
    exact this
   ·refine ⟨_, _, (i1 h).1, (i1 h).2, fun W => ?_⟩
    have := fMakeG fd fn.natAbs (by omega) (by omega) (by omega) (by omega) W
    rw [lowV_one hgc, show ((fn.natAbs : Nat) : Int) = fn by omega] at this
    exact this)
  obtain ⟨gn, gd, hg1, hg2, hg3⟩ := HMK.out
  have HM := Lib.hid hg3
  have HWO := Lib.hid (fun W => wideOf_any hg1 W)
  rw [hg2] at HWO
  have HBnd := Lib.hid h2
  clear HMK hg3 hg1 hg2 i1 i2 hf0 hvf hqf hgc HP HZ hq h2
  generalize q⁻¹ = r at *
  go_enter Tryz.func111, Tryz.ntmps111
  have x3 := K0.out.at 3 (v := .bool true) rfl
  have x4 := K0.out.at 4 (v := .int .i64 fn) rfl
  have x5 := K0.out.at 5 (v := .int .i64 fd) rfl
  go_upto_region 1 with (fail)
  rw [← HW.out]
  go_wp2_with fail
  refine (HM.out _).mono ?_
  rintro e w3 ⟨rfl, hb3⟩
  have HB3 := Lib.hid (Base.Below.nextA HB.out hb3)
  have KR3 := Lib.hid (KR.out.belowS hb3)
  clear hb3 HM KR HB K0 x3 x4 x5 HW
  go_wp2_with fail
  refine (HWO.out _).mono ?_
  rintro e w4 ⟨v, rfl, hv4, hb4⟩
  obtain ⟨s', B1, j1, d1, B2, j2, d2, fine', fn', fd', nn, dd, rfl, hp4⟩ := hv4
  have HB4 := Lib.hid (Base.Below.nextA HB3.out hb4)
  have KR4 := Lib.hid (KR3.out.belowS hb4)
  have HP4 := Lib.hid (hp4.more HBnd.out)
  clear hb4 hp4 HWO KR3 HB3
  have z0 := (KR4.out).frz 0
  have z1 := (KR4.out).frz 1
  have z2 := (KR4.out).frz 2
  have z3 := (KR4.out).frz 3
  have z4 := (KR4.out).frz 4
  have z5 := (KR4.out).frz 5
  have r0 := (KR4.out).at 0 (v := .bool false) rfl
  have r1 := (KR4.out).at 1 (v := .slice none 0 0) rfl
  have r2 := (KR4.out).at 2 (v := .slice none 0 0) rfl
  have r3 := (KR4.out).at 3 (v := .bool false) rfl
  have r4 := (KR4.out).at 4 (v := .int .i64 0) rfl
  have r5 := (KR4.out).at 5 (v := .int .i64 0) rfl
  have SS := put6_blk (KR4.out) (.bool s') (.slice B1 j1 d1) (.slice B2 j2 d2) (.bool fine') (.int .i64 fn') (.int .i64 fd')
  unfold put6 at SS
  have s0 := SS.at 0 rfl
  have s1 := SS.at 1 rfl
  have s2 := SS.at 2 rfl
  have s3 := SS.at 3 rfl
  have s4 := SS.at 4 rfl
  have s5 := SS.at 5 rfl
  have HFIN := Lib.hid (WRet.put (HP4.out) (KR4.out) (HB4.out) (Nat.le_succ _))
  clear SS
  unfold put6 at HFIN
  go_wp2
  refine bodyPost_ret (v := .agg #[.bool s', .slice B1 j1 d1, .slice B2 j2 d2, .bool fine', .int .i64 fn', .int .i64 fd']) (by simp [results, Tryz.results111, go_sem, s0, s1, s2, s3, s4, s5]) rfl ?_
  exact HFIN.out
end Go.Proofs.YthagenodiofgnaaGreat.Wide
namespace Go.Proofs.YthagenodiofgnaaGreat.Wide
open Go.RowKit Go.Proofs.YthagenodiofgnaaGreat Go.Proofs.YthagenodiofgnaaGreat.Base Go.Proofs.YthagenodiofgnaaGreat.Mem Go.Proofs.YthagenodiofgnaaGreat.RatM Go.Proofs.YthagenodiofgnaaGreat.BigM Go.Proofs.YthagenodiofgnaaGreat.Big Go.Proofs.YthagenodiofgnaaGreat.Fine Go.Proofs.YthagenodiofgnaaGreat.Blk Go.Proofs.YthagenodiofgnaaGreat.GaussM
open Go.Proofs.YthagenodiofgnaaGreat.Ratio (Stg solB solX sN sol_yes sol_no)
set_option linter.unusedVariables false
theorem infoWW : (Tryz.prog.info? 58).map (fun i => (i.zero, i.size, i.bytes)) = some (some (.slice none 0 0), 1, 24) := by kernel_rfl
def mD : Nat → Nat
 | 0 => 5
 | k + 1 => 4 * mD k + 1
theorem pow_nextD (m : Nat) : 2 * (D30 ^ m * (D30 ^ m * (D30 ^ m * D30 ^ m))) ≤ D30 ^ (4 * m + 1) := by
 have e : D30 ^ (4 * m + 1) = D30 * (D30 ^ m * (D30 ^ m * (D30 ^ m * D30 ^ m))) := by
  rw [Nat.pow_succ, Nat.mul_comm _ D30, show 4 * m = m + (m + (m + m)) by omega, Nat.pow_add, Nat.pow_add, Nat.pow_add]
 rw [e]
 exact Nat.mul_le_mul_right _ (by decide)
theorem mD_up : ∀ {a b : Nat}, a ≤ b → mD a ≤ mD b
 | a, 0, h => by
  obtain rfl : a = 0 := by omega
  exact Nat.le_refl _
 | a, b + 1, h => by
  rcases Nat.lt_or_ge a (b + 1) with h1 | h1
  ·have := mD_up (show a ≤ b by omega)
   show mD a ≤ 4 * mD b + 1
   omega
  ·obtain rfl : a = b + 1 := by omega
   exact Nat.le_refl _
theorem D30_pos : 0 < D30 := by decide
theorem dgD_more {m k : Nat} {q : Rat} (h : Dg (D30 ^ m) q) (hk : m ≤ k) : Dg (D30 ^ k) q := h.more (Nat.pow_le_pow_right D30_pos hk)
theorem dgD_mul {m k : Nat} {q r : Rat} (h : Dg (D30 ^ m) q) (g : Dg (D30 ^ k) r) : Dg (D30 ^ (m + k)) (q * r) := by
 rw [Nat.pow_add]; exact h.mul g
theorem IsW.parts {w : World} {q : Rat} {m : Nat} {s fi : Bool} {A1 A2 : Option Addr} {k1 c1 k2 c2 : Nat} {fn fd : Int} (h : IsW w q m (.agg #[.bool s, .slice A1 k1 c1, .slice A2 k2 c2, .bool fi, .int .i64 fn, .int .i64 fd])) : ∃ nn dd, Parts w q m s (.slice A1 k1 c1) (.slice A2 k2 c2) fi fn fd nn dd := by
 obtain ⟨s', B1, j1, d1, B2, j2, d2, fi', fn', fd', nn, dd, e, hp⟩ := h
 injection e with e
 simp only [Array.mk.injEq, List.cons.injEq, Value.slice.injEq, Value.bool.injEq, Value.int.injEq, true_and, and_true] at e
 obtain ⟨rfl, ⟨rfl, rfl, rfl⟩, ⟨rfl, rfl, rfl⟩, rfl, rfl, rfl⟩ := e
 exact ⟨nn, dd, hp⟩
theorem rat_sub (a b d : Rat) : a + -1 * b * d = a - b * d := by grind
theorem rat_zero (a : Rat) : 0 * a = 0 := by grind
theorem IsL.le {w : World} {q : Rat} {m k : Nat} {v : Value} (h : IsL w q m v) (hk : Dg (D30 ^ k) q) : IsW w q k v := by
 obtain ⟨s, A1, k1, c1, A2, k2, c2, fine, fn, fd, n, d, e, hp, h1, h2⟩ := h
 subst h1 h2
 exact ⟨s, A1, k1, c1, A2, k2, c2, fine, fn, fd, _, _, e, hp.num, hp.den, hp.pos, hp.val, bigL_len_le hk.1, bigL_len_le hk.2, hp.small⟩
theorem len_zero {w : World} {q : Rat} {m : Nat} {s fine : Bool} {A1 : Option Addr} {k1 c1 : Nat} {vd : Value} {fn fd : Int} {n d : Nat} (h : Parts w q m s (.slice A1 k1 c1) vd fine fn fd n d) : k1 = 0 ↔ q = 0 := by
 obtain ⟨A, c, e, _⟩ := Dig.form h.num
 injection e with _ e _
 rw [← h.zero.1, e]
 constructor
 ·intro h0
  rcases Nat.eq_zero_or_pos n with hn | hn
  ·exact hn
  ·rw [bigL_pos (by omega)] at h0; cases h0
 ·intro h0
  subst h0
  rw [bigL_zero]; rfl
theorem six_take {cs : Array Value} {i : Nat} {v0 v1 v2 v3 v4 v5 : Value} (x0 : cs[i * 6]? = some v0) (x1 : cs[i * 6 + 1]? = some v1) (x2 : cs[i * 6 + 2]? = some v2) (x3 : cs[i * 6 + 3]? = some v3) (x4 : cs[i * 6 + 4]? = some v4) (x5 : cs[i * 6 + 5]? = some v5) {N : Nat} (hN : i * 6 + 6 ≤ N) : ((cs.toList.take N).drop (i * 6)).take 6 = [v0, v1, v2, v3, v4, v5] := by
 apply List.ext_getElem?
 intro j
 rw [List.getElem?_take]
 by_cases hj : j < 6
 ·rw [if_pos hj, List.getElem?_drop, List.getElem?_take, if_pos (by omega), Array.getElem?_toList]
  have : j = 0 ∨ j = 1 ∨ j = 2 ∨ j = 3 ∨ j = 4 ∨ j = 5 := by omega
  rcases this with rfl | rfl | rfl | rfl | rfl | rfl <;> assumption
 ·rw [if_neg hj, List.getElem?_eq_none (by simp; omega)]
def rowC (cs : Array Value) (L : Nat) : List Value := cs.toList.take (L * 6)
theorem rowC_len {w : World} {g L m : Nat} {f : Nat → Rat} {cs : Array Value} (h : RowV w g L f m cs) : (rowC cs L).length = L * 6 := by
 unfold rowC
 have := h.size
 simp
 omega
theorem rowC_news {w : World} {g L m : Nat} {f : Nat → Rat} {cs : Array Value} (h : RowV w g L f m cs) : ∀ (j : Nat) (u : Value), (rowC cs L)[j]? = some u → w.cell? ((⟨g, 0, none⟩ : Addr).add j) = some u := by
 intro j u hu
 unfold rowC at hu
 rw [List.getElem?_take] at hu
 split at hu
 ·rw [Addr.add_lit, Nat.zero_add, h.blk.cell, ← Array.getElem?_toList]; exact hu
 ·cases hu
theorem rowC_ones {w : World} {g L m : Nat} {f : Nat → Rat} {cs : Array Value} (h : RowV w g L f m cs) : ∀ u ∈ rowC cs L, u.oneCell' = true := by
 intro u hu
 obtain ⟨j, hj⟩ := List.getElem?_of_mem hu
 unfold rowC at hj
 rw [List.getElem?_take] at hj
 split at hj
 ·rename_i hlt
  rw [Array.getElem?_toList] at hj
  have hi : j / 6 < L := by omega
  obtain ⟨s, A1, k1, c1, A2, k2, c2, fine, fn, fd, nn, dd, x0, x1, x2, x3, x4, x5, hp⟩ := h.els (j / 6) hi
  have hr : j = j / 6 * 6 ∨ j = j / 6 * 6 + 1 ∨ j = j / 6 * 6 + 2 ∨ j = j / 6 * 6 + 3 ∨ j = j / 6 * 6 + 4 ∨ j = j / 6 * 6 + 5 := by omega
  generalize j / 6 = i at *
  rcases hr with rfl | rfl | rfl | rfl | rfl | rfl
  ·rw [x0] at hj; injection hj with hj; subst hj; rfl
  ·rw [x1] at hj; injection hj with hj; subst hj; rfl
  ·rw [x2] at hj; injection hj with hj; subst hj; rfl
  ·rw [x3] at hj; injection hj with hj; subst hj; rfl
  ·rw [x4] at hj; injection hj with hj; subst hj; rfl
  ·rw [x5] at hj; injection hj with hj; subst hj; rfl
 ·cases hj
theorem RowV.copied {w w' : World} {g L m B n0 B0 : Nat} {f : Nat → Rat} {cs : Array Value} {v0 v : Value} {xs0 : List Value} (h : RowV w g L f m cs) (h0 : w.ownsRow B0 107 6 v0 n0 xs0) (hown : w'.ownsRow B 107 6 v L (rowC cs L)) (hg : w.grownBy w' v0.ownBlock) : OwnW w' B v L f m (rowC cs L) :=
 ⟨hown, fun i hi => by
  obtain ⟨s, A1, k1, c1, A2, k2, c2, fine, fn, fd, nn, dd, x0, x1, x2, x3, x4, x5, hp⟩ := h.els i hi
  exact ⟨s, A1, k1, c1, A2, k2, c2, fine, fn, fd, nn, dd, six_take x0 x1 x2 x3 x4 x5 (by omega), hp.kept h0 (by decide) hg⟩⟩
def SwRet (M : Nat → Nat → Rat) (n m : Nat) (w : World) (e : Ending) (w' : World) : Prop := ∃ v cs, e = .returned (.tuple #[v, .bool (solB M n n)]) ∧ OwnW w' w.heap.size v (sN M n n) (solX M n n) m cs ∧ Below w.heap.size w w'
theorem sw_no {M : Nat → Nat → Rat} {n m : Nat} {w w' : World} (h : ∀ x, ¬ Only M n n x) (hb : Below w.heap.size w w') : SwRet M n m w (.returned (.tuple #[.slice none 0 0, .bool false])) w' := by
 have h1 := sol_no h
 refine ⟨.slice none 0 0, [], by rw [h1], ?_, hb⟩
 unfold sN
 rw [h1]
 exact OwnW.nil _ _ _ _
theorem sw_yes {M : Nat → Nat → Rat} {n m : Nat} {w w' : World} {x : Nat → Rat} {v : Value} {cs : List Value} (h : Only M n n x) (ho : OwnW w' w.heap.size v n x m cs) (hb : Below w.heap.size w w') : SwRet M n m w (.returned (.tuple #[v, .bool true])) w' := by
 obtain ⟨h1, h2⟩ := sol_yes h
 refine ⟨v, cs, by rw [h1], ?_, hb⟩
 unfold sN
 rw [h1, if_pos rfl]
 exact ho.congr fun i hi => (h2 i hi).symm
end Go.Proofs.YthagenodiofgnaaGreat.Wide
