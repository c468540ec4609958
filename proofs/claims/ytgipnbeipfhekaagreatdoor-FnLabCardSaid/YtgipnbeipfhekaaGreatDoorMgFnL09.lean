/- A stream read from its text: the program. -/
import Derived.Test.YtgipnbeipfhekaaGreatDoorMgFnL05
import Derived.Deep.Cut
import Derived.Test.YtgipnbeipfhekaaGreatDoorMgFnL02
import Derived.Test.YtgipnbeipfhekaaGreatDoorMgFnL03
import Derived.Deep.Strs
import Derived.Test.YtgipnbeipfhekaaGreatDoorMgFnL07
import Derived.Test.YtgipnbeipfhekaaGreatDoorMgFnL00
import Derived.Test.YtgipnbeipfhekaaGreatDoorMgFnL06
set_option linter.unusedVariables false
set_option linter.unusedSimpArgs false
set_option maxRecDepth 100000
set_option maxHeartbeats 4000000
namespace Go.Proofs.YtgipnbeipfhekaaGreatDoor
namespace Rd
open Go.RowKit Base Mem Dec LabM RecJ CutP Val Str Take
def MaxL (B : Nat) (w : World) : Prop := ∃ m : Int, YtgipnbeipfhekaaGreatDoor.lays146_ren.g 1 < B ∧ w.cell? ⟨YtgipnbeipfhekaaGreatDoor.lays146_ren.g 1, 0, none⟩ = some (.int .i64 m)
theorem MaxL.on {B : Nat} {w w' : World} (h : MaxL B w) (hb : Below B w w') : MaxL B w' := by
 obtain ⟨m, h1, h2⟩ := h
 exact ⟨m, h1, (hb.cell (p := ⟨_, 0, none⟩) h1).trans h2⟩
def SplRet (ws : List (List UInt8)) (n : Nat) (w : World) (e : Ending) (w' : World) : Prop := e = .returned (.slice (some ⟨w.heap.size, 0, none⟩) n n) ∧ (∀ i, i < (txs ws).length → w'.cell? ⟨w.heap.size, i, none⟩ = some (.string ((txs ws).getD i ByteArray.empty))) ∧ w.heap.size < w'.heap.size ∧ Below w.heap.size w w'
theorem split_to (s : ByteArray) (c : UInt8) (hs : s.size ≤ 1048576) (m : Int) (w : World) (hm : w.cell? ⟨YtgipnbeipfhekaaGreatDoor.lays146_ren.g 1, 0, none⟩ = some (.int .i64 m)) : Calls Tryz.prog 44 #[.string s, .string ⟨#[c]⟩] w (SplRet (cutR c s.data.toList) (cutR c s.data.toList).length w) := by
 have et : YtgipnbeipfhekaaGreatDoor.lays146_ren.t 9 = 9 := by kernel_rfl
 refine (Any.strings_Split YtgipnbeipfhekaaGreatDoor.lays146 (by rw [et]; exact infoT) s ⟨#[c]⟩ m w (by omega) hm (Nat.le_refl 1)).mono ?_
 rintro e w' ⟨rfl, rfl⟩
 rw [et, splitB_cut]
 have hl := Lib.splitB_all ⟨#[c]⟩ (Nat.le_refl 1) 0 (Lib.countB s ⟨#[c]⟩) s rfl
 rw [splitB_cut, txs_len] at hl
 refine ⟨by rw [hl], fun i hi => ?_, by simp, (Below.refl _ _).alloc (Nat.le_refl _) _⟩
 have hcell : (w.alloc (.cells ((txs (cutR c s.data.toList)).map Value.string).toArray 9)).heap[w.heap.size]? = some (.cells ((txs (cutR c s.data.toList)).map Value.string).toArray 9 (0, 0)) := by
  show (w.heap.push _)[w.heap.size]? = _
  simp
 rw [Lib.cell_of_heap hcell]
 simp [List.getD, hi]
theorem implRead_any (t : ByteArray) (hs : t.size ≤ 1048576) (w : World) (hp : Pow w.heap.size w) (he : Errs w.heap.size w) (hmx : MaxL w.heap.size w) : Calls Tryz.prog 138 #[.string t] w (RdRet (rdO t.data.toList) w) := by
 obtain ⟨i0, hi, hz0, hz1, hz2⟩ := info_parts infoI
 obtain ⟨W1, hW1⟩ : ∃ W1, W1 = w.alloc (.cells #[.int .i64 0, .int .i64 0, .int .i64 0, .int .i64 0, .int .i64 0, .int .i64 0, .int .i64 0] 29) := ⟨_, rfl⟩
 have hZ : W1.heap.size = w.heap.size + 1 := by rw [hW1]; simp
 have R1 : SBox W1 w.heap.size 0 0 0 0 0 0 0 := by rw [hW1]; exact SBox.new _ _ _ _ _ _ _ _
 have B1 : Below w.heap.size w W1 := by rw [hW1]; exact (Below.refl _ _).alloc (Nat.le_refl _) _
 have hsz : t.data.toList.length = t.size := by rw [Array.length_toList]; rfl
 obtain ⟨mx, hgm, hcm⟩ := hmx.on B1
 have HC := J (split_to t 58 hs mx W1 hcm)
 have HP0 := J hp
 have HE0 := J he
 clear hp he hmx hgm hcm
 have hcl := cutR_len 58 _ t.data.toList (Nat.le_refl _)
 have HRes : Hid (rdO t.data.toList = rdO t.data.toList) := J rfl
 obtain ⟨RR, hRR⟩ : ∃ RR, rdO t.data.toList = RR := ⟨_, rfl⟩
 have HB := J (fun h => hRR.symm.trans (rdO_bad (l := t.data.toList) h))
 have HNn := J (fun h h2 => hRR.symm.trans (rdO_none (l := t.data.toList) h h2))
 have HSm := J (fun tt h h2 => hRR.symm.trans (rdO_some (l := t.data.toList) (t := tt) h h2))
 rw [hRR]
 obtain ⟨ws, hws⟩ : ∃ ws, cutR 58 t.data.toList = ws := ⟨_, rfl⟩
 unfold SplRet at HC
 rw [hws] at HC HB HNn HSm hcl
 obtain ⟨hn1, hn2, hw3⟩ := hcl
 rw [hsz] at hn2 hw3
 obtain ⟨r, hr⟩ : ∃ r, ws.length = r + 1 := ⟨ws.length - 1, by omega⟩
 rw [hr] at HC
 have HLR := J hr
 have hr2 : r ≤ 1048577 := by omega
 have HL : Hid (∀ k, k < ws.length → (tx (ws.getD k [])).size ≤ 1048576) := J fun k hk => by
  rw [size_tx]
  have := hw3 (ws.getD k []) (by rw [List.getD_eq_getElem?_getD, List.getElem?_eq_getElem hk]; exact List.getElem_mem hk)
  omega
 have HW := J hW1
 have HR1 := J R1
 have HB1 := J B1
 have HZ := J hZ
 have hZle : w.heap.size < W1.heap.size := by omega
 clear hW1 R1 B1 hRR hws hw3 hsz HRes hr hZ
 go_enter Tryz.func138, Tryz.ntmps138
 go_wp2_with fail
 rw [← HW.out]
 refine HC.out.mono ?_
 rintro e w1 ⟨rfl, hrd, hbb0, hb1⟩
 have hs1 := hb1.size
 have HRd := J hrd
 have BB := J (HB1.out.trans (hb1.mono HB1.out.size))
 have HS1 := J (HR1.out.below hb1 HR1.out.lt)
 have HB0 := J hbb0
 clear hbb0
 have hwB : w.heap.size ≤ w1.heap.size := by have := HZ.out; omega
 have H0 : Hid (RlTo ws w1.heap.size w.heap.size w1 (.slice (some ⟨w1.heap.size, 0, none⟩) 0 0) 1 (w1.alloc (.cells #[] 2))) := J (by
  have q2 : OwnI (w1.alloc (.cells #[] 2)) w1.heap.size (.slice (some ⟨w1.heap.size, 0, none⟩) 0 0) [] := own_lit (B := w1.heap.size) w1 (Nat.le_refl _) [] (by simp)
  have bx := (Below.refl w1.heap.size w1).alloc (Nat.le_refl _) (.cells #[] 2)
  exact ⟨Nat.le_refl _, hn1, by simp, J (by intro x hx; simp at hx), J (by simpa [nsOf] using q2), J (HS1.out.below bx HS1.out.lt), J bx⟩)
 clear hrd hb1 hn2 hn1
 rcases Nat.eq_zero_or_pos r with hr0 | hr0
 ·subst hr0
  have hd0 : ws.drop 1 = [] := List.drop_of_length_le (by rw [HLR.out]; exact Nat.le_refl _)
  have HOk : okW (ws.drop 1) := by rw [hd0]; intro x hx; cases hx
  have HN2 := HNn.out HOk
  have hns : nsOf (ws.drop 1) = [] := by rw [hd0]; rfl
  rw [hns] at HN2
  have hw0 : 0 < ws.length := by rw [HLR.out]; exact Nat.zero_lt_one
  have g0 := HRd.out 0 (by rw [txs_len]; exact hw0)
  rw [txs_get ws 0 hw0] at g0
  obtain ⟨E, hE⟩ : ∃ E, ws.getD 0 [] = E := ⟨_, rfl⟩
  rw [hE] at g0 HN2
  have HNo : Hid (RR = none) := J (HN2 (by unfold stO; rw [if_neg (by rintro ⟨_, h⟩; cases h), if_neg (by rintro ⟨_, h⟩; cases h)]))
  have ba : Below w1.heap.size w1 (w1.alloc (.cells #[] 2)) := (Below.refl _ _).alloc (Nat.le_refl _) _
  obtain ⟨wr, hwr⟩ : ∃ wr, wr = w1.alloc (.cells #[] 2) := ⟨_, rfl⟩
  rw [← hwr] at ba
  have hsr := ba.size
  have BBr := J (BB.out.trans (ba.mono BB.out.size))
  have bx : Below wr.heap.size wr (wr.alloc (.cells #[.int .i64 0, .int .i64 0, .int .i64 0, .int .i64 0, .int .i64 0, .int .i64 0, .int .i64 0] 29)) := (Below.refl _ _).alloc (Nat.le_refl _) _
  have hbb := HB0.out
  have g1 := (bx.cell (p := ⟨W1.heap.size, 0, none⟩) (show W1.heap.size < wr.heap.size by omega)).trans ((ba.cell (p := ⟨W1.heap.size, 0, none⟩) hbb).trans g0)
  have zx := (HS1.out.below ba HS1.out.lt).below bx (Nat.lt_of_lt_of_le HS1.out.lt hsr)
  have hbeR : ((tx E).toList == [114]) = decide (E = [114]) := by
   rw [ByteArray.toList_eq, list_tx]
   by_cases h : E = [114] <;> simp [h]
  have hbeC : ((tx E).toList == [99]) = decide (E = [99]) := by
   rw [ByteArray.toList_eq, list_tx]
   by_cases h : E = [99] <;> simp [h]
  have hcond : (E = [114] ∧ True) ∨ (E = [99] ∧ True) ∨ (E ≠ [114] ∧ E ≠ [99]) := by
   by_cases h1 : E = [114]
   ·exact .inl ⟨h1, trivial⟩
   ·by_cases h2 : E = [99]
    ·exact .inr (.inl ⟨h2, trivial⟩)
    ·exact .inr (.inr ⟨h1, h2⟩)
  obtain ⟨T, hT⟩ : ∃ T, tx E = T := ⟨_, rfl⟩
  rw [hT] at g0 g1 hbeR hbeC
  have hA := 0
  have hC := 0
  have HWr := J hwr
  clear hT hE hns HN2 HOk hd0 H0 hwr
  go_wp2
  rw [← HWr.out]
  go_loopw [5, 17] (fun v iv w5 => v = .slice (some ⟨w1.heap.size, 0, none⟩) 0 0 ∧ iv = .int .i64 0 ∧ w5 = wr) (fun _ _ _ => 0)
  case atStart => exact ⟨rfl, rfl, rfl⟩
  case round =>
   obtain ⟨rfl, rfl, rfl⟩ := hrel
   go_upto_region 13 with (fail)
   obtain ⟨W5, hW5⟩ : ∃ W5, W5 = wr.alloc (.cells #[.int .i64 0, .int .i64 0, .int .i64 0, .int .i64 0, .int .i64 0, .int .i64 0, .int .i64 0] 29) := ⟨_, rfl⟩
   rw [← hW5] at bx zx g1 ⊢
   clear hW5
   have BB7 := J (BBr.out.trans (bx.mono BBr.out.size))
   have RZ := zx
   have d0 := (RZ).c0; have d1 := (RZ).c1; have d2 := (RZ).c2; have d3 := (RZ).c3; have d4 := (RZ).c4; have d5 := (RZ).c5; have d6 := (RZ).c6
   have zf0 := (RZ).frz 0; have zf1 := (RZ).frz 1; have zf2 := (RZ).frz 2; have zf3 := (RZ).frz 3; have zf4 := (RZ).frz 4; have zf5 := (RZ).frz 5; have zf6 := (RZ).frz 6
   have S8 := RZ.set7 0 0 0 0 0 0 0
   have p0 := (S8).c0; have p1 := (S8).c1; have p2 := (S8).c2; have p3 := (S8).c3; have p4 := (S8).c4; have p5 := (S8).c5; have p6 := (S8).c6
   simp only [set7] at p0 p1 p2 p3 p4 p5 p6
   have HBN := J (below7 (b := w.heap.size) BB7.out (Nat.le_refl _) BB7.out.size 0 0 0 0 0 0 0)
   clear S8 RZ bx zx hA hC
   rcases hcond with ⟨h1, h2⟩ | ⟨h1, h2⟩ | ⟨h1, h2⟩
   ·rw [decide_eq_true h1] at hbeR
    rw [decide_eq_false (by rw [h1]; decide)] at hbeC
    clear h1
    go_wp2
    exact bodyPost_ret (v := .tuple #[.agg #[.int .i64 0, .int .i64 0, .int .i64 0, .int .i64 0, .int .i64 0, .int .i64 0, .int .i64 0], .bool false]) (by simp [results, Tryz.results138, go_sem, p0, p1, p2, p3, p4, p5, p6]) rfl (RdRet.no HNo.out rfl HBN.out)
   ·rw [decide_eq_true h1] at hbeC
    rw [decide_eq_false (by rw [h1]; decide)] at hbeR
    clear h1
    go_wp2
    exact bodyPost_ret (v := .tuple #[.agg #[.int .i64 0, .int .i64 0, .int .i64 0, .int .i64 0, .int .i64 0, .int .i64 0, .int .i64 0], .bool false]) (by simp [results, Tryz.results138, go_sem, p0, p1, p2, p3, p4, p5, p6]) rfl (RdRet.no HNo.out rfl HBN.out)
   ·rw [decide_eq_false h1] at hbeR
    rw [decide_eq_false h2] at hbeC
    clear h1 h2
    go_wp2
    exact bodyPost_ret (v := .tuple #[.agg #[.int .i64 0, .int .i64 0, .int .i64 0, .int .i64 0, .int .i64 0, .int .i64 0, .int .i64 0], .bool false]) (by simp [results, Tryz.results138, go_sem, p0, p1, p2, p3, p4, p5, p6]) rfl (RdRet.no HNo.out rfl HBN.out)
 go_wp2
 go_loopw [5, 17] (fun v iv wr => ∃ j : Nat, iv = .int .i64 (j : Int) ∧ RlTo ws w1.heap.size w.heap.size w1 v (j + 1) wr) (fun _ iv _ => r - (intOf iv).toNat)
 case atStart => exact ⟨0, rfl, H0.out⟩
 case round =>
  obtain ⟨j, rfl, hk1, hk2, hBw, HOk, HO, HSz, HBl⟩ := hrel
  clear H0
  have hjr : j ≤ r := by have := HLR.out; omega
  have hbB : W1.heap.size < w1.heap.size := HB0.out
  have hbw : W1.heap.size < wr.heap.size := by omega
  have BBr := J (BB.out.trans (HBl.out.mono hwB))
  by_cases hlr : j < r
  ·have hlt : j + 1 < ws.length := by have := HLR.out; omega
   have g0 := (HBl.out.cell (p := ⟨W1.heap.size, j + 1, none⟩) hbB).trans (HRd.out (j + 1) (by rw [txs_len]; exact hlt))
   rw [txs_get ws (j + 1) hlt, Nat.add_comm j 1] at g0
   have HRel : Hid (RlTo ws w1.heap.size w.heap.size w1 u5 (j + 1) wr) := J ⟨hk1, hk2, hBw, HOk, HO, HSz, HBl⟩
   have HVl := J (readDec_any (tx (ws.getD (j + 1) [])) (HL.out (j + 1) hlt) w.heap.size wr (HP0.out.on BBr.out) (HE0.out.on BBr.out) BBr.out.size)
   rw [Nat.add_comm j 1] at HVl
   simp only at HVl
   have HMem : Hid (ws.getD (1 + j) [] ∈ ws.drop 1) := J (by
    have hlt' : 1 + j < ws.length := by omega
    rw [List.getD_eq_getElem?_getD, List.getElem?_eq_getElem hlt']
    have : (ws.drop 1)[j]? = some (ws[1 + j]'hlt') := by rw [List.getElem?_drop, List.getElem?_eq_getElem hlt']
    exact List.mem_of_getElem? this)
   obtain ⟨E, hE⟩ : ∃ E, ws.getD (1 + j) [] = E := ⟨_, rfl⟩
   have HNx := J (fun n w2 w3 v' o => RlTo.next (n := n) (w2 := w2) (w3 := w3) (v' := v') (o := o) HRel.out hlt (Nat.le_refl _))
   rw [Nat.add_comm j 1] at HNx
   rw [hE] at g0 HVl HMem HNx
   clear hE
   obtain ⟨T, hT⟩ : ∃ T, tx E = T := ⟨_, rfl⟩
   rw [hT] at g0 HVl
   clear hT
   go_wp2_with fail
   refine HVl.out.mono ?_
   rintro e w2 ⟨v, bb, rfl, hv1, hv2, hb2⟩
   cases bb with
   | false =>
    obtain ⟨rfl, hno⟩ := hv2 rfl
    have HNo : Hid (RR = none) := J (HB.out fun h => by
     obtain ⟨x, hx⟩ := h E HMem.out
     rw [valO_no hno] at hx
     cases hx)
    have RZ := HSz.out.below hb2 HSz.out.lt
    have BB2 := J (BB.out.trans ((HBl.out.trans (hb2.mono hBw)).mono hwB))
    clear hv1 hv2 hno hb2
    have d0 := (RZ).c0; have d1 := (RZ).c1; have d2 := (RZ).c2; have d3 := (RZ).c3; have d4 := (RZ).c4; have d5 := (RZ).c5; have d6 := (RZ).c6
    have zf0 := (RZ).frz 0; have zf1 := (RZ).frz 1; have zf2 := (RZ).frz 2; have zf3 := (RZ).frz 3; have zf4 := (RZ).frz 4; have zf5 := (RZ).frz 5; have zf6 := (RZ).frz 6
    have S8 := RZ.set7 0 0 0 0 0 0 0
    have p0 := (S8).c0; have p1 := (S8).c1; have p2 := (S8).c2; have p3 := (S8).c3; have p4 := (S8).c4; have p5 := (S8).c5; have p6 := (S8).c6
    simp only [set7] at p0 p1 p2 p3 p4 p5 p6
    have HBN := J (below7 (b := w.heap.size) BB2.out (Nat.le_refl _) BB2.out.size 0 0 0 0 0 0 0)
    clear S8 RZ
    go_wp2
    exact bodyPost_ret (v := .tuple #[.agg #[.int .i64 0, .int .i64 0, .int .i64 0, .int .i64 0, .int .i64 0, .int .i64 0, .int .i64 0], .bool false]) (by simp [results, Tryz.results138, go_sem, p0, p1, p2, p3, p4, p5, p6]) rfl (RdRet.no HNo.out rfl HBN.out)
   | true =>
    have hvo := valO_yes (hv1 rfl)
    have HN2 := J (fun w3 v' o => HNx.out v w2 w3 v' o hvo hb2)
    have hown := HO.out.below hb2
    have HOw := J (ownsRow_below hown ((Below.refl w2.heap.size w2).alloc (Nat.le_refl _) (.cells #[.int .i64 v] 2)))
    have hs2 := hb2.size
    have hlen : (nsOf ((ws.drop 1).take (1 + j - 1))).length ≤ 1048577 := by rw [nsOf_len, List.length_take, List.length_drop]; omega
    clear hv1 hv2 hvo hb2 hown
    rw [show j + 1 - 1 = 1 + j - 1 by omega] at HOw
    generalize nsOf ((ws.drop 1).take (1 + j - 1)) = xs at HOw HN2 hlen
    go_wp2_with (at_builtin; refine wpList_append_own_at _ rfl (.tmp 29) (.tmp 31) 43 rfl w1.heap.size 2 i0 (.int .i64 0) 1 8 Tryz.underlying43 hi hz0 hz1 hz2 rfl (by decide) _ _ _ rfl HOw.out ⟨w2.heap.size, 0, none⟩ 1 1 [.int .i64 v] rfl rfl ?p1a ?p2a ?p3a ?p4a ?p5a ?_)
    try case p1a => exact news_one _ _ _ (by simp)
    try case p2a => first | exact one_int | rfl | simp
    try case p3a => first | (simp only [maxLen]; omega) | omega
    try case p4a => omega
    try case p5a => first | (simp only [World.size_alloc]; omega) | omega
    intro v' w3 hown' hg' _ he
    have HN3 := J (HN2.out w3 v' (.cells #[.int .i64 v] 2) hown' hg')
    clear hown' hg' he
    go_wp2_with fail
    go_roundw
    case rel => exact ⟨j + 1, by go_num, by have := HN3.out; rw [show 1 + j + 1 = j + 1 + 1 by omega] at this; exact this⟩
    case measure => simp [intOf]; omega
  ·obtain rfl : j = r := by omega
   have hfull : (ws.drop 1).take (ws.length - 1) = ws.drop 1 := List.take_of_length_le (by rw [List.length_drop]; exact Nat.le_refl _)
   rw [show j + 1 - 1 = ws.length - 1 by have := HLR.out; omega, hfull] at HOk HO
   have hxl : (nsOf (ws.drop 1)).length = ws.length - 1 := by rw [nsOf_len, List.length_drop]
   have HS2 := J (fun tt => HSm.out tt HOk.out)
   have HN2 := J (HNn.out HOk.out)
   have hw0 : 0 < ws.length := by have := HLR.out; omega
   have g0 := (HBl.out.cell (p := ⟨W1.heap.size, 0, none⟩) hbB).trans (HRd.out 0 (by rw [txs_len]; exact hw0))
   rw [txs_get ws 0 hw0] at g0
   obtain ⟨E, hE⟩ : ∃ E, ws.getD 0 [] = E := ⟨_, rfl⟩
   obtain ⟨xs, hxs⟩ : ∃ xs, nsOf (ws.drop 1) = xs := ⟨_, rfl⟩
   rw [hE, hxs] at HS2 HN2
   rw [hE] at g0
   rw [hxs] at HO hxl
   have HXl := J hxl
   clear hxl
   obtain ⟨A5, c5, e5, _⟩ := HO.out.form
   subst e5
   have HRx := J HO.out.rd
   have bx : Below wr.heap.size wr (wr.alloc (.cells #[.int .i64 0, .int .i64 0, .int .i64 0, .int .i64 0, .int .i64 0, .int .i64 0, .int .i64 0] 29)) := (Below.refl _ _).alloc (Nat.le_refl _) _
   have nx := SBox.new wr 0 0 0 0 0 0 0
   have g1 := (bx.cell (p := ⟨W1.heap.size, 0, none⟩) hbw).trans g0
   have zx := HSz.out.below bx HSz.out.lt
   have hzlt := HSz.out.lt
   clear hE hxs hfull HSm HNn HOk HO HB
   have x0 := (nx).c0; have x1 := (nx).c1; have x2 := (nx).c2; have x3 := (nx).c3; have x4 := (nx).c4; have x5 := (nx).c5; have x6 := (nx).c6
   have y0 := (nx).frz 0; have y1 := (nx).frz 1; have y2 := (nx).frz 2; have y3 := (nx).frz 3; have y4 := (nx).frz 4; have y5 := (nx).frz 5; have y6 := (nx).frz 6
   have hbeR : ((tx E).toList == [114]) = decide (E = [114]) := by
    rw [ByteArray.toList_eq, list_tx]
    by_cases h : E = [114] <;> simp [h]
   have hbeC : ((tx E).toList == [99]) = decide (E = [99]) := by
    rw [ByteArray.toList_eq, list_tx]
    by_cases h : E = [99] <;> simp [h]
   obtain ⟨T, hT⟩ : ∃ T, tx E = T := ⟨_, rfl⟩
   rw [hT] at g0 g1 hbeR hbeC
   clear hT
   by_cases hA : E = [114] ∧ xs.length = 3
   ·obtain ⟨hE1, hx3⟩ := hA
    rw [decide_eq_true hE1] at hbeR
    rw [decide_eq_false (by rw [hE1]; decide)] at hbeC
    have HS3 := J (fun t h => HS2.out t h)
    obtain ⟨x0', x1', x2', rfl⟩ : ∃ a b c, xs = [a, b, c] := by
     match xs, hx3 with
     | [a, b, c], _ => exact ⟨a, b, c, rfl⟩
    obtain ⟨b5, o5, rfl, hb5, hc5⟩ := HRx.out (by simp)
    have l0 := (bx.cell (p := ⟨b5, o5 + 0, none⟩) hb5).trans (hc5 0 (by simp))
    have l1 := (bx.cell (p := ⟨b5, o5 + 1, none⟩) hb5).trans (hc5 1 (by simp))
    have l2 := (bx.cell (p := ⟨b5, o5 + 2, none⟩) hb5).trans (hc5 2 (by simp))
    simp only [List.getD_cons_zero, List.getD_cons_succ, Nat.add_zero] at l0 l1 l2
    clear hc5
    have HFin : Hid ((streamB 0 x0' x1' 0 0 0 x2' = true → RR = some (0, x0', x1', 0, 0, 0, x2')) ∧ (streamB 0 x0' x1' 0 0 0 x2' = false → RR = none)) := J (by
     have h1 := HS3.out (0, x0', x1', 0, 0, 0, x2') (by unfold stO; rw [if_pos ⟨hE1, rfl⟩]; rfl)
     refine ⟨fun h => ?_, fun h => ?_⟩
     ·rw [h1, if_pos (show validS (0, x0', x1', 0, 0, 0, x2') = true from h)]
     ·rw [h1, if_neg (by rw [show validS (0, x0', x1', 0, 0, 0, x2') = false from h]; decide)])
    clear HS3 HS2 HN2 HXl HRx
    go_wp2
    obtain ⟨W5, hW5⟩ : ∃ W5, W5 = wr.alloc (.cells #[.int .i64 0, .int .i64 0, .int .i64 0, .int .i64 0, .int .i64 0, .int .i64 0, .int .i64 0] 29) := ⟨_, rfl⟩
    rw [← hW5] at bx nx g1 zx x0 x1 x2 x3 x4 x5 x6 y0 y1 y2 y3 y4 y5 y6 l0 l1 l2 ⊢
    have mixed : Tryz.prog.follows .mixedOrders = true := by kernel_rfl
    have H5 := J hW5
    clear hW5 g0
    go_region_o
    all_goals
     obtain ⟨W6, hW6⟩ : ∃ W6, W6 = (set7 W5 wr.heap.size 0 x0' x1' 0 0 0 x2').drew := ⟨_, rfl⟩
     have bd : Below (set7 W5 wr.heap.size 0 x0' x1' 0 0 0 x2').heap.size (set7 W5 wr.heap.size 0 x0' x1' 0 0 0 x2') W6 := by rw [hW6]; exact (Below.refl _ _).drew
     have hs7 := (grown_set7 W5 wr.heap.size 0 x0' x1' 0 0 0 x2').size
     have N6 : SBox W6 wr.heap.size 0 x0' x1' 0 0 0 x2' := (nx.set7 0 x0' x1' 0 0 0 x2').below bd (nx.set7 0 x0' x1' 0 0 0 x2').lt
     have Z6 : SBox W6 w.heap.size 0 0 0 0 0 0 0 := (zx.kept (grown_set7 W5 wr.heap.size 0 x0' x1' 0 0 0 x2') (fun e => by injection e with e; omega)).below bd (Nat.lt_of_lt_of_le zx.lt hs7)
     have B6 : Below w.heap.size w W6 := (below7 (b := wr.heap.size) (BBr.out.trans (bx.mono BBr.out.size)) BBr.out.size (Nat.le_trans BBr.out.size bx.size) 0 x0' x1' 0 0 0 x2').trans (bd.mono (Nat.le_trans (Nat.le_trans BBr.out.size bx.size) hs7))
     have g6 : W6.cell? ⟨W1.heap.size, 0, none⟩ = some (.string T) := (bd.cell (p := ⟨W1.heap.size, 0, none⟩) (by have := bx.size; show W1.heap.size < _; omega)).trans (cell_set7 g1 (by omega) 0 x0' x1' 0 0 0 x2')
     unfold Take.set7 at hW6
     rw [← hW6]
     clear hW6 bd hs7 bx nx zx
     have hW6' := 0
     clear hW6'
     have HI := J (validStream_any 0 x0' x1' 0 0 0 x2' W6)
     have HN6 := J N6
     have HZ6 := J Z6
     have HB6 := J B6
     clear N6 Z6 B6
     have n0 := (HN6.out).c0; have n1 := (HN6.out).c1; have n2 := (HN6.out).c2; have n3 := (HN6.out).c3; have n4 := (HN6.out).c4; have n5 := (HN6.out).c5; have n6 := (HN6.out).c6
     cases hB : streamB 0 x0' x1' 0 0 0 x2' with
     | false =>
      rw [hB] at HI
      have HNo := J (HFin.out.2 hB)
      clear hB
      go_wp2_with fail
      refine HI.out.mono ?_
      rintro e w7 ⟨rfl, b7⟩
      have RZ := HZ6.out.below b7 HZ6.out.lt
      have BB7 := J (HB6.out.trans (b7.mono HB6.out.size))
      clear b7 n0 n1 n2 n3 n4 n5 n6
      have d0 := (RZ).c0; have d1 := (RZ).c1; have d2 := (RZ).c2; have d3 := (RZ).c3; have d4 := (RZ).c4; have d5 := (RZ).c5; have d6 := (RZ).c6
      have zf0 := (RZ).frz 0; have zf1 := (RZ).frz 1; have zf2 := (RZ).frz 2; have zf3 := (RZ).frz 3; have zf4 := (RZ).frz 4; have zf5 := (RZ).frz 5; have zf6 := (RZ).frz 6
      have S8 := RZ.set7 0 0 0 0 0 0 0
      have p0 := (S8).c0; have p1 := (S8).c1; have p2 := (S8).c2; have p3 := (S8).c3; have p4 := (S8).c4; have p5 := (S8).c5; have p6 := (S8).c6
      simp only [set7] at p0 p1 p2 p3 p4 p5 p6
      have HBN := J (below7 (b := w.heap.size) BB7.out (Nat.le_refl _) BB7.out.size 0 0 0 0 0 0 0)
      clear S8 RZ
      go_wp2
      exact bodyPost_ret (v := .tuple #[.agg #[.int .i64 0, .int .i64 0, .int .i64 0, .int .i64 0, .int .i64 0, .int .i64 0, .int .i64 0], .bool false]) (by simp [results, Tryz.results138, go_sem, p0, p1, p2, p3, p4, p5, p6]) rfl (RdRet.no HNo.out rfl HBN.out)
     | true =>
      rw [hB] at HI
      have HYs := J (HFin.out.1 hB)
      have HBt := J hB
      clear hB
      go_wp2_with fail
      refine HI.out.mono ?_
      rintro e w7 ⟨rfl, b7⟩
      have RZ := HZ6.out.below b7 HZ6.out.lt
      have NX := HN6.out.below b7 HN6.out.lt
      have BB7 := J (HB6.out.trans (b7.mono HB6.out.size))
      clear b7 n0 n1 n2 n3 n4 n5 n6
      have m0 := (NX).c0; have m1 := (NX).c1; have m2 := (NX).c2; have m3 := (NX).c3; have m4 := (NX).c4; have m5 := (NX).c5; have m6 := (NX).c6
      have d0 := (RZ).c0; have d1 := (RZ).c1; have d2 := (RZ).c2; have d3 := (RZ).c3; have d4 := (RZ).c4; have d5 := (RZ).c5; have d6 := (RZ).c6
      have zf0 := (RZ).frz 0; have zf1 := (RZ).frz 1; have zf2 := (RZ).frz 2; have zf3 := (RZ).frz 3; have zf4 := (RZ).frz 4; have zf5 := (RZ).frz 5; have zf6 := (RZ).frz 6
      have S8 := RZ.set7 0 x0' x1' 0 0 0 x2'
      have p0 := (S8).c0; have p1 := (S8).c1; have p2 := (S8).c2; have p3 := (S8).c3; have p4 := (S8).c4; have p5 := (S8).c5; have p6 := (S8).c6
      simp only [set7] at p0 p1 p2 p3 p4 p5 p6
      have HBN := J (below7 (b := w.heap.size) BB7.out (Nat.le_refl _) BB7.out.size 0 x0' x1' 0 0 0 x2')
      clear S8 RZ NX
      go_wp2
      exact bodyPost_ret (v := .tuple #[.agg #[.int .i64 0, .int .i64 x0', .int .i64 x1', .int .i64 0, .int .i64 0, .int .i64 0, .int .i64 x2'], .bool true]) (by simp [results, Tryz.results138, go_sem, p0, p1, p2, p3, p4, p5, p6]) rfl (RdRet.yes HYs.out HBt.out rfl HBN.out)
   ·by_cases hC : E = [99] ∧ xs.length = 4
    ·obtain ⟨hE1, hx3⟩ := hC
     rw [decide_eq_true hE1] at hbeC
     rw [decide_eq_false (by rw [hE1]; decide)] at hbeR
     have HS3 := J (fun t h => HS2.out t h)
     obtain ⟨x0', x1', x2', x3', rfl⟩ : ∃ a b c d, xs = [a, b, c, d] := by
      match xs, hx3 with
      | [a, b, c, d], _ => exact ⟨a, b, c, d, rfl⟩
     obtain ⟨b5, o5, rfl, hb5, hc5⟩ := HRx.out (by simp)
     have l0 := (bx.cell (p := ⟨b5, o5 + 0, none⟩) hb5).trans (hc5 0 (by simp))
     have l1 := (bx.cell (p := ⟨b5, o5 + 1, none⟩) hb5).trans (hc5 1 (by simp))
     have l2 := (bx.cell (p := ⟨b5, o5 + 2, none⟩) hb5).trans (hc5 2 (by simp))
     have l3 := (bx.cell (p := ⟨b5, o5 + 3, none⟩) hb5).trans (hc5 3 (by simp))
     simp only [List.getD_cons_zero, List.getD_cons_succ, Nat.add_zero] at l0 l1 l2 l3
     clear hc5
     have HFin : Hid ((streamB 1 0 0 x0' x1' x2' x3' = true → RR = some (1, 0, 0, x0', x1', x2', x3')) ∧ (streamB 1 0 0 x0' x1' x2' x3' = false → RR = none)) := J (by
      have h1 := HS3.out (1, 0, 0, x0', x1', x2', x3') (by unfold stO; rw [if_neg (by rw [hE1]; simp), if_pos ⟨hE1, rfl⟩]; rfl)
      refine ⟨fun h => ?_, fun h => ?_⟩
      ·rw [h1, if_pos (show validS (1, 0, 0, x0', x1', x2', x3') = true from h)]
      ·rw [h1, if_neg (by rw [show validS (1, 0, 0, x0', x1', x2', x3') = false from h]; decide)])
     clear HS3 HS2 HN2 HXl HRx
     go_wp2
     obtain ⟨W5, hW5⟩ : ∃ W5, W5 = wr.alloc (.cells #[.int .i64 0, .int .i64 0, .int .i64 0, .int .i64 0, .int .i64 0, .int .i64 0, .int .i64 0] 29) := ⟨_, rfl⟩
     rw [← hW5] at bx nx g1 zx x0 x1 x2 x3 x4 x5 x6 y0 y1 y2 y3 y4 y5 y6 l0 l1 l2 l3 ⊢
     have mixed : Tryz.prog.follows .mixedOrders = true := by kernel_rfl
     have H5 := J hW5
     clear hW5 g0
     go_region_o
     all_goals
      obtain ⟨W6, hW6⟩ : ∃ W6, W6 = (set7 W5 wr.heap.size 1 0 0 x0' x1' x2' x3').drew := ⟨_, rfl⟩
      have bd : Below (set7 W5 wr.heap.size 1 0 0 x0' x1' x2' x3').heap.size (set7 W5 wr.heap.size 1 0 0 x0' x1' x2' x3') W6 := by rw [hW6]; exact (Below.refl _ _).drew
      have hs7 := (grown_set7 W5 wr.heap.size 1 0 0 x0' x1' x2' x3').size
      have N6 : SBox W6 wr.heap.size 1 0 0 x0' x1' x2' x3' := (nx.set7 1 0 0 x0' x1' x2' x3').below bd (nx.set7 1 0 0 x0' x1' x2' x3').lt
      have Z6 : SBox W6 w.heap.size 0 0 0 0 0 0 0 := (zx.kept (grown_set7 W5 wr.heap.size 1 0 0 x0' x1' x2' x3') (fun e => by injection e with e; omega)).below bd (Nat.lt_of_lt_of_le zx.lt hs7)
      have B6 : Below w.heap.size w W6 := (below7 (b := wr.heap.size) (BBr.out.trans (bx.mono BBr.out.size)) BBr.out.size (Nat.le_trans BBr.out.size bx.size) 1 0 0 x0' x1' x2' x3').trans (bd.mono (Nat.le_trans (Nat.le_trans BBr.out.size bx.size) hs7))
      have g6 : W6.cell? ⟨W1.heap.size, 0, none⟩ = some (.string T) := (bd.cell (p := ⟨W1.heap.size, 0, none⟩) (by have := bx.size; show W1.heap.size < _; omega)).trans (cell_set7 g1 (by omega) 1 0 0 x0' x1' x2' x3')
      unfold Take.set7 at hW6
      rw [← hW6]
      clear hW6 bd hs7 bx nx zx
      have hW6' := 0
      clear hW6'
      have HI := J (validStream_any 1 0 0 x0' x1' x2' x3' W6)
      have HN6 := J N6
      have HZ6 := J Z6
      have HB6 := J B6
      clear N6 Z6 B6
      have n0 := (HN6.out).c0; have n1 := (HN6.out).c1; have n2 := (HN6.out).c2; have n3 := (HN6.out).c3; have n4 := (HN6.out).c4; have n5 := (HN6.out).c5; have n6 := (HN6.out).c6
      cases hB : streamB 1 0 0 x0' x1' x2' x3' with
      | false =>
       rw [hB] at HI
       have HNo := J (HFin.out.2 hB)
       clear hB
       go_wp2_with fail
       refine HI.out.mono ?_
       rintro e w7 ⟨rfl, b7⟩
       have RZ := HZ6.out.below b7 HZ6.out.lt
       have BB7 := J (HB6.out.trans (b7.mono HB6.out.size))
       clear b7 n0 n1 n2 n3 n4 n5 n6
       have d0 := (RZ).c0; have d1 := (RZ).c1; have d2 := (RZ).c2; have d3 := (RZ).c3; have d4 := (RZ).c4; have d5 := (RZ).c5; have d6 := (RZ).c6
       have zf0 := (RZ).frz 0; have zf1 := (RZ).frz 1; have zf2 := (RZ).frz 2; have zf3 := (RZ).frz 3; have zf4 := (RZ).frz 4; have zf5 := (RZ).frz 5; have zf6 := (RZ).frz 6
       have S8 := RZ.set7 0 0 0 0 0 0 0
       have p0 := (S8).c0; have p1 := (S8).c1; have p2 := (S8).c2; have p3 := (S8).c3; have p4 := (S8).c4; have p5 := (S8).c5; have p6 := (S8).c6
       simp only [set7] at p0 p1 p2 p3 p4 p5 p6
       have HBN := J (below7 (b := w.heap.size) BB7.out (Nat.le_refl _) BB7.out.size 0 0 0 0 0 0 0)
       clear S8 RZ
       go_wp2
       exact bodyPost_ret (v := .tuple #[.agg #[.int .i64 0, .int .i64 0, .int .i64 0, .int .i64 0, .int .i64 0, .int .i64 0, .int .i64 0], .bool false]) (by simp [results, Tryz.results138, go_sem, p0, p1, p2, p3, p4, p5, p6]) rfl (RdRet.no HNo.out rfl HBN.out)
      | true =>
       rw [hB] at HI
       have HYs := J (HFin.out.1 hB)
       have HBt := J hB
       clear hB
       go_wp2_with fail
       refine HI.out.mono ?_
       rintro e w7 ⟨rfl, b7⟩
       have RZ := HZ6.out.below b7 HZ6.out.lt
       have NX := HN6.out.below b7 HN6.out.lt
       have BB7 := J (HB6.out.trans (b7.mono HB6.out.size))
       clear b7 n0 n1 n2 n3 n4 n5 n6
       have m0 := (NX).c0; have m1 := (NX).c1; have m2 := (NX).c2; have m3 := (NX).c3; have m4 := (NX).c4; have m5 := (NX).c5; have m6 := (NX).c6
       have d0 := (RZ).c0; have d1 := (RZ).c1; have d2 := (RZ).c2; have d3 := (RZ).c3; have d4 := (RZ).c4; have d5 := (RZ).c5; have d6 := (RZ).c6
       have zf0 := (RZ).frz 0; have zf1 := (RZ).frz 1; have zf2 := (RZ).frz 2; have zf3 := (RZ).frz 3; have zf4 := (RZ).frz 4; have zf5 := (RZ).frz 5; have zf6 := (RZ).frz 6
       have S8 := RZ.set7 1 0 0 x0' x1' x2' x3'
       have p0 := (S8).c0; have p1 := (S8).c1; have p2 := (S8).c2; have p3 := (S8).c3; have p4 := (S8).c4; have p5 := (S8).c5; have p6 := (S8).c6
       simp only [set7] at p0 p1 p2 p3 p4 p5 p6
       have HBN := J (below7 (b := w.heap.size) BB7.out (Nat.le_refl _) BB7.out.size 1 0 0 x0' x1' x2' x3')
       clear S8 RZ NX
       go_wp2
       exact bodyPost_ret (v := .tuple #[.agg #[.int .i64 1, .int .i64 0, .int .i64 0, .int .i64 x0', .int .i64 x1', .int .i64 x2', .int .i64 x3'], .bool true]) (by simp [results, Tryz.results138, go_sem, p0, p1, p2, p3, p4, p5, p6]) rfl (RdRet.yes HYs.out HBt.out rfl HBN.out)
    ·have hcA := hA
     have HNo : Hid (RR = none) := J (HN2.out (by unfold stO; rw [if_neg hA, if_neg hC]))
     have hcond : (E = [114] ∧ xs.length ≠ 3) ∨ (E = [99] ∧ xs.length ≠ 4) ∨ (E ≠ [114] ∧ E ≠ [99]) := by
      by_cases h1 : E = [114]
      ·exact .inl ⟨h1, fun h => hA ⟨h1, h⟩⟩
      ·by_cases h2 : E = [99]
       ·exact .inr (.inl ⟨h2, fun h => hC ⟨h2, h⟩⟩)
       ·exact .inr (.inr ⟨h1, h2⟩)
     clear nx x0 x1 x2 x3 x4 x5 x6 y0 y1 y2 y3 y4 y5 y6
     go_upto_region 13 with (fail)
     obtain ⟨W5, hW5⟩ : ∃ W5, W5 = wr.alloc (.cells #[.int .i64 0, .int .i64 0, .int .i64 0, .int .i64 0, .int .i64 0, .int .i64 0, .int .i64 0] 29) := ⟨_, rfl⟩
     rw [← hW5] at bx zx g1 ⊢
     clear hW5
     have BB7 := J (BBr.out.trans (bx.mono BBr.out.size))
     have RZ := zx
     have d0 := (RZ).c0; have d1 := (RZ).c1; have d2 := (RZ).c2; have d3 := (RZ).c3; have d4 := (RZ).c4; have d5 := (RZ).c5; have d6 := (RZ).c6
     have zf0 := (RZ).frz 0; have zf1 := (RZ).frz 1; have zf2 := (RZ).frz 2; have zf3 := (RZ).frz 3; have zf4 := (RZ).frz 4; have zf5 := (RZ).frz 5; have zf6 := (RZ).frz 6
     have S8 := RZ.set7 0 0 0 0 0 0 0
     have p0 := (S8).c0; have p1 := (S8).c1; have p2 := (S8).c2; have p3 := (S8).c3; have p4 := (S8).c4; have p5 := (S8).c5; have p6 := (S8).c6
     simp only [set7] at p0 p1 p2 p3 p4 p5 p6
     have HBN := J (below7 (b := w.heap.size) BB7.out (Nat.le_refl _) BB7.out.size 0 0 0 0 0 0 0)
     clear S8 RZ bx zx hA hC HS2 HN2 HXl HRx
     generalize hxl : xs.length = L at *
     clear hxl
     rcases hcond with ⟨h1, h2⟩ | ⟨h1, h2⟩ | ⟨h1, h2⟩
     ·rw [decide_eq_true h1] at hbeR
      rw [decide_eq_false (by rw [h1]; decide)] at hbeC
      have hL : ((L : Int) == 3) = false := beq_eq_false_iff_ne.2 (by omega)
      clear h1
      go_wp2
      exact bodyPost_ret (v := .tuple #[.agg #[.int .i64 0, .int .i64 0, .int .i64 0, .int .i64 0, .int .i64 0, .int .i64 0, .int .i64 0], .bool false]) (by simp [results, Tryz.results138, go_sem, p0, p1, p2, p3, p4, p5, p6]) rfl (RdRet.no HNo.out rfl HBN.out)
     ·rw [decide_eq_true h1] at hbeC
      rw [decide_eq_false (by rw [h1]; decide)] at hbeR
      have hL : ((L : Int) == 4) = false := beq_eq_false_iff_ne.2 (by omega)
      clear h1
      go_wp2
      exact bodyPost_ret (v := .tuple #[.agg #[.int .i64 0, .int .i64 0, .int .i64 0, .int .i64 0, .int .i64 0, .int .i64 0, .int .i64 0], .bool false]) (by simp [results, Tryz.results138, go_sem, p0, p1, p2, p3, p4, p5, p6]) rfl (RdRet.no HNo.out rfl HBN.out)
     ·rw [decide_eq_false h1] at hbeR
      rw [decide_eq_false h2] at hbeC
      clear h1 h2
      go_wp2
      exact bodyPost_ret (v := .tuple #[.agg #[.int .i64 0, .int .i64 0, .int .i64 0, .int .i64 0, .int .i64 0, .int .i64 0, .int .i64 0], .bool false]) (by simp [results, Tryz.results138, go_sem, p0, p1, p2, p3, p4, p5, p6]) rfl (RdRet.no HNo.out rfl HBN.out)
end Rd
namespace Open
open Go.ChangeShapes Go.WideShapes Go.ChangeAt Go.RowKit Go.Joins
set_option maxRecDepth 100000
section
variable {H : Type} {enc : TypeId × Value → H} {w : World} {base b0 : Nat} {spare : Nat → Bool} {held : Bool} {v : Value} {d : DataW H} {p : List MemPlace}
theorem cellsTx : Tryz.prog.cellsOf 9 = 1 := by kernel_rfl
structure IsTexts (w : World) (v : Value) : Prop where
 ex : ∃ (A : Option Addr) (c : Nat) (ss : List ByteArray), v = .slice A ss.length c ∧ ss.length ≤ 9223372036854775807 ∧ (∀ i, i < ss.length → (ss.getD i ByteArray.empty).size ≤ 9223372036854775807) ∧ LabM.RdT w w.heap.size A ss
theorem txts_of {fuel : Nat} {c0 : Value} {y : DataW H × List MemPlace} (hf : DataW.trod enc Tryz.prog w base (fun _ => true) held fuel 50 [c0] = some y) : IsTexts w c0 := by
 rcases Go.Deep.open_strs Tryz.underlying50 Tryz.underlying9 cellsTx hf with ⟨hcs, _⟩ | ⟨x, len, cap, m, Sx, hcs, _, hl, hm, hmm, _, hcell⟩
 ·simp at hcs
  subst hcs
  exact ⟨none, 0, [], rfl, by decide, fun i hi => absurd hi (Nat.not_lt_zero i), fun h => absurd h (by simp)⟩
 ·simp at hcs
  subst hcs
  simp only [if_true] at hmm
  unfold maxLen at hm hcell
  refine ⟨some x, cap, (List.range len).map Sx, by simp, by simp; omega, fun i hi => ?_, fun h0 => ?_⟩
  ·simp at hi
   have := (hcell i (by omega)).2
   simpa [List.getD, hi] using Nat.le_trans this (by omega)
  ·simp at h0
   obtain ⟨hs, hb⟩ := spot_of (hcell 0 (by omega)).1
   refine ⟨x.block, x.off, by cases x; simp_all, hb, fun i hi => ?_⟩
   simp at hi
   rw [← addr_add hs, (hcell i (by omega)).1]
   simp [List.getD, hi]
theorem texts (hv : Value.okWide Tryz.prog w .any b0 50 v) (h : DataW.Trod enc Tryz.prog w base (fun _ => true) held 50 v d p) : IsTexts w v := by
 obtain ⟨a, len, cap, rfl⟩ := okWide_slice Tryz.underlying50 hv
 obtain ⟨fuel, hf⟩ := h
 exact txts_of (by simpa [Value.cells] using hf)
structure IsText (w : World) (v : Value) : Prop where
 ex : ∃ s : ByteArray, v = .string s ∧ s.size ≤ 9223372036854775807
theorem string (hv : Value.okWide Tryz.prog w .any b0 9 v) (h : DataW.Trod enc Tryz.prog w base spare held 9 v d p) : IsText w v := by
 obtain ⟨s, rfl⟩ := okWide_string Tryz.underlying9 hv
 obtain ⟨fuel, hf⟩ := h
 obtain ⟨s', h, _, ws⟩ := DataW.trod_string Tryz.underlying9 hf
 simp [Value.cells] at h
 subst h
 exact ⟨s, rfl, by unfold maxLen at ws; omega⟩
end
end Open
namespace Rd
open Go.RowKit Base Mem Dec LabM RecJ CutP Val Str Take
theorem powMore {B C : Nat} {w : World} (h : Pow B w) (hBC : B ≤ C) : Pow C w := fun w' hb => h w' (hb.mono hBC)
theorem errMore {B C : Nat} {w : World} (h : Errs B w) (hBC : B ≤ C) : Errs C w := by
 obtain ⟨e1, e2, h1, h2, h3⟩ := h
 exact ⟨e1, e2, Nat.lt_of_lt_of_le h1 hBC, Nat.lt_of_lt_of_le h2 hBC, h3⟩
theorem maxMore {B C : Nat} {w : World} (h : MaxL B w) (hBC : B ≤ C) : MaxL C w := by
 obtain ⟨m, h1, h2⟩ := h
 exact ⟨m, Nat.lt_of_lt_of_le h1 hBC, h2⟩
end Rd
namespace ApartM
open Base Str CycM Take
structure Way (K W T m f a s : Int) (U : Nat → Nat) (X j n : Nat) : Prop where
 start : s = (X : Int)
 cyc : IsCyc U X j n
 small : n ≤ 200000
 pre : preS K W T m f a s = (j : Int)
 per : perS K W T m f a s = (n : Int) - j
 valid : ∀ c, streamB K W T m f a ((iter U X c : Nat) : Int) = true
 take : ∀ i c : Nat, takeX K W T m f a ((iter U X i : Nat) : Int) (c : Int) = ((iter U X (i + c) : Nat) : Int)
theorem way {K W T m f a s : Int} (hB : streamB K W T m f a s = true) : ∃ (U : Nat → Nat) (X j n : Nat), Way K W T m f a s U X j n := by
 obtain ⟨X, N, rfl, -, -, ⟨rfl, V, A, rfl, rfl, hV, hA, hX⟩ | ⟨rfl, M, F, A, rfl, rfl, rfl, h1, h2, h3, h4, h5⟩⟩ := Skip.natsN hB (c := 0) (by decide)
 ·have hT : ∀ t, t < 2 ^ V → Reg.nextR V A t < 2 ^ V := fun t ht => Reg.nextR_lt ht
  have hp : 2 ^ V ≤ 2 ^ 16 := Nat.pow_le_pow_right (by decide) hV
  obtain ⟨j, n, hc⟩ := Cycled.cyc_ex hT hX
  have hn : n ≤ 2 ^ V := pigeon _ n (iter (Reg.nextR V A) X) (fun i _ => iter_lt hT hX i) hc.2.2
  have hv : ∀ c, streamB 0 V A m f a ((iter (Reg.nextR V A) X c : Nat) : Int) = true := fun c => by
   rcases streamB_true hB with ⟨-, hR⟩ | ⟨h, -⟩
   ·have hy := iter_lt hT hX c
    have e : streamB 0 V A m f a ((iter (Reg.nextR V A) X c : Nat) : Int) = streamB 0 V A m f a (X : Int) := by
     unfold streamB
     rw [if_pos rfl, if_pos rfl, Jump.bothR_yes hV hA hy, Jump.bothR_yes hV hA hX]
    rw [e]; exact hB
   ·omega
  have hR := Jump.bothR_yes hV hA hX
  refine ⟨_, X, j, n, rfl, hc, by omega, ?_, ?_, hv, fun i c => ?_⟩
  ·rw [preS_r hB, Reg.preR_eq hR (j := j) (n := n) (by simpa using hc)]
  ·rw [perS_r hB, Reg.perR_eq hR (j := j) (n := n) (by simpa using hc)]
  ·rw [Skip.takeX_r, iter_add]
 ·have hT : ∀ t, t < M → Cong.stepN M F A t < M := fun t ht => Nat.mod_lt _ (by omega)
  obtain ⟨j, n, hc⟩ := Cycled.cyc_ex hT h5
  have hn : n ≤ M := pigeon _ n (iter (Cong.stepN M F A) X) (fun i _ => iter_lt hT h5 i) hc.2.2
  have hv : ∀ c, streamB 1 W T M F A ((iter (Cong.stepN M F A) X c : Nat) : Int) = true := fun c => by
   have hy := iter_lt hT h5 c
   have e : streamB 1 W T M F A ((iter (Cong.stepN M F A) X c : Nat) : Int) = streamB 1 W T M F A (X : Int) := by
    unfold streamB; rw [if_neg (show ¬ (1 : Int) = 0 by decide), if_neg (show ¬ (1 : Int) = 0 by decide), if_pos rfl, if_pos rfl, Cycled.bothB_yes h1 h2 h3 h4 hy, Cycled.bothB_yes h1 h2 h3 h4 h5]
   rw [e]; exact hB
  have hR := Cycled.bothB_yes h1 h2 h3 h4 h5
  refine ⟨_, X, j, n, rfl, hc, by omega, ?_, ?_, hv, fun i c => ?_⟩
  ·rw [preS_c hB, Cong.preB_eq hR (j := j) (n := n) (by simpa using hc)]
  ·rw [perS_c hB, Cong.perB_eq hR (j := j) (n := n) (by simpa using hc)]
  ·rw [Skip.takeX_c, iter_add]
end ApartM
namespace Str
open Go.RowKit Base
def splitB (n l : Int) : Bool := inR n 1 8 && inR l 1 1000000
end Str
namespace ApartL
open Go.RowKit Base Mem Str Take Skip CycM ApartM
end ApartL
namespace RelR
open Go.RowKit Base
open Rel hiding Mono wpRel wpRel_spec RInv wpAny_rel wp_region_rel rel_pure rel_law rel_same rel_end
section
variable {P : Program} {ops : Array Oper} {md : Region.Mode} {Ev : World → World → Prop}
structure EvOk (Ev : World → World → Prop) : Prop where
 refl : ∀ w, Ev w w
 trans : ∀ w w' w'', Ev w w' → Ev w' w'' → Ev w w''
 drew : ∀ w, Ev w w.drew
def Mono (Ev : World → World → Prop) (S : Value → World → Prop) : Prop := ∀ v w w', S v w → Ev w w' → S v w'
def wpRel (Ev : World → World → Prop) (P : Program) (md : Region.Mode) (F : (Nat → Value) → Act) (W : World) (K : Act → World → Prop) : List Oper → Nat → Fam → Prop
 | [], k, G => ∀ vs w, Ev W w → allG G vs w k → K (F vs) w
 | o :: r, k, G => ∃ S, Mono Ev S ∧ (∀ vs w, Ev W w → deps md G vs w o → stepAt P o (F vs) w (fun v w' => S v w' ∧ Ev w w')) ∧ wpRel Ev P md F W K r (k + 1) (setG G k S)
theorem wpRel_spec {F : (Nat → Value) → Act} {W : World} {K : Act → World → Prop} : ∀ (l : List Oper) (k : Nat) (G : Fam), (∀ i o, l[i]? = some o → ∀ e ∈ o.after, Region.binds md e = true → e.on < k + i) → wpRel Ev P md F W K l k G →
  ∃ G' : Fam, (∀ j, j < k → G' j = G j) ∧ (∀ i o, l[i]? = some o → Mono Ev (G' (k + i)) ∧ ∀ vs w, Ev W w → deps md G' vs w o → stepAt P o (F vs) w (fun v w' => G' (k + i) v w' ∧ Ev w w')) ∧
   (∀ vs w, Ev W w → allG G' vs w (k + l.length) → K (F vs) w)
 | [], k, G, _, h => ⟨G, fun _ _ => rfl, fun i o hi => (by cases hi), h⟩
 | o :: r, k, G, hed, h => by
  obtain ⟨S, hM, hst, hr⟩ := h
  obtain ⟨G', h1, h2, h3⟩ := wpRel_spec r (k + 1) (setG G k S) (fun i o' hi e he hb => by have := hed (i + 1) o' (by simpa using hi) e he hb; omega) hr
  have hk : G' k = S := by rw [h1 k (by omega)]; unfold setG; rw [if_pos rfl]
  refine ⟨G', fun j hj => ?_, fun i o' hi => ?_, fun vs w hw ha => h3 vs w hw (by rw [show k + 1 + r.length = k + (o :: r).length by simp; omega]; exact ha)⟩
  ·rw [h1 j (by omega)]; unfold setG; rw [if_neg (by omega)]
  ·cases i with
   | zero =>
    obtain rfl : o = o' := by simpa using hi
    rw [Nat.add_zero, hk]
    refine ⟨hM, fun vs w hw hdp => hst vs w hw fun e he hb => ?_⟩
    have := hdp e he hb
    have hlt := hed 0 o (by simp) e he hb
    rw [h1 e.on (by omega)] at this
    unfold setG at this
    rwa [if_neg (by omega)] at this
   | succ i =>
    have := h2 i o' (by simpa using hi)
    rw [show k + 1 + i = k + (i + 1) by omega] at this
    exact this
structure RInv (Ev : World → World → Prop) (md : Region.Mode) (ops : Array Oper) (n : Nat) (G : Fam) (hd : List Oper) (a0 : Act) (W : World) (listed : Array Bool) (a : Act) (w : World) : Prop where
 inv : HeadInv md ops n listed
 cls : Ev W w
 vals : ∃ vs, a = putL hd 0 vs a0 ∧ ∀ i, i < n → listed.getD i false = true → G i (vs i) w
theorem wpAny_rel (hE : EvOk Ev) {n : Nat} {G : Fam} {a0 : Act} {W : World} {Q : Exit → Act → World → Prop} {l : List Oper} (hB : relB md l.toArray n = true)
  (h2 : ∀ i o, (l.take n)[i]? = some o → Mono Ev (G i) ∧ ∀ vs w, Ev W w → deps md G vs w o → stepAt P o (putL (l.take n) 0 vs a0) w (fun v w' => G i v w' ∧ Ev w w'))
  (h3 : ∀ vs w, Ev W w → allG G vs w n → wpList P l.toArray Q (l.drop n) (putL (l.take n) 0 vs a0) w) :
  ∀ (f : Nat) (listed : Array Bool) (a : Act) (w : World), RInv Ev md l.toArray n G (l.take n) a0 W listed a w → (List.range n).countP (fun i => !listed.getD i false) = f → wpAny P md l.toArray Q (f + (l.toArray.size - n)) listed a w := by
 simp only [relB, Bool.and_eq_true, Bool.or_eq_true, decide_eq_true_eq] at hB
 obtain ⟨⟨⟨⟨hn, hed⟩, hds⟩, htl⟩, hsq⟩ := hB
 have hnl : n ≤ l.length := by simpa using hn
 have hdl : (l.drop n).length = l.toArray.size - n := by simp
 intro f
 induction f with
 | zero =>
  intro listed a w hI hc
  have hall := count_zero hc
  have e := listed_ext hI.inv hn hall
  obtain ⟨vs, rfl, hv⟩ := hI.vals
  rw [Nat.zero_add, ← hdl]
  refine wpAny_of_seq (l.drop n) n listed _ w (fun j => by simp [List.getElem?_drop]) ?_ (h3 vs w hI.cls (allG_of n fun i hi => hv i hi (hall i hi)))
  rw [hdl, e]; exact hsq
 | succ f ih =>
  intro listed a w hI hc
  obtain ⟨i0, hi0, hb0, hbefore⟩ := count_pos hc
  have hsz := hI.inv.size
  have hrdy : i0 ∈ Region.ready md l.toArray listed := by
   have hlt : i0 < l.toArray.size := by omega
   refine mem_ready.2 ⟨getD_in (by omega) hb0, l.toArray[i0], by simp, fun e he hb => ?_⟩
   exact hbefore _ ((edges_spec hed hi0 (by simp)).1 e he hb)
  rw [show f + 1 + (l.toArray.size - n) = (f + (l.toArray.size - n)) + 1 by omega]
  refine ⟨fun h => (by rw [h] at hrdy; cases hrdy), fun i hi => ?_⟩
  have hin : i < n := by
   rcases Nat.lt_or_ge i n with h | h
   ·exact h
   ·rcases htl with htl | htl
    ·obtain ⟨_, o, ho, _⟩ := mem_ready.1 hi
     have := (Array.getElem?_eq_some_iff.1 ho).1
     omega
    ·exact absurd hi (tail_waits htl.1.2 htl.2 htl.1.1 hI.inv _ i0 rfl hi0 (getD_in (by omega) hb0) i h)
  obtain ⟨hun, o, ho, hall⟩ := mem_ready.1 hi
  obtain ⟨hlow, hgd⟩ := edges_spec hed hin ho
  have hli : (l.take n)[i]? = some o := by
   rw [List.getElem?_take, if_pos hin]; simpa using ho
  obtain ⟨vs, rfl, hv⟩ := hI.vals
  obtain ⟨hM, hst⟩ := h2 i o hli
  have hstep := hst vs w hI.cls fun e he hb => hv e.on (by have := hlow e he hb; omega) (hall e he hb)
  have hw : Region.wanted o (yielded l.toArray (putL (l.take n) 0 vs a0).tmps) = true := by simp [Region.wanted, hgd]
  unfold wpOp
  rw [ho]
  simp only [hw, if_true]
  refine .inl (wp_of_step hstep fun v w' ⟨hv', hbw⟩ => ?_)
  refine ih _ _ _ ⟨hI.inv.set hi hin, hE.trans _ _ _ hI.cls hbw, fun j => if j = 0 + i then v else vs j, ?_, fun j hj hl => ?_⟩ (count_set hin (by omega) (getD_both hun) hc)
  ·refine putL_put (l.take n) 0 i vs a0 o v hli fun j oj hj hne => ?_
   cases hd : o.dst with
   | none => exact .inl rfl
   | some d =>
    cases hd' : oj.dst with
    | none => exact .inr (.inl rfl)
    | some d' =>
     have hjn : j < n := by
      have := (List.getElem?_eq_some_iff.1 hj).1
      simp at this; omega
     have hj' : l[j]? = some oj := by rw [List.getElem?_take, if_pos hjn] at hj; exact hj
     have ho' : l[i]? = some o := by simpa using ho
     refine .inr (.inr fun e => dsts_spec hds hin hjn (Ne.symm hne) (d := d) (d' := d') (by simp [ho', hd]) (by simp [hj', hd']) (Option.some.inj e))
  ·by_cases hji : j = i
   ·subst hji
    show G j (if j = 0 + j then v else vs j) w'
    rw [if_pos (by omega)]; exact hv'
   ·show G j (if j = 0 + i then v else vs j) w'
    rw [if_neg (by omega)]
    rw [getD_set_ne false (Ne.symm hji)] at hl
    have hjn : j < (l.take n).length := by simp; omega
    exact (h2 j _ (List.getElem?_eq_getElem hjn)).1 _ _ _ (hv j hj hl) hbw
theorem wp_region_rel (hE : EvOk Ev) {id : Nat} {Q : Exit → Act → World → Prop} {a : Act} {W : World} {l : List Oper} (n : Nat) (hm : P.follows .mixedOrders = true) (hB : relB .any l.toArray n = true)
  (h : ∀ F : (Nat → Value) → Act, (∀ vs, F vs = putL (l.take n) 0 vs a) → wpRel Ev P .any F W (wpList P l.toArray Q (l.drop n)) (l.take n) 0 (fun _ _ _ => True)) : (Code.region id l.toArray true).wp P Q a W := by
 have hB' := hB
 simp only [relB, Bool.and_eq_true, Bool.or_eq_true, decide_eq_true_eq] at hB'
 obtain ⟨⟨⟨⟨hn, hed⟩, hds⟩, htl⟩, hsq⟩ := hB'
 have hnl : n ≤ l.length := by simpa using hn
 have hlen : (l.take n).length = n := by simp; omega
 obtain ⟨G, _, h2, h3⟩ := wpRel_spec (l.take n) 0 _ (fun i o hi e he hb => by
  have hin : i < n := by
   have := (List.getElem?_eq_some_iff.1 hi).1
   rwa [hlen] at this
  have ho : l.toArray[i]? = some o := by rw [List.getElem?_take, if_pos hin] at hi; simpa using hi
  rw [Nat.zero_add]
  exact (edges_spec hed hin ho).1 e he hb) (h (fun vs => putL (l.take n) 0 vs a) fun _ => rfl)
 simp only [Nat.zero_add, hlen] at h2 h3
 refine wp_region_any hm ?_
 have inv0 : HeadInv .any l.toArray n (Array.replicate l.toArray.size false) :=
  ⟨by simp, fun j oj _ hl => (by rw [getD_replicate_false] at hl; cases hl), fun t _ ht => getD_in (by simpa using ht) (getD_replicate_false _ _)⟩
 have hc : (List.range n).countP (fun i => !(Array.replicate l.toArray.size false).getD i false) = n := by
  rw [List.countP_eq_length.2 fun i _ => by rw [getD_replicate_false]; rfl]
  simp
 have := wpAny_rel hE hB h2 h3 n _ a W.drew ⟨inv0, hE.drew _, fun i => (((l.take n)[i]?.bind (·.dst)).map fun d => a.tmps.getD d undef).getD undef, ?_, fun i _ hl => (by rw [getD_replicate_false] at hl; cases hl)⟩ hc
 ·rw [show n + (l.toArray.size - n) = l.toArray.size by omega] at this
  exact this
 ·refine (putL_same (l.take n) 0 _ a fun i o d hi hd => ?_).symm
  simp only [Nat.zero_add, hi, Option.bind_some, hd, Option.map_some, Option.getD_some]
variable {r : List Oper} {F : (Nat → Value) → Act} {W : World} {K : Act → World → Prop} {o : Oper} {k : Nat} {G : Fam}
theorem rel_pure (hE : EvOk Ev) (h : ∃ c : Value, (∀ vs w, Ev W w → deps md G vs w o → ∀ R : Value → World → Prop, R c w → stepAt P o (F vs) w R) ∧ wpRel Ev P md F W K r (k + 1) (setG G k fun v _ => v = c)) : wpRel Ev P md F W K (o :: r) k G :=
 let ⟨c, h1, h2⟩ := h
 ⟨fun v _ => v = c, fun _ _ _ h _ => h, fun vs w hw hd => h1 vs w hw hd _ ⟨rfl, hE.refl _⟩, h2⟩
theorem rel_law {S : Value → World → Prop} (hM : Mono Ev S) (h : ∀ vs w, Ev W w → deps md G vs w o → stepAt P o (F vs) w fun v w' => S v w' ∧ Ev w w') (hr : wpRel Ev P md F W K r (k + 1) (setG G k S)) : wpRel Ev P md F W K (o :: r) k G :=
 ⟨S, hM, h, hr⟩
theorem rel_same (h : ∃ c : Value, (∀ vs w, Ev W w → deps md G vs w o → stepAt P o (F vs) w fun v w' => v = c ∧ Ev w w') ∧ wpRel Ev P md F W K r (k + 1) (setG G k fun v _ => v = c)) : wpRel Ev P md F W K (o :: r) k G :=
 let ⟨c, h1, h2⟩ := h
 ⟨fun v _ => v = c, fun _ _ _ h _ => h, h1, h2⟩
theorem rel_end (h : ∀ vs w, Ev W w → allG G vs w k → K (F vs) w) : wpRel Ev P md F W K [] k G := h
attribute [irreducible] wpRel
theorem upon_skip (P : Program) (R : Value → World → Prop) (w : World) : upon P R (.ok .skip w) = R undef w := by unfold upon; rfl
end
def EvBox (B b : Nat) (t : TypeId) (z f : Array Value) (w w' : World) : Prop := Below B w w' ∧ (Blk.Blk w b t z → Blk.Blk w' b t z ∨ Blk.Blk w' b t f) ∧ (Blk.Blk w b t f → Blk.Blk w' b t f)
theorem evBox_ok (B b : Nat) (t : TypeId) (z f : Array Value) : EvOk (EvBox B b t z f) where
 refl w := ⟨Below.refl _ _, .inl, id⟩
 trans w w' w'' h1 h2 := ⟨h1.1.trans h2.1, fun h => (h1.2.1 h).elim h2.2.1 fun h => .inr (h2.2.2 h), fun h => h2.2.2 (h1.2.2 h)⟩
 drew w := ⟨(Below.refl _ _).drew, fun h => .inl h, id⟩
theorem evBox_of {B b : Nat} {t : TypeId} {z f : Array Value} {w w' : World} (hB : B ≤ w.heap.size) (h : Below w.heap.size w w') : EvBox B b t z f w w' := ⟨h.mono hB, fun k => .inl (k.belowS h), fun k => k.belowS h⟩
theorem evBox_mono (B b : Nat) (t : TypeId) (z f : Array Value) : Mono (EvBox B b t z f) (fun _ w => Blk.Blk w b t f) := fun _ _ _ h hb => hb.2.2 h
theorem evBox_put {B b : Nat} {t : TypeId} {z0 z1 f0 f1 : Value} {W w : World} (h : EvBox B b t #[z0, z1] #[f0, f1] W w) (hK : Blk.Blk W b t #[z0, z1]) (hB : B ≤ b) :
  ∃ u0 u1, w.cell? ⟨b, 0, none⟩ = some u0 ∧ w.cell? ⟨b, 1, none⟩ = some u1 ∧ w.frozen? ⟨b, 0, none⟩ = false ∧ w.frozen? ⟨b, 1, none⟩ = false ∧
   Blk.Blk ((w.setCell ⟨b, 0, none⟩ f0).setCell ⟨b, 1, none⟩ f1) b t #[f0, f1] ∧ EvBox B b t #[z0, z1] #[f0, f1] w ((w.setCell ⟨b, 0, none⟩ f0).setCell ⟨b, 1, none⟩ f1) := by
 have key : ∀ u0 u1, Blk.Blk w b t #[u0, u1] → ∃ u0 u1, w.cell? ⟨b, 0, none⟩ = some u0 ∧ w.cell? ⟨b, 1, none⟩ = some u1 ∧ w.frozen? ⟨b, 0, none⟩ = false ∧ w.frozen? ⟨b, 1, none⟩ = false ∧
   Blk.Blk ((w.setCell ⟨b, 0, none⟩ f0).setCell ⟨b, 1, none⟩ f1) b t #[f0, f1] ∧ EvBox B b t #[z0, z1] #[f0, f1] w ((w.setCell ⟨b, 0, none⟩ f0).setCell ⟨b, 1, none⟩ f1) := fun u0 u1 k => by
  have kk := (k.setTo 0 f0 rfl).setTo 1 f1 rfl
  exact ⟨u0, u1, k.at 0 rfl, k.at 1 rfl, k.frz 0, k.frz 1, kk, ((Below.refl B w).setCell (p := ⟨b, 0, none⟩) hB f0).setCell (p := ⟨b, 1, none⟩) hB f1, fun _ => .inr kk, fun _ => kk⟩
 rcases h.2.1 hK with k | k
 ·exact key _ _ k
 ·exact key _ _ k
end RelR
namespace Face
open Go.RowKit Base Mem Reg Str Take Skip Dice
theorem implFaces_any (K W T m f a s n c : Int) (w : World) : Calls Tryz.prog 13 #[.agg #[.int .i64 K, .int .i64 W, .int .i64 T, .int .i64 m, .int .i64 f, .int .i64 a, .int .i64 s], .int .i64 n, .int .i64 c] w (FsRet K W T m f a (facesR K W T m f a s n c) w) := by
 obtain ⟨W1, hW1, S, R, B⟩ := two w K W T m f a s
 have HI := J (validStream_any K W T m f a s W1)
 have HN := J (fun w => inRange_any n 1 16 w)
 have HC := J (fun w => inRange_any c 0 40 w)
 have HZ := J (show W1.heap.size = w.heap.size + 2 by rw [hW1]; simp)
 have HW := J hW1
 have HS := J S
 have HR := J R
 have HB1 := J B
 clear hW1 S R B
 cases hB : streamB K W T m f a s with
 | false =>
  rw [hB] at HI
  have HNo := J (facesR_no (K := K) (W := W) (T := T) (m := m) (f := f) (a := a) (s := s) (n := n) (c := c) (by rw [hB]; rfl))
  clear hB
  go_enter Tryz.func13, Tryz.ntmps13
  go_wp2_with fail
  rw [← HW.out]
  refine HI.out.mono ?_
  rintro e w1 ⟨rfl, b1⟩
  have RZ := HR.out.below b1 HR.out.lt
  have BB := J (HB1.out.trans (b1.mono HB1.out.size))
  clear b1
  have d0 := (RZ).c0; have d1 := (RZ).c1; have d2 := (RZ).c2; have d3 := (RZ).c3; have d4 := (RZ).c4; have d5 := (RZ).c5; have d6 := (RZ).c6
  have g0 := (RZ).frz 0; have g1 := (RZ).frz 1; have g2 := (RZ).frz 2; have g3 := (RZ).frz 3; have g4 := (RZ).frz 4; have g5 := (RZ).frz 5; have g6 := (RZ).frz 6
  have S8 := RZ.set7 0 0 0 0 0 0 0
  have p0 := (S8).c0; have p1 := (S8).c1; have p2 := (S8).c2; have p3 := (S8).c3; have p4 := (S8).c4; have p5 := (S8).c5; have p6 := (S8).c6
  simp only [set7] at p0 p1 p2 p3 p4 p5 p6
  have HBN := J (below_set7 (b := w.heap.size + 1) BB.out (Nat.le_succ _) (BB.out).size 0 0 0 0 0 0 0)
  clear S8 RZ
  go_wp2
  exact bodyPost_ret (v := .tuple #[.slice none 0 0, .agg #[.int .i64 0, .int .i64 0, .int .i64 0, .int .i64 0, .int .i64 0, .int .i64 0, .int .i64 0], .bool false]) (by simp [results, Tryz.results13, go_sem, p0, p1, p2, p3, p4, p5, p6]) rfl (FsRet.no HNo.out rfl HBN.out)
 | true =>
  rw [hB] at HI
  cases hN : inR n 1 16 with
  | false =>
   rw [hN] at HN
   have HNo := J (facesR_no (K := K) (W := W) (T := T) (m := m) (f := f) (a := a) (s := s) (n := n) (c := c) (by rw [hB, hN]; rfl))
   clear hB hN
   go_enter Tryz.func13, Tryz.ntmps13
   go_wp2_with fail
   rw [← HW.out]
   refine HI.out.mono ?_
   rintro e w1 ⟨rfl, b1⟩
   have RZ := HR.out.below b1 HR.out.lt
   have BB := J (HB1.out.trans (b1.mono HB1.out.size))
   clear b1
   go_wp2_with fail
   refine (HN.out _).mono ?_
   rintro e w' ⟨rfl, rfl⟩
   have d0 := (RZ).c0; have d1 := (RZ).c1; have d2 := (RZ).c2; have d3 := (RZ).c3; have d4 := (RZ).c4; have d5 := (RZ).c5; have d6 := (RZ).c6
   have g0 := (RZ).frz 0; have g1 := (RZ).frz 1; have g2 := (RZ).frz 2; have g3 := (RZ).frz 3; have g4 := (RZ).frz 4; have g5 := (RZ).frz 5; have g6 := (RZ).frz 6
   have S8 := RZ.set7 0 0 0 0 0 0 0
   have p0 := (S8).c0; have p1 := (S8).c1; have p2 := (S8).c2; have p3 := (S8).c3; have p4 := (S8).c4; have p5 := (S8).c5; have p6 := (S8).c6
   simp only [set7] at p0 p1 p2 p3 p4 p5 p6
   have HBN := J (below_set7 (b := w.heap.size + 1) BB.out (Nat.le_succ _) (BB.out).size 0 0 0 0 0 0 0)
   clear S8 RZ
   go_wp2
   exact bodyPost_ret (v := .tuple #[.slice none 0 0, .agg #[.int .i64 0, .int .i64 0, .int .i64 0, .int .i64 0, .int .i64 0, .int .i64 0, .int .i64 0], .bool false]) (by simp [results, Tryz.results13, go_sem, p0, p1, p2, p3, p4, p5, p6]) rfl (FsRet.no HNo.out rfl HBN.out)
  | true =>
   rw [hN] at HN
   cases hC : inR c 0 40 with
   | false =>
    rw [hC] at HC
    have HNo := J (facesR_no (K := K) (W := W) (T := T) (m := m) (f := f) (a := a) (s := s) (n := n) (c := c) (by rw [hB, hN, hC]; rfl))
    clear hB hN hC
    go_enter Tryz.func13, Tryz.ntmps13
    go_wp2_with fail
    rw [← HW.out]
    refine HI.out.mono ?_
    rintro e w1 ⟨rfl, b1⟩
    have RZ := HR.out.below b1 HR.out.lt
    have BB := J (HB1.out.trans (b1.mono HB1.out.size))
    clear b1
    go_wp2_with fail
    refine (HN.out _).mono ?_
    rintro e w' ⟨rfl, rfl⟩
    go_wp2_with fail
    refine (HC.out _).mono ?_
    rintro e w' ⟨rfl, rfl⟩
    have d0 := (RZ).c0; have d1 := (RZ).c1; have d2 := (RZ).c2; have d3 := (RZ).c3; have d4 := (RZ).c4; have d5 := (RZ).c5; have d6 := (RZ).c6
    have g0 := (RZ).frz 0; have g1 := (RZ).frz 1; have g2 := (RZ).frz 2; have g3 := (RZ).frz 3; have g4 := (RZ).frz 4; have g5 := (RZ).frz 5; have g6 := (RZ).frz 6
    have S8 := RZ.set7 0 0 0 0 0 0 0
    have p0 := (S8).c0; have p1 := (S8).c1; have p2 := (S8).c2; have p3 := (S8).c3; have p4 := (S8).c4; have p5 := (S8).c5; have p6 := (S8).c6
    simp only [set7] at p0 p1 p2 p3 p4 p5 p6
    have HBN := J (below_set7 (b := w.heap.size + 1) BB.out (Nat.le_succ _) (BB.out).size 0 0 0 0 0 0 0)
    clear S8 RZ
    go_wp2
    exact bodyPost_ret (v := .tuple #[.slice none 0 0, .agg #[.int .i64 0, .int .i64 0, .int .i64 0, .int .i64 0, .int .i64 0, .int .i64 0, .int .i64 0], .bool false]) (by simp [results, Tryz.results13, go_sem, p0, p1, p2, p3, p4, p5, p6]) rfl (FsRet.no HNo.out rfl HBN.out)
   | true =>
    obtain ⟨n1, n2⟩ := inR_true hN
    obtain ⟨c1, c2⟩ := inR_true hC
    obtain ⟨N, rfl⟩ := Int.eq_ofNat_of_zero_le (show 0 ≤ n by omega)
    obtain ⟨C, rfl⟩ := Int.eq_ofNat_of_zero_le c1
    rw [facesR_yes (show 0 < N by omega) (by rw [hB, hN, hC]; rfl)]
    exact implFaces_yes hB N C (by omega) (by omega) (by omega) w
end Face
namespace Nat32
open Go.RowKit Base Mem NatM
theorem small_no (x : Nat) (A : Option Addr) (c B : Nat) (w : World) (hx : RdU w B A (natL x)) (h : 1000000000000000000 < x) :
  Calls Tryz.prog 198 #[.slice A (natL x).length c] w fun e w' => ∃ i : Int, e = .returned (.tuple #[.int .i64 i, .bool false]) ∧ w = w' := by
 by_cases hlen : (natL x).length ≤ 2
 case neg =>
  generalize (natL x).length = k at *
  have hd : decide ((2 : Int) < (k : Int)) = true := decide_eq_true (by omega)
  clear hx
  go_enter Tryz.func198, Tryz.ntmps198
  go_wp2
  go_ret2
  exact ⟨0, rfl, rfl⟩
 have ok := natL_ok x
 have hv := natL_val x
 have HX := J hx
 generalize hxs : natL x = xs at *
 have HV := J hv
 have HO := J ok
 clear hx hv ok hxs
 go_enter Tryz.func198, Tryz.ntmps198
 go_wp2
 go_loop [12, 4] (fun iv nv => ∃ k : Nat, k ≤ xs.length ∧ iv = .int .i64 (k : Int) ∧ nv = .int .u64 ((val (xs.take k) : Nat) : Int)) (fun iv _ => xs.length - (intOf iv).toNat)
 case atStart => exact ⟨0, Nat.zero_le _, rfl, rfl⟩
 case round =>
  obtain ⟨k, hk, rfl, rfl⟩ := hrel
  by_cases hlt : k < xs.length
  ·have hx1 : xs.getD k 0 < B32 := HO.out _ (by simp [List.getD, hlt])
   obtain ⟨b, off, rfl, _, hc⟩ := HX.out (by omega)
   have g := hc k hlt
   clear hc
   have HS := J (val_take_succ xs k hlt)
   have hk2 : k = 0 ∨ k = 1 := by omega
   rcases hk2 with rfl | rfl
   ·rw [List.take_zero, show val ([] : List Nat) = 0 from rfl] at HS ⊢
    rw [Nat.add_zero] at g
    unfold B32 at hx1
    generalize xs.getD 0 0 = y at *
    have HO2 := J (or_digit 0 y (by decide) hx1)
    have HO1 := J (u64_or 0 y (by decide) (by omega))
    go_wp2
    go_round
    case rel => exact ⟨1, by omega, rfl, by rw [HS.out]; have := HO1.out; rw [Nat.zero_or] at this; rw [show ((0 : Nat) : Int) = 0 from rfl] at this; rw [this]; simp⟩
    case measure => simp [intOf]; omega
   ·unfold B32 at hx1
    have hz1 : val (xs.take 1) < B32 := by
     have := val_lt _ (okN_take HO.out 1)
     rw [List.length_take, Nat.min_eq_left (by omega)] at this
     simpa using this
    unfold B32 at hz1
    generalize xs.getD 1 0 = y at *
    generalize val (xs.take 1) = z at *
    have HO2 := J (or_digit z y hz1 hx1)
    go_wp2
    go_round
    case rel => exact ⟨2, by omega, rfl, by rw [HS.out, HO2.out]; rfl⟩
    case measure => simp [intOf]; omega
  ·obtain rfl : k = xs.length := by omega
   have hvx : val (xs.take xs.length) = x := by rw [List.take_of_length_le (Nat.le_refl _)]; exact HV.out
   rw [hvx]
   have hlt2 : x < 18446744073709551616 := by
    have := val_lt xs HO.out
    have e : B32 ^ xs.length ≤ B32 ^ 2 := Nat.pow_le_pow_right (by decide) hlen
    rw [HV.out] at this
    exact Nat.lt_of_lt_of_le this (Nat.le_trans e (by decide))
   have hle : decide ((x : Int) ≤ 1000000000000000000) = false := decide_eq_false (by omega)
   clear hvx
   go_wp2
   go_ret2
   exact ⟨⟨wrap64 (bits BinOp.and IntKind.u64 (x : Int) 9223372036854775807), rfl⟩, rfl⟩
end Nat32
end Go.Proofs.YtgipnbeipfhekaaGreatDoor
