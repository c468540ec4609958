/- A stream read from its text: the program. -/
import Derived.Test.YtgipnbeipfhekaaGreatDoorMgFnT04
import Derived.Deep.Cut
import Derived.Test.YtgipnbeipfhekaaGreatDoorMgFnT01
import Derived.Test.YtgipnbeipfhekaaGreatDoorMgFnT03
import Derived.Deep.Strs
import Derived.Test.YtgipnbeipfhekaaGreatDoorMgFnT12
namespace Go.Proofs.YtgipnbeipfhekaaGreatDoor.Rd
open Go.RowKit Go.Proofs.YtgipnbeipfhekaaGreatDoor Go.Proofs.YtgipnbeipfhekaaGreatDoor.Base Go.Proofs.YtgipnbeipfhekaaGreatDoor.Mem Go.Proofs.YtgipnbeipfhekaaGreatDoor.Dec Go.Proofs.YtgipnbeipfhekaaGreatDoor.LabM Go.Proofs.YtgipnbeipfhekaaGreatDoor.RecJ Go.Proofs.YtgipnbeipfhekaaGreatDoor.CutP Go.Proofs.YtgipnbeipfhekaaGreatDoor.Val Go.Proofs.YtgipnbeipfhekaaGreatDoor.Str Go.Proofs.YtgipnbeipfhekaaGreatDoor.Take
set_option linter.unusedVariables false
def MaxL (B : Nat) (w : World) : Prop := ∃ m : Int, YtgipnbeipfhekaaGreatDoor.lays146_ren.g 1 < B ∧ w.cell? ⟨YtgipnbeipfhekaaGreatDoor.lays146_ren.g 1, 0, none⟩ = some (.int .i64 m)
theorem MaxL.on {B : Nat} {w w' : World} (h : MaxL B w) (hb : Below B w w') : MaxL B w' := by
 obtain ⟨m, h1, h2⟩ := h
 exact ⟨m, h1, (hb.cell (p := ⟨_, 0, none⟩) h1).trans h2⟩
def SplRet (ws : List (List UInt8)) (n : Nat) (w : World) (e : Ending) (w' : World) : Prop := e = .returned (.slice (some ⟨w.heap.size, 0, none⟩) n n) ∧ (∀ i, i < (txs ws).length → w'.cell? ⟨w.heap.size, i, none⟩ = some (.string ((txs ws).getD i ByteArray.empty))) ∧ w.heap.size < w'.heap.size ∧ Below w.heap.size w w'
theorem split_to (s : ByteArray) (c : UInt8) (hs : s.size ≤ 1048576) (m : Int) (w : World) (hm : w.cell? ⟨YtgipnbeipfhekaaGreatDoor.lays146_ren.g 1, 0, none⟩ = some (.int .i64 m)) : Calls Tryz.prog 44 #[.string s, .string ⟨#[c]⟩] w (SplRet (cutR c s.data.toList) (cutR c s.data.toList).length w) := by
 have et : YtgipnbeipfhekaaGreatDoor.lays146_ren.t 9 = 9 := by kernel_rfl
 refine (Any.strings_Split YtgipnbeipfhekaaGreatDoor.lays146 (by rw [et]; exact infoT) s ⟨#[c]⟩ m w (by omega) hm (Nat.le_refl 1)).mono ?_
 rintro e w' ⟨rfl, rfl⟩
 rw [et, splitB_cut]
 have hl := Lib.splitB_all ⟨#[c]⟩ (Nat.le_refl 1) 0 (Lib.countB s ⟨#[c]⟩) s rfl
 rw [splitB_cut, txs_len] at hl
 refine ⟨by rw [hl], fun i hi => ?_, by simp, (Below.refl _ _).alloc (Nat.le_refl _) _⟩
 have hcell : (w.alloc (.cells ((txs (cutR c s.data.toList)).map Value.string).toArray 9)).heap[w.heap.size]? = some (.cells ((txs (cutR c s.data.toList)).map Value.string).toArray 9 (0, 0)) := by
  show (w.heap.push _)[w.heap.size]? = _
  simp
 rw [Lib.cell_of_heap hcell]
 simp [List.getD, hi]
set_option maxHeartbeats 4000000 in
set_option maxRecDepth 100000 in
theorem implRead_any (t : ByteArray) (hs : t.size ≤ 1048576) (w : World) (hp : Pow w.heap.size w) (he : Errs w.heap.size w) (hmx : MaxL w.heap.size w) : Calls Tryz.prog 138 #[.string t] w (RdRet (rdO t.data.toList) w) := by
 obtain ⟨i0, hi, hz0, hz1, hz2⟩ := info_parts infoI
 obtain ⟨W1, hW1⟩ : ∃ W1, W1 = w.alloc (.cells #[.int .i64 0, .int .i64 0, .int .i64 0, .int .i64 0, .int .i64 0, .int .i64 0, .int .i64 0] 29) := ⟨_, rfl⟩
 have hZ : W1.heap.size = w.heap.size + 1 := by rw [hW1]; simp
 have R1 : SBox W1 w.heap.size 0 0 0 0 0 0 0 := by rw [hW1]; exact SBox.new _ _ _ _ _ _ _ _
 have B1 : Below w.heap.size w W1 := by rw [hW1]; exact (Below.refl _ _).alloc (Nat.le_refl _) _
 have hsz : t.data.toList.length = t.size := by rw [Array.length_toList]; rfl
 obtain ⟨mx, hgm, hcm⟩ := hmx.on B1
 have HC := Lib.hid (split_to t 58 hs mx W1 hcm)
 have HP0 := Lib.hid hp
 have HE0 := Lib.hid he
 clear hp he hmx hgm hcm
 have hcl := cutR_len 58 _ t.data.toList (Nat.le_refl _)
 have HRes : Hid (rdO t.data.toList = rdO t.data.toList) := Lib.hid rfl
 obtain ⟨RR, hRR⟩ : ∃ RR, rdO t.data.toList = RR := ⟨_, rfl⟩
 have HB := Lib.hid (fun h => hRR.symm.trans (rdO_bad (l := t.data.toList) h))
 have HNn := Lib.hid (fun h h2 => hRR.symm.trans (rdO_none (l := t.data.toList) h h2))
 have HSm := Lib.hid (fun tt h h2 => hRR.symm.trans (rdO_some (l := t.data.toList) (t := tt) h h2))
 rw [hRR]
 obtain ⟨ws, hws⟩ : ∃ ws, cutR 58 t.data.toList = ws := ⟨_, rfl⟩
 unfold SplRet at HC
 rw [hws] at HC HB HNn HSm hcl
 obtain ⟨hn1, hn2, hw3⟩ := hcl
 rw [hsz] at hn2 hw3
 obtain ⟨r, hr⟩ : ∃ r, ws.length = r + 1 := ⟨ws.length - 1, by omega⟩
 rw [hr] at HC
 have HLR := Lib.hid hr
 have hr2 : r ≤ 1048577 := by omega
 have HL : Hid (∀ k, k < ws.length → (tx (ws.getD k [])).size ≤ 1048576) := Lib.hid fun k hk => by
  rw [size_tx]
  have := hw3 (ws.getD k []) (by rw [List.getD_eq_getElem?_getD, List.getElem?_eq_getElem hk]; exact List.getElem_mem hk)
  omega
 have HW := Lib.hid hW1
 have HR1 := Lib.hid R1
 have HB1 := Lib.hid B1
 have HZ := Lib.hid hZ
 have hZle : w.heap.size < W1.heap.size := by omega
 clear hW1 R1 B1 hRR hws hw3 hsz HRes hr hZ
 go_enter Tryz.func138, Tryz.ntmps138
 go_wp2_with fail
 rw [← HW.out]
 refine HC.out.mono ?_
 rintro e w1 ⟨rfl, hrd, hbb0, hb1⟩
 have hs1 := hb1.size
 have HRd := Lib.hid hrd
 have BB := Lib.hid (HB1.out.trans (hb1.mono HB1.out.size))
 have HS1 := Lib.hid (HR1.out.below hb1 HR1.out.lt)
 have HB0 := Lib.hid hbb0
 clear hbb0
 have hwB : w.heap.size ≤ w1.heap.size := by have := HZ.out; omega
 have H0 : Hid (RlTo ws w1.heap.size w.heap.size w1 (.slice (some ⟨w1.heap.size, 0, none⟩) 0 0) 1 (w1.alloc (.cells #[] 2))) := Lib.hid (by
  have q2 : OwnI (w1.alloc (.cells #[] 2)) w1.heap.size (.slice (some ⟨w1.heap.size, 0, none⟩) 0 0) [] := own_lit (B := w1.heap.size) w1 (Nat.le_refl _) [] (by simp)
  have bx := (Below.refl w1.heap.size w1).alloc (Nat.le_refl _) (.cells #[] 2)
  exact ⟨Nat.le_refl _, hn1, by simp, Lib.hid (by intro x hx; simp at hx), Lib.hid (by simpa [nsOf] using q2), Lib.hid (HS1.out.below bx HS1.out.lt), Lib.hid bx⟩)
 clear hrd hb1 hn2 hn1
 rcases Nat.eq_zero_or_pos r with hr0 | hr0
 ·subst hr0
  have hd0 : ws.drop 1 = [] := List.drop_of_length_le (by rw [HLR.out]; exact Nat.le_refl _)
  have HOk : okW (ws.drop 1) := by rw [hd0]; intro x hx; cases hx
  have HN2 := HNn.out HOk
  have hns : nsOf (ws.drop 1) = [] := by rw [hd0]; rfl
  rw [hns] at HN2
  have hw0 : 0 < ws.length := by rw [HLR.out]; exact Nat.zero_lt_one
  have g0 := HRd.out 0 (by rw [txs_len]; exact hw0)
  rw [txs_get ws 0 hw0] at g0
  obtain ⟨E, hE⟩ : ∃ E, ws.getD 0 [] = E := ⟨_, rfl⟩
  rw [hE] at g0 HN2
  have HNo : Hid (RR = none) := Lib.hid (HN2 (by unfold stO; rw [if_neg (by rintro ⟨_, h⟩; cases h), if_neg (by rintro ⟨_, h⟩; cases h)]))
  have ba : Below w1.heap.size w1 (w1.alloc (.cells #[] 2)) := (Below.refl _ _).alloc (Nat.le_refl _) _
  obtain ⟨wr, hwr⟩ : ∃ wr, wr = w1.alloc (.cells #[] 2) := ⟨_, rfl⟩
  rw [← hwr] at ba
  have hsr := ba.size
  have BBr := Lib.hid (BB.out.trans (ba.mono BB.out.size))
  have bx : Below wr.heap.size wr (wr.alloc (.cells #[.int .i64 0, .int .i64 0, .int .i64 0, .int .i64 0, .int .i64 0, .int .i64 0, .int .i64 0] 29)) := (Below.refl _ _).alloc (Nat.le_refl _) _
  have hbb := HB0.out
  have g1 := (bx.cell (p := ⟨W1.heap.size, 0, none⟩) (show W1.heap.size < wr.heap.size by omega)).trans ((ba.cell (p := ⟨W1.heap.size, 0, none⟩) hbb).trans g0)
  have zx := (HS1.out.below ba HS1.out.lt).below bx (Nat.lt_of_lt_of_le HS1.out.lt hsr)
  have hbeR : ((tx E).toList == [114]) = decide (E = [114]) := by
   rw [ByteArray.toList_eq, list_tx]
   by_cases h : E = [114] <;> simp [h]
  have hbeC : ((tx E).toList == [99]) = decide (E = [99]) := by
   rw [ByteArray.toList_eq, list_tx]
   by_cases h : E = [99] <;> simp [h]
  have hcond : (E = [114] ∧ True) ∨ (E = [99] ∧ True) ∨ (E ≠ [114] ∧ E ≠ [99]) := by
   by_cases h1 : E = [114]
   ·exact .inl ⟨h1, trivial⟩
   ·by_cases h2 : E = [99]
    ·exact .inr (.inl ⟨h2, trivial⟩)
    ·exact .inr (.inr ⟨h1, h2⟩)
  obtain ⟨T, hT⟩ : ∃ T, tx E = T := ⟨_, rfl⟩
  rw [hT] at g0 g1 hbeR hbeC
  have hA := 0
  have hC := 0
  have HWr := Lib.hid hwr
  clear hT hE hns HN2 HOk hd0 H0 hwr
  go_wp2
  rw [← HWr.out]
  go_loopw [5, 17] (fun v iv w5 => v = .slice (some ⟨w1.heap.size, 0, none⟩) 0 0 ∧ iv = .int .i64 0 ∧ w5 = wr) (fun _ _ _ => 0)
  case atStart => exact ⟨rfl, rfl, rfl⟩
  case round =>
   obtain ⟨rfl, rfl, rfl⟩ := hrel
   go_upto_region 13 with (fail)
   obtain ⟨W5, hW5⟩ : ∃ W5, W5 = wr.alloc (.cells #[.int .i64 0, .int .i64 0, .int .i64 0, .int .i64 0, .int .i64 0, .int .i64 0, .int .i64 0] 29) := ⟨_, rfl⟩
   rw [← hW5] at bx zx g1 ⊢
   clear hW5
   have BB7 := Lib.hid (BBr.out.trans (bx.mono BBr.out.size))
   have RZ := zx
   have d0 := (RZ).c0; have d1 := (RZ).c1; have d2 := (RZ).c2; have d3 := (RZ).c3; have d4 := (RZ).c4; have d5 := (RZ).c5; have d6 := (RZ).c6
   have zf0 := (RZ).frz 0; have zf1 := (RZ).frz 1; have zf2 := (RZ).frz 2; have zf3 := (RZ).frz 3; have zf4 := (RZ).frz 4; have zf5 := (RZ).frz 5; have zf6 := (RZ).frz 6
   have S8 := RZ.set7 0 0 0 0 0 0 0
   have p0 := (S8).c0; have p1 := (S8).c1; have p2 := (S8).c2; have p3 := (S8).c3; have p4 := (S8).c4; have p5 := (S8).c5; have p6 := (S8).c6
   simp only [set7] at p0 p1 p2 p3 p4 p5 p6
   have HBN := Lib.hid (below7 (b := w.heap.size) BB7.out (Nat.le_refl _) BB7.out.size 0 0 0 0 0 0 0)
   clear S8 RZ bx zx hA hC
   rcases hcond with ⟨h1, h2⟩ | ⟨h1, h2⟩ | ⟨h1, h2⟩
   ·rw [decide_eq_true h1] at hbeR
    rw [decide_eq_false (by rw [h1]; decide)] at hbeC
    clear h1
    go_wp2
    exact bodyPost_ret (v := .tuple #[.agg #[.int .i64 0, .int .i64 0, .int .i64 0, .int .i64 0, .int .i64 0, .int .i64 0, .int .i64 0], .bool false]) (by simp [results, Tryz.results138, go_sem, p0, p1, p2, p3, p4, p5, p6]) rfl (RdRet.no HNo.out rfl HBN.out)
   ·rw [decide_eq_true h1] at hbeC
    rw [decide_eq_false (by rw [h1]; decide)] at hbeR
    clear h1
    go_wp2
    exact bodyPost_ret (v := .tuple #[.agg #[.int .i64 0, .int .i64 0, .int .i64 0, .int .i64 0, .int .i64 0, .int .i64 0, .int .i64 0], .bool false]) (by simp [results, Tryz.results138, go_sem, p0, p1, p2, p3, p4, p5, p6]) rfl (RdRet.no HNo.out rfl HBN.out)
   ·rw [decide_eq_false h1] at hbeR
    rw [decide_eq_false h2] at hbeC
    clear h1 h2
    go_wp2
    exact bodyPost_ret (v := .tuple #[.agg #[.int .i64 0, .int .i64 0, .int .i64 0, .int .i64 0, .int .i64 0, .int .i64 0, .int .i64 0], .bool false]) (by simp [results, Tryz.results138, go_sem, p0, p1, p2, p3, p4, p5, p6]) rfl (RdRet.no HNo.out rfl HBN.out)
 go_wp2
 go_loopw [5, 17] (fun v iv wr => ∃ j : Nat, iv = .int .i64 (j : Int) ∧ RlTo ws w1.heap.size w.heap.size w1 v (j + 1) wr) (fun _ iv _ => r - (intOf iv).toNat)
 case atStart => exact ⟨0, rfl, H0.out⟩
 case round =>
  obtain ⟨j, rfl, hk1, hk2, hBw, HOk, HO, HSz, HBl⟩ := hrel
  clear H0
  have hjr : j ≤ r := by have := HLR.out; omega
  have hbB : W1.heap.size < w1.heap.size := HB0.out
  have hbw : W1.heap.size < wr.heap.size := by omega
  have BBr := Lib.hid (BB.out.trans (HBl.out.mono hwB))
  by_cases hlr : j < r
  ·have hlt : j + 1 < ws.length := by have := HLR.out; omega
   have g0 := (HBl.out.cell (p := ⟨W1.heap.size, j + 1, none⟩) hbB).trans (HRd.out (j + 1) (by rw [txs_len]; exact hlt))
   rw [txs_get ws (j + 1) hlt, Nat.add_comm j 1] at g0
   have HRel : Hid (RlTo ws w1.heap.size w.heap.size w1 u5 (j + 1) wr) := Lib.hid ⟨hk1, hk2, hBw, HOk, HO, HSz, HBl⟩
   have HVl := Lib.hid (readDec_any (tx (ws.getD (j + 1) [])) (HL.out (j + 1) hlt) w.heap.size wr (HP0.out.on BBr.out) (HE0.out.on BBr.out) BBr.out.size)
   rw [Nat.add_comm j 1] at HVl
   simp only at HVl
   have HMem : Hid (ws.getD (1 + j) [] ∈ ws.drop 1) := Lib.hid (by
    have hlt' : 1 + j < ws.length := by omega
    rw [List.getD_eq_getElem?_getD, List.getElem?_eq_getElem hlt']
    have : (ws.drop 1)[j]? = some (ws[1 + j]'hlt') := by rw [List.getElem?_drop, List.getElem?_eq_getElem hlt']
    exact List.mem_of_getElem? this)
   obtain ⟨E, hE⟩ : ∃ E, ws.getD (1 + j) [] = E := ⟨_, rfl⟩
   have HNx := Lib.hid (fun n w2 w3 v' o => RlTo.next (n := n) (w2 := w2) (w3 := w3) (v' := v') (o := o) HRel.out hlt (Nat.le_refl _))
   rw [Nat.add_comm j 1] at HNx
   rw [hE] at g0 HVl HMem HNx
   clear hE
   obtain ⟨T, hT⟩ : ∃ T, tx E = T := ⟨_, rfl⟩
   rw [hT] at g0 HVl
   clear hT
   go_wp2_with fail
   refine HVl.out.mono ?_
   rintro e w2 ⟨v, bb, rfl, hv1, hv2, hb2⟩
   cases bb with
   | false =>
    obtain ⟨rfl, hno⟩ := hv2 rfl
    have HNo : Hid (RR = none) := Lib.hid (HB.out fun h => by
     obtain ⟨x, hx⟩ := h E HMem.out
     rw [valO_no hno] at hx
     cases hx)
    have RZ := HSz.out.below hb2 HSz.out.lt
    have BB2 := Lib.hid (BB.out.trans ((HBl.out.trans (hb2.mono hBw)).mono hwB))
    clear hv1 hv2 hno hb2
    have d0 := (RZ).c0; have d1 := (RZ).c1; have d2 := (RZ).c2; have d3 := (RZ).c3; have d4 := (RZ).c4; have d5 := (RZ).c5; have d6 := (RZ).c6
    have zf0 := (RZ).frz 0; have zf1 := (RZ).frz 1; have zf2 := (RZ).frz 2; have zf3 := (RZ).frz 3; have zf4 := (RZ).frz 4; have zf5 := (RZ).frz 5; have zf6 := (RZ).frz 6
    have S8 := RZ.set7 0 0 0 0 0 0 0
    have p0 := (S8).c0; have p1 := (S8).c1; have p2 := (S8).c2; have p3 := (S8).c3; have p4 := (S8).c4; have p5 := (S8).c5; have p6 := (S8).c6
    simp only [set7] at p0 p1 p2 p3 p4 p5 p6
    have HBN := Lib.hid (below7 (b := w.heap.size) BB2.out (Nat.le_refl _) BB2.out.size 0 0 0 0 0 0 0)
    clear S8 RZ
    go_wp2
    exact bodyPost_ret (v := .tuple #[.agg #[.int .i64 0, .int .i64 0, .int .i64 0, .int .i64 0, .int .i64 0, .int .i64 0, .int .i64 0], .bool false]) (by simp [results, Tryz.results138, go_sem, p0, p1, p2, p3, p4, p5, p6]) rfl (RdRet.no HNo.out rfl HBN.out)
   | true =>
    have hvo := valO_yes (hv1 rfl)
    have HN2 := Lib.hid (fun w3 v' o => HNx.out v w2 w3 v' o hvo hb2)
    have hown := HO.out.below hb2
    have HOw := Lib.hid (ownsRow_below hown ((Below.refl w2.heap.size w2).alloc (Nat.le_refl _) (.cells #[.int .i64 v] 2)))
    have hs2 := hb2.size
    have hlen : (nsOf ((ws.drop 1).take (1 + j - 1))).length ≤ 1048577 := by rw [nsOf_len, List.length_take, List.length_drop]; omega
    clear hv1 hv2 hvo hb2 hown
    rw [show j + 1 - 1 = 1 + j - 1 by omega] at HOw
    generalize nsOf ((ws.drop 1).take (1 + j - 1)) = xs at HOw HN2 hlen
    go_wp2_with (at_builtin; refine wpList_append_own_at _ rfl (.tmp 29) (.tmp 31) 43 rfl w1.heap.size 2 i0 (.int .i64 0) 1 8 Tryz.underlying43 hi hz0 hz1 hz2 rfl (by decide) _ _ _ rfl HOw.out ⟨w2.heap.size, 0, none⟩ 1 1 [.int .i64 v] rfl rfl ?p1a ?p2a ?p3a ?p4a ?p5a ?_)
    try case p1a => exact news_one _ _ _ (by simp)
    try case p2a => first | exact one_int | rfl | simp
    try case p3a => first | (simp only [maxLen]; omega) | omega
    try case p4a => omega
    try case p5a => first | (simp only [World.size_alloc]; omega) | omega
    intro v' w3 hown' hg' _ he
    have HN3 := Lib.hid (HN2.out w3 v' (.cells #[.int .i64 v] 2) hown' hg')
    clear hown' hg' he
    go_wp2_with fail
    go_roundw
    case rel => exact ⟨j + 1, by go_num, by have := HN3.out; rw [show 1 + j + 1 = j + 1 + 1 by omega] at this; exact this⟩
    case measure => simp [intOf]; omega
  ·obtain rfl : j = r := by omega
   have hfull : (ws.drop 1).take (ws.length - 1) = ws.drop 1 := List.take_of_length_le (by rw [List.length_drop]; exact Nat.le_refl _)
   rw [show j + 1 - 1 = ws.length - 1 by have := HLR.out; omega, hfull] at HOk HO
   have hxl : (nsOf (ws.drop 1)).length = ws.length - 1 := by rw [nsOf_len, List.length_drop]
   have HS2 := Lib.hid (fun tt => HSm.out tt HOk.out)
   have HN2 := Lib.hid (HNn.out HOk.out)
   have hw0 : 0 < ws.length := by have := HLR.out; omega
   have g0 := (HBl.out.cell (p := ⟨W1.heap.size, 0, none⟩) hbB).trans (HRd.out 0 (by rw [txs_len]; exact hw0))
   rw [txs_get ws 0 hw0] at g0
   obtain ⟨E, hE⟩ : ∃ E, ws.getD 0 [] = E := ⟨_, rfl⟩
   obtain ⟨xs, hxs⟩ : ∃ xs, nsOf (ws.drop 1) = xs := ⟨_, rfl⟩
   rw [hE, hxs] at HS2 HN2
   rw [hE] at g0
   rw [hxs] at HO hxl
   have HXl := Lib.hid hxl
   clear hxl
   obtain ⟨A5, c5, e5, _⟩ := HO.out.form
   subst e5
   have HRx := Lib.hid HO.out.rd
   have bx : Below wr.heap.size wr (wr.alloc (.cells #[.int .i64 0, .int .i64 0, .int .i64 0, .int .i64 0, .int .i64 0, .int .i64 0, .int .i64 0] 29)) := (Below.refl _ _).alloc (Nat.le_refl _) _
   have nx := SBox.new wr 0 0 0 0 0 0 0
   have g1 := (bx.cell (p := ⟨W1.heap.size, 0, none⟩) hbw).trans g0
   have zx := HSz.out.below bx HSz.out.lt
   have hzlt := HSz.out.lt
   clear hE hxs hfull HSm HNn HOk HO HB
   have x0 := (nx).c0; have x1 := (nx).c1; have x2 := (nx).c2; have x3 := (nx).c3; have x4 := (nx).c4; have x5 := (nx).c5; have x6 := (nx).c6
   have y0 := (nx).frz 0; have y1 := (nx).frz 1; have y2 := (nx).frz 2; have y3 := (nx).frz 3; have y4 := (nx).frz 4; have y5 := (nx).frz 5; have y6 := (nx).frz 6
   have hbeR : ((tx E).toList == [114]) = decide (E = [114]) := by
    rw [ByteArray.toList_eq, list_tx]
    by_cases h : E = [114] <;> simp [h]
   have hbeC : ((tx E).toList == [99]) = decide (E = [99]) := by
    rw [ByteArray.toList_eq, list_tx]
    by_cases h : E = [99] <;> simp [h]
   obtain ⟨T, hT⟩ : ∃ T, tx E = T := ⟨_, rfl⟩
   rw [hT] at g0 g1 hbeR hbeC
   clear hT
   by_cases hA : E = [114] ∧ xs.length = 3
   ·obtain ⟨hE1, hx3⟩ := hA
    rw [decide_eq_true hE1] at hbeR
    rw [decide_eq_false (by rw [hE1]; decide)] at hbeC
    have HS3 := Lib.hid (fun t h => HS2.out t h)
    obtain ⟨x0', x1', x2', rfl⟩ : ∃ a b c, xs = [a, b, c] := by
     match xs, hx3 with
     | [a, b, c], _ => exact ⟨a, b, c, rfl⟩
    obtain ⟨b5, o5, rfl, hb5, hc5⟩ := HRx.out (by simp)
    have l0 := (bx.cell (p := ⟨b5, o5 + 0, none⟩) hb5).trans (hc5 0 (by simp))
    have l1 := (bx.cell (p := ⟨b5, o5 + 1, none⟩) hb5).trans (hc5 1 (by simp))
    have l2 := (bx.cell (p := ⟨b5, o5 + 2, none⟩) hb5).trans (hc5 2 (by simp))
    simp only [List.getD_cons_zero, List.getD_cons_succ, Nat.add_zero] at l0 l1 l2
    clear hc5
    have HFin : Hid ((streamB 0 x0' x1' 0 0 0 x2' = true → RR = some (0, x0', x1', 0, 0, 0, x2')) ∧ (streamB 0 x0' x1' 0 0 0 x2' = false → RR = none)) := Lib.hid (by
     have h1 := HS3.out (0, x0', x1', 0, 0, 0, x2') (by unfold stO; rw [if_pos ⟨hE1, rfl⟩]; rfl)
     refine ⟨fun h => ?_, fun h => ?_⟩
     ·rw [h1, if_pos (show validS (0, x0', x1', 0, 0, 0, x2') = true from h)]
     ·rw [h1, if_neg (by rw [show validS (0, x0', x1', 0, 0, 0, x2') = false from h]; decide)])
    clear HS3 HS2 HN2 HXl HRx
    go_wp2
    obtain ⟨W5, hW5⟩ : ∃ W5, W5 = wr.alloc (.cells #[.int .i64 0, .int .i64 0, .int .i64 0, .int .i64 0, .int .i64 0, .int .i64 0, .int .i64 0] 29) := ⟨_, rfl⟩
    rw [← hW5] at bx nx g1 zx x0 x1 x2 x3 x4 x5 x6 y0 y1 y2 y3 y4 y5 y6 l0 l1 l2 ⊢
    have mixed : Tryz.prog.follows .mixedOrders = true := by kernel_rfl
    have H5 := Lib.hid hW5
    clear hW5 g0
    go_region_o
    all_goals
     obtain ⟨W6, hW6⟩ : ∃ W6, W6 = (set7 W5 wr.heap.size 0 x0' x1' 0 0 0 x2').drew := ⟨_, rfl⟩
     have bd : Below (set7 W5 wr.heap.size 0 x0' x1' 0 0 0 x2').heap.size (set7 W5 wr.heap.size 0 x0' x1' 0 0 0 x2') W6 := by rw [hW6]; exact (Below.refl _ _).drew
     have hs7 := (grown_set7 W5 wr.heap.size 0 x0' x1' 0 0 0 x2').size
     have N6 : SBox W6 wr.heap.size 0 x0' x1' 0 0 0 x2' := (nx.set7 0 x0' x1' 0 0 0 x2').below bd (nx.set7 0 x0' x1' 0 0 0 x2').lt
     have Z6 : SBox W6 w.heap.size 0 0 0 0 0 0 0 := (zx.kept (grown_set7 W5 wr.heap.size 0 x0' x1' 0 0 0 x2') (fun e => by injection e with e; omega)).below bd (Nat.lt_of_lt_of_le zx.lt hs7)
     have B6 : Below w.heap.size w W6 := (below7 (b := wr.heap.size) (BBr.out.trans (bx.mono BBr.out.size)) BBr.out.size (Nat.le_trans BBr.out.size bx.size) 0 x0' x1' 0 0 0 x2').trans (bd.mono (Nat.le_trans (Nat.le_trans BBr.out.size bx.size) hs7))
     have g6 : W6.cell? ⟨W1.heap.size, 0, none⟩ = some (.string T) := (bd.cell (p := ⟨W1.heap.size, 0, none⟩) (by have := bx.size; show W1.heap.size < _; omega)).trans (cell_set7 g1 (by omega) 0 x0' x1' 0 0 0 x2')
     unfold Take.set7 at hW6
     rw [← hW6]
     clear hW6 bd hs7 bx nx zx
     have hW6' := 0
     clear hW6'
     have HI := Lib.hid (validStream_any 0 x0' x1' 0 0 0 x2' W6)
     have HN6 := Lib.hid N6
     have HZ6 := Lib.hid Z6
     have HB6 := Lib.hid B6
     clear N6 Z6 B6
     have n0 := (HN6.out).c0; have n1 := (HN6.out).c1; have n2 := (HN6.out).c2; have n3 := (HN6.out).c3; have n4 := (HN6.out).c4; have n5 := (HN6.out).c5; have n6 := (HN6.out).c6
     cases hB : streamB 0 x0' x1' 0 0 0 x2' with
     | false =>
      rw [hB] at HI
      have HNo := Lib.hid (HFin.out.2 hB)
      clear hB
      go_wp2_with fail
      refine HI.out.mono ?_
      rintro e w7 ⟨rfl, b7⟩
      have RZ := HZ6.out.below b7 HZ6.out.lt
      have BB7 := Lib.hid (HB6.out.trans (b7.mono HB6.out.size))
      clear b7 n0 n1 n2 n3 n4 n5 n6
      have d0 := (RZ).c0; have d1 := (RZ).c1; have d2 := (RZ).c2; have d3 := (RZ).c3; have d4 := (RZ).c4; have d5 := (RZ).c5; have d6 := (RZ).c6
      have zf0 := (RZ).frz 0; have zf1 := (RZ).frz 1; have zf2 := (RZ).frz 2; have zf3 := (RZ).frz 3; have zf4 := (RZ).frz 4; have zf5 := (RZ).frz 5; have zf6 := (RZ).frz 6
      have S8 := RZ.set7 0 0 0 0 0 0 0
      have p0 := (S8).c0; have p1 := (S8).c1; have p2 := (S8).c2; have p3 := (S8).c3; have p4 := (S8).c4; have p5 := (S8).c5; have p6 := (S8).c6
      simp only [set7] at p0 p1 p2 p3 p4 p5 p6
      have HBN := Lib.hid (below7 (b := w.heap.size) BB7.out (Nat.le_refl _) BB7.out.size 0 0 0 0 0 0 0)
      clear S8 RZ
      go_wp2
      exact bodyPost_ret (v := .tuple #[.agg #[.int .i64 0, .int .i64 0, .int .i64 0, .int .i64 0, .int .i64 0, .int .i64 0, .int .i64 0], .bool false]) (by simp [results, Tryz.results138, go_sem, p0, p1, p2, p3, p4, p5, p6]) rfl (RdRet.no HNo.out rfl HBN.out)
     | true =>
      rw [hB] at HI
      have HYs := Lib.hid (HFin.out.1 hB)
      have HBt := Lib.hid hB
      clear hB
      go_wp2_with fail
      refine HI.out.mono ?_
      rintro e w7 ⟨rfl, b7⟩
      have RZ := HZ6.out.below b7 HZ6.out.lt
      have NX := HN6.out.below b7 HN6.out.lt
      have BB7 := Lib.hid (HB6.out.trans (b7.mono HB6.out.size))
      clear b7 n0 n1 n2 n3 n4 n5 n6
      have m0 := (NX).c0; have m1 := (NX).c1; have m2 := (NX).c2; have m3 := (NX).c3; have m4 := (NX).c4; have m5 := (NX).c5; have m6 := (NX).c6
      have d0 := (RZ).c0; have d1 := (RZ).c1; have d2 := (RZ).c2; have d3 := (RZ).c3; have d4 := (RZ).c4; have d5 := (RZ).c5; have d6 := (RZ).c6
      have zf0 := (RZ).frz 0; have zf1 := (RZ).frz 1; have zf2 := (RZ).frz 2; have zf3 := (RZ).frz 3; have zf4 := (RZ).frz 4; have zf5 := (RZ).frz 5; have zf6 := (RZ).frz 6
      have S8 := RZ.set7 0 x0' x1' 0 0 0 x2'
      have p0 := (S8).c0; have p1 := (S8).c1; have p2 := (S8).c2; have p3 := (S8).c3; have p4 := (S8).c4; have p5 := (S8).c5; have p6 := (S8).c6
      simp only [set7] at p0 p1 p2 p3 p4 p5 p6
      have HBN := Lib.hid (below7 (b := w.heap.size) BB7.out (Nat.le_refl _) BB7.out.size 0 x0' x1' 0 0 0 x2')
      clear S8 RZ NX
      go_wp2
      exact bodyPost_ret (v := .tuple #[.agg #[.int .i64 0, .int .i64 x0', .int .i64 x1', .int .i64 0, .int .i64 0, .int .i64 0, .int .i64 x2'], .bool true]) (by simp [results, Tryz.results138, go_sem, p0, p1, p2, p3, p4, p5, p6]) rfl (RdRet.yes HYs.out HBt.out rfl HBN.out)
   ·by_cases hC : E = [99] ∧ xs.length = 4
    ·obtain ⟨hE1, hx3⟩ := hC
     rw [decide_eq_true hE1] at hbeC
     rw [decide_eq_false (by rw [hE1]; decide)] at hbeR
     have HS3 := Lib.hid (fun t h => HS2.out t h)
     obtain ⟨x0', x1', x2', x3', rfl⟩ : ∃ a b c d, xs = [a, b, c, d] := by
      match xs, hx3 with
      | [a, b, c, d], _ => exact ⟨a, b, c, d, rfl⟩
     obtain ⟨b5, o5, rfl, hb5, hc5⟩ := HRx.out (by simp)
     have l0 := (bx.cell (p := ⟨b5, o5 + 0, none⟩) hb5).trans (hc5 0 (by simp))
     have l1 := (bx.cell (p := ⟨b5, o5 + 1, none⟩) hb5).trans (hc5 1 (by simp))
     have l2 := (bx.cell (p := ⟨b5, o5 + 2, none⟩) hb5).trans (hc5 2 (by simp))
     have l3 := (bx.cell (p := ⟨b5, o5 + 3, none⟩) hb5).trans (hc5 3 (by simp))
     simp only [List.getD_cons_zero, List.getD_cons_succ, Nat.add_zero] at l0 l1 l2 l3
     clear hc5
     have HFin : Hid ((streamB 1 0 0 x0' x1' x2' x3' = true → RR = some (1, 0, 0, x0', x1', x2', x3')) ∧ (streamB 1 0 0 x0' x1' x2' x3' = false → RR = none)) := Lib.hid (by
      have h1 := HS3.out (1, 0, 0, x0', x1', x2', x3') (by unfold stO; rw [if_neg (by rw [hE1]; simp), if_pos ⟨hE1, rfl⟩]; rfl)
      refine ⟨fun h => ?_, fun h => ?_⟩
      ·rw [h1, if_pos (show validS (1, 0, 0, x0', x1', x2', x3') = true from h)]
      ·rw [h1, if_neg (by rw [show validS (1, 0, 0, x0', x1', x2', x3') = false from h]; decide)])
     clear HS3 HS2 HN2 HXl HRx
     go_wp2
     obtain ⟨W5, hW5⟩ : ∃ W5, W5 = wr.alloc (.cells #[.int .i64 0, .int .i64 0, .int .i64 0, .int .i64 0, .int .i64 0, .int .i64 0, .int .i64 0] 29) := ⟨_, rfl⟩
     rw [← hW5] at bx nx g1 zx x0 x1 x2 x3 x4 x5 x6 y0 y1 y2 y3 y4 y5 y6 l0 l1 l2 l3 ⊢
     have mixed : Tryz.prog.follows .mixedOrders = true := by kernel_rfl
     have H5 := Lib.hid hW5
     clear hW5 g0
     go_region_o
     all_goals
      obtain ⟨W6, hW6⟩ : ∃ W6, W6 = (set7 W5 wr.heap.size 1 0 0 x0' x1' x2' x3').drew := ⟨_, rfl⟩
      have bd : Below (set7 W5 wr.heap.size 1 0 0 x0' x1' x2' x3').heap.size (set7 W5 wr.heap.size 1 0 0 x0' x1' x2' x3') W6 := by rw [hW6]; exact (Below.refl _ _).drew
      have hs7 := (grown_set7 W5 wr.heap.size 1 0 0 x0' x1' x2' x3').size
      have N6 : SBox W6 wr.heap.size 1 0 0 x0' x1' x2' x3' := (nx.set7 1 0 0 x0' x1' x2' x3').below bd (nx.set7 1 0 0 x0' x1' x2' x3').lt
      have Z6 : SBox W6 w.heap.size 0 0 0 0 0 0 0 := (zx.kept (grown_set7 W5 wr.heap.size 1 0 0 x0' x1' x2' x3') (fun e => by injection e with e; omega)).below bd (Nat.lt_of_lt_of_le zx.lt hs7)
      have B6 : Below w.heap.size w W6 := (below7 (b := wr.heap.size) (BBr.out.trans (bx.mono BBr.out.size)) BBr.out.size (Nat.le_trans BBr.out.size bx.size) 1 0 0 x0' x1' x2' x3').trans (bd.mono (Nat.le_trans (Nat.le_trans BBr.out.size bx.size) hs7))
      have g6 : W6.cell? ⟨W1.heap.size, 0, none⟩ = some (.string T) := (bd.cell (p := ⟨W1.heap.size, 0, none⟩) (by have := bx.size; show W1.heap.size < _; omega)).trans (cell_set7 g1 (by omega) 1 0 0 x0' x1' x2' x3')
      unfold Take.set7 at hW6
      rw [← hW6]
      clear hW6 bd hs7 bx nx zx
      have hW6' := 0
      clear hW6'
      have HI := Lib.hid (validStream_any 1 0 0 x0' x1' x2' x3' W6)
      have HN6 := Lib.hid N6
      have HZ6 := Lib.hid Z6
      have HB6 := Lib.hid B6
      clear N6 Z6 B6
      have n0 := (HN6.out).c0; have n1 := (HN6.out).c1; have n2 := (HN6.out).c2; have n3 := (HN6.out).c3; have n4 := (HN6.out).c4; have n5 := (HN6.out).c5; have n6 := (HN6.out).c6
      cases hB : streamB 1 0 0 x0' x1' x2' x3' with
      | false =>
       rw [hB] at HI
       have HNo := Lib.hid (HFin.out.2 hB)
       clear hB
       go_wp2_with fail
       refine HI.out.mono ?_
       rintro e w7 ⟨rfl, b7⟩
       have RZ := HZ6.out.below b7 HZ6.out.lt
       have BB7 := Lib.hid (HB6.out.trans (b7.mono HB6.out.size))
       clear b7 n0 n1 n2 n3 n4 n5 n6
       have d0 := (RZ).c0; have d1 := (RZ).c1; have d2 := (RZ).c2; have d3 := (RZ).c3; have d4 := (RZ).c4; have d5 := (RZ).c5; have d6 := (RZ).c6
       have zf0 := (RZ).frz 0; have zf1 := (RZ).frz 1; have zf2 := (RZ).frz 2; have zf3 := (RZ).frz 3; have zf4 := (RZ).frz 4; have zf5 := (RZ).frz 5; have zf6 := (RZ).frz 6
       have S8 := RZ.set7 0 0 0 0 0 0 0
       have p0 := (S8).c0; have p1 := (S8).c1; have p2 := (S8).c2; have p3 := (S8).c3; have p4 := (S8).c4; have p5 := (S8).c5; have p6 := (S8).c6
       simp only [set7] at p0 p1 p2 p3 p4 p5 p6
       have HBN := Lib.hid (below7 (b := w.heap.size) BB7.out (Nat.le_refl _) BB7.out.size 0 0 0 0 0 0 0)
       clear S8 RZ
       go_wp2
       exact bodyPost_ret (v := .tuple #[.agg #[.int .i64 0, .int .i64 0, .int .i64 0, .int .i64 0, .int .i64 0, .int .i64 0, .int .i64 0], .bool false]) (by simp [results, Tryz.results138, go_sem, p0, p1, p2, p3, p4, p5, p6]) rfl (RdRet.no HNo.out rfl HBN.out)
      | true =>
       rw [hB] at HI
       have HYs := Lib.hid (HFin.out.1 hB)
       have HBt := Lib.hid hB
       clear hB
       go_wp2_with fail
       refine HI.out.mono ?_
       rintro e w7 ⟨rfl, b7⟩
       have RZ := HZ6.out.below b7 HZ6.out.lt
       have NX := HN6.out.below b7 HN6.out.lt
       have BB7 := Lib.hid (HB6.out.trans (b7.mono HB6.out.size))
       clear b7 n0 n1 n2 n3 n4 n5 n6
       have m0 := (NX).c0; have m1 := (NX).c1; have m2 := (NX).c2; have m3 := (NX).c3; have m4 := (NX).c4; have m5 := (NX).c5; have m6 := (NX).c6
       have d0 := (RZ).c0; have d1 := (RZ).c1; have d2 := (RZ).c2; have d3 := (RZ).c3; have d4 := (RZ).c4; have d5 := (RZ).c5; have d6 := (RZ).c6
       have zf0 := (RZ).frz 0; have zf1 := (RZ).frz 1; have zf2 := (RZ).frz 2; have zf3 := (RZ).frz 3; have zf4 := (RZ).frz 4; have zf5 := (RZ).frz 5; have zf6 := (RZ).frz 6
       have S8 := RZ.set7 1 0 0 x0' x1' x2' x3'
       have p0 := (S8).c0; have p1 := (S8).c1; have p2 := (S8).c2; have p3 := (S8).c3; have p4 := (S8).c4; have p5 := (S8).c5; have p6 := (S8).c6
       simp only [set7] at p0 p1 p2 p3 p4 p5 p6
       have HBN := Lib.hid (below7 (b := w.heap.size) BB7.out (Nat.le_refl _) BB7.out.size 1 0 0 x0' x1' x2' x3')
       clear S8 RZ NX
       go_wp2
       exact bodyPost_ret (v := .tuple #[.agg #[.int .i64 1, .int .i64 0, .int .i64 0, .int .i64 x0', .int .i64 x1', .int .i64 x2', .int .i64 x3'], .bool true]) (by simp [results, Tryz.results138, go_sem, p0, p1, p2, p3, p4, p5, p6]) rfl (RdRet.yes HYs.out HBt.out rfl HBN.out)
    ·have hcA := hA
     have HNo : Hid (RR = none) := Lib.hid (HN2.out (by unfold stO; rw [if_neg hA, if_neg hC]))
     have hcond : (E = [114] ∧ xs.length ≠ 3) ∨ (E = [99] ∧ xs.length ≠ 4) ∨ (E ≠ [114] ∧ E ≠ [99]) := by
      by_cases h1 : E = [114]
      ·exact .inl ⟨h1, fun h => hA ⟨h1, h⟩⟩
      ·by_cases h2 : E = [99]
       ·exact .inr (.inl ⟨h2, fun h => hC ⟨h2, h⟩⟩)
       ·exact .inr (.inr ⟨h1, h2⟩)
     clear nx x0 x1 x2 x3 x4 x5 x6 y0 y1 y2 y3 y4 y5 y6
     go_upto_region 13 with (fail)
     obtain ⟨W5, hW5⟩ : ∃ W5, W5 = wr.alloc (.cells #[.int .i64 0, .int .i64 0, .int .i64 0, .int .i64 0, .int .i64 0, .int .i64 0, .int .i64 0] 29) := ⟨_, rfl⟩
     rw [← hW5] at bx zx g1 ⊢
     clear hW5
     have BB7 := Lib.hid (BBr.out.trans (bx.mono BBr.out.size))
     have RZ := zx
     have d0 := (RZ).c0; have d1 := (RZ).c1; have d2 := (RZ).c2; have d3 := (RZ).c3; have d4 := (RZ).c4; have d5 := (RZ).c5; have d6 := (RZ).c6
     have zf0 := (RZ).frz 0; have zf1 := (RZ).frz 1; have zf2 := (RZ).frz 2; have zf3 := (RZ).frz 3; have zf4 := (RZ).frz 4; have zf5 := (RZ).frz 5; have zf6 := (RZ).frz 6
     have S8 := RZ.set7 0 0 0 0 0 0 0
     have p0 := (S8).c0; have p1 := (S8).c1; have p2 := (S8).c2; have p3 := (S8).c3; have p4 := (S8).c4; have p5 := (S8).c5; have p6 := (S8).c6
     simp only [set7] at p0 p1 p2 p3 p4 p5 p6
     have HBN := Lib.hid (below7 (b := w.heap.size) BB7.out (Nat.le_refl _) BB7.out.size 0 0 0 0 0 0 0)
     clear S8 RZ bx zx hA hC HS2 HN2 HXl HRx
     generalize hxl : xs.length = L at *
     clear hxl
     rcases hcond with ⟨h1, h2⟩ | ⟨h1, h2⟩ | ⟨h1, h2⟩
     ·rw [decide_eq_true h1] at hbeR
      rw [decide_eq_false (by rw [h1]; decide)] at hbeC
      have hL : ((L : Int) == 3) = false := beq_eq_false_iff_ne.2 (by omega)
      clear h1
      go_wp2
      exact bodyPost_ret (v := .tuple #[.agg #[.int .i64 0, .int .i64 0, .int .i64 0, .int .i64 0, .int .i64 0, .int .i64 0, .int .i64 0], .bool false]) (by simp [results, Tryz.results138, go_sem, p0, p1, p2, p3, p4, p5, p6]) rfl (RdRet.no HNo.out rfl HBN.out)
     ·rw [decide_eq_true h1] at hbeC
      rw [decide_eq_false (by rw [h1]; decide)] at hbeR
      have hL : ((L : Int) == 4) = false := beq_eq_false_iff_ne.2 (by omega)
      clear h1
      go_wp2
      exact bodyPost_ret (v := .tuple #[.agg #[.int .i64 0, .int .i64 0, .int .i64 0, .int .i64 0, .int .i64 0, .int .i64 0, .int .i64 0], .bool false]) (by simp [results, Tryz.results138, go_sem, p0, p1, p2, p3, p4, p5, p6]) rfl (RdRet.no HNo.out rfl HBN.out)
     ·rw [decide_eq_false h1] at hbeR
      rw [decide_eq_false h2] at hbeC
      clear h1 h2
      go_wp2
      exact bodyPost_ret (v := .tuple #[.agg #[.int .i64 0, .int .i64 0, .int .i64 0, .int .i64 0, .int .i64 0, .int .i64 0, .int .i64 0], .bool false]) (by simp [results, Tryz.results138, go_sem, p0, p1, p2, p3, p4, p5, p6]) rfl (RdRet.no HNo.out rfl HBN.out)
end Go.Proofs.YtgipnbeipfhekaaGreatDoor.Rd
namespace Go.Proofs.YtgipnbeipfhekaaGreatDoor.Open
open Go.ChangeShapes Go.WideShapes Go.ChangeAt Go.RowKit Go.Joins Go.Proofs.YtgipnbeipfhekaaGreatDoor
set_option linter.unusedVariables false
set_option maxRecDepth 100000
section
variable {H : Type} {enc : TypeId × Value → H} {w : World} {base b0 : Nat} {spare : Nat → Bool} {held : Bool} {v : Value} {d : DataW H} {p : List MemPlace}
theorem cellsTx : Tryz.prog.cellsOf 9 = 1 := by kernel_rfl
structure IsTexts (w : World) (v : Value) : Prop where
 ex : ∃ (A : Option Addr) (c : Nat) (ss : List ByteArray), v = .slice A ss.length c ∧ ss.length ≤ 9223372036854775807 ∧ (∀ i, i < ss.length → (ss.getD i ByteArray.empty).size ≤ 9223372036854775807) ∧ LabM.RdT w w.heap.size A ss
theorem txts_of {fuel : Nat} {c0 : Value} {y : DataW H × List MemPlace} (hf : DataW.trod enc Tryz.prog w base (fun _ => true) held fuel 50 [c0] = some y) : IsTexts w c0 := by
 rcases Go.Deep.open_strs Tryz.underlying50 Tryz.underlying9 cellsTx hf with ⟨hcs, _⟩ | ⟨x, len, cap, m, Sx, hcs, _, hl, hm, hmm, _, hcell⟩
 ·simp at hcs
  subst hcs
  exact ⟨none, 0, [], rfl, by decide, fun i hi => absurd hi (Nat.not_lt_zero i), fun h => absurd h (by simp)⟩
 ·simp at hcs
  subst hcs
  simp only [if_true] at hmm
  unfold maxLen at hm hcell
  refine ⟨some x, cap, (List.range len).map Sx, by simp, by simp; omega, fun i hi => ?_, fun h0 => ?_⟩
  ·simp at hi
   have := (hcell i (by omega)).2
   simpa [List.getD, hi] using Nat.le_trans this (by omega)
  ·simp at h0
   obtain ⟨hs, hb⟩ := spot_of (hcell 0 (by omega)).1
   refine ⟨x.block, x.off, by cases x; simp_all, hb, fun i hi => ?_⟩
   simp at hi
   rw [← addr_add hs, (hcell i (by omega)).1]
   simp [List.getD, hi]
theorem texts (hv : Value.okWide Tryz.prog w .any b0 50 v) (h : DataW.Trod enc Tryz.prog w base (fun _ => true) held 50 v d p) : IsTexts w v := by
 obtain ⟨a, len, cap, rfl⟩ := okWide_slice Tryz.underlying50 hv
 obtain ⟨fuel, hf⟩ := h
 exact txts_of (by simpa [Value.cells] using hf)
structure IsText (w : World) (v : Value) : Prop where
 ex : ∃ s : ByteArray, v = .string s ∧ s.size ≤ 9223372036854775807
theorem string (hv : Value.okWide Tryz.prog w .any b0 9 v) (h : DataW.Trod enc Tryz.prog w base spare held 9 v d p) : IsText w v := by
 obtain ⟨s, rfl⟩ := okWide_string Tryz.underlying9 hv
 obtain ⟨fuel, hf⟩ := h
 obtain ⟨s', h, _, ws⟩ := DataW.trod_string Tryz.underlying9 hf
 simp [Value.cells] at h
 subst h
 exact ⟨s, rfl, by unfold maxLen at ws; omega⟩
end
end Go.Proofs.YtgipnbeipfhekaaGreatDoor.Open
namespace Go.Proofs.YtgipnbeipfhekaaGreatDoor.Rd
open Go.RowKit Go.Proofs.YtgipnbeipfhekaaGreatDoor Go.Proofs.YtgipnbeipfhekaaGreatDoor.Base Go.Proofs.YtgipnbeipfhekaaGreatDoor.Mem Go.Proofs.YtgipnbeipfhekaaGreatDoor.Dec Go.Proofs.YtgipnbeipfhekaaGreatDoor.LabM Go.Proofs.YtgipnbeipfhekaaGreatDoor.RecJ Go.Proofs.YtgipnbeipfhekaaGreatDoor.CutP Go.Proofs.YtgipnbeipfhekaaGreatDoor.Val Go.Proofs.YtgipnbeipfhekaaGreatDoor.Str Go.Proofs.YtgipnbeipfhekaaGreatDoor.Take
set_option linter.unusedVariables false
theorem powMore {B C : Nat} {w : World} (h : Pow B w) (hBC : B ≤ C) : Pow C w := fun w' hb => h w' (hb.mono hBC)
theorem errMore {B C : Nat} {w : World} (h : Errs B w) (hBC : B ≤ C) : Errs C w := by
 obtain ⟨e1, e2, h1, h2, h3⟩ := h
 exact ⟨e1, e2, Nat.lt_of_lt_of_le h1 hBC, Nat.lt_of_lt_of_le h2 hBC, h3⟩
theorem maxMore {B C : Nat} {w : World} (h : MaxL B w) (hBC : B ≤ C) : MaxL C w := by
 obtain ⟨m, h1, h2⟩ := h
 exact ⟨m, Nat.lt_of_lt_of_le h1 hBC, h2⟩
end Go.Proofs.YtgipnbeipfhekaaGreatDoor.Rd
namespace Go.Proofs.YtgipnbeipfhekaaGreatDoor.LcG
open Go.RowKit Go.Proofs.YtgipnbeipfhekaaGreatDoor Go.Proofs.YtgipnbeipfhekaaGreatDoor.Base Go.Proofs.YtgipnbeipfhekaaGreatDoor.Mem Go.Proofs.YtgipnbeipfhekaaGreatDoor.MemS Go.Proofs.YtgipnbeipfhekaaGreatDoor.LabM Go.Proofs.YtgipnbeipfhekaaGreatDoor.LabV Go.Proofs.YtgipnbeipfhekaaGreatDoor.StM Go.Proofs.YtgipnbeipfhekaaGreatDoor.Dec Go.Proofs.YtgipnbeipfhekaaGreatDoor.Val Go.Proofs.YtgipnbeipfhekaaGreatDoor.Rd Go.Proofs.YtgipnbeipfhekaaGreatDoor.CarM Go.Proofs.YtgipnbeipfhekaaGreatDoor.LcA Go.Proofs.YtgipnbeipfhekaaGreatDoor.LcC
open Go.Proofs.YtgipnbeipfhekaaGreatDoor.Take (SBox set7)
set_option linter.unusedVariables false
def Tabs (w : World) : Prop := Pow w.heap.size w ∧ Errs w.heap.size w ∧ MaxL w.heap.size w
theorem Tabs.on {w w' : World} (h : Tabs w) (hb : Below w.heap.size w w') : Tabs w' := ⟨powMore (h.1.on hb) hb.size, errMore (h.2.1.on hb) hb.size, maxMore (h.2.2.on hb) hb.size⟩
def WithRet (L : Lb) (x : ByteArray) (r : St) (w : World) (e : Ending) (w' : World) : Prop := ∃ v', e = .returned (.tuple #[v', .bool (labR (withR L x r))]) ∧ LabOwn w.heap.size w' v' (withR L x r) ∧ Below w.heap.size w w'
def WithC (L : Lb) (x : ByteArray) (r : St) : Prop := ∀ v w, LabAt w v L → Calls Tryz.prog 139 #[v, .string x, r.val] w (WithRet L x r w)
theorem withC_at {L : Lb} {x : ByteArray} (r : St) (hl : L.1.length = L.2.length) (hn : L.1.length ≤ 6) (hh : hasS L.1 x = true) (hsz : ∀ i, i < L.1.length → (L.1.getD i ByteArray.empty).size ≤ 9223372036854775807) : WithC L x r := fun v w h => LcW.with_at L v x r w h hl hn hh hsz
theorem withC_end {L : Lb} {x : ByteArray} (r : St) (hl : L.1.length = L.2.length) (hn : L.1.length ≤ 6) (hh : hasS L.1 x = false) (hpe : posS L.1 x = L.1.length) (hsz : ∀ i, i < L.1.length → (L.1.getD i ByteArray.empty).size ≤ 9223372036854775807) (hsx : x.size ≤ 9223372036854775807) : WithC L x r := fun v w h => LcW.with_end L v x r w h hl hn hh hpe hsz hsx
theorem find_ex (L : Lb) (v : Value) (x : ByteArray) (w : World) (h : LabAt w v L) (hl : L.1.length = L.2.length) (hn : L.1.length ≤ 6) :
  Calls Tryz.prog 137 #[v, .string x] w fun e w' => ∃ r0 : St, e = .returned (.tuple #[r0.val, .bool (findR L x).isSome]) ∧ (∀ r, findR L x = some r → r0 = r) ∧ Below w.heap.size w w' := by
 obtain ⟨A, c, A', c', rfl, hx, hy, _⟩ := h
 refine (find_any L A A' c c' x w hx hy hl hn).mono ?_
 rintro e w' ⟨rfl, hb⟩
 cases hf : findR L x with
 | none => exact ⟨zeroSt, rfl, fun r hr => (by cases hr), hb⟩
 | some r => exact ⟨r, rfl, fun r' hr => Option.some.inj hr, hb⟩
theorem ownPut {B b : Nat} {w : World} {v : Value} {L : Lb} (h : LabOwn B w v L) (hb : b < B) (x y : Value) : LabOwn B ((w.setCell ⟨b, 0, none⟩ x).setCell ⟨b, 1, none⟩ y) v L := by
 obtain ⟨A, c, A', c', e, h1, h2⟩ := h
 exact ⟨A, c, A', c', e, ownsRow_setCell_below (ownsRow_setCell_below h1 (a := ⟨b, 0, none⟩) hb x) (a := ⟨b, 1, none⟩) hb y, ownsRow_setCell_below (ownsRow_setCell_below h2 (a := ⟨b, 0, none⟩) hb x) (a := ⟨b, 1, none⟩) hb y⟩
set_option maxHeartbeats 4000000 in
set_option maxRecDepth 100000 in
theorem give_set {L : Lb} {nm wd : ByteArray} {r : St} (hr : rdO wd.data.toList = some (r.K, r.W, r.T, r.m, r.f, r.a, r.s)) (hW : WithC L nm r) (hok : labR (withR L nm r) = true) (hl : L.1.length = L.2.length) (hn : L.1.length ≤ 6) (hsz : wd.size ≤ 1048576) (v : Value) (w : World) (h : LabAt w v L) (ht : Tabs w) :
  Calls Tryz.prog 87 #[v, .string ⟨#[115, 101, 116]⟩, .string nm, .string wd] w fun e w' => ∃ v', e = .returned (.tuple #[v', .string ⟨#[111, 107]⟩, .bool true]) ∧ LabAt w' v' (withR L nm r) ∧ Below w.heap.size w w' := by
 have hv := h
 obtain ⟨A, c, A', c', rfl, hx, hy, _⟩ := h
 obtain ⟨W2, hW2⟩ : ∃ W2, W2 = (w.alloc (.cells #[.slice A L.1.length c, .slice A' L.2.length c'] 53)).alloc (.cells #[.slice none 0 0, .slice none 0 0] 53) := ⟨_, rfl⟩
 have b2 : Below w.heap.size w W2 := by rw [hW2]; exact ((Below.refl _ _).alloc (Nat.le_refl _) _).alloc (by simp) _
 have KL : Hid (Blk.Blk W2 w.heap.size 53 #[.slice A L.1.length c, .slice A' L.2.length c']) := Lib.hid (by rw [hW2]; exact (Blk.Blk.new w _ _).alloc _)
 have KR : Hid (Blk.Blk W2 (w.heap.size + 1) 53 #[.slice none 0 0, .slice none 0 0]) := Lib.hid (by rw [hW2]; exact Blk.Blk.newAt _ _ (by simp))
 have hv2 := hv.below b2
 have HF := Lib.hid (find_ex L (.agg #[.slice A L.1.length c, .slice A' L.2.length c']) wd W2 hv2 hl hn)
 have HV := Lib.hid hv2
 have HB := Lib.hid b2
 have HW := Lib.hid hW2
 have HRd := Lib.hid (fun W (hb : Below w.heap.size w W) => implRead_any wd hsz W (ht.on hb).1 (ht.on hb).2.1 (ht.on hb).2.2)
 have HRR := Lib.hid hr
 have HWC := Lib.hid hW
 clear hr hW hv hx hy hW2 b2 hv2 ht hl
 go_enter Tryz.func87, Tryz.ntmps87
 go_wp2_with fail
 rw [← HW.out]
 refine HF.out.mono ?_
 rintro e w1 ⟨r0, rfl, _, b1⟩
 have KL1 := Lib.hid (KL.out.belowS b1)
 have KR1 := Lib.hid (KR.out.belowS b1)
 have HV1 := Lib.hid (HV.out.below b1)
 have HB1 := Lib.hid (Base.Below.nextA HB.out b1)
 clear b1 KL KR HV HB HF HW
 obtain ⟨K, W, T, m, f, a, s⟩ := r0
 unfold St.val
 dsimp only
 go_wp2_with fail
 obtain ⟨W3, hW3⟩ : ∃ W3, W3 = w1.alloc (.cells #[.int .i64 K, .int .i64 W, .int .i64 T, .int .i64 m, .int .i64 f, .int .i64 a, .int .i64 s] 29) := ⟨_, rfl⟩
 have b3 : Below w1.heap.size w1 W3 := by rw [hW3]; exact (Below.refl _ _).alloc (Nat.le_refl _) _
 have KS : SBox W3 w1.heap.size K W T m f a s := by rw [hW3]; exact SBox.new _ _ _ _ _ _ _ _
 have hz1 := HB1.out.size
 have hk1 := KR1.out.lt
 rw [← hW3]
 refine (HRd.out W3 (Base.Below.nextA HB1.out b3)).mono ?_
 intro e w4 hrd
 obtain ⟨hr1, hr2⟩ := hrd.1 _ _ _ _ _ _ _ HRR.out
 subst hr2
 have b4 := hrd.2.2
 have b34 := Base.Below.nextA b3 b4
 have KL4 := KL1.out.belowS b34
 have KR4 := KR1.out.belowS b34
 have KS4 := KS.below b4 KS.lt
 have HB4 := Lib.hid (Base.Below.nextA HB1.out b34)
 have HV4 := HV1.out.below b34
 have S8 := KS4.set7 r.K r.W r.T r.m r.f r.a r.s
 have x0 := (KS4).c0; have x1 := (KS4).c1; have x2 := (KS4).c2; have x3 := (KS4).c3; have x4 := (KS4).c4; have x5 := (KS4).c5; have x6 := (KS4).c6
 have z0 := (KS4).frz 0; have z1 := (KS4).frz 1; have z2 := (KS4).frz 2; have z3 := (KS4).frz 3; have z4 := (KS4).frz 4; have z5 := (KS4).frz 5; have z6 := (KS4).frz 6
 obtain ⟨W5, hW5⟩ : ∃ W5, W5 = set7 w4 w1.heap.size r.K r.W r.T r.m r.f r.a r.s := ⟨_, rfl⟩
 rw [← hW5] at S8
 have gs : w4.grownBy W5 (some w1.heap.size) := by rw [hW5]; exact Take.grown_set7 _ _ _ _ _ _ _ _ _
 have KL5 := Lib.hid (KL4.kept gs (fun e => by injection e with e; omega))
 have KR5 := Lib.hid (KR4.kept gs (fun e => by injection e with e; omega))
 have HB5 := Lib.hid (HB4.out.trans (grown_below (B := w.heap.size) gs (fun q e => by injection e with e; omega) (by have := HB4.out.size; omega)))
 have HS8 := Lib.hid S8
 have HW5 := Lib.hid hW5
 unfold set7 at HW5
 have HC := Lib.hid (HWC.out (.agg #[.slice A L.1.length c, .slice A' L.2.length c']) W5 (HV1.out.below (b34.trans (grown_below (B := w1.heap.size) gs (fun q e => by injection e with e; omega) (by have := b34.size; omega)))))
 have e0 := KL5.out.at 0 (v := .slice A L.1.length c) rfl
 have e1 := KL5.out.at 1 (v := .slice A' L.2.length c') rfl
 have y0 := (S8).c0; have y1 := (S8).c1; have y2 := (S8).c2; have y3 := (S8).c3; have y4 := (S8).c4; have y5 := (S8).c5; have y6 := (S8).c6
 unfold St.val at HC
 generalize r.K = K' at *
 generalize r.W = W' at *
 generalize r.T = T' at *
 generalize r.m = m' at *
 generalize r.f = f' at *
 generalize r.a = a' at *
 generalize r.s = s' at *
 rw [HW5.out] at e0 e1 y0 y1 y2 y3 y4 y5 y6
 clear hrd hr1 b4 b34 b3 KL4 KR4 KS4 HV4 S8 gs hW5 KS hW3 KL1 KR1 HV1 HB1 HRd HRR HWC HB4
 go_wp2_with fail
 rw [← HW5.out]
 refine HC.out.mono ?_
 rintro e w6 ⟨v6, rfl, hv6, b6⟩
 have hv7 := hv6
 obtain ⟨A7, c7, A8, c8, rfl, _, _⟩ := hv6
 have KR6 := KR5.out.belowS b6
 have HB6 := Base.Below.nextA HB5.out b6
 have hk6 := KR6.lt
 have r0 := KR6.at 0 (v := .slice none 0 0) rfl
 have r1 := KR6.at 1 (v := .slice none 0 0) rfl
 have f0 := KR6.frz 0
 have f1 := KR6.frz 1
 have KK := ((KR6.setTo 0 (.slice A7 (withR L nm r).1.length c7) rfl).setTo 1 (.slice A8 (withR L nm r).2.length c8) rfl).alloc (.cells #[.slice A7 (withR L nm r).1.length c7, .slice A8 (withR L nm r).2.length c8] 53)
 have k0 := KK.at 0 (v := .slice A7 (withR L nm r).1.length c7) rfl
 have k1 := KK.at 1 (v := .slice A8 (withR L nm r).2.length c8) rfl
 have hvf := (ownPut hv7 (b := w.heap.size + 1) (by have := KR5.out.lt; omega) (.slice A7 (withR L nm r).1.length c7) (.slice A8 (withR L nm r).2.length c8)).at.below ((Below.refl _ _).alloc (Nat.le_refl _) (.cells #[.slice A7 (withR L nm r).1.length c7, .slice A8 (withR L nm r).2.length c8] 53))
 have HFIN := Lib.hid (And.intro hvf (((HB6.setCell (p := ⟨w.heap.size + 1, 0, none⟩) (Nat.le_succ _) (.slice A7 (withR L nm r).1.length c7)).setCell (p := ⟨w.heap.size + 1, 1, none⟩) (Nat.le_succ _) (.slice A8 (withR L nm r).2.length c8)).alloc (by have := HB6.size; simp; omega) (.cells #[.slice A7 (withR L nm r).1.length c7, .slice A8 (withR L nm r).2.length c8] 53)))
 rw [hok]
 clear hv7 KR6 HB6 KK hvf b6 HC HW5 KL5 KR5 HB5 HS8 e0 e1 y0 y1 y2 y3 y4 y5 y6 x0 x1 x2 x3 x4 x5 x6 z0 z1 z2 z3 z4 z5 z6
 go_wp2
 refine bodyPost_ret (v := .tuple #[.agg #[.slice A7 (withR L nm r).1.length c7, .slice A8 (withR L nm r).2.length c8], .string ⟨#[111, 107]⟩, .bool true]) (by simp [results, Tryz.results87, go_sem, k0, k1]) rfl ?_
 exact ⟨_, rfl, HFIN.out.1, HFIN.out.2⟩
end Go.Proofs.YtgipnbeipfhekaaGreatDoor.LcG
