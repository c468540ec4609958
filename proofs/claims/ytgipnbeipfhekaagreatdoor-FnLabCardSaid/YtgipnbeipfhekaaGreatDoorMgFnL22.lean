/- RunLab: a script is run over the lab. -/
import Derived.Test.YtgipnbeipfhekaaGreatDoorMgFnL17
import Derived.Test.YtgipnbeipfhekaaGreatDoorMgFnL21
import Derived.Test.YtgipnbeipfhekaaGreatDoorMgFnL12
import Derived.Test.YtgipnbeipfhekaaGreatDoorMgFnL00
set_option linter.unusedVariables false
set_option linter.unusedSimpArgs false
set_option maxRecDepth 100000
set_option maxHeartbeats 4000000
namespace Go.Proofs.YtgipnbeipfhekaaGreatDoor
namespace LcG
open Go.RowKit Base Mem MemS LabM LabV StM StTx Dec Val Rd CutP RecJ CarM LcA LcC Jour
theorem script_len : ∀ ls : List (List UInt8), ls.length ≤ (script ls).length
 | [] => Nat.zero_le _
 | x :: r => by
  have := script_len r
  simp only [script, List.flatMap_cons, List.length_append, List.length_cons] at this ⊢
  omega
noncomputable def LkAt (L : Lb) (ls : List (List UInt8)) (k : Nat) : Lb × List UInt8 := runR L (ls.take k)
theorem lk_zero (L : Lb) (ls : List (List UInt8)) : LkAt L ls 0 = (L, []) := rfl
theorem lk_succ (L : Lb) {ls : List (List UInt8)} {k : Nat} {x : List UInt8} (h : ls[k]? = some x) : LkAt L ls (k + 1) = ((lineR (LkAt L ls k).1 x).1, (LkAt L ls k).2 ++ ((lineR (LkAt L ls k).1 x).2 ++ [10])) := by
 unfold LkAt
 rw [List.take_add_one, h]
 exact lines_snoc x _ L
theorem lk_ne (L : Lb) {ls : List (List UInt8)} (h : ls ≠ []) : (LkAt L ls ls.length).2 ≠ [] := by
 obtain ⟨r, x, rfl⟩ : ∃ r x, ls = r ++ [x] := ⟨ls.dropLast, ls.getLast h, (List.dropLast_concat_getLast h).symm⟩
 rw [List.length_append, List.length_singleton, lk_succ L (x := x) (by simp)]
 simp
def RlRel (L : Lb) (ls : List (List UInt8)) (g bt : Nat) (w : World) (k : Nat) (wr : World) : Prop :=
 (∃ A c A' c', Blk.Blk wr w.heap.size 53 #[.slice A (LkAt L ls k).1.1.length c, .slice A' (LkAt L ls k).1.2.length c'] ∧ LabAt wr (.agg #[.slice A (LkAt L ls k).1.1.length c, .slice A' (LkAt L ls k).1.2.length c']) (LkAt L ls k).1) ∧
 IsJ bt bt (LkAt L ls k).2 wr ∧ Blk.Blk wr (w.heap.size + 1) 53 #[.slice none 0 0, .slice none 0 0] ∧ (∀ i x, ls[i]? = some x → wr.cell? ⟨g, i, none⟩ = some (.string (tx x))) ∧ Below w.heap.size w wr ∧ g < bt ∧ bt < wr.heap.size ∧ w.heap.size + 1 < g
theorem ownsRow_keepB {w w' : World} {B b n size : Nat} {e t : TypeId} {v : Value} {xs : List Value} {cs : Array Value} (h : w.ownsRow B e size v n xs) (hk : KeepB b w w') (hb : Blk.Blk w b t cs) (h1 : t ≠ e) (h2 : e ≠ 5) : w'.ownsRow B e size v n xs := by
 refine ⟨h.1, ?_⟩
 rcases h.2 with h3 | ⟨g, cap, cur, e1, hB, hh, hr⟩
 ·exact .inl h3
 ·refine .inr ⟨g, cap, cur, e1, hB, hk.2 g _ _ _ (fun e2 => ?_) h2 hh, hr⟩
  subst e2
  unfold Blk.Blk at hb
  rw [hb] at hh
  injection hh with hh
  injection hh with _ h4
  exact h1 h4
theorem labOwnKeep {w w' : World} {v : Value} {L : Lb} {b B : Nat} {t : TypeId} {cs : Array Value} (h : LabOwn B w v L) (hk : KeepB b w w') (hb : Blk.Blk w b t cs) (h1 : t ≠ 9) (h2 : t ≠ 29) : LabOwn B w' v L := by
 obtain ⟨A, c, A', c', e, o1, o2⟩ := h
 exact ⟨A, c, A', c', e, ownsRow_keepB o1 hk hb h1 (by decide), ownsRow_keepB o2 hk hb h2 (by decide)⟩
theorem labOwnPut {w : World} {v : Value} {L : Lb} {b B C : Nat} {cs : Array Value} (h : LabOwn B w v L) (hK : Blk.Blk w b 53 cs) (x y : Value) (hC : C ≤ B) : LabOwn C ((w.setCell ⟨b, 0, none⟩ x).setCell ⟨b, 1, none⟩ y) v L := by
 obtain ⟨A, c, A', c', e, h1, h2⟩ := h
 exact ⟨A, c, A', c', e, ownsRow_base (ownsRow_setCell_below' h1 hK 0 x 1 y) hC, ownsRow_base (ownsRow_setCell_below' h2 hK 0 x 1 y) hC⟩
theorem runLab_own {L : Lb} {ls : List (List UInt8)} (hne : ls ≠ []) (h10 : ∀ x ∈ ls, ∀ c ∈ x, c ≠ 10) (hL : labR L = true) (hsz : (script ls).length ≤ 4000) (hn1 : L.1.length ≤ 6) (hn2 : L.2.length ≤ 6) (hnm : ∀ i, i < L.1.length → (L.1.getD i ByteArray.empty).size ≤ 9223372036854775807)
  (hC : ∀ k x, ls[k]? = some x → CarC (LkAt L ls k).1 x) (hout : (LkAt L ls ls.length).2.length ≤ 100000000) (hlo : ∀ k x, ls[k]? = some x → (LkAt L ls k).2.length + (lineR (LkAt L ls k).1 x).2.length + 1 ≤ 100000000) (hend : (LkAt L ls ls.length).1.1.length ≤ 1000 ∧ (LkAt L ls ls.length).1.2.length ≤ 1000) (v : Value) (w : World) (h : LabAt w v L) (ht : Tabs w) :
  Calls Tryz.prog 17 #[v, .string (tx (script ls))] w fun e w' => ∃ v', e = .returned (.tuple #[v', .string (tx (LkAt L ls ls.length).2), .bool true]) ∧ LabOwn w.heap.size w' v' (LkAt L ls ls.length).1 ∧ Below w.heap.size w w' := by
 have hv0 := h
 obtain ⟨A, c, A', c', rfl, hx, hy, _⟩ := h
 obtain ⟨W2, hW2⟩ : ∃ W2, W2 = (w.alloc (.cells #[.slice A L.1.length c, .slice A' L.2.length c'] 53)).alloc (.cells #[.slice none 0 0, .slice none 0 0] 53) := ⟨_, rfl⟩
 have b2 : Below w.heap.size w W2 := by rw [hW2]; exact ((Below.refl _ _).alloc (Nat.le_refl _) _).alloc (by simp) _
 have KL : Hid (Blk.Blk W2 w.heap.size 53 #[.slice A L.1.length c, .slice A' L.2.length c']) := J (by rw [hW2]; exact (Blk.Blk.new w _ _).alloc _)
 have KR : Hid (Blk.Blk W2 (w.heap.size + 1) 53 #[.slice none 0 0, .slice none 0 0]) := J (by rw [hW2]; exact Blk.Blk.newAt _ _ (by simp))
 have hVL := implLab_any A A' c c' W2.heap.size L.2.length L.1 (flat L.2) W2 ((hx.below b2 (Nat.le_refl _)).more b2.size) ((hy.below b2 (Nat.le_refl _)).more b2.size) (Nat.le_refl _) hnm (by omega) (by omega)
 rw [show labB L.1 L.2.length (flat L.2) = true from hL] at hVL
 have HVL := J hVL
 have HSf := J (fun W => Any.strings_HasSuffix YtgipnbeipfhekaaGreatDoor.lv100 (tx (script ls)) ⟨#[10]⟩ W (by rw [size_tx]; omega))
 rw [list_tx, suffix_script hne] at HSf
 have HSp := J (fun (W : World) (hb : Below w.heap.size w W) => (ht.on hb).2.2)
 have hcut := cut_script ls h10
 have hln : (tx (script ls)).size ≤ 4000 := by rw [size_tx]; exact hsz
 have htl : ¬ (tx (script ls)).toList = [] := fun e => by
  rw [Lib.toList_data, list_tx] at e
  cases ls with
  | nil => exact hne rfl
  | cons x r => simp [script] at e
 have htl2 : ((tx (script ls)).toList == []) = false := beq_eq_false_iff_ne.2 htl
 have HSP2 := J (fun (W : World) (m : Int) hm => split_to (tx (script ls)) 10 (by omega) m W hm)
 rw [list_tx, hcut] at HSP2
 have HV := J hv0
 have HTB := J ht
 have HCC := J hC
 have HB := J b2
 have HW := J hW2
 have HLO := J hlo
 have HEN := J hend
 clear hv0 hx hy hW2 b2 ht hC hVL hlo hend hcut hL hnm h10
 generalize tx (script ls) = ln at *
 go_enter Tryz.func17, Tryz.ntmps17
 go_wp2_with fail
 rw [← HW.out]
 refine HVL.out.mono ?_
 rintro e w1 ⟨rfl, b1⟩
 have KL1 := J (KL.out.belowS b1)
 have KR1 := J (KR.out.belowS b1)
 have HB1 := J (Base.Below.nextA HB.out b1)
 clear b1 KL KR HB HVL HW
 go_wp2_with fail
 refine (HSf.out w1).mono ?_
 rintro e w1b ⟨rfl, rfl⟩
 obtain ⟨m, _, hm⟩ := HSp.out _ HB1.out
 go_wp2_with fail
 refine (HSP2.out _ m hm).mono ?_
 rintro e w2 ⟨rfl, hcc, hgl, b2⟩
 have hll : (ls ++ [[]]).length = ls.length + 1 := by simp
 obtain ⟨n, hn⟩ : ∃ n, n = ls.length := ⟨_, rfl⟩
 have hwords : ∀ i x, ls[i]? = some x → w2.cell? ⟨w1b.heap.size, i, none⟩ = some (.string (tx x)) := fun i x hx => by
  have hi : i < ls.length := (List.getElem?_eq_some_iff.1 hx).1
  have k := hcc i (by rw [txs_len, hll]; omega)
  rw [txs_get _ _ (by rw [hll]; omega), List.getD_eq_getElem?_getD, List.getElem?_append_left hi, hx] at k
  exact k
 obtain ⟨w3, hw3⟩ : ∃ w3, w3 = w2.alloc (.cells #[.pointer none, .slice none 0 0] 93) := ⟨_, rfl⟩
 have b3 : Below w2.heap.size w2 w3 := by rw [hw3]; exact (Below.refl _ _).alloc (Nat.le_refl _) _
 have b13 := Base.Below.nextA b2 b3
 have hk1 := KR1.out.lt
 have H0 : Hid (RlRel L ls w1b.heap.size w2.heap.size w 0 w3) := J ⟨⟨A, c, A', c', KL1.out.belowS b13, HV.out.below (Base.Below.nextA HB1.out b13)⟩, .inl ⟨Nat.le_refl _, .slice none 0 0, by rw [hw3]; exact Blk.Blk.new w2 _ _, World.ownsRow_nil _ _ _ _, by simp [Value.ownBlock]⟩, KR1.out.belowS b13, fun i x hx => (b3.cell (p := ⟨w1b.heap.size, i, none⟩) hgl).trans (hwords i x hx), Base.Below.nextA HB1.out b13, hgl, by rw [hw3]; simp, hk1⟩
 have HW3 := J hw3
 rw [hll, ← hn]
 have hn4 : n ≤ 4000 := by rw [hn]; exact Nat.le_trans (script_len ls) hsz
 have hnn : IntKind.i64.wrap (((n + 1 : Nat) : Int) - 1) = (n : Int) := by rw [show ((n + 1 : Nat) : Int) - 1 = (n : Int) from by omega, IntKind.wrap_i64]; omega
 have hln2 : ¬ (4000 : Int) < (ln.size : Int) := by omega
 have HNN := J hn
 clear hcc hwords b3 b13 hw3 b2 hll hm HSp HSP2 HSf hn
 go_wp2_with fail
 go_loopw [39] (fun iv wr => ∃ k : Nat, k ≤ n ∧ iv = .int .i64 (k : Int) ∧ Hid (RlRel L ls w1b.heap.size w2.heap.size w k wr)) (fun iv _ => n - (intOf iv).toNat)
 case atStart => exact ⟨0, Nat.zero_le _, rfl, by rw [← HW3.out]; exact H0⟩
 case round =>
  obtain ⟨k, hk, rfl, HP⟩ := hrel
  obtain ⟨wo, rfl⟩ : ∃ x, x = wr := ⟨_, rfl⟩
  by_cases hlt : k < n
  ·obtain ⟨x, hx⟩ : ∃ x, ls[k]? = some x := ⟨ls[k]'(by rw [← HNN.out]; exact hlt), by simp [show k < ls.length from by rw [← HNN.out]; exact hlt]⟩
   obtain ⟨⟨A1, c1, A1', c1', hK1, hL1⟩, hJ, hKR, hwd, hbw, hg1, hg2, hg3⟩ := HP.out
   have gx := hwd k x hx
   have d0 := hK1.at 0 (v := .slice A1 (LkAt L ls k).1.1.length c1) rfl
   have d1 := hK1.at 1 (v := .slice A1' (LkAt L ls k).1.2.length c1') rfl
   have HX := J hx
   have HF := J (And.intro hK1 (And.intro hL1 (And.intro hJ (And.intro hKR (And.intro hwd (And.intro hbw (And.intro hg1 (And.intro hg2 hg3))))))))
   clear hx hK1 hL1 hJ hKR hwd hbw HP
   go_wp2_with fail
   refine (HCC.out k x HX.out (.agg #[.slice A1 (LkAt L ls k).1.1.length c1, .slice A1' (LkAt L ls k).1.2.length c1']) wo HF.out.2.1 (HTB.out.on HF.out.2.2.2.2.2.1)).mono ?_
   rintro e w5 ⟨v5, rfl, hv5, b5⟩
   have hv6 := hv5
   obtain ⟨A7, c7, A8, c8, rfl, _, _⟩ := hv5
   obtain ⟨l7, hl7⟩ : ∃ l, l = (lineR (LkAt L ls k).1 x).1.1.length := ⟨_, rfl⟩
   obtain ⟨l8, hl8⟩ : ∃ l, l = (lineR (LkAt L ls k).1 x).1.2.length := ⟨_, rfl⟩
   rw [← hl7, ← hl8] at hv6 ⊢
   obtain ⟨W5, hW5⟩ : ∃ W5, W5 = w5.alloc (.cells #[.slice A7 l7 c7, .slice A8 l8 c8] 53) := ⟨_, rfl⟩
   have b5a : Below w5.heap.size w5 W5 := by rw [hW5]; exact (Below.refl _ _).alloc (Nat.le_refl _) _
   have bb := Base.Below.nextA b5 b5a
   have HV6 := J (hv6.below b5a)
   have HL := J (And.intro hl7 hl8)
   have HBB := J bb
   have HW5 := J hW5
   have KK := J (HF.out.1.belowS bb)
   obtain ⟨t1, ht1⟩ : ∃ t1, t1 = tx (lineR (LkAt L ls k).1 x).2 := ⟨_, rfl⟩
   obtain ⟨t2, ht2⟩ : ∃ t2, t2 = tx ((lineR (LkAt L ls k).1 x).2 ++ [10]) := ⟨_, rfl⟩
   have hlo := HLO.out k x HX.out
   have ha : ∀ W : World, (Op.stringOp .add t1 ⟨#[10]⟩).run Tryz.prog W = .ok (.string t2) W := fun W => by rw [ht1, ht2]; exact addTx _ [10] (by simp; omega) W
   have HT2 := J ht2
   rw [← ht1]
   have e0 : (w5.alloc (.cells #[.slice A7 l7 c7, .slice A8 l8 c8] 53)).cell? ⟨w.heap.size, 0, none⟩ = some (.slice A1 (LkAt L ls k).1.1.length c1) := by rw [← hW5]; exact KK.out.at 0 rfl
   have e1 : (w5.alloc (.cells #[.slice A7 l7 c7, .slice A8 l8 c8] 53)).cell? ⟨w.heap.size, 1, none⟩ = some (.slice A1' (LkAt L ls k).1.2.length c1') := by rw [← hW5]; exact KK.out.at 1 rfl
   have e2 : (w5.alloc (.cells #[.slice A7 l7 c7, .slice A8 l8 c8] 53)).frozen? ⟨w.heap.size, 0, none⟩ = false := by rw [← hW5]; exact KK.out.frz 0
   have e3 : (w5.alloc (.cells #[.slice A7 l7 c7, .slice A8 l8 c8] 53)).frozen? ⟨w.heap.size, 1, none⟩ = false := by rw [← hW5]; exact KK.out.frz 1
   obtain ⟨W6, hW6⟩ : ∃ W6, W6 = (W5.setCell ⟨w.heap.size, 0, none⟩ (.slice A7 l7 c7)).setCell ⟨w.heap.size, 1, none⟩ (.slice A8 l8 c8) := ⟨_, rfl⟩
   have hf := HF.out
   have g1 := hf.2.2.2.2.2.2.1
   have g2 := hf.2.2.2.2.2.2.2.1
   have g3 := hf.2.2.2.2.2.2.2.2
   have B6 : Below w.heap.size w W6 := by rw [hW6]; exact ((Base.Below.nextA hf.2.2.2.2.2.1 HBB.out).setCell (p := ⟨w.heap.size, 0, none⟩) (Nat.le_refl _) _).setCell (p := ⟨w.heap.size, 1, none⟩) (Nat.le_refl _) _
   have K6 : Blk.Blk W6 w.heap.size 53 #[.slice A7 l7 c7, .slice A8 l8 c8] := by rw [hW6]; exact (KK.out.setTo 0 (.slice A7 l7 c7) rfl).setTo 1 (.slice A8 l8 c8) rfl
   have V6 : LabAt W6 (.agg #[.slice A7 l7 c7, .slice A8 l8 c8]) (lineR (LkAt L ls k).1 x).1 := by rw [hW6]; exact labPut2 HV6.out KK.out _ _
   have J6 : IsJ w2.heap.size w2.heap.size (LkAt L ls k).2 W6 := by rw [hW6]; exact isJ_put (hf.2.2.1.below HBB.out) KK.out (by omega) _ _
   have R6 : Blk.Blk W6 (w.heap.size + 1) 53 #[.slice none 0 0, .slice none 0 0] := by rw [hW6]; exact ((hf.2.2.2.1.belowS HBB.out).other _ (by simp)).other _ (by simp)
   have D6 : ∀ i y, ls[i]? = some y → W6.cell? ⟨w1b.heap.size, i, none⟩ = some (.string (tx y)) := fun i y hy => by
    rw [hW6, World.cell?_setCell_other _ _ _ _ (fun e => by injection e with e9; omega), World.cell?_setCell_other _ _ _ _ (fun e => by injection e with e9; omega)]
    exact (HBB.out.cell (p := ⟨w1b.heap.size, i, none⟩) (by show w1b.heap.size < wo.heap.size; omega)).trans (hf.2.2.2.2.1 i y hy)
   have s6 : w2.heap.size < W6.heap.size := by rw [hW6]; have := HBB.out.size; simp; omega
   have HW := J (writeK_any w2.heap.size w2.heap.size (LkAt L ls k).2 t2 W6 J6 (by rw [ht2, size_tx]; simp; omega) (Nat.le_of_lt s6))
   have HG := J (And.intro B6 (And.intro K6 (And.intro V6 (And.intro R6 (And.intro D6 s6)))))
   have HJ6 := J J6
   rw [hW5] at hW6
   have HW6 := J hW6
   clear b5 b5a bb hW5 hv6 ht1 d0 d1 gx hl7 hl8 ht2 hf B6 K6 V6 R6 D6 J6 hW6 hlo
   go_wp2_with fail
   rw [← HW6.out]
   refine HW.out.mono ?_
   rintro e w7 ⟨rfl, hJ7, hb7, hk7⟩
   have HN : Hid (RlRel L ls w1b.heap.size w2.heap.size w (k + 1) w7) := J (by
    obtain ⟨B6, K6, V6, R6, D6, s6⟩ := HG.out
    unfold RlRel
    rw [lk_succ L HX.out]
    refine ⟨⟨A7, c7, A8, c8, ?_, ?_⟩, ?_, ?_, fun i y hy => (hb7.cell (p := ⟨w1b.heap.size, i, none⟩) g1).trans (D6 i y hy), B6.trans (hb7.mono (by omega)), g1, Nat.lt_of_lt_of_le s6 hb7.size, g3⟩
    ·rw [← HL.out.1, ← HL.out.2]; exact hk7.2 _ _ _ _ (by omega) (by decide) K6
    ·rw [← HL.out.1, ← HL.out.2]
     obtain ⟨_, cs, hcs⟩ := isJ_blk HJ6.out
     exact labKeep V6 hk7 hcs (by decide) (by decide)
    ·rw [HT2.out, list_tx] at hJ7; exact hJ7
    ·exact hk7.2 _ _ _ _ (by omega) (by decide) R6)
   clear hJ7 hb7 hk7
   go_wp2
   go_roundw
   case rel => exact ⟨k + 1, by omega, by simp, HN⟩
   case measure => simp only [intOf]; omega
  ·have hkn : k = ls.length := by rw [← HNN.out]; omega
   obtain ⟨⟨A1, c1, A1', c1', hK1, hL1⟩, hJ, hKR, hwd, hbw, hg1, hg2, hg3⟩ := HP.out
   rw [hkn] at hK1 hL1 hJ
   have d0 := hK1.at 0 (v := .slice A1 (LkAt L ls ls.length).1.1.length c1) rfl
   have d1 := hK1.at 1 (v := .slice A1' (LkAt L ls ls.length).1.2.length c1') rfl
   have HL := J (labClone_any _ _ wo hL1 HEN.out.1 HEN.out.2)
   have HWO := J hbw.size
   have HF := J (And.intro hJ (And.intro hKR (And.intro hbw (And.intro hg2 hg3))))
   clear hK1 hL1 hJ hKR hbw HP hwd
   go_wp2_with fail
   refine HL.out.mono ?_
   rintro e w5 ⟨v5, rfl, hv5, b5⟩
   have hv6 := hv5
   obtain ⟨A7, c7, A8, c8, rfl, _, _⟩ := hv5
   have HO := HF.out
   have J5 := HO.1.below b5
   have R5 := HO.2.1.belowS b5
   have B5 := Base.Below.nextA HO.2.2.1 b5
   have HSt := J (stringK_some w2.heap.size w2.heap.size _ w5 J5 (lk_ne L hne))
   have HG := J (And.intro J5 (And.intro R5 (And.intro B5 (And.intro hv6 (And.intro HO.2.2.2.1 HO.2.2.2.2)))))
   obtain ⟨l7, hl7⟩ : ∃ l, l = (LkAt L ls ls.length).1.1.length := ⟨_, rfl⟩
   obtain ⟨l8, hl8⟩ : ∃ l, l = (LkAt L ls ls.length).1.2.length := ⟨_, rfl⟩
   rw [← hl7, ← hl8] at HG ⊢
   obtain ⟨t9, ht9⟩ : ∃ t, t = tx (LkAt L ls ls.length).2 := ⟨_, rfl⟩
   rw [show (⟨(LkAt L ls ls.length).2.toArray⟩ : ByteArray) = tx (LkAt L ls ls.length).2 from rfl, ← ht9] at HSt
   have HT9 := J ht9
   clear HO J5 R5 B5 b5 hv6 HF hl7 hl8 ht9 d0 d1
   go_wp2_with fail
   refine HSt.out.mono ?_
   rintro e w6 ⟨rfl, b6, k6⟩
   obtain ⟨J5, R5, B5, V5, g2, g3⟩ := HG.out
   have R6 := k6.2 _ _ _ _ (by omega) (by decide) R5
   have V6 : LabOwn wo.heap.size w6 (.agg #[.slice A7 l7 c7, .slice A8 l8 c8]) (LkAt L ls ls.length).1 := by
    obtain ⟨_, cs, hcs⟩ := isJ_blk J5
    exact labOwnKeep V5 k6 hcs (by decide) (by decide)
   have R6' : Blk.Blk w6 (w.heap.size + 1) 53 #[.slice none 0 0, .slice none 0 0] := R6
   have r0 := R6'.at 0 (v := .slice none 0 0) rfl
   have r1 := R6'.at 1 (v := .slice none 0 0) rfl
   have f0 := R6'.frz 0
   have f1 := R6'.frz 1
   have KK := (R6'.setTo 0 (.slice A7 l7 c7) rfl).setTo 1 (.slice A8 l8 c8) rfl
   have k0 := KK.at 0 (v := .slice A7 l7 c7) rfl
   have k1 := KK.at 1 (v := .slice A8 l8 c8) rfl
   have B6 := B5.trans (b6.mono (by omega))
   have hb7 := (B6.setCell (p := ⟨w.heap.size + 1, 0, none⟩) (Nat.le_succ _) (.slice A7 l7 c7)).setCell (p := ⟨w.heap.size + 1, 1, none⟩) (Nat.le_succ _) (.slice A8 l8 c8)
   have HFIN := J (And.intro (labOwnPut V6 R6' (.slice A7 l7 c7) (.slice A8 l8 c8) HWO.out) hb7)
   clear J5 R5 B5 V5 R6 V6 KK B6 hb7 b6 k6 HG HSt
   go_wp2
   refine bodyPost_ret (v := .tuple #[.agg #[.slice A7 l7 c7, .slice A8 l8 c8], .string t9, .bool true]) (by simp [results, Tryz.results17, go_sem, k0, k1]) rfl ?_
   exact ⟨_, by rw [HT9.out], HFIN.out.1, HFIN.out.2⟩
theorem runLab_yes {L : Lb} {ls : List (List UInt8)} (hne : ls ≠ []) (h10 : ∀ x ∈ ls, ∀ c ∈ x, c ≠ 10) (hL : labR L = true) (hsz : (script ls).length ≤ 4000) (hn1 : L.1.length ≤ 6) (hn2 : L.2.length ≤ 6) (hnm : ∀ i, i < L.1.length → (L.1.getD i ByteArray.empty).size ≤ 9223372036854775807)
  (hC : ∀ k x, ls[k]? = some x → CarC (LkAt L ls k).1 x) (hout : (LkAt L ls ls.length).2.length ≤ 100000000) (hlo : ∀ k x, ls[k]? = some x → (LkAt L ls k).2.length + (lineR (LkAt L ls k).1 x).2.length + 1 ≤ 100000000) (hend : (LkAt L ls ls.length).1.1.length ≤ 1000 ∧ (LkAt L ls ls.length).1.2.length ≤ 1000) (v : Value) (w : World) (h : LabAt w v L) (ht : Tabs w) :
  Calls Tryz.prog 17 #[v, .string (tx (script ls))] w fun e w' => ∃ v', e = .returned (.tuple #[v', .string (tx (LkAt L ls ls.length).2), .bool true]) ∧ LabAt w' v' (LkAt L ls ls.length).1 ∧ Below w.heap.size w w' :=
 (runLab_own hne h10 hL hsz hn1 hn2 hnm hC hout hlo hend v w h ht).mono fun e w' ⟨v', h1, h2, h3⟩ => ⟨v', h1, h2.at, h3⟩
end LcG
namespace LcS
open Go.RowKit Base Mem MemS LabM Dec LabV Str StM StTx Rd Skip Take Val CutP CarM LcA LcG
open LvN
open Face hiding FsRet
theorem tx_ne {l : Tx} (h : ¬ l = []) : ¬ (tx l).toList = [] := fun e => by rw [Lib.toList_data, list_tx] at e; exact h e
def isD (c : Tx) : Prop := c = wBits ∨ c = wSkip ∨ c = wRoll ∨ c = wCards ∨ c = wLevels
theorem mid_yes {r q : St} {n : Int} {c t : Tx} (hv : r.ok = true) (hc : isD c) (hd : drawT c r n = some (q, t)) : MidR r n c (tx t) q true ∧ q.ok = true ∧ t.length ≤ 1000 := by
 have hB : streamB r.K r.W r.T r.m r.f r.a r.s = true := hv
 unfold drawT at hd
 rcases hc with rfl | rfl | rfl | rfl | rfl
 ·rw [if_pos rfl] at hd
  split at hd
  ·rename_i hok
   injection hd with hd
   injection hd with h1 h2
   subst h1
   have hM : ∀ W, Calls Tryz.prog 9 #[.agg #[.int .i64 r.K, .int .i64 r.W, .int .i64 r.T, .int .i64 r.m, .int .i64 r.f, .int .i64 r.a, .int .i64 r.s], .int .i64 n] W fun e w' => e = .returned (.tuple #[.string (tx (takeL r.K r.W r.T r.m r.f r.a r.s n)), .agg #[.int .i64 r.K, .int .i64 r.W, .int .i64 r.T, .int .i64 r.m, .int .i64 r.f, .int .i64 r.a, .int .i64 (takeX r.K r.W r.T r.m r.f r.a r.s n)], .bool true]) ∧ Below W.heap.size W w' := fun W => (implTB_any r.K r.W r.T r.m r.f r.a r.s n W).mono fun e w' hr => ⟨hr.1 hok, hr.2.2⟩
   have hlen : (takeL r.K r.W r.T r.m r.f r.a r.s n).length ≤ 400 := by
    unfold okB at hok
    rw [Bool.and_eq_true] at hok
    have hi := hok.2
    simp [inR] at hi
    obtain ⟨k, rfl⟩ := Int.eq_ofNat_of_zero_le hi.1
    rw [StrM.takeL_len]; omega
   refine ⟨?_, streamB_takeX hB, ?_⟩
   ·by_cases h0 : takeL r.K r.W r.T r.m r.f r.a r.s n = []
    ·rw [if_pos h0] at h2
     subst h2
     rw [h0] at hM
     exact .bits0 rfl rfl hM
    ·rw [if_neg h0] at h2
     subst h2
     exact .bits1 rfl rfl (tx_ne h0) hM
   ·split at h2
    ·subst h2; decide
    ·subst h2; omega
  ·cases hd
 ·rw [if_neg (by decide), if_pos rfl] at hd
  split at hd
  ·rename_i hok
   injection hd with hd
   injection hd with h1 h2
   subst h1
   subst h2
   exact ⟨.skip rfl rfl fun W => (implSS_any r.K r.W r.T r.m r.f r.a r.s n W).mono fun e w' hr => ⟨hr.1 hok, hr.2.2⟩, streamB_takeX hB, by decide⟩
  ·cases hd
 ·rw [if_neg (by decide), if_neg (by decide), if_pos rfl] at hd
  cases hR : facesR r.K r.W r.T r.m r.f r.a r.s n 1 with
  | none => rw [hR] at hd; cases hd
  | some p =>
   obtain ⟨xs, y⟩ := p
   rw [hR] at hd
   injection hd with hd
   injection hd with h1 h2
   subst h1
   subst h2
   obtain ⟨k1, k2, k3⟩ := roll_in hv hR
   have kl := list_len (by omega) k3
   refine ⟨.roll xs rfl rfl (by omega) (fun x hx => by have := k3 x hx; omega) (by omega) fun W => (implFaces_any r.K r.W r.T r.m r.f r.a r.s n 1 W).mono fun e w' hr => ?_, k1, ?_⟩
   ·obtain ⟨A, c0, he, ho⟩ := hr.1 _ _ hR
    exact ⟨A, c0, he, ho, hr.2.2⟩
   ·show (listR xs).length ≤ 1000
    unfold listR joinR
    split
    ·decide
    ·omega
 ·rw [if_neg (by decide), if_neg (by decide), if_neg (by decide), if_pos rfl] at hd
  cases hR : ordR r.K r.W r.T r.m r.f r.a r.s n with
  | none => rw [hR] at hd; cases hd
  | some p =>
   obtain ⟨xs, y⟩ := p
   rw [hR] at hd
   injection hd with hd
   injection hd with h1 h2
   subst h1
   subst h2
   obtain ⟨k1, k2, k3⟩ := cards_in hv hR
   have kl := list_len k2 k3
   refine ⟨.cards xs rfl rfl (by omega) (fun x hx => by have := k3 x hx; omega) (by omega) fun W => (implOrder_any r.K r.W r.T r.m r.f r.a r.s n W).mono fun e w' hr => ?_, k1, ?_⟩
   ·obtain ⟨A, c0, he, ho⟩ := hr.1 _ _ hR
    exact ⟨A, c0, he, ho, hr.2.2⟩
   ·show (listR xs).length ≤ 1000
    unfold listR joinR
    split
    ·decide
    ·omega
 ·rw [if_neg (by decide), if_neg (by decide), if_neg (by decide), if_neg (by decide)] at hd
  split at hd
  ·rename_i hok
   injection hd with hd
   injection hd with h1 h2
   subst h1
   subst h2
   obtain ⟨k1, k2⟩ := res_in hok
   have kl := fracs_len k2 (Nat.le_refl 3)
   refine ⟨.levels 3 _ rfl rfl (Nat.le_refl _) rfl k2 (by omega) fun W => (LpM.implLv_any r.K r.W r.T r.m r.f r.a r.s n W).mono fun e w' hr => ?_, hv, by show (Lib.join _ _).length ≤ 1000; omega⟩
   obtain ⟨A, c0, he, ho, hb⟩ := hr
   have e3 : numL r.K r.W r.T r.m r.f r.a r.s n = 3 := by unfold numL; rw [if_pos hok]
   rw [e3] at he ho
   rw [hok] at he
   exact ⟨A, c0, he, ho, hb⟩
  ·cases hd
theorem mid_no {r : St} {n : Int} {c : Tx} (hc : isD c) (hd : drawT c r n = none) : ∃ t q, MidR r n c t q false := by
 unfold drawT at hd
 rcases hc with rfl | rfl | rfl | rfl | rfl
 ·rw [if_pos rfl] at hd
  split at hd
  ·cases hd
  ·rename_i hok
   exact ⟨_, zeroSt, .bits0 rfl rfl fun W => (implTB_any r.K r.W r.T r.m r.f r.a r.s n W).mono fun e w' hr => ⟨hr.2.1 (by simpa using hok), hr.2.2⟩⟩
 ·rw [if_neg (by decide), if_pos rfl] at hd
  split at hd
  ·cases hd
  ·rename_i hok
   exact ⟨_, zeroSt, .skip rfl rfl fun W => (implSS_any r.K r.W r.T r.m r.f r.a r.s n W).mono fun e w' hr => ⟨hr.2.1 (by simpa using hok), hr.2.2⟩⟩
 ·rw [if_neg (by decide), if_neg (by decide), if_pos rfl] at hd
  have hR : facesR r.K r.W r.T r.m r.f r.a r.s n 1 = none := by simpa using hd
  exact ⟨_, zeroSt, .roll [] rfl rfl (Nat.zero_le _) (fun x hx => by cases hx) (by decide) fun W => (implFaces_any r.K r.W r.T r.m r.f r.a r.s n 1 W).mono fun e w' hr => ⟨none, 0, hr.2.1 hR, World.ownsRow_nil _ _ _ _, hr.2.2⟩⟩
 ·rw [if_neg (by decide), if_neg (by decide), if_neg (by decide), if_pos rfl] at hd
  have hR : ordR r.K r.W r.T r.m r.f r.a r.s n = none := by simpa using hd
  exact ⟨_, zeroSt, .cards [] rfl rfl (Nat.zero_le _) (fun x hx => by cases hx) (by decide) fun W => (implOrder_any r.K r.W r.T r.m r.f r.a r.s n W).mono fun e w' hr => ⟨none, 0, hr.2.1 hR, World.ownsRow_nil _ _ _ _, hr.2.2⟩⟩
 ·rw [if_neg (by decide), if_neg (by decide), if_neg (by decide), if_neg (by decide)] at hd
  split at hd
  ·cases hd
  ·rename_i hok
   have hok' : okL r.K r.W r.T r.m r.f r.a r.s n = false := by simpa using hok
   refine ⟨_, r, .levels 0 [] rfl rfl (by decide) rfl (fun i => by simp) (by decide) fun W => (LpM.implLv_any r.K r.W r.T r.m r.f r.a r.s n W).mono fun e w' hr => ?_⟩
   obtain ⟨A, c0, he, ho, hb⟩ := hr
   have e3 : numL r.K r.W r.T r.m r.f r.a r.s n = 0 := by unfold numL; rw [hok']; rfl
   have e4 : resL r.K r.W r.T r.m r.f r.a r.s n = [] := by unfold resL; rw [hok']; rfl
   rw [e3] at he ho
   rw [e4] at ho
   rw [hok'] at he
   exact ⟨A, c0, he, ho, hb⟩
def CarA (L : Lb) (o : Option (Lb × Tx)) (k : Nat) (args : Value → Array Value) : Prop := ∃ ok, (o.isSome = ok) ∧ ∀ v w, LabAt w v L → Tabs w → Calls Tryz.prog k (args v) w fun e w' => ∃ v' L2 t', e = .returned (.tuple #[v', .string t', .bool ok]) ∧ LabAt w' v' L2 ∧ (ok = true → L2 = (o.getD (L, tNo)).1 ∧ t' = tx (o.getD (L, tNo)).2) ∧ Below w.heap.size w w'
theorem no_of {L : Lb} {k : Nat} {args : Value → Array Value} (h : ∀ v w, LabAt w v L → Tabs w → Calls Tryz.prog k (args v) w fun e w' => e = .returned (.tuple #[v, .string ⟨#[]⟩, .bool false]) ∧ Below w.heap.size w w') : CarA L none k args :=
 ⟨false, rfl, fun v w hl ht => (h v w hl ht).mono fun e w' hr => ⟨v, L, _, hr.1, hl.below hr.2, fun e => (by cases e), hr.2⟩⟩
theorem yes_of {L L' : Lb} {t : Tx} {k : Nat} {args : Value → Array Value} (h : ∀ v w, LabAt w v L → Tabs w → Calls Tryz.prog k (args v) w fun e w' => ∃ v', e = .returned (.tuple #[v', .string (tx t), .bool true]) ∧ LabAt w' v' L' ∧ Below w.heap.size w w') : CarA L (some (L', t)) k args :=
 ⟨true, rfl, fun v w hl ht => (h v w hl ht).mono fun e w' hr => by obtain ⟨v', h1, h2, h3⟩ := hr; exact ⟨v', L', _, h1, h2, fun _ => ⟨rfl, rfl⟩, h3⟩⟩
theorem LOk.withC {L : Lb} (h : LOk L) {x : ByteArray} (hx : x.size ≤ 9223372036854775807) (r : St) : WithC L x r := withC_any r h.len h.six1 h.sz hx
theorem num_of {b : Tx} {n : Int} (hb : b.length ≤ 1048576) (h : valO b = some n) (W : World) (ht : Tabs W) : Calls Tryz.prog 141 #[.string (tx b)] W fun e w' => e = .returned (.tuple #[.int .i64 n, .bool true]) ∧ Below W.heap.size W w' := by
 refine (readDec_any (tx b) (by rw [size_tx]; exact hb) W.heap.size W ht.1 ht.2.1 (Nat.le_refl _)).mono ?_
 rintro e w' ⟨x, k, rfl, h1, h2, hbb⟩
 rw [list_tx] at h1 h2
 cases k with
 | true => rw [valO_yes (h1 rfl)] at h; injection h with h; subst h; exact ⟨rfl, hbb⟩
 | false => rw [valO_no (h2 rfl).2] at h; cases h
theorem car_draw {L : Lb} {c a b : Tx} (hL : LOk L) (hc : isD c) (ha : a.length ≤ 1048576) (hb : b.length ≤ 1048576) : CarA L (drawR L c a b) 89 (fun v => #[v, .string (tx c), .string (tx a), .string (tx b)]) := by
 have hax : (tx a).size ≤ 9223372036854775807 := by rw [size_tx]; omega
 have hbx : (tx b).size ≤ 1048576 := by rw [size_tx]; exact hb
 cases hf : findR L (tx a) with
 | none =>
  have e : drawR L c a b = none := by unfold drawR; rw [hf]
  rw [e]
  exact no_of fun v w hl ht => draw_fail (.inl hf) hL.len hL.six1 hbx v w hl ht
 | some r =>
  cases hv : valO b with
  | none =>
   have e : drawR L c a b = none := by unfold drawR; rw [hf, hv]
   rw [e]
   exact no_of fun v w hl ht => draw_fail (.inr (by rw [list_tx]; exact hv)) hL.len hL.six1 hbx v w hl ht
  | some n =>
   have e : drawR L c a b = (drawT c r n).map fun q => (withR L (tx a) q.1, q.2) := by unfold drawR; rw [hf, hv]
   obtain ⟨hh, hp, hr, hok⟩ := find_ok hL hf
   rw [e]
   cases hd : drawT c r n with
   | none =>
    obtain ⟨t, q, hm⟩ := mid_no hc hd
    exact no_of fun v w hl ht => draw_nay hm hf hL.len hL.six1 (hL.withC hax) (num_of hb hv) v w hl ht
   | some p =>
    obtain ⟨q, t⟩ := p
    obtain ⟨hm, _, _⟩ := mid_yes hok hc hd
    exact yes_of fun v w hl ht => draw_yes hm hf hL.len hL.six1 (hL.withC hax) (num_of hb hv) v w hl ht
theorem car_give {L : Lb} {c a b : Tx} (hL : LOk L) (hc : c = wSet ∨ c = wCopy) (ha : a.length ≤ 1048576) (hb : b.length ≤ 1048576) : CarA L ((giveR L c a b).map fun q => (q, tOk)) 87 (fun v => #[v, .string (tx c), .string (tx a), .string (tx b)]) := by
 have hax : (tx a).size ≤ 9223372036854775807 := by rw [size_tx]; omega
 have hg := fun v w hl ht => give_any (b := b) (nm := tx a) hc hL.len hL.six1 hb (hL.withC hax) v w hl ht
 have e : giveR L c a b = match srcR L c b with | none => none | some r => if labR (withR L (tx a) r) = true then some (withR L (tx a) r) else none := rfl
 rw [e]
 cases hs : srcR L c b with
 | none => exact no_of fun v w hl ht => (hg v w hl ht).mono fun e w' hr => hr.1 hs
 | some r =>
  by_cases hlb : labR (withR L (tx a) r) = true
  ·rw [show (match some r with | none => none | some r => if labR (withR L (tx a) r) = true then some (withR L (tx a) r) else none : Option Lb) = some (withR L (tx a) r) from if_pos hlb]
   exact yes_of fun v w hl ht => (hg v w hl ht).mono fun e w' hr => by
    obtain ⟨v', h1, h2, h3⟩ := hr.2 r hs
    rw [hlb] at h1
    exact ⟨v', h1, h2, h3⟩
  ·rw [show (match some r with | none => none | some r => if labR (withR L (tx a) r) = true then some (withR L (tx a) r) else none : Option Lb) = none from if_neg hlb]
   refine ⟨false, rfl, fun v w hl ht => (hg v w hl ht).mono fun e w' hr => ?_⟩
   obtain ⟨v', h1, h2, h3⟩ := hr.2 r hs
   rw [show labR (withR L (tx a) r) = false by simpa using hlb] at h1
   exact ⟨v', _, _, h1, h2, fun e => (by cases e), h3⟩
theorem car_use {L : Lb} {c a : Tx} (hL : LOk L) (hc : c = wDrop ∨ c = wShow ∨ c = wCycle) : CarA L (useR L c a) 88 (fun v => #[v, .string (tx c), .string (tx a)]) := by
 cases hf : findR L (tx a) with
 | none =>
  have e : useR L c a = none := by unfold useR; rw [hf]
  rw [e]
  exact no_of fun v w hl ht => use_none hf hL.len hL.six1 v w hl
 | some r =>
  obtain ⟨hh, hp, hr, hok⟩ := find_ok hL hf
  rcases hc with rfl | rfl | rfl
  ·have e : useR L wDrop a = some (goneR L (tx a), tOk) := by unfold useR; rw [hf]; rfl
   rw [e]
   exact yes_of fun v w hl ht => use_drop hf hL.len hL.six1 v w hl
  ·have e : useR L wShow a = some (L, textS r.K r.W r.T r.m r.f r.a r.s) := by unfold useR; rw [hf]; show (if wShow = wDrop then _ else _ : Option (Lb × Tx)) = _; rw [if_neg (by decide), if_pos rfl]
   rw [e]
   exact yes_of fun v w hl ht => (use_show hf hok hL.len hL.six1 v w hl ht).mono fun e w' hr => ⟨v, hr.1, hl.below hr.2, hr.2⟩
  ·have e : useR L wCycle a = some (L, decI (preS r.K r.W r.T r.m r.f r.a r.s) ++ 32 :: decI (perS r.K r.W r.T r.m r.f r.a r.s)) := by unfold useR; rw [hf]; show (if wCycle = wDrop then _ else _ : Option (Lb × Tx)) = _; rw [if_neg (by decide), if_neg (by decide)]
   rw [e]
   exact yes_of fun v w hl ht => (use_cycle hf hok hL.len hL.six1 v w hl ht).mono fun e w' hr => ⟨v, hr.1, hl.below hr.2, hr.2⟩
theorem words_mem {line : Tx} : ∀ e, e ∈ cutR 32 line → e.length ≤ line.length := (cutR_len 32 line.length line (Nat.le_refl _)).2.2
theorem w3_of {c : Tx} (h : wordsR c = 3) : (c = wSet ∨ c = wCopy) ∨ isD c := by
 unfold wordsR at h
 split at h
 ·rename_i hc
  rcases hc with h | h | h | h | h | h | h
  ·exact .inl (.inl h)
  ·exact .inl (.inr h)
  ·exact .inr (.inl h)
  ·exact .inr (.inr (.inl h))
  ·exact .inr (.inr (.inr (.inl h)))
  ·exact .inr (.inr (.inr (.inr (.inl h))))
  ·exact .inr (.inr (.inr (.inr (.inr h))))
 ·split at h <;> cases h
theorem w2_of {c : Tx} (h : wordsR c = 2) : c = wDrop ∨ c = wShow ∨ c = wCycle := by
 unfold wordsR at h
 split at h
 ·cases h
 ·split at h
  ·assumption
  ·cases h
theorem line3 {L : Lb} {line c a b : Tx} (hcut : cutR 32 line = [c, a, b]) (hw : wordsR c = 3) : lineR L line = (doR L c a b).getD (L, tNo) := by
 unfold lineR
 rw [hcut]
 exact if_pos hw
theorem line2 {L : Lb} {line c a : Tx} (hcut : cutR 32 line = [c, a]) (hw : wordsR c = 2) : lineR L line = (doR L c a []).getD (L, tNo) := by
 unfold lineR
 rw [hcut]
 exact if_pos hw
theorem do_give {L : Lb} {c a b : Tx} (hc : c = wSet ∨ c = wCopy) : doR L c a b = (giveR L c a b).map fun q => (q, tOk) := by unfold doR; rw [if_pos hc]
theorem do_draw {L : Lb} {c a b : Tx} (hc : isD c) : doR L c a b = drawR L c a b := by
 unfold doR
 rcases hc with rfl | rfl | rfl | rfl | rfl <;> rw [if_neg (by decide), if_neg (by decide)]
theorem do_use {L : Lb} {c a b : Tx} (hc : c = wDrop ∨ c = wShow ∨ c = wCycle) : doR L c a b = useR L c a := by
 unfold doR
 rcases hc with rfl | rfl | rfl <;> rw [if_neg (by decide), if_pos (by decide)]
theorem get_yes {o : Option (Lb × Tx)} {L : Lb} {ok : Bool} (h : o.isSome = ok) : (if ok = true then (o.getD (L, tNo)).1 else L) = (o.getD (L, tNo)).1 ∧ (if ok = true then tx (o.getD (L, tNo)).2 else tx tNo) = tx (o.getD (L, tNo)).2 := by
 cases o with
 | none => have : ok = false := h.symm; subst this; exact ⟨rfl, rfl⟩
 | some p => have : ok = true := h.symm; subst this; exact ⟨rfl, rfl⟩
theorem three_of {ws : List Tx} (h : 3 = ws.length) : ∃ c a b, ws = [c, a, b] := by
 match ws, h with
 | [c, a, b], _ => exact ⟨c, a, b, rfl⟩
theorem two_of {ws : List Tx} (h : 2 = ws.length) : ∃ c a, ws = [c, a] := by
 match ws, h with
 | [c, a], _ => exact ⟨c, a, rfl⟩
theorem words_vals (c : Tx) : wordsR c = 3 ∨ wordsR c = 2 ∨ wordsR c = 0 := by
 unfold wordsR
 split
 ·exact .inl rfl
 ·split
  ·exact .inr (.inl rfl)
  ·exact .inr (.inr rfl)
theorem line_cases (L : Lb) (line : Tx) : (lineR L line = (L, tWhat) ∧ ¬ wordsR ((cutR 32 line).getD 0 []) = (cutR 32 line).length) ∨ (∃ c a b, cutR 32 line = [c, a, b] ∧ wordsR c = 3 ∧ lineR L line = (doR L c a b).getD (L, tNo)) ∨ ∃ c a, cutR 32 line = [c, a] ∧ wordsR c = 2 ∧ lineR L line = (doR L c a []).getD (L, tNo) := by
 by_cases h : wordsR ((cutR 32 line).getD 0 []) = (cutR 32 line).length
 ·right
  have hp := cut_pos line
  rcases words_vals ((cutR 32 line).getD 0 []) with h3 | h3 | h3
  ·rw [h3] at h
   obtain ⟨c, a, b, e⟩ := three_of h
   rw [e] at h3
   exact .inl ⟨c, a, b, e, h3, line3 e h3⟩
  ·rw [h3] at h
   obtain ⟨c, a, e⟩ := two_of h
   rw [e] at h3
   exact .inr ⟨c, a, e, h3, line2 e h3⟩
  ·omega
 ·exact .inl ⟨by unfold lineR; rw [if_neg h], h⟩
theorem car_any {L : Lb} {line : Tx} (hL : LOk L) (hsz : line.length ≤ 1048576) : CarC L line := fun v w hl ht => by
 rcases line_cases L line with ⟨e, hne⟩ | ⟨c, a, b, hcut, hw, e⟩ | ⟨c, a, hcut, hw, e⟩
 ·rw [e]
  exact carry_what hne hsz v w hl ht
 ·have ha : a.length ≤ 1048576 := Nat.le_trans (words_mem a (by rw [hcut]; simp)) hsz
  have hb : b.length ≤ 1048576 := Nat.le_trans (words_mem b (by rw [hcut]; simp)) hsz
  rw [e]
  rcases w3_of hw with hg | hg
  ·rw [do_give hg]
   obtain ⟨ok, h1, h2⟩ := car_give (a := a) (b := b) hL hg ha hb
   obtain ⟨g1, g2⟩ := get_yes (L := L) h1
   have h := carry3 (ok := ok) (by rcases hg with h | h <;> simp [h]) hcut hsz (fun v w hl ht => by rw [if_pos hg]; exact h2 v w hl ht) v w hl ht
   rw [g1, g2] at h
   exact h
  ·rw [do_draw hg]
   obtain ⟨ok, h1, h2⟩ := car_draw (a := a) (b := b) hL hg ha hb
   obtain ⟨g1, g2⟩ := get_yes (L := L) h1
   have h := carry3 (ok := ok) (by rcases hg with h | h | h | h | h <;> simp [h]) hcut hsz (fun v w hl ht => by rw [if_neg (by rcases hg with rfl | rfl | rfl | rfl | rfl <;> decide)]; exact h2 v w hl ht) v w hl ht
   rw [g1, g2] at h
   exact h
 ·rw [e, do_use (w2_of hw)]
  obtain ⟨ok, h1, h2⟩ := car_use (a := a) hL (w2_of hw)
  obtain ⟨g1, g2⟩ := get_yes (L := L) h1
  have h := carry2 (ok := ok) (w2_of hw) hcut hsz (fun v w hl ht => h2 v w hl ht) v w hl ht
  rw [g1, g2] at h
  exact h
end LcS
namespace LcS
open Base Dec LabV Str StM StTx Rd Skip Take Val CutP CarM LcG
open LvN
open Face hiding FsRet
def NoW (t : Tx) : Prop := t ≠ tNo ∧ t ≠ tWhat
theorem noW_head {t : Tx} (h : ∀ x, t.head? = some x → x ≠ 110 ∧ x ≠ 119) : NoW t := ⟨fun e => by
 have := h 110 (by rw [e]; rfl)
 exact this.1 rfl, fun e => by
 have := h 119 (by rw [e]; rfl)
 exact this.2 rfl⟩
theorem head_app {a b : Tx} {x : UInt8} (h : (a ++ b).head? = some x) : a.head? = some x ∨ (a = [] ∧ b.head? = some x) := by
 cases a with
 | nil => exact .inr ⟨rfl, h⟩
 | cons y r => exact .inl h
theorem head_mem {a : Tx} {x : UInt8} (h : a.head? = some x) : x ∈ a := by
 cases a with
 | nil => cases h
 | cons y r => injection h with h; subst h; exact List.mem_cons_self
theorem small_of {x : UInt8} (h : x.toNat ≤ 57) : x ≠ 110 ∧ x ≠ 119 := ⟨fun e => by rw [e] at h; exact absurd h (by decide), fun e => by rw [e] at h; exact absurd h (by decide)⟩
theorem dec_small (u : Nat) : ∀ x ∈ Lib.decDigits u, x.toNat ≤ 57 := fun x hx => ((digs_dec u).1 x hx).2
theorem noW_bits (K W T m f a s n : Int) : NoW (takeL K W T m f a s n) := noW_head fun x hx => by
 have hb := takeL_bits K W T m f a s n
 obtain ⟨i, hi, e⟩ := List.getElem_of_mem (head_mem hx)
 have := hb i (by simp [ByteArray.size]; exact hi)
 have e2 : (⟨(takeL K W T m f a s n).toArray⟩ : ByteArray)[i]'(by simp [ByteArray.size]; exact hi) = x := by
  rw [← e]; rfl
 rw [e2] at this
 exact small_of (by omega)
theorem noW_none : NoW tNone := ⟨by decide, by decide⟩
theorem noW_ok : NoW tOk := ⟨by decide, by decide⟩
theorem noW_list (xs : List Int) : NoW (listR xs) := by
 unfold listR
 split
 ·exact noW_none
 ·rename_i hne
  cases xs with
  | nil => exact absurd rfl hne
  | cons x r =>
   unfold joinR
   rw [List.map_cons, Lib.join_cons]
   refine noW_head fun y hy => ?_
   rcases head_app hy with h | ⟨h, _⟩
   ·exact small_of (dec_small _ y (head_mem h))
   ·have : Lib.decDigits x.toNat = [] := h
    have h2 := dec_ne x.toNat
    rw [this] at h2
    simp at h2
theorem drawT_noW {c : Tx} {r q : St} {n : Int} {t : Tx} (h : drawT c r n = some (q, t)) : NoW t ∨ q = r := by
 unfold drawT at h
 split at h
 ·left
  split at h
  ·injection h with h
   injection h with _ h2
   subst h2
   split
   ·exact noW_none
   ·exact noW_bits _ _ _ _ _ _ _ _
  ·cases h
 ·split at h
  ·left
   split at h
   ·injection h with h
    injection h with _ h2
    subst h2
    exact noW_ok
   ·cases h
  ·split at h
   ·left
    cases hR : facesR r.K r.W r.T r.m r.f r.a r.s n 1 with
    | none => rw [hR] at h; cases h
    | some p => rw [hR] at h; injection h with h; injection h with _ h2; subst h2; exact noW_list _
   ·split at h
    ·left
     cases hR : ordR r.K r.W r.T r.m r.f r.a r.s n with
     | none => rw [hR] at h; cases h
     | some p => rw [hR] at h; injection h with h; injection h with _ h2; subst h2; exact noW_list _
    ·right
     split at h
     ·injection h with h; injection h with h1 _; exact h1.symm
     ·cases h
structure LineOk (L L' : Lb) (t : Tx) : Prop where
 ok : LOk L'
 len : t.length ≤ 1000
 same : (t = tNo ∨ t = tWhat) → L' = L
theorem LineOk.id {L : Lb} {t : Tx} (h : LOk L) (ht : t.length ≤ 1000) : LineOk L L t := ⟨h, ht, fun _ => rfl⟩
theorem LineOk.of {L L' : Lb} {t : Tx} (h : LOk L') (ht : t.length ≤ 1000) (hn : NoW t) : LineOk L L' t := ⟨h, ht, fun e => e.elim (fun e => absurd e hn.1) fun e => absurd e hn.2⟩
theorem line_ok {L : Lb} (line : Tx) (hL : LOk L) : LineOk L (lineR L line).1 (lineR L line).2 := by
 rcases line_cases L line with ⟨e, _⟩ | ⟨c, a, b, _, hw, e⟩ | ⟨c, a, _, hw, e⟩
 ·rw [e]; exact .id hL (show tWhat.length ≤ 1000 by decide)
 ·rw [e]
  rcases w3_of hw with hg | hg
  ·rw [do_give hg]
   cases h : giveR L c a b with
   | none => exact .id hL (show tNo.length ≤ 1000 by decide)
   | some L' =>
    refine .of ?_ (by show tOk.length ≤ 1000; decide) noW_ok
    unfold giveR at h
    split at h
    ·cases h
    ·split at h
     ·rename_i hlb
      injection h with h
      subst h
      exact labR_iff.1 hlb
     ·cases h
  ·rw [do_draw hg]
   unfold drawR
   split
   ·rename_i r n hf hv
    obtain ⟨hh, hp, hr, hok⟩ := find_ok hL hf
    cases hd : drawT c r n with
    | none => exact .id hL (show tNo.length ≤ 1000 by decide)
    | some p =>
     obtain ⟨q, t⟩ := p
     obtain ⟨_, hq, hl⟩ := mid_yes hok hg hd
     rcases drawT_noW hd with hn | hn
     ·exact .of (with_ok hL hh hp hq) hl hn
     ·subst hn
      show LineOk L (withR L (tx a) q) t
      rw [with_self hL hf]
      exact .id hL hl
   ·exact .id hL (show tNo.length ≤ 1000 by decide)
 ·rw [e, do_use (w2_of hw)]
  unfold useR
  split
  ·exact .id hL (show tNo.length ≤ 1000 by decide)
  ·rename_i r hf
   obtain ⟨hh, hp, hr, hok⟩ := find_ok hL hf
   split
   ·exact .of (gone_ok hL hh hp) (by show tOk.length ≤ 1000; decide) noW_ok
   ·split
    ·refine .id hL ?_
     have := StrM.text_small (show streamB r.K r.W r.T r.m r.f r.a r.s = true from hok)
     show (textS r.K r.W r.T r.m r.f r.a r.s).length ≤ 1000
     omega
    ·refine .id hL ?_
     obtain ⟨p, q, h1, h2, h3, h4, h5⟩ := cyc_in hok
     have k1 := dec_in (x := preS r.K r.W r.T r.m r.f r.a r.s) (by rw [h1]; omega)
     have k2 := dec_in (x := perS r.K r.W r.T r.m r.f r.a r.s) (by rw [h2]; omega)
     show (decI _ ++ 32 :: decI _).length ≤ 1000
     simp
     omega
end LcS
namespace LcS
open Go.RowKit Base Mem MemS LabM Dec LabV Str StM StTx Rd Val CutP CarM LcA LcC LcG
theorem labOwnPut {w : World} {v : Value} {L : Lb} {b B C : Nat} {cs : Array Value} (h : LabOwn B w v L) (hK : Blk.Blk w b 53 cs) (x y : Value) (hC : C ≤ B) : LabOwn C ((w.setCell ⟨b, 0, none⟩ x).setCell ⟨b, 1, none⟩ y) v L := by
 obtain ⟨A, c, A', c', e, h1, h2⟩ := h
 exact ⟨A, c, A', c', e, ownsRow_base (ownsRow_setCell_below' h1 hK 0 x 1 y) hC, ownsRow_base (ownsRow_setCell_below' h2 hK 0 x 1 y) hC⟩
theorem cmd_own {L : Lb} {line : Tx} (hL : LOk L) (hsz : line.length ≤ 1048576) (v : Value) (w : World) (h : LabAt w v L) (ht : Tabs w) :
  Calls Tryz.prog 25 #[v, .string (tx line)] w fun e w' => ∃ v', e = .returned (.tuple #[v', .string (tx (lineR L line).2), .bool true]) ∧ LabOwn w.heap.size w' v' (lineR L line).1 ∧ Below w.heap.size w w' := by
 have hv0 := h
 obtain ⟨A, c, A', c', rfl, hx, hy, _⟩ := h
 obtain ⟨W2, hW2⟩ : ∃ W2, W2 = (w.alloc (.cells #[.slice A L.1.length c, .slice A' L.2.length c'] 53)).alloc (.cells #[.slice none 0 0, .slice none 0 0] 53) := ⟨_, rfl⟩
 have b2 : Below w.heap.size w W2 := by rw [hW2]; exact ((Below.refl _ _).alloc (Nat.le_refl _) _).alloc (by simp) _
 have KL : Hid (Blk.Blk W2 w.heap.size 53 #[.slice A L.1.length c, .slice A' L.2.length c']) := J (by rw [hW2]; exact (Blk.Blk.new w _ _).alloc _)
 have KR : Hid (Blk.Blk W2 (w.heap.size + 1) 53 #[.slice none 0 0, .slice none 0 0]) := J (by rw [hW2]; exact Blk.Blk.newAt _ _ (by simp))
 have hVL := implLab_any A A' c c' W2.heap.size L.2.length L.1 (flat L.2) W2 ((hx.below b2 (Nat.le_refl _)).more b2.size) ((hy.below b2 (Nat.le_refl _)).more b2.size) (Nat.le_refl _) hL.sz (by have := hL.six1; omega) (by have := hL.six; omega)
 rw [show labB L.1 L.2.length (flat L.2) = true from labR_iff.2 hL] at hVL
 have HVL := J hVL
 have HC := J (car_any hL hsz)
 have hk := (line_ok line hL).ok
 have HK := J (And.intro (show (lineR L line).1.1.length ≤ 1000 by have := hk.six1; omega) (show (lineR L line).1.2.length ≤ 1000 by have := hk.six; omega))
 have HV := J hv0
 have HTB := J ht
 have HB := J b2
 have HW := J hW2
 obtain ⟨L2, hL2⟩ : ∃ L2, L2 = (lineR L line).1 := ⟨_, rfl⟩
 obtain ⟨t, htt⟩ : ∃ t, t = tx (lineR L line).2 := ⟨_, rfl⟩
 unfold CarC at HC
 rw [← hL2, ← htt] at HC
 rw [← hL2] at HK
 rw [← hL2, ← htt]
 clear hv0 hx hy hW2 b2 ht hVL hL hsz hk htt hL2
 generalize tx line = ln at *
 go_enter Tryz.func25, Tryz.ntmps25
 go_wp2_with fail
 rw [← HW.out]
 refine HVL.out.mono ?_
 rintro e w1 ⟨rfl, b1⟩
 have KL1 := J (KL.out.belowS b1)
 have KR1 := J (KR.out.belowS b1)
 have HB1 := J (Base.Below.nextA HB.out b1)
 have d0 := KL1.out.at 0 (v := .slice A L.1.length c) rfl
 have d1 := KL1.out.at 1 (v := .slice A' L.2.length c') rfl
 clear b1 KL KR HB HW HVL
 go_wp2_with fail
 refine (HC.out (.agg #[.slice A L.1.length c, .slice A' L.2.length c']) w1 (HV.out.below HB1.out) (HTB.out.on HB1.out)).mono ?_
 rintro e w3 ⟨v3, rfl, hv3, b3⟩
 have hv4 := hv3
 obtain ⟨A7, c7, A8, c8, rfl, _, _⟩ := hv3
 obtain ⟨W4, hW4⟩ : ∃ W4, W4 = w3.alloc (.cells #[.slice A7 L2.1.length c7, .slice A8 L2.2.length c8] 53) := ⟨_, rfl⟩
 have b4 : Below w3.heap.size w3 W4 := by rw [hW4]; exact (Below.refl _ _).alloc (Nat.le_refl _) _
 have b14 := Base.Below.nextA b3 b4
 have KR4 := J (KR1.out.belowS b14)
 have HB4 := J (Base.Below.nextA HB1.out b14)
 have HCl := J (labClone_any _ _ W4 (hv4.below b4) HK.out.1 HK.out.2)
 have HW4 := J hW4
 clear b3 b4 b14 hW4 hv4 KL1 KR1 HB1 HC d0 d1
 go_wp2_with fail
 rw [← HW4.out]
 refine HCl.out.mono ?_
 rintro e w5 ⟨v5, rfl, hv5, b5⟩
 have hv6 := hv5
 obtain ⟨A5, c5, A6, c6, rfl, _, _⟩ := hv5
 have KR5 := KR4.out.belowS b5
 have HB5 := Base.Below.nextA HB4.out b5
 have r0 := KR5.at 0 (v := .slice none 0 0) rfl
 have r1 := KR5.at 1 (v := .slice none 0 0) rfl
 have f0 := KR5.frz 0
 have f1 := KR5.frz 1
 have KK := (KR5.setTo 0 (.slice A5 L2.1.length c5) rfl).setTo 1 (.slice A6 L2.2.length c6) rfl
 have k0 := KK.at 0 (v := .slice A5 L2.1.length c5) rfl
 have k1 := KK.at 1 (v := .slice A6 L2.2.length c6) rfl
 have hb7 := (HB5.setCell (p := ⟨w.heap.size + 1, 0, none⟩) (Nat.le_succ _) (.slice A5 L2.1.length c5)).setCell (p := ⟨w.heap.size + 1, 1, none⟩) (Nat.le_succ _) (.slice A6 L2.2.length c6)
 have HFIN := J (And.intro (labOwnPut hv6 KR5 (.slice A5 L2.1.length c5) (.slice A6 L2.2.length c6) HB4.out.size) hb7)
 clear KK hb7 KR5 HB5 b5 hv6 HCl HW4 KR4 HB4 HV HTB
 go_wp2
 refine bodyPost_ret (v := .tuple #[.agg #[.slice A5 L2.1.length c5, .slice A6 L2.2.length c6], .string t, .bool true]) (by simp [results, Tryz.results25, go_sem, k0, k1]) rfl ?_
 exact ⟨_, rfl, HFIN.out.1, HFIN.out.2⟩
theorem cmd_yes {L : Lb} {line : Tx} (hL : LOk L) (hsz : line.length ≤ 1048576) (v : Value) (w : World) (h : LabAt w v L) (ht : Tabs w) :
  Calls Tryz.prog 25 #[v, .string (tx line)] w fun e w' => ∃ v', e = .returned (.tuple #[v', .string (tx (lineR L line).2), .bool true]) ∧ LabAt w' v' (lineR L line).1 ∧ Below w.heap.size w w' :=
 (cmd_own hL hsz v w h ht).mono fun e w' ⟨v', h1, h2, h3⟩ => ⟨v', h1, h2.at, h3⟩
end LcS
namespace LabD
open Go.RowKit Base Mem MemS Dec LabM LabV Str Take StTx StM YtgipnbeipfhekaaGreatDoor.Src Blk Draw Set LcS
open CarM (Lb)
def ValF (ss : List ByteArray) (fs : List Int) : Prop := ∃ xs : List St, fs = flat xs ∧ LOk (ss, xs)
theorem ValF.nil : ValF [] [] := ⟨[], rfl, ⟨rfl, Nat.zero_le _, fun i hi => absurd hi (Nat.not_lt_zero i), fun i hi => absurd hi (Nat.not_lt_zero i), fun i _ hi => absurd hi (Nat.not_lt_zero i)⟩⟩
theorem bl_total : ∀ x y : List UInt8, Op.bytesLess x y = false → x ≠ y → Op.bytesLess y x = true
 | [], [], _, h => absurd rfl h
 | [], _ :: _, h, _ => by simp [Op.bytesLess] at h
 | a :: x, [], _, _ => rfl
 | a :: x, b :: y, h1, h2 => by
  simp only [Op.bytesLess, Bool.or_eq_false_iff, Bool.and_eq_false_iff, decide_eq_false_iff_not, beq_eq_false_iff_ne] at h1
  simp only [Op.bytesLess, Bool.or_eq_true, Bool.and_eq_true, beq_iff_eq, decide_eq_true_iff]
  by_cases e : a = b
  ·subst e
   refine .inr ⟨rfl, bl_total x y (h1.2.resolve_left fun h => h rfl) fun e => h2 (by rw [e])⟩
  ·left
   have := h1.1
   rw [UInt8.lt_iff_toNat_lt] at this ⊢
   have hne : a.toNat ≠ b.toNat := fun h => e (UInt8.toNat_inj.1 h)
   omega
theorem less_total {x y : ByteArray} (h : lessS x y = false) (hne : x ≠ y) : lessS y x = true := bl_total _ _ h fun e => hne (by
 rw [Lib.toList_data, Lib.toList_data] at e
 exact tx_ext e)
theorem getD_ins {α : Type} {d : α} {xs : List α} {x : α} {k i : Nat} (hk : k ≤ xs.length) : (xs.take k ++ x :: xs.drop k).getD i d = if i < k then xs.getD i d else if i = k then x else xs.getD (i - 1) d := by
 rw [List.getD_eq_getElem?_getD]
 have hl : (xs.take k).length = k := by rw [List.length_take]; omega
 by_cases h : i < k
 ·rw [if_pos h, List.getElem?_append_left (by omega), List.getElem?_take_of_lt h, ← List.getD_eq_getElem?_getD]
 ·rw [if_neg h, List.getElem?_append_right (by omega), hl]
  by_cases e : i = k
  ·subst e; rw [if_pos rfl, Nat.sub_self]; rfl
  ·rw [if_neg e, show i - k = (i - k - 1) + 1 by omega, List.getElem?_cons_succ, List.getElem?_drop, List.getD_eq_getElem?_getD, show k + (i - k - 1) = i - 1 by omega]
theorem ins_ok {L : Lb} {x : ByteArray} {r : St} {k : Nat} (h : LOk L) (hr : r.ok = true) (hx : nameB x = true) (h6 : L.1.length < 6) (hk : k ≤ L.1.length) (hno : ∀ i, i < L.1.length → L.1.getD i ByteArray.empty ≠ x) (hlt : ∀ j, j < k → lessS (L.1.getD j ByteArray.empty) x = true) (hge : k < L.1.length → lessS (L.1.getD k ByteArray.empty) x = false) : LOk (L.1.take k ++ x :: L.1.drop k, L.2.take k ++ r :: L.2.drop k) := by
 have hl := h.len
 have e2 : (L.2.take k ++ r :: L.2.drop k).length = L.2.length + 1 := by simp; omega
 refine ⟨by simp; omega, by rw [e2]; omega, fun i hi => ?_, fun i hi => ?_, fun i h0 hi => ?_⟩
 ·rw [e2] at hi
  show nameB ((L.1.take k ++ x :: L.1.drop k).getD i _) = true
  rw [getD_ins hk]
  split
  ·exact h.nm i (by omega)
  ·split
   ·exact hx
   ·exact h.nm (i - 1) (by omega)
 ·rw [e2] at hi
  show ((L.2.take k ++ r :: L.2.drop k).getD i _).ok = true
  rw [getD_ins (by omega)]
  split
  ·exact h.st i (by omega)
  ·split
   ·exact hr
   ·exact h.st (i - 1) (by omega)
 ·rw [e2] at hi
  show lessS ((L.1.take k ++ x :: L.1.drop k).getD (i - 1) _) ((L.1.take k ++ x :: L.1.drop k).getD i _) = true
  rw [getD_ins hk, getD_ins hk]
  by_cases h1 : i < k
  ·rw [if_pos (by omega), if_pos h1]; exact h.lt i h0 (by omega)
  ·by_cases h2 : i = k
   ·rw [if_pos (by omega), if_neg h1, if_pos h2]; exact hlt (i - 1) (by omega)
   ·rw [if_neg h1, if_neg h2, if_neg (by omega)]
    by_cases h3 : i - 1 = k
    ·rw [if_pos h3, h3]; exact less_total (hge (by omega)) (hno k (by omega))
    ·rw [if_neg h3]; exact h.lt (i - 1) (by omega) (by omega)
theorem ValF.laid {ss ss' : List ByteArray} {fs fs' : List Int} {x : ByteArray} {r : St} {b : Bool} (h : ValF ss fs) (hr : r.ok = true) (hl : LaidX ss fs x [r.K, r.W, r.T, r.m, r.f, r.a, r.s] b ss' fs') : ValF ss' fs' := by
 obtain ⟨xs, rfl, h⟩ := h
 have hln : ss.length = xs.length := h.len
 rcases hl with ⟨_, k, hk, _, rfl, _, rfl⟩ | ⟨hno, ⟨_, rfl, rfl, _⟩ | ⟨_, hn, h6, k, hk, h1, h2, rfl, rfl⟩⟩
 ·refine ⟨xs.set k r, (flat_set xs k r (by omega)).symm, by simp [h.len], by simpa using h.six, fun i hi => h.nm i (by simpa using hi), fun i hi => ?_, fun i h0 hi => h.lt i h0 (by simpa using hi)⟩
  show ((xs.set k r).getD i zeroSt).ok = true
  rw [getD_set (by omega)]
  split
  ·exact hr
  ·exact h.st i (by simpa using hi)
 ·exact ⟨xs, rfl, h⟩
 ·exact ⟨xs.take k ++ r :: xs.drop k, (flat_ins xs k r).symm, ins_ok h hr hn h6 hk hno h1 h2⟩
theorem labRow {w w' : World} {b q : Nat} {ss : List ByteArray} {fs : List Int} {A A' : Option Addr} {c c' : Nat} (h : Set.LabAt w b ss fs A A' c c') (hg : w.grownBy w' (some q)) (hqb : q < b) (hne : q = b → False) : Set.LabAt w' b ss fs A A' c c' := by
 have hk : ∀ g, q < g → g < w.heap.size → w'.heap[g]? = w.heap[g]? := fun g h1 h2 => hg.block g h2 (fun e => by injection e with e; omega)
 have hb := hk b hqb h.lt
 refine ⟨(World.cell?_of_block (a := ⟨b, 0, none⟩) hb).trans h.c0, (World.cell?_of_block (a := ⟨b, 1, none⟩) hb).trans h.c1, (World.frozen?_of_block (a := ⟨b, 0, none⟩) hb).trans h.z0, (World.frozen?_of_block (a := ⟨b, 1, none⟩) hb).trans h.z1, Nat.lt_of_lt_of_le h.lt hg.size, h.len, h.cap, h.six, fun h0 => ?_, fun h0 => ?_, h.emp, h.abv, h.abv', fun g off i e => ?_, fun g off sub e => ?_, fun g off sub e => ?_⟩
 ·obtain ⟨g, o, e, hq, hcs⟩ := h.rd h0
  have := (h.abv _ _ e).1
  exact ⟨g, o, e, Nat.lt_of_lt_of_le hq hg.size, fun i hi => (World.cell?_of_block (a := ⟨g, o + i, none⟩) (hk g (by omega) hq)).trans (hcs i hi)⟩
 ·obtain ⟨g, o, e, hq, hcs⟩ := h.rs h0
  have := (h.abv' _ _ e).1
  exact ⟨g, o, e, Nat.lt_of_lt_of_le hq hg.size, fun i hi => (World.cell?_of_block (a := ⟨g, o + i, none⟩) (hk g (by omega) hq)).trans (hcs i hi)⟩
 ·by_cases h0 : ss.length = 0
  ·rw [(h.emp h0).2.1] at e; cases e
  ·obtain ⟨g2, o, e2, hlt, _⟩ := h.rs (by omega)
   have hbg := (h.abv' _ _ e).1
   rw [e] at e2
   injection e2 with e2
   injection e2 with e2 _ _
   subst e2
   exact (World.frozen?_of_block (a := ⟨g, i, none⟩) (hk g (by omega) hlt)).trans (h.fz' g off i e)
 ·obtain ⟨cs, fr, hh⟩ := h.ty g off sub e
  by_cases h0 : ss.length = 0
  ·rw [(h.emp h0).1] at e; cases e
  ·obtain ⟨g2, o, e2, hlt, _⟩ := h.rd (by omega)
   have e3 := e2.symm.trans e
   injection e3 with e3
   injection e3 with e3 _ _
   subst e3
   have hbg := (h.abv _ _ e2).1
   exact ⟨cs, fr, (hk g2 (by omega) hlt).trans hh⟩
 ·obtain ⟨cs, fr, hh⟩ := h.ty' g off sub e
  by_cases h0 : ss.length = 0
  ·rw [(h.emp h0).2.1] at e; cases e
  ·obtain ⟨g2, o, e2, hlt, _⟩ := h.rs (by omega)
   have e3 := e2.symm.trans e
   injection e3 with e3
   injection e3 with e3 _ _
   subst e3
   have hbg := (h.abv' _ _ e2).1
   exact ⟨cs, fr, (hk g2 (by omega) hlt).trans hh⟩
theorem labIs {w : World} {b : Nat} {ss : List ByteArray} {xs : List St} {A A' : Option Addr} {c c' : Nat} (h : Set.LabAt w b ss (flat xs) A A' c c') (hl : LOk (ss, xs)) : LcA.LabAt w (.agg #[.slice A ss.length c, .slice A' ss.length c']) (ss, xs) := by
 have hln : ss.length = xs.length := hl.len
 refine ⟨A, c, A', c', by show _ = Value.agg #[.slice A ss.length c, .slice A' xs.length c']; rw [hln], h.rd, ?_, h.ty, h.ty'⟩
 show RdS w w.heap.size A' xs.length (flat xs)
 rw [← hln]; exact h.rs
def DLabV (p L : Nat) (w : World) (e : Ending) (w' : World) : Prop :=
 ∃ (A A' : Option Addr) (c c' : Nat) (ss : List ByteArray), e = .returned (.agg #[.slice A ss.length c, .slice A' ss.length c']) ∧ ss.length ≤ 3 ∧ AllGd ss ∧ (∃ fs, ValF ss fs ∧ ∃ b, w.heap.size ≤ b ∧ b < w'.heap.size ∧ Set.LabAt w' b ss fs A A' c c') ∧ Go.Proofs.YtgipnbeipfhekaaGreatDoor.Src.Src w' p L ∧ Beside p w w'
def DlRelV (p K b : Nat) (w : World) (kv : Value) (wr : World) : Prop :=
 ∃ (k : Nat) (ss : List ByteArray) (fs : List Int), kv = .int .i64 (k : Int) ∧ ss.length + k ≤ 3 ∧ Hid (AllGd ss) ∧ Hid (ValF ss fs) ∧ Hid (Lab wr b ss fs) ∧ Hid (Go.Proofs.YtgipnbeipfhekaaGreatDoor.Src.Src wr p (K + 2 + 18 * (3 - k))) ∧ Hid (Blk wr w.heap.size 53 #[.slice none 0 0, .slice none 0 0]) ∧ Hid (Beside p w wr)
theorem drawLab_ok (p K : Nat) (w : World) (h : Go.Proofs.YtgipnbeipfhekaaGreatDoor.Src.Src w p K) (hK : K ≤ 1000000) : Calls Tryz.prog 59 #[.pointer (some ⟨p, 0, none⟩)] w (DLabV p (K + 100) w) := by
  have hp := h.lt
  obtain ⟨W0, hW0⟩ : ∃ W0, W0 = (w.alloc (.cells #[.slice none 0 0, .slice none 0 0] 53)).alloc (.cells #[.slice none 0 0, .slice none 0 0] 53) := ⟨_, rfl⟩
  have e0 : W0.heap.size = w.heap.size + 1 + 1 := by rw [hW0]; simp
  have b0 : Below w.heap.size w W0 := by rw [hW0]; exact ((Below.refl _ _).alloc (Nat.le_refl _) _).alloc (by simp) _
  have R0 : Blk W0 w.heap.size 53 #[.slice none 0 0, .slice none 0 0] := by rw [hW0]; exact (Blk.new _ _ _).alloc _
  have R1 : Blk W0 (w.heap.size + 1) 53 #[.slice none 0 0, .slice none 0 0] := by rw [hW0]; exact Blk.newAt _ _ (by simp)
  have HL0 : Hid (Lab W0 (w.heap.size + 1) [] []) := J ⟨none, none, 0, 0, R1.at 0 rfl, R1.at 1 rfl, R1.frz 0, R1.frz 1, R1.lt, rfl, ⟨Nat.le_refl _, Nat.le_refl _⟩, by decide, fun h => absurd h (by decide), fun h => absurd h (by decide), fun _ => ⟨rfl, rfl, rfl, rfl⟩, fun g off e => (by cases e), fun g off e => (by cases e), fun g off i e => (by cases e), fun g off sub e => (by cases e), fun g off sub e => (by cases e)⟩
  have HS0 := J (h.below b0)
  have HB0 := J (Beside.ofBelow (p := p) b0)
  have HR0 := J R0
  have HW0 := J hW0
  clear h hW0 R0 R1 b0 e0
  go_enter Tryz.func59, Tryz.ntmps59
  go_wp2_with fail
  rw [← HW0.out]
  refine (pick_any p K 4 W0 HS0.out (by omega)).mono ?_
  rintro e w1 ⟨k0, rfl, hk0, s1, gr1⟩
  have hk3 : k0 ≤ 3 := by omega
  have B1 := Beside.grown gr1
  have H1 : Hid (DlRelV p K (w.heap.size + 1) w (.int .i64 (k0 : Int)) w1) := J
    ⟨k0, [], [], rfl, by simpa using hk3, J (fun i hi => absurd hi (Nat.not_lt_zero i)), J ValF.nil, J (lab_beside HL0.out B1 (by omega)), J (s1.more (by omega)), J (HR0.out.beside B1 (by omega)), J (HB0.out.trans B1)⟩
  clear s1 gr1 B1 hk0
  go_wp2
  go_loopw [4] (fun kv wr => DlRelV p K (w.heap.size + 1) w kv wr) (fun kv _ => (intOf kv).toNat)
  case atStart => exact H1.out
  case round =>
    obtain ⟨k, ss, fs, rfl, hk, HA, HVF, HL, HS, HR, HB⟩ := hrel
    clear H1
    by_cases hk0 : 0 < k
    · have hk1 : (0 : Int) < (k : Int) := by omega
      go_wp2_with fail
      refine (lit_good p _ 10 5 [⟨#[97]⟩, ⟨#[98]⟩, ⟨#[99, 111, 105, 110]⟩, ⟨#[100, 101, 99, 107]⟩, ⟨#[120]⟩] _ wr HS.out (by omega) rfl rfl (by decide) (by decide) (by decide +kernel)).mono ?_
      rintro e w2 ⟨x, gx, rfl, s2, gr2⟩
      have HL2 := J (lab_beside HL.out (Beside.grown gr2) (by omega))
      have HR2 := J (HR.out.beside (Beside.grown gr2) (by omega))
      have HB2 := J (HB.out.trans (Beside.grown gr2))
      have HS2 := J s2
      have HGX := J gx
      clear s2 gr2 gx
      go_wp2_with fail
      refine (l11DrawOk_any p _ w2 HS2.out (by omega)).mono ?_
      rintro e w3 ⟨C, V, T, m, f, a, s, hB, rfl, s3, bs3⟩
      have HL3 := J (lab_beside HL2.out bs3 (by omega))
      have HR3 := J (HR2.out.beside bs3 (by omega))
      have HB3 := J (HB2.out.trans bs3)
      have HS3 := J s3
      have HSET := J (set_any (w.heap.size + 1) ss fs x C V T m f a s w3 HL3.out (Nat.le_trans HGX.out.1 (by decide)))
      have HBB := J hB
      clear s3 bs3 hB
      go_wp2_with fail
      refine HSET.out.mono ?_
      rintro e w4 ⟨r, ss', fs', rfl, hl, hlab, b4⟩
      obtain ⟨hg', hlen'⟩ := allGd_laid HA.out HGX.out hl.laid
      have hvf := HVF.out.laid (r := ⟨C, V, T, m, f, a, s⟩) HBB.out hl
      have HN : Hid (DlRelV p K (w.heap.size + 1) w (.int .i64 ((k : Int) - 1)) w4) := J
        ⟨k - 1, ss', fs', by congr 1; omega, by omega, J hg', J hvf, J hlab, J ((src_low HS3.out b4 (by omega)).more (by omega)), J (HR3.out.below b4 (Nat.lt_succ_self _)), J (beside_low HB3.out b4 (Nat.le_succ _))⟩
      clear hl hlab b4 hg' hlen' hvf
      go_wp2
      go_roundw
      case rel => exact HN.out
      case measure => simp [intOf]; omega
    · obtain rfl : k = 0 := by omega
      obtain ⟨A, A', c, c', hlab⟩ := HL.out
      have c0 := hlab.c0
      have c1 := hlab.c1
      have r0 := HR.out.at 0 (v := .slice none 0 0) rfl
      have r1 := HR.out.at 1 (v := .slice none 0 0) rfl
      have z0 := HR.out.frz 0
      have z1 := HR.out.frz 1
      have HLB := J hlab
      have hss : ss.length ≤ 3 := by omega
      clear hlab
      have S2 := (HR.out.setTo 0 (.slice A ss.length c) rfl).setTo 1 (.slice A' ss.length c') rfl
      have s0 := S2.at 0 (v := .slice A ss.length c) rfl
      have s1 := S2.at 1 (v := .slice A' ss.length c') rfl
      obtain ⟨WF, hWF⟩ : ∃ WF, WF = (wr.setCell ⟨w.heap.size, 0, none⟩ (.slice A ss.length c)).setCell ⟨w.heap.size, 1, none⟩ (.slice A' ss.length c') := ⟨_, rfl⟩
      have hg : wr.grownBy WF (some w.heap.size) := by rw [hWF]; exact grown_trans (Src.grown_setCell wr ⟨w.heap.size, 0, none⟩ _) (Src.grown_setCell _ ⟨w.heap.size, 1, none⟩ _)
      have HRET : Hid (DLabV p (K + 100) w (.returned (.agg #[.slice A ss.length c, .slice A' ss.length c'])) WF) := J
        ⟨A, A', c, c', ss, rfl, hss, HA.out, ⟨fs, HVF.out, w.heap.size + 1, Nat.le_succ _, Nat.lt_of_lt_of_le HLB.out.lt hg.size, labRow HLB.out hg (by omega) (fun e => by omega)⟩,
         (HS.out.kept hg (fun g e => by injection e with e; omega)).more (by omega), by rw [hWF]; exact (HB.out.set (Nat.le_refl _) _).set (Nat.le_refl _) _⟩
      rw [hWF] at HRET
      clear S2 hWF hg
      go_wp2
      exact bodyPost_ret (v := .agg #[.slice A ss.length c, .slice A' ss.length c']) (by simp [results, Tryz.results59, go_sem, s0, s1]) rfl HRET.out
def B10LabV (w : World) (e : Ending) (w' : World) : Prop :=
 ∃ (A A' : Option Addr) (c c' : Nat) (ss : List ByteArray) (xs : List St), e = .returned (.agg #[.slice A ss.length c, .slice A' ss.length c']) ∧ ss.length ≤ 3 ∧ AllGd ss ∧ RdT w' w'.heap.size A ss ∧ LOk (ss, xs) ∧ LcA.LabAt w' (.agg #[.slice A ss.length c, .slice A' ss.length c']) (ss, xs) ∧ Below w.heap.size w w'
theorem b10Lab_ok (A : Option Addr) (c B : Nat) (zs : List Int) (w : World) (hx : RdB w B A zs) (hB : B ≤ w.heap.size) (hl : zs.length ≤ 9223372036854775807) (hz : ∀ z ∈ zs, 0 ≤ z ∧ z ≤ 255) :
    Calls Tryz.prog 23 #[.slice A zs.length c] w (B10LabV w) := by
  obtain ⟨W0, hW0⟩ : ∃ W0, W0 = w.alloc (.cells #[.slice none 0 0, .slice none 0 0] 53) := ⟨_, rfl⟩
  have e0 : W0.heap.size = w.heap.size + 1 := by rw [hW0]; simp
  have b0 : Below w.heap.size w W0 := by rw [hW0]; exact (Below.refl _ _).alloc (Nat.le_refl _) _
  have R0 : Blk W0 w.heap.size 53 #[.slice none 0 0, .slice none 0 0] := by rw [hW0]; exact Blk.new _ _ _
  have HF := J (from_any A c w.heap.size zs W0 ((hx.below b0 hB).more hB) (by omega) hl hz)
  have HW := J hW0
  have HB0 := J b0
  have HR0 := J R0
  have E0 := J e0
  rw [e0] at HF
  clear hW0 b0 R0 hx hz e0
  go_enter Tryz.func23, Tryz.ntmps23
  go_wp2_with fail
  rw [← HW.out]
  refine HF.out.mono ?_
  rintro e w1 ⟨rfl, s1, b1⟩
  have B1 := J (HB0.out.trans (b1.mono (by have := E0.out; omega)))
  have R1 := J (HR0.out.below b1 (by omega))
  have HD := J (drawLab_ok (w.heap.size + 1) 0 w1 s1 (by decide))
  have hs1 := s1.lt
  have HZ1 := J hs1
  clear s1 b1
  go_wp2_with fail
  refine HD.out.mono ?_
  rintro e w2 ⟨A2, A3, c2, c3, ss, rfl, hss, hgd, ⟨fs, ⟨xs, rfl, hok⟩, bl, hbl1, hbl2, hla⟩, s2, bs2⟩
  have B2 := B1.out.trans (bs2.below (Nat.le_succ _) (by have := B1.out.size; omega))
  have R2 : Blk w2 w.heap.size 53 #[.slice none 0 0, .slice none 0 0] := R1.out.beside bs2 (by omega)
  have r0 := R2.at 0 (v := .slice none 0 0) rfl
  have r1 := R2.at 1 (v := .slice none 0 0) rfl
  have z0 := R2.frz 0
  have z1 := R2.frz 1
  have S2 := (R2.setTo 0 (.slice A2 ss.length c2) rfl).setTo 1 (.slice A3 ss.length c3) rfl
  have t0 := S2.at 0 (v := .slice A2 ss.length c2) rfl
  have t1 := S2.at 1 (v := .slice A3 ss.length c3) rfl
  obtain ⟨WF, hWF⟩ : ∃ WF, WF = (w2.setCell ⟨w.heap.size, 0, none⟩ (.slice A2 ss.length c2)).setCell ⟨w.heap.size, 1, none⟩ (.slice A3 ss.length c3) := ⟨_, rfl⟩
  have hg : w2.grownBy WF (some w.heap.size) := by rw [hWF]; exact grown_trans (Src.grown_setCell w2 ⟨w.heap.size, 0, none⟩ _) (Src.grown_setCell _ ⟨w.heap.size, 1, none⟩ _)
  have HRET : Hid (B10LabV w (.returned (.agg #[.slice A2 ss.length c2, .slice A3 ss.length c3])) WF) := J
    ⟨A2, A3, c2, c3, ss, xs, rfl, hss, hgd, (labRow hla hg (by have := HZ1.out; omega) (fun e => by have := HZ1.out; omega)).rd, hok, labIs (labRow hla hg (by have := HZ1.out; omega) (fun e => by have := HZ1.out; omega)) hok,
     B2.grown hg B2.size (fun q e => by injection e with e; omega)⟩
  rw [hWF] at HRET
  clear S2 hWF hg hla hgd hok s2 bs2 B2 R2
  go_wp2
  exact bodyPost_ret (v := .agg #[.slice A2 ss.length c2, .slice A3 ss.length c3]) (by simp [results, Tryz.results23, go_sem, t0, t1]) rfl HRET.out
end LabD
end Go.Proofs.YtgipnbeipfhekaaGreatDoor
