/- RunLab at an empty script. -/
import Derived.Test.YtgipnbeipfhekaaGreatDoorMgFnL22
import Derived.Test.YtgipnbeipfhekaaGreatDoorMgFnL12
import Derived.Test.YtgipnbeipfhekaaGreatDoorMgFnL02
import Derived.Test.YtgipnbeipfhekaaGreatDoorMgFnL00
set_option linter.unusedVariables false
set_option linter.unusedSimpArgs false
set_option maxRecDepth 100000
set_option maxHeartbeats 16000000
namespace Go.Proofs.YtgipnbeipfhekaaGreatDoor
namespace LcS
open Go.RowKit Base Mem MemS LabM Dec LabV Str StM StTx Rd Val CutP CarM LcA LcC LcG
theorem stringK_nil (b : Nat) (w : World) (hK : Blk.Blk w b 93 #[.pointer none, .slice none 0 0]) : Calls Tryz.prog 48 #[.pointer (some ⟨b, 0, none⟩)] w fun e w' => e = .returned (.string ⟨#[]⟩) ∧ Below w.heap.size w w' := by
 have c1 : w.drew.cell? ⟨b, 1, none⟩ = some (.slice none 0 0) := hK.at 1 rfl
 have h1 := Lib.run_unsafeSliceData_nil (P := Tryz.prog) (w := w.drew) #[22] 141 0 0
 have h2 := Lib.run_unsafeString_none (P := Tryz.prog) (w := w.drew) 141 3 9 none
 have mixed : Tryz.prog.follows .mixedOrders = true := by kernel_rfl
 go_enter Tryz.func48, Tryz.ntmps48
 go_wp2
 go_region_o
 all_goals (go_wp2; go_ret; exact ⟨rfl, (Below.refl _ _).drew⟩)
theorem runLab_nil {L : Lb} (hL : LOk L) (v : Value) (w : World) (h : LabAt w v L) (ht : Tabs w) :
  Calls Tryz.prog 17 #[v, .string ⟨#[]⟩] w fun e w' => ∃ v', e = .returned (.tuple #[v', .string ⟨#[]⟩, .bool true]) ∧ LabAt w' v' L ∧ Below w.heap.size w w' := by
 have hv0 := h
 obtain ⟨A, c, A', c', rfl, hx, hy, _⟩ := h
 obtain ⟨W2, hW2⟩ : ∃ W2, W2 = (w.alloc (.cells #[.slice A L.1.length c, .slice A' L.2.length c'] 53)).alloc (.cells #[.slice none 0 0, .slice none 0 0] 53) := ⟨_, rfl⟩
 have b2 : Below w.heap.size w W2 := by rw [hW2]; exact ((Below.refl _ _).alloc (Nat.le_refl _) _).alloc (by simp) _
 have KL : Hid (Blk.Blk W2 w.heap.size 53 #[.slice A L.1.length c, .slice A' L.2.length c']) := J (by rw [hW2]; exact (Blk.Blk.new w _ _).alloc _)
 have KR : Hid (Blk.Blk W2 (w.heap.size + 1) 53 #[.slice none 0 0, .slice none 0 0]) := J (by rw [hW2]; exact Blk.Blk.newAt _ _ (by simp))
 have hVL := implLab_any A A' c c' W2.heap.size L.2.length L.1 (flat L.2) W2 ((hx.below b2 (Nat.le_refl _)).more b2.size) ((hy.below b2 (Nat.le_refl _)).more b2.size) (Nat.le_refl _) hL.sz (by have := hL.six1; omega) (by have := hL.six; omega)
 rw [show labB L.1 L.2.length (flat L.2) = true from labR_iff.2 hL] at hVL
 have HVL := J hVL
 have HSp := J (fun (W : World) (hb : Below w.heap.size w W) => (ht.on hb).2.2)
 have HSP2 : Hid (∀ (W : World) (m : Int), W.cell? ⟨YtgipnbeipfhekaaGreatDoor.lays146_ren.g 1, 0, none⟩ = some (.int .i64 m) → Calls Tryz.prog 44 #[.string ⟨#[]⟩, .string ⟨#[10]⟩] W fun e w' => e = .returned (.slice (some ⟨W.heap.size, 0, none⟩) 1 1) ∧ Below W.heap.size W w') := J (fun W m hm => by
  have hc : cutR 10 (⟨#[]⟩ : ByteArray).data.toList = [[]] := StrM.cut_end (fun x hx => by cases hx)
  have hh := split_to ⟨#[]⟩ 10 (by decide) m W hm
  rw [hc] at hh
  exact hh.mono fun e w' hr => ⟨hr.1, hr.2.2.2⟩)
 have HV := J hv0
 have HB := J b2
 have HW := J hW2
 have HEN := J (And.intro (show L.1.length ≤ 1000 by have := hL.six1; omega) (show L.2.length ≤ 1000 by have := hL.six; omega))
 clear hv0 hx hy hW2 b2 ht hVL hL
 go_enter Tryz.func17, Tryz.ntmps17
 go_wp2_with fail
 rw [← HW.out]
 refine HVL.out.mono ?_
 rintro e w1 ⟨rfl, b1⟩
 have KL1 := J (KL.out.belowS b1)
 have KR1 := J (KR.out.belowS b1)
 have HB1 := J (Base.Below.nextA HB.out b1)
 clear b1 KL KR HB HVL HW
 obtain ⟨m, _, hm⟩ := HSp.out _ HB1.out
 go_wp2_with fail
 refine (HSP2.out _ m hm).mono ?_
 rintro e w2 ⟨rfl, b2⟩
 obtain ⟨w3, hw3⟩ : ∃ w3, w3 = w2.alloc (.cells #[.pointer none, .slice none 0 0] 93) := ⟨_, rfl⟩
 have b3 : Below w2.heap.size w2 w3 := by rw [hw3]; exact (Below.refl _ _).alloc (Nat.le_refl _) _
 have KB3 := J (show Blk.Blk w3 w2.heap.size 93 #[.pointer none, .slice none 0 0] by rw [hw3]; exact Blk.Blk.new _ _ _)
 have b13 := Base.Below.nextA b2 b3
 have KL3 := J (KL1.out.belowS b13)
 have KR3 := J (KR1.out.belowS b13)
 have HB3 := J (Base.Below.nextA HB1.out b13)
 have d0 := KL3.out.at 0 (v := .slice A L.1.length c) rfl
 have d1 := KL3.out.at 1 (v := .slice A' L.2.length c') rfl
 have HL := J (labClone_any _ _ w3 (HV.out.below HB3.out) HEN.out.1 HEN.out.2)
 have HW3 := J hw3
 rw [hw3] at d0 d1
 clear b3 b13 hw3 b2 hm HSp HSP2 KL1 KR1 HB1 KL3
 go_wp2_with fail
 go_loopw [39] (fun iv wr => iv = .int .i64 0 ∧ wr = w2.alloc (.cells #[.pointer none, .slice none 0 0] 93)) (fun _ _ => 0)
 case atStart => exact ⟨rfl, rfl⟩
 case round =>
  obtain ⟨rfl, rfl⟩ := hrel
  go_wp2_with fail
  rw [← HW3.out]
  refine HL.out.mono ?_
  rintro e w5 ⟨v5, rfl, hv5, b5⟩
  have hv6 := hv5
  obtain ⟨A7, c7, A8, c8, rfl, _, _⟩ := hv5
  have HSt := J (stringK_nil w2.heap.size w5 (KB3.out.belowS b5))
  have R5 := J (KR3.out.belowS b5)
  have B5 := J (Base.Below.nextA HB3.out b5)
  have V5 := J hv6.at
  clear hv6 b5 d0 d1 KR3 HB3 HL HW3 KB3
  go_wp2_with fail
  refine HSt.out.mono ?_
  rintro e w6 ⟨rfl, b6⟩
  have V6 := V5.out.below b6
  have R6 := R5.out.belowS b6
  have r0 := R6.at 0 (v := .slice none 0 0) rfl
  have r1 := R6.at 1 (v := .slice none 0 0) rfl
  have f0 := R6.frz 0
  have f1 := R6.frz 1
  have KK := (R6.setTo 0 (.slice A7 L.1.length c7) rfl).setTo 1 (.slice A8 L.2.length c8) rfl
  have k0 := KK.at 0 (v := .slice A7 L.1.length c7) rfl
  have k1 := KK.at 1 (v := .slice A8 L.2.length c8) rfl
  have B6 := Base.Below.nextA B5.out b6
  have hb7 := (B6.setCell (p := ⟨w.heap.size + 1, 0, none⟩) (Nat.le_succ _) (.slice A7 L.1.length c7)).setCell (p := ⟨w.heap.size + 1, 1, none⟩) (Nat.le_succ _) (.slice A8 L.2.length c8)
  have HFIN := J (And.intro (labPut2 V6 R6 (.slice A7 L.1.length c7) (.slice A8 L.2.length c8)) hb7)
  clear R5 B5 V5 R6 V6 KK B6 hb7 b6 HSt
  go_wp2
  refine bodyPost_ret (v := .tuple #[.agg #[.slice A7 L.1.length c7, .slice A8 L.2.length c8], .string ⟨#[]⟩, .bool true]) (by simp [results, Tryz.results17, go_sem, k0, k1]) rfl ?_
  exact ⟨_, rfl, HFIN.out.1, HFIN.out.2⟩
end LcS
namespace LabD
open Go.RowKit Base Mem Dec LabM Str Take StTx YtgipnbeipfhekaaGreatDoor.Src Blk Draw Set
theorem own_beside {w w' : World} {B p : Nat} {e : TypeId} {size n : Nat} {v : Value} {xs : List Value} (h : w.ownsRow B e size v n xs) (hp : p < B) (hb : Beside p w w') : w'.ownsRow B e size v n xs :=
 ⟨h.1, h.2.imp id fun ⟨g, cap, cur, e1, h2, h3, h4, h5, h6, h7⟩ => ⟨g, cap, cur, e1, h2, (hb.same g (Array.getElem?_eq_some_iff.1 h3).1 (by omega)).trans h3, h4, h5, h6, h7⟩⟩
def AllG (n : Nat) (D : List ByteArray) : Prop := ∀ i, i < D.length → Gd n (D.getD i ByteArray.empty)
theorem AllG.snoc {n : Nat} {D : List ByteArray} {t : ByteArray} (h : AllG n D) (ht : Gd n t) : AllG n (D ++ [t]) := fun i hi => by
 rw [List.length_append, List.length_singleton] at hi
 rw [List.getD_eq_getElem?_getD]
 by_cases e : i < D.length
 ·rw [List.getElem?_append_left e, ← List.getD_eq_getElem?_getD]; exact h i e
 ·obtain rfl : i = D.length := by omega
  rw [List.getElem?_append_right (Nat.le_refl _), Nat.sub_self]; exact ht
def LinesRet (w : World) (e : Ending) (w' : World) : Prop :=
 ∃ (A : Option Addr) (c : Nat) (D : List ByteArray), e = .returned (.slice A D.length c) ∧ D.length ≤ 6 ∧ AllG 300 D ∧ w'.ownsRow w.heap.size 9 1 (.slice A D.length c) D.length (texts D) ∧ Below w.heap.size w w'
def LnRel (w W0 w1 : World) (kv ov : Value) (wr : World) : Prop :=
 ∃ (k : Nat) (D : List ByteArray), kv = .int .i64 (k : Int) ∧ D.length + k ≤ 6 ∧ w1.heap.size ≤ wr.heap.size ∧ Hid (AllG 300 D) ∧ Hid (wr.ownsRow w1.heap.size 9 1 ov D.length (texts D)) ∧ Hid (Go.Proofs.YtgipnbeipfhekaaGreatDoor.Src.Src wr (w.heap.size + 1) (2 + 100 * (6 - k))) ∧ Hid (Below (w.heap.size + 1) W0 wr)
theorem b10Lines_any (A : Option Addr) (c B : Nat) (zs : List Int) (A1 A2 : Option Addr) (c1 c2 : Nat) (ss : List ByteArray) (w : World) (hx : RdB w B A zs) (hB : B ≤ w.heap.size) (hl : zs.length ≤ 9223372036854775807) (hz : ∀ z ∈ zs, 0 ≤ z ∧ z ≤ 255)
  (hs : RdT w w.heap.size A1 ss) (hn : ss.length ≤ 3) (hg : AllGd ss) :
  Calls Tryz.prog 24 #[.slice A zs.length c, .agg #[.slice A1 ss.length c1, .slice A2 ss.length c2]] w (LinesRet w) := by
 obtain ⟨ix, hix, xz0, xz1, xz2⟩ := info_parts infoT
 obtain ⟨W0, hW0⟩ : ∃ W0, W0 = w.alloc (.cells #[.slice A1 ss.length c1, .slice A2 ss.length c2] 53) := ⟨_, rfl⟩
 have e0 : W0.heap.size = w.heap.size + 1 := by rw [hW0]; simp
 have b0 : Below w.heap.size w W0 := by rw [hW0]; exact (Below.refl _ _).alloc (Nat.le_refl _) _
 have R0 : Blk W0 w.heap.size 53 #[.slice A1 ss.length c1, .slice A2 ss.length c2] := by rw [hW0]; exact Blk.new _ _ _
 have HF := J (from_any A c w.heap.size zs W0 ((hx.below b0 hB).more hB) (by omega) hl hz)
 have HNM : Hid (∀ wr : World, Below (w.heap.size + 1) W0 wr → NamesAt wr w.heap.size (w.heap.size + 1)) := J fun wr hb =>
  ⟨A1, ss.length, c1, ss, (hb.cell (p := ⟨w.heap.size, 0, none⟩) (Nat.lt_succ_self _)).trans (R0.at 0 rfl), by omega, Nat.lt_of_lt_of_le (by rw [e0]; exact Nat.lt_succ_self _) hb.size, by omega, rfl, hg, fun h0 => by
   obtain ⟨g, off, e, hgl, hc⟩ := (hs.below b0 (Nat.le_refl _)) h0
   exact ⟨g, off, e, by omega, Nat.lt_of_lt_of_le (by omega) hb.size, fun i hi => (hb.cell (p := ⟨g, off + i, none⟩) (Nat.lt_succ_of_lt hgl)).trans (hc i hi)⟩⟩
 have HW := J hW0
 have HB0 := J b0
 have E0 := J e0
 rw [e0] at HF
 clear hW0 b0 R0 hx hz e0 hs hg
 go_enter Tryz.func24, Tryz.ntmps24
 go_wp2_with fail
 rw [← HW.out]
 refine HF.out.mono ?_
 rintro e w1 ⟨rfl, s1, b1⟩
 have B1 := J (show Below (w.heap.size + 1) W0 w1 from b1)
 have hp1 := s1.lt
 have xl : Below w1.heap.size w1 (w1.alloc (.cells #[] 9)) := (Below.refl _ _).alloc (Nat.le_refl _) _
 have HS1 := J (s1.below xl)
 have O1 := J (World.ownsRow_lit (e := 9) (size := 1) (base := w1.heap.size) w1 #[] 0 (Nat.le_refl _) (by simp [maxLen]) (by simp))
 have BX := J (show Below (w.heap.size + 1) W0 (w1.alloc (.cells #[] 9)) from B1.out.trans (xl.mono (Nat.le_of_lt hp1)))
 clear s1 b1 xl
 go_wp2_with fail
 refine (pick_any (w.heap.size + 1) 0 7 _ HS1.out (by decide)).mono ?_
 rintro e w2 ⟨k0, rfl, hk0, s2, gr2⟩
 have hk6 : k0 ≤ 6 := by omega
 have hsz2 := gr2.size
 have H1 : Hid (LnRel w W0 w1 (.int .i64 (k0 : Int)) (.slice (some ⟨w1.heap.size, 0, none⟩) 0 0) w2) := J
  ⟨k0, [], rfl, by simpa using hk6, by simp at hsz2; omega, J (fun i hi => absurd hi (Nat.not_lt_zero i)), J (own_beside O1.out hp1 (Beside.grown gr2)), J (s2.more (by omega)), J (BX.out.grown gr2 (Nat.le_trans (Nat.le_of_lt hp1) (by simp)) (fun q e => by injection e with e; omega))⟩
 clear s2 gr2 hk0 hsz2 O1 BX
 go_wp2
 go_loopw [7, 6] (fun kv ov wr => LnRel w W0 w1 kv ov wr) (fun kv _ _ => (intOf kv).toNat)
 case atStart => exact H1.out
 case round =>
  obtain ⟨k, D, rfl, hk, hw1, HG, HO, HS, HB⟩ := hrel
  clear H1
  by_cases hk0 : 0 < k
  ·have hk1 : (0 : Int) < (k : Int) := by omega
   go_wp2_with fail
   refine (drawLine_any (w.heap.size + 1) _ w.heap.size wr HS.out (by omega) (HNM.out wr HB.out)).mono ?_
   rintro e w3 ⟨t, gt, rfl, s3, bs3⟩
   obtain ⟨Ao, co, eo, _⟩ := Mem.ownsRow_form HO.out
   subst eo
   have hsz3 := bs3.size
   have HOW := J (World.ownsRow.alloc (own_beside HO.out hp1 bs3) (.cells #[.string t] 9))
   have B3 := J (show Below (w.heap.size + 1) W0 w3 from HB.out.trans (bs3.below (Nat.le_refl _) (Nat.le_trans (Nat.le_of_lt hp1) hw1)))
   have HGT := J gt
   have x4 : Below w3.heap.size w3 (w3.alloc (.cells #[.string t] 9)) := (Below.refl _ _).alloc (Nat.le_refl _) _
   have HS4 := J (s3.below x4)
   have B4 := J (B3.out.trans (x4.mono (Nat.le_trans (Nat.le_of_lt hp1) (Nat.le_trans hw1 hsz3))))
   clear bs3 s3 gt x4
   go_wp2_with (at_builtin; refine wpList_append_own_at _ rfl (.tmp 17) (.tmp 20) 50 rfl w1.heap.size 9 ix (.string ByteArray.empty) 1 16 Tryz.underlying50 hix xz0 xz1 xz2 rfl (by decide) _ _ _ rfl HOW.out ⟨w3.heap.size, 0, none⟩ 1 1 [.string t] rfl rfl ?p1a ?p2a ?p3a ?p4a ?p5a ?_)
   try case p1a => exact news_one _ _ _ (by simp)
   try case p2a => first | rfl | (intro u hu; simp at hu; subst hu; rfl)
   try case p3a => first | (simp only [maxLen]; omega) | omega
   try case p4a => omega
   try case p5a => first | (simp only [World.size_alloc]; omega) | omega
   intro v'' wC hown' hg' _ _
   have HN : Hid (LnRel w W0 w1 (.int .i64 ((k : Int) - 1)) v'' wC) := J
    ⟨k - 1, D ++ [t], by congr 1; omega, by rw [List.length_append, List.length_singleton]; omega, by have := hg'.size; simp at this; omega, J (HG.out.snoc HGT.out), J (by rw [List.length_append, List.length_singleton, show texts (D ++ [t]) = texts D ++ [.string t] from List.map_append]; exact hown'),
     J ((HS4.out.kept hg' (fun g e => by have := own_at HOW.out e; omega)).more (by omega)), J (B4.out.grown hg' (Nat.le_trans (Nat.le_of_lt hp1) (by simp; omega)) (fun q e => by have := own_at HOW.out e; omega))⟩
   clear hown' hg' HOW HS4 B4
   go_wp2
   go_roundw
   case rel => exact HN.out
   case measure => simp [intOf]; omega
  ·obtain rfl : k = 0 := by omega
   obtain ⟨Ao, co, eo, _⟩ := Mem.ownsRow_form HO.out
   subst eo
   have HFO := J (ownsRow_base HO.out (show w.heap.size ≤ w1.heap.size by omega))
   have HFB := J (HB0.out.trans (HB.out.mono (Nat.le_succ _)))
   have hd : D.length ≤ 6 := by omega
   go_wp2
   go_ret
   exact ⟨Ao, co, D, rfl, hd, HG.out, HFO.out, HFB.out⟩
end LabD
namespace LcS
open Go.RowKit Base Mem MemS LabM Dec LabV Str StM StTx Rd Val CutP CarM LcA LcC LcG RecJ
theorem lk_ok {L : Lb} (hL : LOk L) (ls : List Tx) : ∀ k, k ≤ ls.length → LOk (LkAt L ls k).1 ∧ (LkAt L ls k).2.length ≤ 1001 * k
 | 0, _ => ⟨hL, Nat.zero_le _⟩
 | k + 1, hk => by
  obtain ⟨h1, h2⟩ := lk_ok hL ls k (by omega)
  obtain ⟨x, hx⟩ : ∃ x, ls[k]? = some x := ⟨ls[k]'(by omega), by simp [show k < ls.length by omega]⟩
  have ho := line_ok x h1
  have hl := ho.len
  rw [lk_succ L hx]
  exact ⟨ho.ok, by simp; omega⟩
theorem script_le : ∀ ls : List Tx, (∀ x ∈ ls, x.length ≤ 300) → (script ls).length ≤ 301 * ls.length
 | [], _ => by simp [script]
 | x :: r, h => by
  have ih := script_le r fun y hy => h y (List.mem_cons_of_mem _ hy)
  have hx := h x List.mem_cons_self
  have e : script (x :: r) = x ++ 10 :: script r := by simp [script]
  rw [e]; simp; omega
theorem script_succ {ls : List Tx} {k : Nat} {x : Tx} (h : ls[k]? = some x) : script (ls.take (k + 1)) = script (ls.take k) ++ (x ++ [10]) := by
 rw [List.take_add_one, h]
 simp [script]
theorem run_any {L : Lb} (hL : LOk L) {ls : List Tx} (h10 : ∀ x ∈ ls, ∀ c ∈ x, c ≠ 10) (hn : ls.length ≤ 6) (h3 : ∀ x ∈ ls, x.length ≤ 300) (v : Value) (w : World) (h : LabAt w v L) (ht : Tabs w) :
  Calls Tryz.prog 17 #[v, .string (tx (script ls))] w fun e w' => ∃ v', e = .returned (.tuple #[v', .string (tx (LkAt L ls ls.length).2), .bool true]) ∧ LabAt w' v' (LkAt L ls ls.length).1 ∧ Below w.heap.size w w' := by
 cases hls : ls with
 | nil => exact runLab_nil hL v w h ht
 | cons y r =>
  rw [← hls]
  have hs := script_le ls h3
  obtain ⟨k1, k2⟩ := lk_ok hL ls ls.length (Nat.le_refl _)
  refine runLab_yes (by rw [hls]; exact List.cons_ne_nil _ _) h10 (labR_iff.2 hL) (by omega) hL.six1 hL.six hL.sz (fun k x hx => ?_) (by omega) (fun k x hx => ?_) ⟨by have := k1.six1; omega, by have := k1.six; omega⟩ v w h ht
  ·have hk : k < ls.length := (List.getElem?_eq_some_iff.1 hx).1
   exact car_any (lk_ok hL ls k (by omega)).1 (by have := h3 x (List.mem_of_getElem? hx); omega)
  ·have hk : k < ls.length := (List.getElem?_eq_some_iff.1 hx).1
   obtain ⟨j1, j2⟩ := lk_ok hL ls k (by omega)
   have := (line_ok x j1).len
   omega
def LbRel (M : Lb) (b : Nat) (W : World) (wr : World) : Prop :=
 (∃ A c A' c', Blk.Blk wr b 53 #[.slice A M.1.length c, .slice A' M.2.length c'] ∧ LabAt wr (.agg #[.slice A M.1.length c, .slice A' M.2.length c']) M) ∧ Below b W wr
theorem lab_name {w : World} {A A' : Option Addr} {c c' : Nat} {L : Lb} (h : LabAt w (.agg #[.slice A L.1.length c, .slice A' L.2.length c']) L) {j : Nat} (hj : j < L.1.length) : ∃ g off, A = some ⟨g, off, none⟩ ∧ w.cell? ⟨g, off + j, none⟩ = some (.string (L.1.getD j ByteArray.empty)) := by
 obtain ⟨A1, c1, A2, c2, e, h1, _⟩ := h
 injection e with e
 have e0 := congrArg (fun a => a[0]?) e
 simp at e0
 obtain ⟨g, off, e2, _, hc⟩ := h1 (by omega)
 exact ⟨g, off, by rw [e0.1, e2], hc j hj⟩
theorem lab_st {w : World} {A A' : Option Addr} {c c' : Nat} {L : Lb} (h : LabAt w (.agg #[.slice A L.1.length c, .slice A' L.2.length c']) L) {j : Nat} (hj : j < L.2.length) : ∃ g off, A' = some ⟨g, off, none⟩ ∧ At7 w g (off + j * 7) (fun i => (L.2.getD j zeroSt).l.getD i 0) := by
 obtain ⟨A1, c1, A2, c2, e, _, h2, _⟩ := h
 injection e with e
 have e0 := congrArg (fun a => a[1]?) e
 simp at e0
 obtain ⟨g, off, e2, _, hc⟩ := RdS.st h2 hj
 exact ⟨g, off, by rw [e0.1, e2], hc⟩
theorem lab_walk (A A' : Option Addr) (c c' : Nat) (zs ys : List Int) (w : World) (hT : Tabs w) (hx : RdB w w.heap.size A zs) (hy : RdB w w.heap.size A' ys) (hl : zs.length ≤ 9223372036854775807) (hl' : ys.length ≤ 9223372036854775807) (hz : ∀ z ∈ zs, 0 ≤ z ∧ z ≤ 255) (hz' : ∀ z ∈ ys, 0 ≤ z ∧ z ≤ 255) :
  Calls Tryz.prog 4 #[.slice A zs.length c, .slice A' ys.length c'] w fun e w' => e = .returned (.bool true) ∧ Below w.heap.size w w' := by
 have HL := J (fun w => Cycled.b10Long_any A A' zs.length c ys.length c' w)
 have HC := J (LabD.b10Lab_ok A c w.heap.size zs w hx (Nat.le_refl _) hl hz)
 have HY := J hy
 have HZ := J hz'
 have HTB := J hT
 clear hx hz hy hz' hl hT
 cases hlong : Cycled.longB zs.length ys.length with
 | true =>
  rw [hlong] at HL
  clear hlong
  go_enter Tryz.func4, Tryz.ntmps4
  go_wp2_with fail
  refine (HL.out _).mono ?_
  rintro e w' ⟨rfl, rfl⟩
  go_wp2
  go_ret
  exact ⟨rfl, Below.refl _ _⟩
 | false =>
  rw [hlong] at HL
  clear hlong
  go_enter Tryz.func4, Tryz.ntmps4
  go_wp2_with fail
  refine (HL.out _).mono ?_
  rintro e w' ⟨rfl, rfl⟩
  go_wp2_with fail
  refine HC.out.mono ?_
  rintro e w1 ⟨A1, A2, c1, c2, ss, xs, rfl, hss, hgd, hrd, hok, hla, hb1⟩
  obtain ⟨W1, hW1⟩ : ∃ W1, W1 = w1.alloc (.cells #[.slice A1 ss.length c1, .slice A2 ss.length c2] 53) := ⟨_, rfl⟩
  have b1 : Below w1.heap.size w1 W1 := by rw [hW1]; exact (Below.refl _ _).alloc (Nat.le_refl _) _
  have K1 := J (show Blk.Blk W1 w1.heap.size 53 #[.slice A1 ss.length c1, .slice A2 ss.length c2] by rw [hW1]; exact Blk.Blk.new _ _ _)
  have BB1 := J (Base.Below.nextA hb1 b1)
  have HLn := J (LabD.b10Lines_any A' c' w.heap.size ys A1 A2 c1 c2 ss W1 (HY.out.below BB1.out (Nat.le_refl _)) BB1.out.size hl' HZ.out ((hrd.below b1 (Nat.le_refl _)).more b1.size) hss hgd)
  have HLA := J (hla.below b1)
  have HOK := J hok
  have HW1 := J hW1
  have d0 := K1.out.at 0 (v := .slice A1 ss.length c1) rfl
  have d1 := K1.out.at 1 (v := .slice A2 ss.length c2) rfl
  rw [hW1] at d0 d1
  have HS3 := J hss
  clear hb1 b1 hW1 hla hok hrd hgd HL HC HY HZ hl' hss
  go_wp2_with fail
  rw [← HW1.out]
  refine HLn.out.mono ?_
  rintro e w2 ⟨A3, c3, D, rfl, hD6, hDg, hDo, hb2⟩
  clear d0 d1
  obtain ⟨ls, hls⟩ : ∃ ls : List Tx, ls = D.map fun t => t.data.toList := ⟨_, rfl⟩
  have hln : ls.length = D.length := by rw [hls]; simp
  have hgetls : ∀ i x, ls[i]? = some x → D.getD i ByteArray.empty = tx x ∧ x.length ≤ 300 ∧ ∀ c ∈ x, c ≠ 10 := fun i x hx => by
   have hi : i < D.length := by rw [← hln]; exact (List.getElem?_eq_some_iff.1 hx).1
   rw [hls, List.getElem?_map, List.getElem?_eq_getElem hi] at hx
   injection hx with hx
   have hg := hDg i hi
   rw [List.getD_eq_getElem?_getD, List.getElem?_eq_getElem hi] at hg ⊢
   subst hx
   refine ⟨tx_ext (by rw [list_tx]; rfl), ?_, hg.2⟩
   have := hg.1
   rw [Array.length_toList]
   exact this
  obtain ⟨W3, hW3⟩ : ∃ W3, W3 = w2.alloc (.cells #[.slice A1 ss.length c1, .slice A2 ss.length c2] 53) := ⟨_, rfl⟩
  have b3 : Below w2.heap.size w2 W3 := by rw [hW3]; exact (Below.refl _ _).alloc (Nat.le_refl _) _
  have K2 := K1.out.belowS hb2
  have d0 := K2.at 0 (v := .slice A1 ss.length c1) rfl
  have d1 := K2.at 1 (v := .slice A2 ss.length c2) rfl
  have HK3 := J (K2.belowS b3)
  have b13 := Base.Below.nextA hb2 b3
  have HLA3 := J (HLA.out.below b13)
  have BB3 := J (Base.Below.nextA BB1.out b13)
  have K9 := J (show Blk.Blk W3 w2.heap.size 53 #[.slice A1 ss.length c1, .slice A2 ss.length c2] by rw [hW3]; exact Blk.Blk.new _ _ _)
  have hn6 : ls.length ≤ 6 := by omega
  have hsl : ss.length = xs.length := HOK.out.len
  have HROW : Hid (∀ k, k < ls.length → ∃ gl, A3 = some ⟨gl, 0, none⟩ ∧ gl < w2.heap.size ∧ ∀ x, ls[k]? = some x → w2.cell? ⟨gl, k, none⟩ = some (.string (tx x))) := J (fun k hk => by
   obtain ⟨g, off, e, hlt, hc⟩ := OwnT.rd (show OwnT w2 W1.heap.size (.slice A3 D.length c3) D from hDo) (by omega)
   obtain ⟨A4, c4, e4, hf⟩ := ownsRow_form hDo
   injection e4 with e5 e6 e7
   subst e5
   obtain ⟨g2, e8, _, _⟩ := hf (by omega)
   rw [e8] at e
   injection e with e
   injection e with e9 e10
   subst e9
   subst e10
   refine ⟨g2, e8, hlt, fun x hx => ?_⟩
   have := hc k (by omega)
   rw [Nat.zero_add, (hgetls k x hx).1] at this
   exact this)
  have HGET := J (fun i x (hx : ls[i]? = some x) => (hgetls i x hx).2)
  have HRUN : Hid (∀ V, Below w2.heap.size W3 V → Calls Tryz.prog 17 #[.agg #[.slice A1 ss.length c1, .slice A2 ss.length c2], .string (tx (script ls))] V fun e w' => ∃ v', e = .returned (.tuple #[v', .string (tx (LkAt (ss, xs) ls ls.length).2), .bool true]) ∧ LabAt w' v' (LkAt (ss, xs) ls ls.length).1 ∧ Below V.heap.size V w') := J (fun V hV => by
   have hbig : Below w2.heap.size w2 V := ((Below.refl w2.heap.size w2).trans (b3.trans hV))
   refine run_any HOK.out (fun x hx => ?_) hn6 (fun x hx => ?_) _ V ((HLA.out.below (hb2.trans (hbig.mono hb2.size)))) (HTB.out.on (BB1.out.trans ((hb2.trans (hbig.mono hb2.size)).mono BB1.out.size)))
   ·obtain ⟨i, hi, e⟩ := List.getElem_of_mem hx
    exact (HGET.out i x (by rw [← e]; exact List.getElem?_eq_getElem hi)).2
   ·obtain ⟨i, hi, e⟩ := List.getElem_of_mem hx
    exact (HGET.out i x (by rw [← e]; exact List.getElem?_eq_getElem hi)).1)
  have H0 : Hid (LbRel (LkAt (ss, xs) ls 0).1 w2.heap.size W3 W3) := J ⟨⟨A1, c1, A2, c2, by rw [lk_zero]; show Blk.Blk W3 _ _ #[.slice A1 ss.length c1, .slice A2 xs.length c2]; rw [← hsl]; exact K9.out, by
   rw [lk_zero]
   have := HLA3.out
   show LabAt W3 (.agg #[.slice A1 ss.length c1, .slice A2 xs.length c2]) (ss, xs)
   rw [← hsl]; exact this⟩, Below.refl _ _⟩
  have HZ9 : Hid (w1.heap.size < w2.heap.size ∧ w2.heap.size < W3.heap.size ∧ w.heap.size ≤ w2.heap.size) := J ⟨K2.lt, K9.out.lt, by have := BB1.out.size; have := hb2.size; omega⟩
  have HW3 := J hW3
  obtain ⟨n, hnn⟩ : ∃ n, n = ls.length := ⟨_, rfl⟩
  have HNN := J hnn
  rw [← hln, ← hnn]
  rw [← hnn] at hn6
  clear hls hgetls hDg hDo hD6 hb2 b3 b13 hW3 hln K2 HLn HLA K9 hsl hnn
  go_wp2_with fail
  rw [← HW3.out]
  clear d0 d1
  go_loopw [7, 8, 10] (fun s7 s8 s10 wr => ∃ k : Nat, k ≤ n ∧ s10 = .int .i64 (k : Int) ∧ s7 = .string (tx (script (ls.take k))) ∧ s8 = .string (tx (LkAt (ss, xs) ls k).2) ∧ Hid (LbRel (LkAt (ss, xs) ls k).1 w2.heap.size W3 wr)) (fun _ _ s10 _ => n - (intOf s10).toNat)
  case atStart => exact ⟨0, Nat.zero_le _, rfl, rfl, rfl, H0⟩
  case round =>
   obtain ⟨k, hk, rfl, rfl, rfl, HP⟩ := hrel
   by_cases hlt : k < n
   ·obtain ⟨gl, rfl, hgl, hgc⟩ := HROW.out k (by rw [← HNN.out]; exact hlt)
    obtain ⟨x, hx⟩ : ∃ x, ls[k]? = some x := ⟨ls[k]'(by rw [← HNN.out]; exact hlt), by simp [show k < ls.length by rw [← HNN.out]; exact hlt]⟩
    obtain ⟨j1, j2⟩ := lk_ok HOK.out ls k (by rw [← HNN.out]; exact hk)
    obtain ⟨x1, x2⟩ := HGET.out k x hx
    have hlo := line_ok x j1
    have hlol := hlo.len
    have hsk := script_le (ls.take k) (fun y hy => by
     obtain ⟨i, hi, e⟩ := List.getElem_of_mem (List.mem_of_mem_take hy)
     exact (HGET.out i y (by rw [← e]; exact List.getElem?_eq_getElem hi)).1)
    have hsl2 : (script (ls.take k)).length ≤ 1806 := by
     have : (ls.take k).length ≤ 6 := by rw [List.length_take]; omega
     omega
    obtain ⟨M, hM⟩ : ∃ M, M = (LkAt (ss, xs) ls k).1 := ⟨_, rfl⟩
    obtain ⟨o1, ho1⟩ : ∃ o1, o1 = (LkAt (ss, xs) ls k).2 := ⟨_, rfl⟩
    obtain ⟨M2, hM2⟩ : ∃ M2, M2 = (lineR M x).1 := ⟨_, rfl⟩
    obtain ⟨o2, ho2⟩ : ∃ o2, o2 = (lineR M x).2 := ⟨_, rfl⟩
    have hsucc := lk_succ (ss, xs) hx
    rw [← hM, ← ho1, ← hM2, ← ho2] at hsucc
    rw [← hM] at j1 hlo hlol
    rw [← ho1] at j2
    rw [← hM] at HP
    rw [← ho1]
    have HSUC := J hsucc
    have hlo2 : LineOk M M2 o2 := by rw [hM2, ho2]; exact hlo
    rw [← ho2] at hlol
    have HCM : Hid (∀ v V, LabAt V v M → Tabs V → Calls Tryz.prog 25 #[v, .string (tx x)] V fun e w' => ∃ v', e = .returned (.tuple #[v', .string (tx o2), .bool true]) ∧ LabAt w' v' M2 ∧ Below V.heap.size V w') := J (fun v V h ht => by rw [hM2, ho2]; exact cmd_yes j1 (by omega) v V h ht)
    have HVA : Hid (∀ A c A' c' V, LabAt V (.agg #[.slice A M2.1.length c, .slice A' M2.2.length c']) M2 → Calls Tryz.prog 26 #[.agg #[.slice A M2.1.length c, .slice A' M2.2.length c']] V fun e w' => e = .returned (.bool true) ∧ Below V.heap.size V w') := J (fun A c A' c' V h => by
     obtain ⟨A4, c4, A5, c5, e, h1, h2, _⟩ := h
     injection e with e
     have e0 := congrArg (fun a => a[0]?) e
     have e1 := congrArg (fun a => a[1]?) e
     simp at e0 e1
     rw [e0.1, e1.1, e0.2, e1.2]
     have hk2 := hlo2.ok
     have hV := implLab_any A4 A5 c4 c5 V.heap.size M2.2.length M2.1 (flat M2.2) V h1 h2 (Nat.le_refl _) hk2.sz (by have := hk2.six1; omega) (by have := hk2.six; omega)
     rw [show labB M2.1 M2.2.length (flat M2.2) = true from labR_iff.2 hk2] at hV
     exact hV)
    have HSAME := J hlo2.same
    have HOK2 := J hlo2.ok
    have hM6 : M.1.length ≤ 6 := j1.six1
    have HM12 := J (And.intro j1.len hM6)
    have hss2 := script_succ hx
    have ha1 : ∀ V : World, (Op.stringOp .add (tx x) ⟨#[10]⟩).run Tryz.prog V = .ok (.string (tx (x ++ [10]))) V := fun V => addTx x [10] (by simp; omega) V
    have ha2 : ∀ V : World, (Op.stringOp .add (tx (script (ls.take k))) (tx (x ++ [10]))).run Tryz.prog V = .ok (.string (tx (script (ls.take (k + 1))))) V := fun V => by rw [hss2]; exact addTx _ _ (by simp; omega) V
    have ha3 : ∀ V : World, (Op.stringOp .add (tx o2) ⟨#[10]⟩).run Tryz.prog V = .ok (.string (tx (o2 ++ [10]))) V := fun V => addTx o2 [10] (by simp; omega) V
    have ha4 : ∀ V : World, (Op.stringOp .add (tx o1) (tx (o2 ++ [10]))).run Tryz.prog V = .ok (.string (tx (LkAt (ss, xs) ls (k + 1)).2)) V := fun V => by rw [HSUC.out]; exact addTx _ _ (by simp; omega) V
    have hout : (o2 = tNo ∧ ((tx o2).toList == [110, 111]) = true) ∨ (¬ o2 = tNo ∧ o2 = tWhat ∧ ((tx o2).toList == [110, 111]) = false ∧ ((tx o2).toList == [119, 104, 97, 116]) = true) ∨ (((tx o2).toList == [110, 111]) = false ∧ ((tx o2).toList == [119, 104, 97, 116]) = false) := by
     by_cases h1 : o2 = tNo
     ·exact .inl ⟨h1, by rw [h1, Lib.toList_data, list_tx]; rfl⟩
     ·by_cases h2 : o2 = tWhat
      ·exact .inr (.inl ⟨h1, h2, tx_no h1, by rw [h2, Lib.toList_data, list_tx]; rfl⟩)
      ·exact .inr (.inr ⟨tx_no h1, tx_no h2⟩)
    have HOUT := J hout
    obtain ⟨⟨B1, e1, B2, e2, hK9, hV9⟩, hbw⟩ := HP.out
    have d0 := hK9.at 0 (v := .slice B1 M.1.length e1) rfl
    have d1 := hK9.at 1 (v := .slice B2 M.2.length e2) rfl
    have gx : wr.cell? ⟨gl, k, none⟩ = some (.string (tx x)) := ((hbw.cell (p := ⟨gl, k, none⟩) hgl).trans (by
     have h1 : W3.cell? ⟨gl, k, none⟩ = w2.cell? ⟨gl, k, none⟩ := by rw [HW3.out]; exact ((Below.refl w2.heap.size w2).alloc (Nat.le_refl _) _).cell (p := ⟨gl, k, none⟩) hgl
     rw [h1]; exact hgc x hx))
    have hglr : gl < wr.heap.size := Nat.lt_of_lt_of_le (Nat.lt_trans hgl HZ9.out.2.1) hbw.size
    have HGL := J hglr
    have HX := J hx
    have HK9 := J hK9
    have HV9 := J hV9
    have HBW := J hbw
    have HTR := J (HTB.out.on (BB3.out.trans (hbw.mono HZ9.out.2.2)))
    have hki : (k : Int) < (n : Int) := by omega
    clear hx hK9 hV9 hbw HP hgc hgl hglr j1 j2 x1 x2 hlo hlol hlo2 hsk hsl2 hss2 hsucc hM ho1 hM2 ho2 hM6 hout H0
    generalize tx (script (ls.take k)) = sc0 at *
    generalize hsc1 : tx (script (ls.take (k + 1))) = sc1 at *
    have HC1 := J hsc1
    generalize tx (x ++ [10]) = sx1 at *
    generalize tx (o2 ++ [10]) = so1 at *
    generalize hwt1 : tx (LkAt (ss, xs) ls (k + 1)).2 = wt1 at *
    have HC2 := J hwt1
    clear hsc1 hwt1
    generalize tx o1 = wt0 at *
    generalize hob : tx o2 = ob at *
    generalize hxb : tx x = xb at *
    go_wp2_with fail
    obtain ⟨S, hSE⟩ : ∃ S : World → Prop, S = fun w' => w'.cell? ⟨w2.heap.size, 0, none⟩ = some (.slice B1 M.1.length e1) ∧ w'.cell? ⟨w2.heap.size, 1, none⟩ = some (.slice B2 M.2.length e2) ∧ w'.cell? ⟨gl, k, none⟩ = some (.string xb) := ⟨_, rfl⟩
    have HSE := J hSE
    have HSA : Hid (∀ V, Below wr.heap.size wr V → S V) := J (fun V hb => by
     have kk := HK9.out.belowS hb
     rw [hSE]
     exact ⟨kk.at 0 rfl, kk.at 1 rfl, (hb.cell (p := ⟨gl, k, none⟩) HGL.out).trans gx⟩)
    clear hSE
    refine Late.start S [7, 8, 9, 11, 12, 13] 14 (by kernel_rfl) (HSA.out _ ((Below.refl _ _).drew)) rfl (fun hS => ?_)
    refine Late.take (i := 0) (v := ?_) (by rfl) (by kernel_rfl) (by kernel_rfl) (by kernel_rfl) (by intro _ _ _ h; exact h) (by kernel_rfl) (by kernel_rfl) (Or.inl ⟨by rfl, ?_⟩) hS ?_
    rotate_left
    ·(intro W' hW'; rw [HSE.out] at hW'; obtain ⟨y0, y1, y2⟩ := hW'; go_simp; (try with_reducible rfl))
    try simp only [Act.put, List.setIfInBounds_toArray, List.set_cons_zero, List.set_cons_succ]
    refine Late.take (i := 1) (v := ?_) (by rfl) (by kernel_rfl) (by kernel_rfl) (by kernel_rfl) (by intro _ _ _ h; exact h) (by kernel_rfl) (by kernel_rfl) (Or.inl ⟨by rfl, ?_⟩) hS ?_
    rotate_left
    ·(intro W' hW'; rw [HSE.out] at hW'; obtain ⟨y0, y1, y2⟩ := hW'; go_simp; (try with_reducible rfl))
    try simp only [Act.put, List.setIfInBounds_toArray, List.set_cons_zero, List.set_cons_succ]
    refine Late.take (i := 2) (v := ?_) (by rfl) (by kernel_rfl) (by kernel_rfl) (by kernel_rfl) (by intro _ _ _ h; exact h) (by kernel_rfl) (by kernel_rfl) (Or.inl ⟨by rfl, ?_⟩) hS ?_
    rotate_left
    ·(intro W' hW'; rw [HSE.out] at hW'; obtain ⟨y0, y1, y2⟩ := hW'; go_simp; (try with_reducible rfl))
    try simp only [Act.put, List.setIfInBounds_toArray, List.set_cons_zero, List.set_cons_succ]
    refine Late.take (i := 3) (v := ?_) (by rfl) (by kernel_rfl) (by kernel_rfl) (by kernel_rfl) (by intro _ _ _ h; exact h) (by kernel_rfl) (by kernel_rfl) (Or.inl ⟨by rfl, ?_⟩) hS ?_
    rotate_left
    ·(intro W' hW'; rw [HSE.out] at hW'; obtain ⟨y0, y1, y2⟩ := hW'; go_simp; (try with_reducible rfl))
    try simp only [Act.put, List.setIfInBounds_toArray, List.set_cons_zero, List.set_cons_succ]
    refine Late.take (i := 4) (v := ?_) (by rfl) (by kernel_rfl) (by kernel_rfl) (by kernel_rfl) (by intro _ _ _ h; exact h) (by kernel_rfl) (by kernel_rfl) (Or.inl ⟨by rfl, ?_⟩) hS ?_
    rotate_left
    ·(intro W' hW'; rw [HSE.out] at hW'; obtain ⟨y0, y1, y2⟩ := hW'; go_simp; (try with_reducible rfl))
    try simp only [Act.put, List.setIfInBounds_toArray, List.set_cons_zero, List.set_cons_succ]
    refine Late.two (i := 5) (i' := 10) (by kernel_rfl) (by rfl) (by rfl) (fun K' hK => ?_) (fun K' hK => ?_)
    have BC : Hid (Below wr.heap.size wr wr.drew) := J ((Below.refl _ _).drew)
    go_simp
    refine (HCM.out (.agg #[.slice B1 M.1.length e1, .slice B2 M.2.length e2]) wr.drew (HV9.out.below BC.out) (HTR.out.on BC.out)).mono ?_
    rintro e w5 ⟨v5, rfl, hv5, b5⟩
    have hv6 := hv5
    obtain ⟨A7, c7, A8, c8, rfl, _, _⟩ := hv5
    have b15 := Base.Below.nextA BC.out b5
    have HV5 := J hv6
    have HB5 := J b15
    clear hv6
    clear b5 b15
    go_simp
    refine hK.out _ _ (fun _ => HSA.out _ (HB5.out)) (fun hS' => ?_)
    have hS := hS' (by decide)
    clear hS' hK
    clear K'
    try simp only [Act.put, List.setIfInBounds_toArray, List.set_cons_zero, List.set_cons_succ]
    refine Late.take (i := 6) (v := ?_) (by rfl) (by kernel_rfl) (by kernel_rfl) (by kernel_rfl) (by intro _ _ _ h; exact h) (by kernel_rfl) (by kernel_rfl) (Or.inl ⟨by rfl, ?_⟩) hS ?_
    rotate_left
    ·(intro W' hW'; rw [HSE.out] at hW'; obtain ⟨y0, y1, y2⟩ := hW'; go_simp; (try with_reducible rfl))
    try simp only [Act.put, List.setIfInBounds_toArray, List.set_cons_zero, List.set_cons_succ]
    refine Late.takeP (i := 7) (v := ?_) (by rfl) (by kernel_rfl) (by kernel_rfl) (by kernel_rfl) (by intro _ _ _ h; exact h) (by decide) (Or.inl ⟨by rfl, ?_⟩) ?_
    rotate_left
    ·(intro W'; go_simp; (try with_reducible rfl))
    try simp only [Act.put, List.setIfInBounds_toArray, List.set_cons_zero, List.set_cons_succ]
    refine Late.takeP (i := 8) (v := ?_) (by rfl) (by kernel_rfl) (by kernel_rfl) (by kernel_rfl) (by intro _ _ _ h; exact h) (by decide) (Or.inl ⟨by rfl, ?_⟩) ?_
    rotate_left
    ·(intro W'; go_simp; (try with_reducible rfl))
    try simp only [Act.put, List.setIfInBounds_toArray, List.set_cons_zero, List.set_cons_succ]
    refine Late.takeP (i := 9) (v := ?_) (by rfl) (by kernel_rfl) (by kernel_rfl) (by kernel_rfl) (by intro _ _ _ h; exact h) (by decide) (Or.inl ⟨by rfl, ?_⟩) ?_
    rotate_left
    ·(intro W'; go_simp; (try with_reducible rfl))
    try simp only [Act.put, List.setIfInBounds_toArray, List.set_cons_zero, List.set_cons_succ]
    refine Late.one (i := 10) (by kernel_rfl) (by rfl) (fun K' hK => ?_)
    go_simp
    obtain ⟨W6, hW6⟩ : ∃ W6, W6 = w5.alloc (.cells #[.slice none 0 0, .slice none 0 0] 53) := ⟨_, rfl⟩
    have b6 : Below w5.heap.size w5 W6 := by rw [hW6]; exact (Below.refl _ _).alloc (Nat.le_refl _) _
    have KN := J (show Blk.Blk W6 w5.heap.size 53 #[.slice none 0 0, .slice none 0 0] by rw [hW6]; exact Blk.Blk.new _ _ _)
    have HV6 := J (HV5.out.below b6)
    have HB6 := J (Base.Below.nextA HB5.out b6)
    have hge : wr.heap.size ≤ w5.heap.size := HB5.out.size
    rw [← hW6]
    clear b6 hW6
    refine hK.out _ _ (fun _ => HSA.out _ (HB6.out)) (fun hS' => ?_)
    have hS := hS' (by decide)
    clear hS' hK
    clear K'
    try simp only [Act.put, List.setIfInBounds_toArray, List.set_cons_zero, List.set_cons_succ]
    obtain ⟨bn, hbn⟩ : ∃ bn, bn = w5.heap.size := ⟨_, rfl⟩
    rw [← hbn] at KN hge ⊢
    clear hbn
    rotate_left
    go_simp
    obtain ⟨W4, hW4⟩ : ∃ W4, W4 = wr.drew.alloc (.cells #[.slice none 0 0, .slice none 0 0] 53) := ⟨_, rfl⟩
    have BC : Hid (Below wr.heap.size wr W4) := J (by rw [hW4]; exact ((Below.refl _ _).drew).alloc (Nat.le_refl _) _)
    have KC := J (show Blk.Blk W4 wr.heap.size 53 #[.slice none 0 0, .slice none 0 0] by rw [hW4]; exact Blk.Blk.new wr.drew _ _)
    first | rw [← hW4] | rw [show (wr.alloc (.cells #[.slice none 0 0, .slice none 0 0] 53)).drew = W4 from hW4.symm]
    clear hW4
    refine hK.out _ _ (fun _ => HSA.out _ (BC.out)) (fun hS' => ?_)
    have hS := hS' (by decide)
    clear hS' hK
    clear K'
    try simp only [Act.put, List.setIfInBounds_toArray, List.set_cons_zero, List.set_cons_succ]
    refine Late.one (i := 5) (by kernel_rfl) (by rfl) (fun K' hK => ?_)
    go_simp
    refine (HCM.out (.agg #[.slice B1 M.1.length e1, .slice B2 M.2.length e2]) W4 (HV9.out.below BC.out) (HTR.out.on BC.out)).mono ?_
    rintro e w5 ⟨v5, rfl, hv5, b5⟩
    have hv6 := hv5
    obtain ⟨A7, c7, A8, c8, rfl, _, _⟩ := hv5
    have b15 := Base.Below.nextA BC.out b5
    have HV5 := J hv6
    have HB5 := J b15
    clear hv6
    have KN := J (KC.out.belowS b5)
    clear b5 b15
    go_simp
    refine hK.out _ _ (fun _ => HSA.out _ (HB5.out)) (fun hS' => ?_)
    have hS := hS' (by decide)
    clear hS' hK
    clear K'
    try simp only [Act.put, List.setIfInBounds_toArray, List.set_cons_zero, List.set_cons_succ]
    refine Late.take (i := 6) (v := ?_) (by rfl) (by kernel_rfl) (by kernel_rfl) (by kernel_rfl) (by intro _ _ _ h; exact h) (by kernel_rfl) (by kernel_rfl) (Or.inl ⟨by rfl, ?_⟩) hS ?_
    rotate_left
    ·(intro W' hW'; rw [HSE.out] at hW'; obtain ⟨y0, y1, y2⟩ := hW'; go_simp; (try with_reducible rfl))
    try simp only [Act.put, List.setIfInBounds_toArray, List.set_cons_zero, List.set_cons_succ]
    refine Late.takeP (i := 7) (v := ?_) (by rfl) (by kernel_rfl) (by kernel_rfl) (by kernel_rfl) (by intro _ _ _ h; exact h) (by decide) (Or.inl ⟨by rfl, ?_⟩) ?_
    rotate_left
    ·(intro W'; go_simp; (try with_reducible rfl))
    try simp only [Act.put, List.setIfInBounds_toArray, List.set_cons_zero, List.set_cons_succ]
    refine Late.takeP (i := 8) (v := ?_) (by rfl) (by kernel_rfl) (by kernel_rfl) (by kernel_rfl) (by intro _ _ _ h; exact h) (by decide) (Or.inl ⟨by rfl, ?_⟩) ?_
    rotate_left
    ·(intro W'; go_simp; (try with_reducible rfl))
    try simp only [Act.put, List.setIfInBounds_toArray, List.set_cons_zero, List.set_cons_succ]
    refine Late.takeP (i := 9) (v := ?_) (by rfl) (by kernel_rfl) (by kernel_rfl) (by kernel_rfl) (by intro _ _ _ h; exact h) (by decide) (Or.inl ⟨by rfl, ?_⟩) ?_
    rotate_left
    ·(intro W'; go_simp; (try with_reducible rfl))
    try simp only [Act.put, List.setIfInBounds_toArray, List.set_cons_zero, List.set_cons_succ]
    obtain ⟨W6, hW6⟩ : ∃ W6, W6 = w5 := ⟨_, rfl⟩
    have HV6 := J (show LabAt W6 _ _ by rw [hW6]; exact HV5.out)
    have HB6 := J (show Below wr.heap.size wr W6 by rw [hW6]; exact HB5.out)
    rw [← hW6] at KN ⊢
    clear hW6
    obtain ⟨bn, hbn⟩ : ∃ bn, bn = wr.heap.size := ⟨_, rfl⟩
    have hge : wr.heap.size ≤ bn := by omega
    rw [← hbn] at KN ⊢
    clear hbn
    all_goals
     have s0 := KN.out.at 0 (v := .slice none 0 0) rfl
     have s1 := KN.out.at 1 (v := .slice none 0 0) rfl
     have s2 := KN.out.frz 0
     have s3 := KN.out.frz 1
     refine Late.one (i := 11) (by kernel_rfl) (by rfl) (fun K' hK => ?_)
     go_simp
     refine hK.out _ _ (fun h => absurd h (by decide)) (fun _ => ?_)
     clear hK
     clear K'
     try simp only [Act.put, List.setIfInBounds_toArray, List.set_cons_zero, List.set_cons_succ]
     refine Late.one (i := 12) (by kernel_rfl) (by rfl) (fun K' hK => ?_)
     go_simp
     refine hK.out _ _ (fun h => absurd h (by decide)) (fun _ => ?_)
     clear hK
     clear K'
     try simp only [Act.put, List.setIfInBounds_toArray, List.set_cons_zero, List.set_cons_succ]
     refine Late.one (i := 13) (by kernel_rfl) (by rfl) (fun K' hK => ?_)
     go_simp
     refine hK.out _ _ (fun h => absurd h (by decide)) (fun _ => ?_)
     clear hK
     clear K'
     try simp only [Act.put, List.setIfInBounds_toArray, List.set_cons_zero, List.set_cons_succ]
     refine Late.done (by kernel_rfl) ?_ _
     clear HSA HSE s0 s1 s2 s3 hS
     obtain ⟨W7, hW7⟩ : ∃ W7, W7 = (W6.setCell ⟨bn, 0, none⟩ (.slice A7 M2.1.length c7)).setCell ⟨bn, 1, none⟩ (.slice A8 M2.2.length c8) := ⟨_, rfl⟩
     have K7 := J (show Blk.Blk W7 bn 53 #[.slice A7 M2.1.length c7, .slice A8 M2.2.length c8] by rw [hW7]; exact (KN.out.setTo 0 (.slice A7 M2.1.length c7) rfl).setTo 1 (.slice A8 M2.2.length c8) rfl)
     have HV7 := J (show LabAt W7 (.agg #[.slice A7 M2.1.length c7, .slice A8 M2.2.length c8]) M2 by rw [hW7]; exact labPut2 HV6.out KN.out (.slice A7 M2.1.length c7) (.slice A8 M2.2.length c8))
     have HB7 := J (show Below wr.heap.size wr W7 by rw [hW7]; exact (HB6.out.setCell (p := ⟨bn, 0, none⟩) hge _).setCell (p := ⟨bn, 1, none⟩) hge _)
     rw [← hW7]
     clear hW7 hge KN HV6 HB6 HV5 HB5 d0 d1
     have t0 := K7.out.at 0 (v := .slice A7 M2.1.length c7) rfl
     have t1 := K7.out.at 1 (v := .slice A8 M2.2.length c8) rfl
     go_wp2_with fail
     refine (HVA.out A7 c7 A8 c8 W7 HV7.out).mono ?_
     rintro e w8 ⟨rfl, b8⟩
     have K8 := J (K7.out.belowS b8)
     have HV8 := J (HV7.out.below b8)
     have b18 := Base.Below.nextA HB7.out b8
     have D8 := J (HK9.out.belowS b18)
     have V8 := J (HV9.out.below b18)
     have gx8 := (b18.cell (p := ⟨gl, k, none⟩) HGL.out).trans gx
     have HGX := J (And.intro (Nat.lt_of_lt_of_le HGL.out b18.size) gx8)
     have HNX : Hid (∀ V, Drawn w8 V → LbRel (LkAt (ss, xs) ls (k + 1)).1 w2.heap.size W3 ((V.setCell ⟨w2.heap.size, 0, none⟩ (.slice A7 M2.1.length c7)).setCell ⟨w2.heap.size, 1, none⟩ (.slice A8 M2.2.length c8))) := J (fun V hD => by
      rw [HSUC.out]
      have q0 : w2.heap.size ≤ wr.heap.size := Nat.le_trans (Nat.le_of_lt HZ9.out.2.1) HBW.out.size
      have q1 := HBW.out.trans (b18.mono q0)
      have q2 := q1.trans (hD.below (B := w2.heap.size))
      have q3 := D8.out.belowS hD.below
      refine ⟨⟨A7, c7, A8, c8, (q3.setTo 0 _ rfl).setTo 1 _ rfl, labPut2 (HV8.out.below hD.below) q3 _ _⟩, ?_⟩
      exact (q2.setCell (p := ⟨w2.heap.size, 0, none⟩) (Nat.le_refl _) _).setCell (p := ⟨w2.heap.size, 1, none⟩) (Nat.le_refl _) _)
     clear b8 b18 K7 HV7 HB7 t0 t1 gx
     rcases HOUT.out with ⟨h1, e1b⟩ | ⟨h1, h2, e1b, e2b⟩ | ⟨e1b, e2b⟩
     ·have hq : M2 = M := HSAME.out (.inl h1)
      subst hq
      clear h1 HOUT HSAME
      have t0 := K8.out.at 0 (v := .slice A7 M2.1.length c7) rfl
      have d0 := D8.out.at 0 (v := .slice B1 M2.1.length e1) rfl
      go_wp2_with fail
      clear t0 d0
      go_loopw [14] (fun jv wq => ∃ j : Nat, j ≤ M2.1.length ∧ jv = .int .i64 (j : Int) ∧ Hid (Drawn w8 wq)) (fun jv _ => M2.1.length - (intOf jv).toNat)
      case atStart => exact ⟨0, Nat.zero_le _, rfl, J (Drawn.refl _)⟩
      case round =>
       obtain ⟨j, hj, rfl, HDr⟩ := hrel
       have t0 := (K8.out.belowS HDr.out.below).at 0 (v := .slice A7 M2.1.length c7) rfl
       have t1 := (K8.out.belowS HDr.out.below).at 1 (v := .slice A8 M2.2.length c8) rfl
       have d0 := (D8.out.belowS HDr.out.below).at 0 (v := .slice B1 M2.1.length e1) rfl
       have d1 := (D8.out.belowS HDr.out.below).at 1 (v := .slice B2 M2.2.length e2) rfl
       by_cases hlt2 : j < M2.1.length
       ·have v7 := HV8.out.below (HDr.out.below (B := w8.heap.size))
        have v8 := V8.out.below (HDr.out.below (B := w8.heap.size))
        obtain ⟨m1, p1, rfl, n1⟩ := lab_name v7 hlt2
        obtain ⟨m2, p2, rfl, n2⟩ := lab_name v8 hlt2
        have hlt3 : j < M2.2.length := by rw [← HM12.out.1]; exact hlt2
        obtain ⟨m3, p3, rfl, x0, x1, x2, x3, x4, x5, x6⟩ := lab_st v7 hlt3
        obtain ⟨m4, p4, rfl, y0, y1, y2, y3, y4, y5, y6⟩ := lab_st v8 hlt3
        generalize M2.1.getD j ByteArray.empty = nm at n1 n2
        generalize (M2.2.getD j zeroSt).l.getD 0 0 = z0 at x0 y0
        generalize (M2.2.getD j zeroSt).l.getD 1 0 = z1 at x1 y1
        generalize (M2.2.getD j zeroSt).l.getD 2 0 = z2 at x2 y2
        generalize (M2.2.getD j zeroSt).l.getD 3 0 = z3 at x3 y3
        generalize (M2.2.getD j zeroSt).l.getD 4 0 = z4 at x4 y4
        generalize (M2.2.getD j zeroSt).l.getD 5 0 = z5 at x5 y5
        generalize (M2.2.getD j zeroSt).l.getD 6 0 = z6 at x6 y6
        have hbe : (nm.toList == nm.toList) = true := by simp
        have h6 := HM12.out.2
        clear v7 v8
        go_wp2_with fail
        go_quiet (fail)
        go_wp2
        go_roundw
        case rel => exact ⟨j + 1, hlt2, by go_num, J (HDr.out.next _)⟩
        case measure => simp [intOf]; omega
       ·have gx := (HDr.out.below (B := w8.heap.size) |>.cell (p := ⟨gl, k, none⟩) HGX.out.1).trans HGX.out.2
        have f0 := (D8.out.belowS HDr.out.below).frz 0
        have f1 := (D8.out.belowS HDr.out.below).frz 1
        go_wp2
        go_roundw
        case rel => exact ⟨k + 1, hlt, by go_num, by rw [HC1.out], by rw [HC2.out], HNX.out _ HDr.out⟩
        case measure => simp [intOf]; omega
     ·have hq : M2 = M := HSAME.out (.inr h2)
      subst hq
      clear h1 h2 HOUT HSAME
      have t0 := K8.out.at 0 (v := .slice A7 M2.1.length c7) rfl
      have d0 := D8.out.at 0 (v := .slice B1 M2.1.length e1) rfl
      go_wp2_with fail
      clear t0 d0
      go_loopw [14] (fun jv wq => ∃ j : Nat, j ≤ M2.1.length ∧ jv = .int .i64 (j : Int) ∧ Hid (Drawn w8 wq)) (fun jv _ => M2.1.length - (intOf jv).toNat)
      case atStart => exact ⟨0, Nat.zero_le _, rfl, J (Drawn.refl _)⟩
      case round =>
       obtain ⟨j, hj, rfl, HDr⟩ := hrel
       have t0 := (K8.out.belowS HDr.out.below).at 0 (v := .slice A7 M2.1.length c7) rfl
       have t1 := (K8.out.belowS HDr.out.below).at 1 (v := .slice A8 M2.2.length c8) rfl
       have d0 := (D8.out.belowS HDr.out.below).at 0 (v := .slice B1 M2.1.length e1) rfl
       have d1 := (D8.out.belowS HDr.out.below).at 1 (v := .slice B2 M2.2.length e2) rfl
       by_cases hlt2 : j < M2.1.length
       ·have v7 := HV8.out.below (HDr.out.below (B := w8.heap.size))
        have v8 := V8.out.below (HDr.out.below (B := w8.heap.size))
        obtain ⟨m1, p1, rfl, n1⟩ := lab_name v7 hlt2
        obtain ⟨m2, p2, rfl, n2⟩ := lab_name v8 hlt2
        have hlt3 : j < M2.2.length := by rw [← HM12.out.1]; exact hlt2
        obtain ⟨m3, p3, rfl, x0, x1, x2, x3, x4, x5, x6⟩ := lab_st v7 hlt3
        obtain ⟨m4, p4, rfl, y0, y1, y2, y3, y4, y5, y6⟩ := lab_st v8 hlt3
        generalize M2.1.getD j ByteArray.empty = nm at n1 n2
        generalize (M2.2.getD j zeroSt).l.getD 0 0 = z0 at x0 y0
        generalize (M2.2.getD j zeroSt).l.getD 1 0 = z1 at x1 y1
        generalize (M2.2.getD j zeroSt).l.getD 2 0 = z2 at x2 y2
        generalize (M2.2.getD j zeroSt).l.getD 3 0 = z3 at x3 y3
        generalize (M2.2.getD j zeroSt).l.getD 4 0 = z4 at x4 y4
        generalize (M2.2.getD j zeroSt).l.getD 5 0 = z5 at x5 y5
        generalize (M2.2.getD j zeroSt).l.getD 6 0 = z6 at x6 y6
        have hbe : (nm.toList == nm.toList) = true := by simp
        have h6 := HM12.out.2
        clear v7 v8
        go_wp2_with fail
        go_quiet (fail)
        go_wp2
        go_roundw
        case rel => exact ⟨j + 1, hlt2, by go_num, J (HDr.out.next _)⟩
        case measure => simp [intOf]; omega
       ·have gx := (HDr.out.below (B := w8.heap.size) |>.cell (p := ⟨gl, k, none⟩) HGX.out.1).trans HGX.out.2
        have f0 := (D8.out.belowS HDr.out.below).frz 0
        have f1 := (D8.out.belowS HDr.out.below).frz 1
        go_wp2
        go_roundw
        case rel => exact ⟨k + 1, hlt, by go_num, by rw [HC1.out], by rw [HC2.out], HNX.out _ HDr.out⟩
        case measure => simp [intOf]; omega
     ·have HDr := J (Drawn.refl w8)
      have t0 := K8.out.at 0 (v := .slice A7 M2.1.length c7) rfl
      have t1 := K8.out.at 1 (v := .slice A8 M2.2.length c8) rfl
      have d0 := D8.out.at 0 (v := .slice B1 M.1.length e1) rfl
      have d1 := D8.out.at 1 (v := .slice B2 M.2.length e2) rfl
      have gx := (HDr.out.below (B := w8.heap.size) |>.cell (p := ⟨gl, k, none⟩) HGX.out.1).trans HGX.out.2
      have f0 := (D8.out.belowS HDr.out.below).frz 0
      have f1 := (D8.out.belowS HDr.out.below).frz 1
      go_wp2
      go_roundw
      case rel => exact ⟨k + 1, hlt, by go_num, by rw [HC1.out], by rw [HC2.out], HNX.out _ HDr.out⟩
      case measure => simp [intOf]; omega
   ·obtain ⟨M, hM⟩ : ∃ M, M = (LkAt (ss, xs) ls ls.length).1 := ⟨_, rfl⟩
    obtain ⟨ob, hob⟩ : ∃ ob, ob = tx (LkAt (ss, xs) ls ls.length).2 := ⟨_, rfl⟩
    have hkn : k = ls.length := by rw [← HNN.out]; omega
    have hMok := (lk_ok HOK.out ls ls.length (Nat.le_refl _)).1
    rw [hkn] at HP ⊢
    rw [← hM] at HP
    rw [List.take_length, ← hob]
    obtain ⟨⟨B1, e1, B2, e2, hK9, hV9⟩, hbw⟩ := HP.out
    have HR := J (HRUN.out wr hbw)
    rw [← hM, ← hob] at HR
    rw [← hM] at hMok
    have HM12 := J (And.intro hMok.len hMok.six1)
    have k5 := HK3.out.below hbw HZ9.out.1
    have d0 := k5.at 0 (v := .slice A1 ss.length c1) rfl
    have d1 := k5.at 1 (v := .slice A2 ss.length c2) rfl
    have HK9 := J hK9
    have HV9 := J hV9
    have HBW := J (BB3.out.trans (hbw.mono HZ9.out.2.2))
    have hbe : (ob.toList == ob.toList) = true := by simp
    have hki : ¬ (ls.length : Int) < (n : Int) := by rw [← hkn]; omega
    generalize tx (script ls) = sc at *
    clear hK9 hV9 hbw k5 hM hob hMok HP HRUN HROW HGET HOK H0 hkn HTB
    go_wp2_with fail
    refine HR.out.mono ?_
    rintro e w5 ⟨v5, rfl, hv5, b5⟩
    have hv6 := hv5
    obtain ⟨A7, c7, A8, c8, rfl, _, _⟩ := hv5
    obtain ⟨W6, hW6⟩ : ∃ W6, W6 = w5.alloc (.cells #[.slice A7 M.1.length c7, .slice A8 M.2.length c8] 53) := ⟨_, rfl⟩
    have b6 : Below w5.heap.size w5 W6 := by rw [hW6]; exact (Below.refl _ _).alloc (Nat.le_refl _) _
    have b56 := Base.Below.nextA b5 b6
    have K6 := J (show Blk.Blk W6 w5.heap.size 53 #[.slice A7 M.1.length c7, .slice A8 M.2.length c8] by rw [hW6]; exact Blk.Blk.new _ _ _)
    have HV6 := J (hv6.below b6)
    have D6 := J (HK9.out.belowS b56)
    have V6 := J (HV9.out.below b56)
    have HBF := J (HBW.out.trans (b56.mono HBW.out.size))
    have x0 := D6.out.at 0 (v := .slice B1 M.1.length e1) rfl
    rw [hW6] at x0
    have HW6 := J hW6
    clear hW6 b6 b56 b5 hv6 d0 d1
    go_wp2_with fail
    rw [← HW6.out]
    clear x0
    go_loopw [18] (fun jv wq => ∃ j : Nat, j ≤ M.1.length ∧ jv = .int .i64 (j : Int) ∧ Hid (Drawn W6 wq)) (fun jv _ => M.1.length - (intOf jv).toNat)
    case atStart => exact ⟨0, Nat.zero_le _, rfl, J (Drawn.refl _)⟩
    case round =>
     obtain ⟨j, hj, rfl, HDr⟩ := hrel
     have t0 := (K6.out.belowS HDr.out.below).at 0 (v := .slice A7 M.1.length c7) rfl
     have t1 := (K6.out.belowS HDr.out.below).at 1 (v := .slice A8 M.2.length c8) rfl
     have d0 := (D6.out.belowS HDr.out.below).at 0 (v := .slice B1 M.1.length e1) rfl
     have d1 := (D6.out.belowS HDr.out.below).at 1 (v := .slice B2 M.2.length e2) rfl
     by_cases hlt2 : j < M.1.length
     ·have v7 := HV6.out.below (HDr.out.below (B := W6.heap.size))
      have v8 := V6.out.below (HDr.out.below (B := W6.heap.size))
      obtain ⟨m1, p1, rfl, n1⟩ := lab_name v7 hlt2
      obtain ⟨m2, p2, rfl, n2⟩ := lab_name v8 hlt2
      have hlt3 : j < M.2.length := by rw [← HM12.out.1]; exact hlt2
      obtain ⟨m3, p3, rfl, x0, x1, x2, x3, x4, x5, x6⟩ := lab_st v7 hlt3
      obtain ⟨m4, p4, rfl, y0, y1, y2, y3, y4, y5, y6⟩ := lab_st v8 hlt3
      generalize M.1.getD j ByteArray.empty = nm at n1 n2
      generalize (M.2.getD j zeroSt).l.getD 0 0 = z0 at x0 y0
      generalize (M.2.getD j zeroSt).l.getD 1 0 = z1 at x1 y1
      generalize (M.2.getD j zeroSt).l.getD 2 0 = z2 at x2 y2
      generalize (M.2.getD j zeroSt).l.getD 3 0 = z3 at x3 y3
      generalize (M.2.getD j zeroSt).l.getD 4 0 = z4 at x4 y4
      generalize (M.2.getD j zeroSt).l.getD 5 0 = z5 at x5 y5
      generalize (M.2.getD j zeroSt).l.getD 6 0 = z6 at x6 y6
      have hbe : (nm.toList == nm.toList) = true := by simp
      have h6 := HM12.out.2
      clear v7 v8
      go_wp2_with fail
      go_quiet (fail)
      go_wp2
      go_roundw
      case rel => exact ⟨j + 1, hlt2, by go_num, J (HDr.out.next _)⟩
      case measure => simp [intOf]; omega
     ·go_wp2
      go_ret
      exact ⟨rfl, HBF.out.trans HDr.out.below⟩
theorem lab_v {w : World} {v u : Value} (h : Open.IsBytes w v) (h' : Open.IsBytes w u) (hp : Pow w.heap.size w) (he : Errs w.heap.size w) (hm : MaxL w.heap.size w) : Calls Tryz.prog 4 #[v, u] w fun e w' => e = .returned (.bool true) ∧ Below w.heap.size w w' := by
 obtain ⟨A, c, zs, rfl, hl, hz, hx⟩ := h.ex
 obtain ⟨A', c', ys, rfl, hl', hz', hx'⟩ := h'.ex
 exact lab_walk A A' c c' zs ys w ⟨hp, he, hm⟩ hx hx' hl hl' hz hz'
end LcS
end Go.Proofs.YtgipnbeipfhekaaGreatDoor
