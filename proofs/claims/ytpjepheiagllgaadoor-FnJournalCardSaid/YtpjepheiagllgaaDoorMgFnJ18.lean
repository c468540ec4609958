/- The reference: lines that are drawn. -/
import Derived.Test.YtpjepheiagllgaaDoorMgFnJ17
import Derived.Test.YtpjepheiagllgaaDoorMgFnJ08
import Derived.Test.YtpjepheiagllgaaDoorMgFnJ10
import Derived.Test.YtpjepheiagllgaaDoorMgFnJ04
import Derived.Test.YtpjepheiagllgaaDoorMgFnJ11
import Derived.Test.YtpjepheiagllgaaDoorMgFnJ03
namespace Go.Proofs.YtpjepheiagllgaaDoor.LabD
open Go.RowKit Go.Proofs.YtpjepheiagllgaaDoor Go.Proofs.YtpjepheiagllgaaDoor.Base Go.Proofs.YtpjepheiagllgaaDoor.Mem Go.Proofs.YtpjepheiagllgaaDoor.Dec Go.Proofs.YtpjepheiagllgaaDoor.LabM Go.Proofs.YtpjepheiagllgaaDoor.Str Go.Proofs.YtpjepheiagllgaaDoor.Take Go.Proofs.YtpjepheiagllgaaDoor.StTx Go.Proofs.YtpjepheiagllgaaDoor.Src Go.Proofs.YtpjepheiagllgaaDoor.Blk Go.Proofs.YtpjepheiagllgaaDoor.Draw Go.Proofs.YtpjepheiagllgaaDoor.Set
set_option linter.unusedVariables false
theorem own_beside {w w' : World} {B p : Nat} {e : TypeId} {size n : Nat} {v : Value} {xs : List Value} (h : w.ownsRow B e size v n xs) (hp : p < B) (hb : Beside p w w') : w'.ownsRow B e size v n xs :=
 ⟨h.1, h.2.imp id fun ⟨g, cap, cur, e1, h2, h3, h4, h5, h6, h7⟩ => ⟨g, cap, cur, e1, h2, (hb.same g (Array.getElem?_eq_some_iff.1 h3).1 (by omega)).trans h3, h4, h5, h6, h7⟩⟩
def AllG (n : Nat) (D : List ByteArray) : Prop := ∀ i, i < D.length → Gd n (D.getD i ByteArray.empty)
theorem AllG.snoc {n : Nat} {D : List ByteArray} {t : ByteArray} (h : AllG n D) (ht : Gd n t) : AllG n (D ++ [t]) := fun i hi => by
 rw [List.length_append, List.length_singleton] at hi
 rw [List.getD_eq_getElem?_getD]
 by_cases e : i < D.length
 ·rw [List.getElem?_append_left e, ← List.getD_eq_getElem?_getD]; exact h i e
 ·obtain rfl : i = D.length := by omega
  rw [List.getElem?_append_right (Nat.le_refl _), Nat.sub_self]; exact ht
def LinesRet (w : World) (e : Ending) (w' : World) : Prop :=
 ∃ (A : Option Addr) (c : Nat) (D : List ByteArray), e = .returned (.slice A D.length c) ∧ D.length ≤ 6 ∧ AllG 300 D ∧ w'.ownsRow w.heap.size 9 1 (.slice A D.length c) D.length (texts D) ∧ Below w.heap.size w w'
def LnRel (w W0 w1 : World) (kv ov : Value) (wr : World) : Prop :=
 ∃ (k : Nat) (D : List ByteArray), kv = .int .i64 (k : Int) ∧ D.length + k ≤ 6 ∧ w1.heap.size ≤ wr.heap.size ∧ Hid (AllG 300 D) ∧ Hid (wr.ownsRow w1.heap.size 9 1 ov D.length (texts D)) ∧ Hid (Go.Proofs.YtpjepheiagllgaaDoor.Src.Src wr (w.heap.size + 1) (2 + 100 * (6 - k))) ∧ Hid (Below (w.heap.size + 1) W0 wr)
set_option maxHeartbeats 4000000 in
set_option maxRecDepth 100000 in
theorem b10Lines_any (A : Option Addr) (c B : Nat) (zs : List Int) (A1 A2 : Option Addr) (c1 c2 : Nat) (ss : List ByteArray) (w : World) (hx : RdB w B A zs) (hB : B ≤ w.heap.size) (hl : zs.length ≤ 9223372036854775807) (hz : ∀ z ∈ zs, 0 ≤ z ∧ z ≤ 255)
  (hs : RdT w w.heap.size A1 ss) (hn : ss.length ≤ 3) (hg : AllGd ss) :
  Calls Tryd.prog 5 #[.slice A zs.length c, .agg #[.slice A1 ss.length c1, .slice A2 ss.length c2]] w (LinesRet w) := by
 obtain ⟨ix, hix, xz0, xz1, xz2⟩ := info_parts infoT
 obtain ⟨W0, hW0⟩ : ∃ W0, W0 = w.alloc (.cells #[.slice A1 ss.length c1, .slice A2 ss.length c2] 28) := ⟨_, rfl⟩
 have e0 : W0.heap.size = w.heap.size + 1 := by rw [hW0]; simp
 have b0 : Below w.heap.size w W0 := by rw [hW0]; exact (Below.refl _ _).alloc (Nat.le_refl _) _
 have R0 : Blk W0 w.heap.size 28 #[.slice A1 ss.length c1, .slice A2 ss.length c2] := by rw [hW0]; exact Blk.new _ _ _
 have HF := Lib.hid (from_any A c w.heap.size zs W0 ((hx.below b0 hB).more hB) (by omega) hl hz)
 have HNM : Hid (∀ wr : World, Below (w.heap.size + 1) W0 wr → NamesAt wr w.heap.size (w.heap.size + 1)) := Lib.hid fun wr hb =>
  ⟨A1, ss.length, c1, ss, (hb.cell (p := ⟨w.heap.size, 0, none⟩) (Nat.lt_succ_self _)).trans (R0.at 0 rfl), by omega, Nat.lt_of_lt_of_le (by rw [e0]; exact Nat.lt_succ_self _) hb.size, by omega, rfl, hg, fun h0 => by
   obtain ⟨g, off, e, hgl, hc⟩ := (hs.below b0 (Nat.le_refl _)) h0
   exact ⟨g, off, e, by omega, Nat.lt_of_lt_of_le (by omega) hb.size, fun i hi => (hb.cell (p := ⟨g, off + i, none⟩) (Nat.lt_succ_of_lt hgl)).trans (hc i hi)⟩⟩
 have HW := Lib.hid hW0
 have HB0 := Lib.hid b0
 have E0 := Lib.hid e0
 rw [e0] at HF
 clear hW0 b0 R0 hx hz e0 hs hg
 go_enter Tryd.func5, Tryd.ntmps5
 go_wp2_with fail
 rw [← HW.out]
 refine HF.out.mono ?_
 rintro e w1 ⟨rfl, s1, b1⟩
 have B1 := Lib.hid (show Below (w.heap.size + 1) W0 w1 from b1)
 have hp1 := s1.lt
 have xl : Below w1.heap.size w1 (w1.alloc (.cells #[] 9)) := (Below.refl _ _).alloc (Nat.le_refl _) _
 have HS1 := Lib.hid (s1.below xl)
 have O1 := Lib.hid (World.ownsRow_lit (e := 9) (size := 1) (base := w1.heap.size) w1 #[] 0 (Nat.le_refl _) (by simp [maxLen]) (by simp))
 have BX := Lib.hid (show Below (w.heap.size + 1) W0 (w1.alloc (.cells #[] 9)) from B1.out.trans (xl.mono (Nat.le_of_lt hp1)))
 clear s1 b1 xl
 go_wp2_with fail
 refine (pick_any (w.heap.size + 1) 0 7 _ HS1.out (by decide)).mono ?_
 rintro e w2 ⟨k0, rfl, hk0, s2, gr2⟩
 have hk6 : k0 ≤ 6 := by omega
 have hsz2 := gr2.size
 have H1 : Hid (LnRel w W0 w1 (.int .i64 (k0 : Int)) (.slice (some ⟨w1.heap.size, 0, none⟩) 0 0) w2) := Lib.hid
  ⟨k0, [], rfl, by simpa using hk6, by simp at hsz2; omega, Lib.hid (fun i hi => absurd hi (Nat.not_lt_zero i)), Lib.hid (own_beside O1.out hp1 (Beside.grown gr2)), Lib.hid (s2.more (by omega)), Lib.hid (BX.out.grown gr2 (Nat.le_trans (Nat.le_of_lt hp1) (by simp)) (fun q e => by injection e with e; omega))⟩
 clear s2 gr2 hk0 hsz2 O1 BX
 go_wp2
 go_loopw [7, 6] (fun kv ov wr => LnRel w W0 w1 kv ov wr) (fun kv _ _ => (intOf kv).toNat)
 case atStart => exact H1.out
 case round =>
  obtain ⟨k, D, rfl, hk, hw1, HG, HO, HS, HB⟩ := hrel
  clear H1
  by_cases hk0 : 0 < k
  ·have hk1 : (0 : Int) < (k : Int) := by omega
   go_wp2_with fail
   refine (drawLine_any (w.heap.size + 1) _ w.heap.size wr HS.out (by omega) (HNM.out wr HB.out)).mono ?_
   rintro e w3 ⟨t, gt, rfl, s3, bs3⟩
   obtain ⟨Ao, co, eo, _⟩ := Mem.ownsRow_form HO.out
   subst eo
   have hsz3 := bs3.size
   have HOW := Lib.hid (World.ownsRow.alloc (own_beside HO.out hp1 bs3) (.cells #[.string t] 9))
   have B3 := Lib.hid (show Below (w.heap.size + 1) W0 w3 from HB.out.trans (bs3.below (Nat.le_refl _) (Nat.le_trans (Nat.le_of_lt hp1) hw1)))
   have HGT := Lib.hid gt
   have x4 : Below w3.heap.size w3 (w3.alloc (.cells #[.string t] 9)) := (Below.refl _ _).alloc (Nat.le_refl _) _
   have HS4 := Lib.hid (s3.below x4)
   have B4 := Lib.hid (B3.out.trans (x4.mono (Nat.le_trans (Nat.le_of_lt hp1) (Nat.le_trans hw1 hsz3))))
   clear bs3 s3 gt x4
   go_wp2_with (at_builtin; refine wpList_append_own_at _ rfl (.tmp 17) (.tmp 20) 24 rfl w1.heap.size 9 ix (.string ByteArray.empty) 1 16 Tryd.underlying24 hix xz0 xz1 xz2 rfl (by decide) _ _ _ rfl HOW.out ⟨w3.heap.size, 0, none⟩ 1 1 [.string t] rfl rfl ?p1a ?p2a ?p3a ?p4a ?p5a ?_)
   try case p1a => exact news_one _ _ _ (by simp)
   try case p2a => first | rfl | (intro u hu; simp at hu; subst hu; rfl)
   try case p3a => first | (simp only [maxLen]; omega) | omega
   try case p4a => omega
   try case p5a => first | (simp only [World.size_alloc]; omega) | omega
   intro v'' wC hown' hg' _ _
   have HN : Hid (LnRel w W0 w1 (.int .i64 ((k : Int) - 1)) v'' wC) := Lib.hid
    ⟨k - 1, D ++ [t], by congr 1; omega, by rw [List.length_append, List.length_singleton]; omega, by have := hg'.size; simp at this; omega, Lib.hid (HG.out.snoc HGT.out), Lib.hid (by rw [List.length_append, List.length_singleton, show texts (D ++ [t]) = texts D ++ [.string t] from List.map_append]; exact hown'),
     Lib.hid ((HS4.out.kept hg' (fun g e => by have := own_at HOW.out e; omega)).more (by omega)), Lib.hid (B4.out.grown hg' (Nat.le_trans (Nat.le_of_lt hp1) (by simp; omega)) (fun q e => by have := own_at HOW.out e; omega))⟩
   clear hown' hg' HOW HS4 B4
   go_wp2
   go_roundw
   case rel => exact HN.out
   case measure => simp [intOf]; omega
  ·obtain rfl : k = 0 := by omega
   obtain ⟨Ao, co, eo, _⟩ := Mem.ownsRow_form HO.out
   subst eo
   have HFO := Lib.hid (ownsRow_base HO.out (show w.heap.size ≤ w1.heap.size by omega))
   have HFB := Lib.hid (HB0.out.trans (HB.out.mono (Nat.le_succ _)))
   have hd : D.length ≤ 6 := by omega
   go_wp2
   go_ret
   exact ⟨Ao, co, D, rfl, hd, HG.out, HFO.out, HFB.out⟩
end Go.Proofs.YtpjepheiagllgaaDoor.LabD
namespace Go.Proofs.YtpjepheiagllgaaDoor.JrnM
open Go.RowKit Go.Proofs.YtpjepheiagllgaaDoor Go.Proofs.YtpjepheiagllgaaDoor.Base Go.Proofs.YtpjepheiagllgaaDoor.Mem Go.Proofs.YtpjepheiagllgaaDoor.Dec Go.Proofs.YtpjepheiagllgaaDoor.LabM Go.Proofs.YtpjepheiagllgaaDoor.Jour Go.Proofs.YtpjepheiagllgaaDoor.RecJ Go.Proofs.YtpjepheiagllgaaDoor.JnM
set_option linter.unusedVariables false
theorem nlIn_no {s : ByteArray} (h : ∀ x ∈ s.data.toList, x ≠ 10) : ∀ i, nlIn s i = false
 | 0 => rfl
 | i + 1 => by
  rw [nlIn, nlIn_no h i, Bool.false_or]
  by_cases hi : i < s.size
  ·rw [dif_pos hi]
   refine decide_eq_false fun e => h (s[i]'hi) ?_ (UInt8.toNat_inj.1 e)
   exact Array.mem_toList_iff.2 (Array.getElem_mem (xs := s.data) hi)
  ·rw [dif_neg hi]
theorem nlTo_no {ss : List ByteArray} (h : ∀ i, i < ss.length → ∀ x ∈ (getT ss i).data.toList, x ≠ 10) : ∀ n, n ≤ ss.length → nlTo ss n = false
 | 0, _ => rfl
 | n + 1, hn => by rw [nlTo, nlTo_no h n (by omega), Bool.false_or]; exact nlIn_no (h n hn) _
theorem txs_back (D : List ByteArray) : txs (D.map fun s => s.data.toList) = D := by
 rw [txs, List.map_map]
 conv => rhs; rw [← List.map_id D]
 refine List.map_congr_left fun s _ => ?_
 show tx s.data.toList = s
 apply tx_ext; rfl
theorem txs_length (ls : List (List UInt8)) : (txs ls).length = ls.length := List.length_map _
theorem getT_txs (ls : List (List UInt8)) (i : Nat) (h : i < ls.length) : getT (txs ls) i = tx (ls[i]'h) := by
 simp [getT, txs, h]
theorem jlist_tx (l : List UInt8) : (tx l).data.toList = l := by simp
theorem jour_ls (ls : List (List UInt8)) (hno : ∀ e, e ∈ ls → At e 10 none) (hl : (jl 0 ls).length ≤ 4000) : jourB (txs ls) = true ∧ jourR (txs ls) = jl 0 ls := by
 have h1 : jourTo (txs ls) (txs ls).length = jl 0 ls := jour_all ls
 have hb : jourB (txs ls) = true := jourB_yes (nlTo_no (fun i hi x hx => by
  rw [txs_length] at hi
  rw [getT_txs ls i hi, jlist_tx] at hx
  exact fun e => not_in (hno _ (List.getElem_mem hi)) (e ▸ hx)) _ (Nat.le_refl _)) (by rw [h1]; exact hl)
 exact ⟨hb, by rw [jourR, if_pos hb, h1]⟩
theorem rec_back (l : List UInt8) (h : l.length ≤ 4000) : jourB (txs (recO (tx l)).1) = true ∧ jourR (txs (recO (tx l)).1) = l.take (recO (tx l)).2 ∧ (recO (tx l)).2 ≤ l.length := by
 have e : recO (tx l) = recL 0 (linesR l) := by rw [recO, if_pos (by rw [size_tx]; exact h), jlist_tx]
 obtain ⟨h1, h2, h3⟩ := rec_is l.length l 0 (Nat.le_refl _)
 rw [e]
 obtain ⟨g1, g2⟩ := jour_ls (recL 0 (linesR l)).1 h3 (by rw [h1, List.length_take]; omega)
 exact ⟨g1, by rw [g2, h1], h2⟩
theorem rec_lines (D : List ByteArray) (hD : ∀ i, i < D.length → ∀ x ∈ (D.getD i ByteArray.empty).data.toList, x ≠ 10) (J : List UInt8) (hJ : J = jl 0 (D.map fun s => s.data.toList)) (hJl : J.length ≤ 4000) (at_ : Nat) (ha : at_ ≤ J.length) :
  (recO (tx (J.take at_))).1.length = cntL (J.take at_) ∧ cntL (J.take at_) ≤ D.length ∧ ∀ i, i < cntL (J.take at_) → getT (txs (recO (tx (J.take at_))).1) i = getT D i := by
 have e : recO (tx (J.take at_)) = recL 0 (linesR (J.take at_)) := by rw [recO, if_pos (by rw [size_tx, List.length_take]; omega), jlist_tx]
 obtain ⟨h1, h2⟩ := rec_cut (D.map fun s => s.data.toList) 0 at_ (fun e he => by
  obtain ⟨s, hs, rfl⟩ := List.mem_map.1 he
  obtain ⟨i, hi, rfl⟩ := List.mem_iff_getElem.1 hs
  refine none_in fun hm => ?_
  refine hD i hi 10 ?_ rfl
  rw [List.getD_eq_getElem?_getD, List.getElem?_eq_getElem hi]; exact hm) (by rw [← hJ]; exact ha)
 rw [← hJ] at h1 h2
 rw [e, h1]
 rw [List.length_map] at h2
 refine ⟨by rw [List.length_take, List.length_map]; omega, h2, fun i hi => ?_⟩
 rw [getT_txs _ i (by rw [List.length_take, List.length_map]; omega)]
 rw [List.getElem_take, List.getElem_map, getT, List.getD_eq_getElem?_getD, List.getElem?_eq_getElem (by omega)]
 apply tx_ext; rfl
theorem rec_bent (J : List UInt8) (hJl : J.length ≤ 4000) (at_ : Nat) (ha : at_ ≤ J.length) (b : List UInt8) (hb : (J.take at_ ++ b).length ≤ 4000) : (recO (tx (J.take at_))).2 ≤ (recO (tx (J.take at_ ++ b))).2 := by
 have e : recO (tx (J.take at_)) = recL 0 (linesR (J.take at_)) := by rw [recO, if_pos (by rw [size_tx, List.length_take]; omega), jlist_tx]
 have e2 : recO (tx (J.take at_ ++ b)) = recL 0 (linesR (J.take at_ ++ b)) := by rw [recO, if_pos (by rw [size_tx]; exact hb), jlist_tx]
 rw [e, e2]
 exact rec_more _ _ _ 0 (Nat.le_refl _)
theorem jl_nil {D : List ByteArray} (h : D ≠ []) : jl 0 (D.map fun s => s.data.toList) ≠ [] := by
 cases D with
 | nil => exact absurd rfl h
 | cons a r => intro e; rw [List.map_cons, jl] at e; simp at e
theorem sumJ_le (ss : List ByteArray) (h : ∀ i, i < ss.length → (getT ss i).size ≤ 300) : ∀ n, n ≤ ss.length → (jourTo ss n).length ≤ 308 * n
 | 0, _ => Nat.le_refl _
 | n + 1, hn => by
  have h1 := sumJ_le ss h n (by omega)
  have h2 := lineJ_len (ckTo ss (n + 1)) (getT ss n) (by have := ckTo_lt ss (n + 1); omega)
  have h3 := h n hn
  rw [jourTo, List.length_append]; omega
theorem jour_lines {D : List ByteArray} (h6 : D.length ≤ 6) (hg : LabD.AllG 300 D) : jourB D = true ∧ jourR D = jl 0 (D.map fun s => s.data.toList) ∧ (jourR D).length ≤ 4000 := by
 have hl := sumJ_le D (fun i hi => (hg i hi).1) D.length (Nat.le_refl _)
 have hj := jour_all (D.map fun s => s.data.toList)
 rw [txs_back] at hj
 have hb : jourB D = true := jourB_yes (nlTo_no (fun i hi => (hg i hi).2) _ (Nat.le_refl _)) (by omega)
 have hr : jourR D = jourTo D D.length := by rw [jourR, if_pos hb]
 exact ⟨hb, by rw [hr, hj], by rw [hr]; omega⟩
theorem cnt_snoc (J : List UInt8) (i : Nat) (h : i < J.length) : cntL (J.take (i + 1)) = cntL (J.take i) + (if J[i]'h = 10 then 1 else 0) := by
 rw [cntL, cntL, List.take_add_one, List.getElem?_eq_getElem h, List.countP_append]
 congr 1
 show List.countP _ [J[i]'h] = _
 by_cases e : J[i]'h = 10
 ·rw [if_pos e, List.countP_singleton, if_pos (by simp [e])]
 ·rw [if_neg e, List.countP_singleton, if_neg (by simp [e])]
end Go.Proofs.YtpjepheiagllgaaDoor.JrnM
namespace Go.Proofs.YtpjepheiagllgaaDoor.ApartM
open Go.Proofs.YtpjepheiagllgaaDoor Go.Proofs.YtpjepheiagllgaaDoor.Base Go.Proofs.YtpjepheiagllgaaDoor.Str Go.Proofs.YtpjepheiagllgaaDoor.CycM Go.Proofs.YtpjepheiagllgaaDoor.Take
set_option linter.unusedVariables false
end Go.Proofs.YtpjepheiagllgaaDoor.ApartM
namespace Go.Proofs.YtpjepheiagllgaaDoor.Skip
open Go.RowKit Go.Proofs.YtpjepheiagllgaaDoor Go.Proofs.YtpjepheiagllgaaDoor.Base Go.Proofs.YtpjepheiagllgaaDoor.Mem Go.Proofs.YtpjepheiagllgaaDoor.Reg Go.Proofs.YtpjepheiagllgaaDoor.Str Go.Proofs.YtpjepheiagllgaaDoor.Take Go.Proofs.YtpjepheiagllgaaDoor.Blk Go.Proofs.YtpjepheiagllgaaDoor.Pow
set_option linter.unusedVariables false
end Go.Proofs.YtpjepheiagllgaaDoor.Skip
namespace Go.Proofs.YtpjepheiagllgaaDoor.Str
open Go.RowKit Go.Proofs.YtpjepheiagllgaaDoor Go.Proofs.YtpjepheiagllgaaDoor.Base
set_option linter.unusedVariables false
end Go.Proofs.YtpjepheiagllgaaDoor.Str
namespace Go.Proofs.YtpjepheiagllgaaDoor.ApartL
open Go.RowKit Go.Proofs.YtpjepheiagllgaaDoor Go.Proofs.YtpjepheiagllgaaDoor.Base Go.Proofs.YtpjepheiagllgaaDoor.Mem Go.Proofs.YtpjepheiagllgaaDoor.Str Go.Proofs.YtpjepheiagllgaaDoor.Take Go.Proofs.YtpjepheiagllgaaDoor.Skip Go.Proofs.YtpjepheiagllgaaDoor.CycM Go.Proofs.YtpjepheiagllgaaDoor.ApartM
set_option linter.unusedVariables false
def AtRet (n : Int) (w : World) (e : Ending) (w' : World) : Prop := ∃ r : Int, 0 ≤ r ∧ r < n ∧ e = .returned (.int .i64 r) ∧ w = w'
theorem b10At_any (A : Option Addr) (c B : Nat) (zs : List Int) (i n : Int) (w : World) (hz : ∀ z ∈ zs, 0 ≤ z ∧ z ≤ 255) (hl : zs.length ≤ 9223372036854775807) (hr : RdB w B A zs) (hi : i = 0 ∨ i = 1) (hn : 2 ≤ n) :
  Calls Tryd.prog 8 #[.slice A zs.length c, .int .i64 i, .int .i64 n] w (AtRet n w) := by
 by_cases h2 : (zs.length : Int) ≤ i
 ·have q0 : 0 ≤ (i * 37 + 11) % n := Int.emod_nonneg _ (by omega)
  have q1 : (i * 37 + 11) % n < n := Int.emod_lt_of_pos _ (by omega)
  clear hr hz
  rcases hi with rfl | rfl
  all_goals
   simp only [Int.zero_mul, Int.one_mul, Int.zero_add, Int.reduceAdd] at q0 q1
   go_enter Tryd.func8, Tryd.ntmps8
   go_wp2
   go_ret
   exact ⟨_, q0, q1, rfl, rfl⟩
 ·obtain ⟨j, rfl⟩ := Int.eq_ofNat_of_zero_le (show 0 ≤ i by omega)
  have h3 : j < zs.length := by omega
  obtain ⟨b, off, rfl, _, hc⟩ := hr (by omega)
  have g := hc j h3
  have hm := hz (zs.getD j 0) (by simp [List.getD, h3])
  obtain ⟨m1, m2⟩ := hm
  clear hc hr hz
  generalize zs.getD j 0 = z at *
  have hq0 : 0 ≤ z % n := Int.emod_nonneg _ (by omega)
  have hq1 : z % n < n := Int.emod_lt_of_pos _ (by omega)
  have hj : (j : Int) ≤ 1 := by omega
  clear hi
  go_enter Tryd.func8, Tryd.ntmps8
  go_wp2
  go_ret
  exact ⟨_, hq0, hq1, rfl, rfl⟩
end Go.Proofs.YtpjepheiagllgaaDoor.ApartL
