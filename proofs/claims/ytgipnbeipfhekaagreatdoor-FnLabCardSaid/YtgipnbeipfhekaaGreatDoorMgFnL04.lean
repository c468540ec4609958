/- The decimal text of a number below 0; of the reference and of the program. -/
import Derived.Test.YtgipnbeipfhekaaGreatDoorMgFnL03
import Derived.Laws.Cover1
import Derived.Laws.Concat
import Derived.Test.YtgipnbeipfhekaaGreatDoorMgFnL01
import Derived.Lib.IndexLaws
import Derived.Lib.Builder
import Derived.Shelf.Strings.Builder1
import Derived.Shelf.Strings.Search3
import Derived.Deep.RegionWith
import Derived.Test.YtgipnbeipfhekaaGreatDoorMgFnL00
set_option linter.unusedVariables false
set_option linter.unusedSimpArgs false
set_option maxRecDepth 100000
set_option maxHeartbeats 8000000
namespace Go.Proofs.YtgipnbeipfhekaaGreatDoor
namespace Dec
open Go.RowKit Base Mem
def DigToN (u : Nat) (w : World) (v i : Value) (wr : World) : Prop := ∃ r : Nat, i = .int .i64 (-(r : Int)) ∧ DigTo u w v (.int .i64 (r : Int)) wr
theorem l01Dec_neg (u : Nat) (hu0 : 0 < u) (hu : u ≤ 9223372036854775807) (w : World) : Calls Tryz.prog 114 #[.int .i64 (-(u : Int))] w fun e w' => e = .returned (.string (tx (45 :: Lib.decDigits u))) ∧ Below w.heap.size w w' := by
 obtain ⟨i0, hi, hz0, hz1, hz2⟩ := info_parts infoByte
 have hu20 : u < 10 ^ 20 := by omega
 have hz' : (-(u : Int) == 0) = false := by simp only [beq_eq_false_iff_ne]; omega
 have HR := J (rd_rev u hu0)
 have HLn := J (rd_len 20 u hu20)
 have H0 : Hid (DigToN u w (.slice (some ⟨w.heap.size, 0, none⟩) 0 0) (.int .i64 (-(u : Int))) (w.alloc (.cells #[] 5))) := J ⟨u, rfl, u, [], rfl, Nat.le_refl _, by simp, J (by simp), J (World.ownsRow_made w #[] 0 (Nat.le_refl _) (Nat.zero_le _) (by simp)), J ((Below.refl _ _).alloc (Nat.le_refl _) _)⟩
 have HU20 := J hu20
 clear hu20
 go_enter Tryz.func114, Tryz.ntmps114
 go_wp2
 go_loopw [3, 4] (fun v i wr => DigToN u w v i wr) (fun _ i _ => (-(intOf i)).toNat)
 case atStart => exact H0.out
 case round =>
  obtain ⟨r, rfl, r', D, hrr, hru, hD20, HD, HO, HB⟩ := hrel
  obtain rfl : r = r' := by injection hrr with _ h; omega
  clear hrr
  clear H0
  by_cases hr : r = 0
  ·subst hr
   have HDu : Hid (D = rd u) := J (by have := HD.out; rwa [rd_zero, List.append_nil] at this)
   have hDl : D.length ≤ 20 := hD20
   obtain ⟨A0, c0, e0, hf0⟩ := ownsRow_form HO.out
   have HF0 := J hf0
   clear hf0
   subst e0
   have hneg : -(u : Int) < 0 := by omega
   have HWs := J (World.ownsRow.alloc HO.out (.cells #[.int .u8 45] 5))
   have hwsz := HB.out.size
   have HSg : Hid (∀ v' w3, w3.ownsRow w.heap.size 5 1 v' (D.length + 1) (Lib.byteCells D ++ [.int .u8 (45 : Int)]) → (wr.alloc (.cells #[.int .u8 45] 5)).grownBy w3 (Value.slice A0 D.length c0).ownBlock → w3.ownsRow w.heap.size 5 1 v' (D ++ [45]).length (Lib.byteCells (D ++ [45])) ∧ Below w.heap.size w w3) := J fun v' w3 h1 h2 =>
    ⟨own_byte (x := 45) (by decide) h1, HB.out.trans (((Below.refl wr.heap.size wr).alloc (Nat.le_refl _) _ |>.mono HB.out.size).trans (grown_below h2 (fun g e => by obtain ⟨_, _, q, _⟩ := ownsRow_block HO.out e; exact q) (by have := HB.out.size; simp; omega)))⟩
   have hneg2 : (0 : Int) < (u : Int) := by omega
   go_wp2_with (at_builtin; refine wpList_append_own_at _ rfl (.tmp 30) (.tmp 31) 22 rfl w.heap.size 5 i0 (.int .u8 0) 1 1 Tryz.underlying22 hi hz0 hz1 hz2 rfl (by decide) _ _ _ rfl HWs.out ⟨wr.heap.size, 0, none⟩ 1 1 [.int .u8 45] rfl rfl ?p1s ?p2s ?p3s ?p4s ?p5s ?_)
   try case p1s => exact news_one _ _ _ (by simp)
   try case p2s => first | rfl | (intro u hu; simp at hu; subst hu; rfl)
   try case p3s => first | (simp only [maxLen]; omega) | omega
   try case p4s => omega
   try case p5s => first | (simp only [World.size_alloc]; omega) | omega
   intro v5 w5 hown5 hg5 _ he5
   obtain ⟨ho5, hb5⟩ := HSg.out v5 w5 hown5 hg5
   have HO5 := J ho5
   have HB5 := J hb5
   obtain ⟨A0, c0, e0, hf0⟩ := ownsRow_form ho5
   have HF5 := J hf0
   clear hf0 hown5 hg5 he5 ho5 hb5 HSg HWs HO HB HF0
   subst e0
   obtain ⟨E, hE⟩ : ∃ E, D ++ [45] = E := ⟨_, rfl⟩
   have hE20 : E.length ≤ 21 := by rw [← hE]; simp; omega
   rw [hE] at HO5 HF5 ⊢
   have HEr : Hid (E.reverse = 45 :: Lib.decDigits u) := J (by rw [← hE, List.reverse_append, HDu.out, HR.out]; rfl)
   have H1 : Hid (DigBack E w5 (.slice (some ⟨w5.heap.size, 0, none⟩) 0 0) (.int .i64 ((E.length : Int) - 1)) (w5.alloc (.cells #[] 5))) := J ⟨E.length, Nat.le_refl _, rfl, J (by rw [Nat.sub_self, List.drop_length]; exact World.ownsRow_made w5 #[] 0 (Nat.le_refl _) (Nat.zero_le _) (by simp)), J ((Below.refl _ _).alloc (Nat.le_refl _) _)⟩
   clear hE
   go_wp2
   obtain ⟨W0, hW0⟩ : ∃ W0, W0 = w5 := ⟨_, rfl⟩
   rw [← hW0] at H1 HO5 HB5 HF5
   have HW0 := J hW0
   clear hW0
   go_loopw [6, 7] (fun v i w2 => DigBack E W0 v i w2) (fun _ i _ => (intOf i + 1).toNat)
   case atStart => rw [← HW0.out]; exact H1.out
   case round =>
    obtain ⟨j, hj, rfl, HO2, HB2⟩ := hrel
    clear H1
    by_cases hj0 : j = 0
    ·subst hj0
     have hC := convT_any HO2.out (by simp)
     have HRs : Hid ((E.drop 0).reverse = 45 :: Lib.decDigits u) := J (by rw [List.drop_zero, HEr.out])
     rw [HRs.out] at hC
     go_wp2
     go_ret
     exact ⟨rfl, HB5.out.trans (HB2.out.mono HB5.out.size)⟩
    ·obtain ⟨k, rfl⟩ : ∃ k, j = k + 1 := ⟨j - 1, by omega⟩
     have hk : k < E.length := by omega
     obtain ⟨g, hg0, hg1, hg2⟩ := HF5.out (by omega)
     subst hg0
     have hcell0 := HO5.out.cellAt k (by omega)
     have hcell : wr.cell? ⟨g, k, none⟩ = some (.int .u8 ((E[k]'hk).toNat : Int)) := by
      have h3 := (HB2.out.cell (p := ⟨g, k, none⟩) (show g < W0.heap.size from hg2)).trans hcell0
      rw [h3]
      simp [Lib.byteCells, hk]
     have HNx := J (fun v' w3 h1 h2 => DigBack.next (o := .cells #[.int .u8 ((E[k]'hk).toNat : Int)] 5) (v' := v') (w3 := w3) hk HO2.out HB2.out h1 h2)
     have hby : (E[k]'hk).toNat < 256 := (E[k]'hk).toNat_lt
     have hws := HB2.out.size
     have HW2 := J (World.ownsRow.alloc HO2.out (.cells #[.int .u8 ((E[k]'hk).toNat : Int)] 5))
     clear hcell0
     generalize (E[k]'hk).toNat = y at *
     go_wp2_with (at_builtin; refine wpList_append_own_at _ rfl (.tmp 41) (.tmp 46) 22 rfl W0.heap.size 5 i0 (.int .u8 0) 1 1 Tryz.underlying22 hi hz0 hz1 hz2 rfl (by decide) _ _ _ rfl HW2.out ⟨wr.heap.size, 0, none⟩ 1 1 [.int .u8 (y : Int)] rfl rfl ?p1b ?p2b ?p3b ?p4b ?p5b ?_)
     try case p1b => exact news_one _ _ _ (by simp)
     try case p2b => first | rfl | (intro u hu; simp at hu; subst hu; rfl)
     try case p3b => first | (simp only [maxLen]; omega) | omega
     try case p4b => omega
     try case p5b => first | (simp only [World.size_alloc]; omega) | omega
     intro v' w3 hown' hg' _ he
     have HN := J (HNx.out v' w3 hown' hg')
     clear hown' hg' he hcell
     go_wp2_with fail
     go_roundw
     case rel => exact HN.out
     case measure => simp [intOf]
  ·have hr0 : 0 < r := by omega
   have hne : (-(r : Int) != 0) = true := by simp only [bne_iff_ne, ne_eq]; omega
   have hws := HB.out.size
   have HNx := J (fun v' w3 h1 h2 => DigTo.next (o := .cells #[.int .u8 ((48 + r % 10 : Nat) : Int)] 5) (v' := v') (w3 := w3) hr0 hru HU20.out HD.out HO.out HB.out h1 h2)
   have HW := J (World.ownsRow.alloc HO.out (.cells #[.int .u8 ((48 + r % 10 : Nat) : Int)] 5))
   obtain ⟨x, hx⟩ : ∃ x, r % 10 = x := ⟨_, rfl⟩
   obtain ⟨q, hq⟩ : ∃ q, r / 10 = q := ⟨_, rfl⟩
   have hmt : (-(r : Int)).tmod 10 = -(x : Int) := by rw [Int.neg_tmod, Int.tmod_eq_emod_of_nonneg (by omega)]; omega
   have hdt : (-(r : Int)).tdiv 10 = -(q : Int) := by rw [Int.neg_tdiv, Int.tdiv_eq_ediv_of_nonneg (by omega)]; omega
   have hmu : (r : Int).tmod 10 = (x : Int) := by rw [Int.tmod_eq_emod_of_nonneg (by omega)]; omega
   have hdu : (r : Int).tdiv 10 = (q : Int) := by rw [Int.tdiv_eq_ediv_of_nonneg (by omega)]; omega
   have hx10 : x < 10 := by omega
   have hqr : q < r := by omega
   rw [hx, hq] at HNx
   rw [hx] at HW
   have hcast : ((48 + x : Nat) : Int) = 48 + (x : Int) := by omega
   rw [hcast] at HW HNx
   clear hx hq
   by_cases hx0 : x = 0
   ·subst hx0
    rw [show -((0 : Nat) : Int) = 0 from rfl] at hmt
    simp only [Int.natCast_zero, Int.add_zero] at HW HNx
    go_wp2_with (at_builtin; refine wpList_append_own_at _ rfl (.tmp 22) (.tmp 26) 22 rfl w.heap.size 5 i0 (.int .u8 0) 1 1 Tryz.underlying22 hi hz0 hz1 hz2 rfl (by decide) _ _ _ rfl HW.out ⟨wr.heap.size, 0, none⟩ 1 1 [.int .u8 48] rfl rfl ?p1a ?p2a ?p3a ?p4a ?p5a ?_)
    try case p1a => exact news_one _ _ _ (by simp)
    try case p2a => first | rfl | (intro u hu; simp at hu; subst hu; rfl)
    try case p3a => first | (simp only [maxLen]; omega) | omega
    try case p4a => omega
    try case p5a => first | (simp only [World.size_alloc]; omega) | omega
    intro v' w3 hown' hg' _ he
    obtain ⟨r2, D2, e2, rest⟩ := HNx.out v' w3 hown' hg'
    have HN := J (show DigToN u w v' (.int .i64 (-(q : Int))) w3 from ⟨q, rfl, r2, D2, e2, rest⟩)
    clear hown' hg' he
    go_wp2_with fail
    go_roundw
    case rel => exact HN.out
    case measure => simp [intOf]; omega
   ·have hxn : -(x : Int) < 0 := by omega
    have hxp : (0 : Int) < (x : Int) := by omega
    go_wp2_with (at_builtin; refine wpList_append_own_at _ rfl (.tmp 22) (.tmp 26) 22 rfl w.heap.size 5 i0 (.int .u8 0) 1 1 Tryz.underlying22 hi hz0 hz1 hz2 rfl (by decide) _ _ _ rfl HW.out ⟨wr.heap.size, 0, none⟩ 1 1 [.int .u8 (48 + (x : Int))] rfl rfl ?p1a ?p2a ?p3a ?p4a ?p5a ?_)
    try case p1a => exact news_one _ _ _ (by simp)
    try case p2a => first | rfl | (intro u hu; simp at hu; subst hu; rfl)
    try case p3a => first | (simp only [maxLen]; omega) | omega
    try case p4a => omega
    try case p5a => first | (simp only [World.size_alloc]; omega) | omega
    intro v' w3 hown' hg' _ he
    obtain ⟨r2, D2, e2, rest⟩ := HNx.out v' w3 hown' hg'
    have HN := J (show DigToN u w v' (.int .i64 (-(q : Int))) w3 from ⟨q, rfl, r2, D2, e2, rest⟩)
    clear hown' hg' he
    go_wp2_with fail
    go_roundw
    case rel => exact HN.out
    case measure => simp [intOf]; omega
theorem decimalZ_any (v : Int) (h1 : -9223372036854775807 ≤ v) (h2 : v ≤ 9223372036854775807) (B : Nat) (w : World) (hp : Pow B w) (hB : B ≤ w.heap.size) : Calls Tryz.prog 15 #[.int .i64 v] w fun e w' => e = .returned (.string (tx (Lib.itoa v))) ∧ Below w.heap.size w w' := by
 have HC := J (Any.strconv_FormatInt_10 YtgipnbeipfhekaaGreatDoor.lays173 v (by omega) (by omega) w (Lib.TabBelow.here hp))
 clear hp
 go_enter Tryz.func15, Tryz.ntmps15
 go_wp2_with fail
 refine HC.out.mono ?_
 rintro e w' ⟨rfl, k, os, rfl⟩
 have hb := J (below_grow _ w k os (Nat.le_refl _))
 go_wp2
 go_ret
 exact ⟨rfl, hb.out⟩
end Dec
namespace LabD
open Go.RowKit Base Mem Dec LabM Str Take StTx YtgipnbeipfhekaaGreatDoor.Src Blk Draw
def gdB (n : Nat) (t : ByteArray) : Bool := decide (t.size ≤ n) && t.data.toList.all fun x => x != 10
theorem gdB_true {n : Nat} {t : ByteArray} (h : gdB n t = true) : Gd n t := by
 unfold gdB at h
 rw [Bool.and_eq_true, decide_eq_true_eq, List.all_eq_true] at h
 exact ⟨h.1, fun x hx e => by have := h.2 x hx; rw [e] at this; simp at this⟩
theorem getD_gd {n : Nat} {ss : List ByteArray} (h : ss.all (gdB n) = true) (i : Nat) (hi : i < ss.length) : Gd n (ss.getD i ByteArray.empty) := by
 rw [List.getD_eq_getElem?_getD, List.getElem?_eq_getElem hi]
 exact gdB_true (List.all_eq_true.1 h _ (List.getElem_mem hi))
theorem lit_good (p K n m : Nat) (ss : List ByteArray) (cs : Array Value) (w : World) (h : Src w p K) (hK : K ≤ 1000000000000) (hcs : cs = (ss.map Value.string).toArray) (hm : ss.length = m) (h1 : 1 ≤ m) (hm2 : m ≤ 1000) (hg : ss.all (gdB n) = true) :
  Calls Tryz.prog 110 #[.pointer (some ⟨p, 0, none⟩), .slice (some ⟨w.heap.size, 0, none⟩) m m] (w.alloc (.cells cs 9)) (PickT p (K + 2) n w) := by
 subst hm hcs
 have hp := h.lt
 have hb : Below w.heap.size w (w.alloc (.cells (ss.map Value.string).toArray 9)) := (Below.refl _ _).alloc (Nat.le_refl _) _
 refine (text_good p K w.heap.size 0 ss.length n ss _ (h.below hb) hK (by omega) (by simp) h1 (by omega) (fun i hi => ?_) (getD_gd hg)).mono fun e w' ⟨t, h1, h2, h3, h4⟩ => ⟨t, h1, h2, h3, ?_⟩
 ·rw [Nat.zero_add]
  simp [hi, List.getD]
 ·exact ((World.grownBy_alloc w _ (some p)).trans h4)
structure NamesAt (w : World) (b p : Nat) : Prop where
 ex : ∃ (A : Option Addr) (n c : Nat) (ss : List ByteArray), w.cell? ⟨b, 0, none⟩ = some (.slice A n c) ∧ b ≠ p ∧ b < w.heap.size ∧ n ≤ 6 ∧ ss.length = n ∧ (∀ i, i < ss.length → Gd 10 (ss.getD i ByteArray.empty)) ∧
  (0 < n → ∃ g off, A = some ⟨g, off, none⟩ ∧ g ≠ p ∧ g < w.heap.size ∧ ∀ i, i < n → w.cell? ⟨g, off + i, none⟩ = some (.string (ss.getD i ByteArray.empty)))
theorem NamesAt.beside {w w' : World} {b p : Nat} (h : NamesAt w b p) (hg : Beside p w w') : NamesAt w' b p := by
 obtain ⟨A, n, c, ss, h0, hne, hlt, h6, hl, hgd, hr⟩ := h.ex
 refine ⟨A, n, c, ss, (World.cell?_of_block (a := ⟨b, 0, none⟩) (hg.same b hlt hne)).trans h0, hne, Nat.lt_of_lt_of_le hlt hg.size, h6, hl, hgd, fun h0 => ?_⟩
 obtain ⟨g, off, e, hgp, hgl, hc⟩ := hr h0
 exact ⟨g, off, e, hgp, Nat.lt_of_lt_of_le hgl hg.size, fun i hi => (World.cell?_of_block (a := ⟨g, off + i, none⟩) (hg.same g hgl hgp)).trans (hc i hi)⟩
theorem Gd.neg1 : Gd 10 (tx (45 :: Lib.decDigits 1)) := by
 rw [Lib.decDigits_one (by decide)]
 exact gdB_true (by decide +kernel)
def DecRet (w : World) (e : Ending) (w' : World) : Prop := ∃ t : ByteArray, Gd 10 t ∧ e = .returned (.string t) ∧ Below w.heap.size w w'
theorem dec_good (v : Int) (h1 : -1 ≤ v) (h2 : v < 10 ^ 10) (w : World) : Calls Tryz.prog 114 #[.int .i64 v] w (DecRet w) := by
 by_cases h : v < 0
 ·obtain rfl : v = -((1 : Nat) : Int) := by omega
  exact (l01Dec_neg 1 (by decide) (by decide) w).mono fun e w' ⟨he, hb⟩ => ⟨_, Gd.neg1, he, hb⟩
 ·obtain ⟨u, rfl⟩ := Int.eq_ofNat_of_zero_le (by omega : 0 ≤ v)
  exact (l01Dec_any u (by omega) w).mono fun e w' ⟨he, hb⟩ => ⟨_, Gd.dec (by omega), he, hb⟩
theorem add_good {n m : Nat} {a b : ByteArray} (ga : Gd n a) (gb : Gd m b) (h : n + m ≤ 1000) : ∃ c, Gd (n + m) c ∧ ∀ w : World, (Op.stringOp .add a b).run Tryz.prog w = .ok (.string c) w :=
 ⟨a ++ b, ga.app gb, fun w => strAddS rfl (by have := ga.1; have := gb.1; omega) w⟩
theorem dec_no (u : Nat) : ∀ x ∈ Lib.decDigits u, x ≠ 10 := by
 induction u using Nat.strongRecOn with
 | _ u ih =>
  intro x hx e
  rw [Lib.decDigits] at hx
  by_cases h10 : u < 10
  ·rw [dif_pos h10] at hx
   have h2 := List.mem_singleton.1 hx
   rw [e] at h2
   have h3 := congrArg UInt8.toNat h2
   rw [byte_small (by omega)] at h3
   have : (10 : UInt8).toNat = 10 := rfl
   omega
  ·rw [dif_neg h10] at hx
   rcases List.mem_append.1 hx with h | h
   ·exact ih (u / 10) (by omega) x h e
   ·have h2 := List.mem_singleton.1 h
    rw [e] at h2
    have h3 := congrArg UInt8.toNat h2
    rw [byte_small (by omega)] at h3
    have : (10 : UInt8).toNat = 10 := rfl
    omega
theorem join_no {l : List UInt8} {xs : List Int} (hl : ∀ x ∈ l, x ≠ 10) : ∀ i, ∀ x ∈ joinTo l xs i, x ≠ 10
 | 0, x, hx => hl x hx
 | i + 1, x, hx => by
  rw [joinTo] at hx
  rcases List.mem_append.1 hx with h | h
  ·exact join_no hl i x h
  ·rcases List.mem_append.1 h with h | h
   ·rw [List.mem_singleton.1 h]; decide
   ·exact dec_no _ x h
theorem text_bytes {K W T m f a s : Int} (hB : streamB K W T m f a s = true) : Gd 60 (tx (textS K W T m f a s)) := by
 refine ⟨?_, fun x hx => ?_⟩
 ·rw [size_tx]
  rcases streamB_true hB with ⟨hK, hR⟩ | ⟨hK, hC⟩
  ·have := joinTo_len (fit3 hR) [114] 3 (by simp)
   unfold textS; rw [if_pos hK]; simp at this; omega
  ·have := joinTo_len (fit4 hC) [99] 4 (by simp)
   unfold textS; rw [if_neg (by omega)]; simp at this; omega
 ·rw [list_tx] at hx
  unfold textS at hx
  split at hx
  ·exact join_no (fun x hx => by rw [List.mem_singleton.1 hx]; decide) _ x hx
  ·exact join_no (fun x hx => by rw [List.mem_singleton.1 hx]; decide) _ x hx
def LRet (p K : Nat) (w : World) (e : Ending) (w' : World) : Prop := ∃ t : ByteArray, Gd 300 t ∧ e = .returned (.string t) ∧ Src w' p K ∧ Beside p w w'
theorem drawLine_any (p K b : Nat) (w : World) (h : Src w p K) (hK : K ≤ 1000000) (hn : NamesAt w b p) :
  Calls Tryz.prog 61 #[.pointer (some ⟨p, 0, none⟩), .pointer (some ⟨b, 0, none⟩)] w (LRet p (K + 100) w) := by
 have HS0 := J h
 have HN0 := J hn
 have HR := J (fun (t : ByteArray) (w' : World) L (hg : Gd 300 t) (hL : L ≤ K + 100) (hs : Src w' p L) (hb : Beside p w w') => (show LRet p (K + 100) w (.returned (.string t)) w' from ⟨t, hg, rfl, hs.more hL, hb⟩))
 clear h hn
 go_enter Tryz.func61, Tryz.ntmps61
 go_wp2_with fail
 refine (lit_good p K 10 4 [⟨#[97]⟩, ⟨#[98]⟩, ⟨#[110, 105, 120]⟩, ⟨#[]⟩] _ w HS0.out (by omega) rfl rfl (by decide) (by decide) (by decide +kernel)).mono ?_
 rintro e w1 ⟨t1, g1, rfl, s1, gr1⟩
 have HS1 := J s1
 have HB1 := J (Beside.grown gr1)
 have HG1 := J g1
 have HN1 := J (HN0.out.beside HB1.out)
 clear s1 gr1 g1
 obtain ⟨A, n, c, ss, h0, hne, hlt, h6, hl, hgd, hr⟩ := HN1.out.ex
 have HGD := J hgd
 have HRR := J hr
 have HLL := J hl
 clear hgd hr hl
 by_cases hn : n = 0
 ·subst hn
  clear HRR HLL HGD
  go_wp2_with fail
  clear h0 hne hlt h6
  refine (lit_good p (K + 2) 10 6 [⟨#[97]⟩, ⟨#[98]⟩, ⟨#[110, 101, 119]⟩, ⟨#[120]⟩, ⟨#[99, 111, 105, 110]⟩, ⟨#[81]⟩] _ w1 (HS1).out (by omega) rfl rfl (by decide) (by decide) (by decide +kernel)).mono ?_
  rintro e w4 ⟨fr, gf, rfl, s4, gr4⟩
  have HS4 := J s4
  have HB4 := J ((HB1).out.trans (Beside.grown gr4))
  clear s4 gr4
  go_wp2_with fail
  refine (pick_any p _ 7 w4 HS4.out (by omega)).mono ?_
  rintro e w5 ⟨r0, rfl, hr0, s5, gr5⟩
  have HS5 := J s5
  have HB5 := J (HB4.out.trans (Beside.grown gr5))
  clear s5 gr5
  have hr7 : r0 = 0 ∨ r0 = 1 ∨ r0 = 2 ∨ r0 = 3 ∨ r0 = 4 ∨ r0 = 5 ∨ r0 = 6 := by omega
  clear hr0
  rcases hr7 with rfl | rfl | rfl | rfl | rfl | rfl | rfl
  ·go_wp2_with fail
   refine (lit_good p _ 40 14 [⟨#[]⟩, ⟨#[119, 104, 97, 116]⟩, ⟨#[115, 101, 116]⟩, ⟨#[115, 101, 116, 32, 97]⟩, ⟨#[115, 101, 116, 32, 97, 32, 114, 58, 51, 58, 51, 58, 56]⟩, ⟨#[98, 105, 116, 115, 32, 97]⟩, ⟨#[98, 105, 116, 115, 32, 97, 32, 120]⟩, ⟨#[99, 111, 112, 121, 32, 97]⟩, ⟨#[100, 114, 111, 112]⟩, ⟨#[115, 104, 111, 119]⟩, ⟨#[99, 121, 99, 108, 101]⟩, ⟨#[114, 111, 108, 108, 32, 97, 32, 48]⟩, ⟨#[98, 105, 116, 115, 32, 32, 97, 32, 51]⟩, ⟨#[99, 97, 114, 100, 115, 32, 97, 32, 49, 51]⟩] _ w5 HS5.out (by omega) rfl rfl (by decide) (by decide) (by decide +kernel)).mono ?_
   rintro e w6 ⟨t, gt, rfl, sw6, grw6⟩
   have HRET := J (HR.out _ w6 _ (gt.more (by decide)) (by omega) sw6 (HB5.out.trans (Beside.grown grw6)))
   clear sw6 grw6
   go_wp2
   go_ret
   exact HRET.out
  ·go_wp2_with fail
   refine (l11DrawOk_any p _ w5 HS5.out (by omega)).mono ?_
   rintro e w6 ⟨C, V, T, m, f, a, s, hB, rfl, s6, bs6⟩
   obtain ⟨W6, hW6⟩ : ∃ V', V' = w6.alloc (.cells #[.int .i64 C, .int .i64 V, .int .i64 T, .int .i64 m, .int .i64 f, .int .i64 a, .int .i64 s] 29) := ⟨_, rfl⟩
   have x6 : Below w6.heap.size w6 W6 := by rw [hW6]; exact (Below.refl _ _).alloc (Nat.le_refl _) _
   have HT := J (l11Text_any w6.heap.size C V T m f a s W6 (by rw [hW6]; exact SBox.new _ _ _ _ _ _ _ _) hB)
   have HS6 := J (s6.below x6)
   have HB6 := J (HB5.out.trans (bs6.trans (Beside.ofBelow x6)))
   have GT := J (text_bytes hB)
   have HW6 := J hW6
   obtain ⟨c1, gc1, hc1⟩ := add_good (gdB_true (n := 4) (t := ⟨#[115, 101, 116, 32]⟩) (by decide +kernel)) (gf) (by decide)
   obtain ⟨c2, gc2, hc2⟩ := add_good (gc1) (gdB_true (n := 1) (t := ⟨#[32]⟩) (by decide +kernel)) (by decide)
   generalize tx (textS C V T m f a s) = tt at *
   clear hW6 x6 s6 bs6 hB
   go_wp2_with fail
   rw [← HW6.out]
   refine HT.out.mono ?_
   rintro e w7 ⟨rfl, b7⟩
   obtain ⟨c3, gc3, hc3⟩ := add_good (gc2) (GT.out) (by decide)
   have HS7 := J (HS6.out.below b7)
   have HB7 := J (HB6.out.trans (Beside.ofBelow b7))
   have HRET := J (HR.out _ w7 _ (gc3.more (by decide)) (by omega) HS7.out (HB7.out))
   clear b7
   go_wp2
   go_ret
   exact HRET.out
  ·obtain ⟨c1, gc1, hc1⟩ := add_good (gdB_true (n := 5) (t := ⟨#[99, 111, 112, 121, 32]⟩) (by decide +kernel)) (gf) (by decide)
   obtain ⟨c2, gc2, hc2⟩ := add_good (gc1) (gdB_true (n := 1) (t := ⟨#[32]⟩) (by decide +kernel)) (by decide)
   obtain ⟨c3, gc3, hc3⟩ := add_good (gc2) ((HG1).out) (by decide)
   have HRET := J (HR.out _ w5 _ (gc3.more (by decide)) (by omega) HS5.out (HB5.out))
   go_wp2
   go_ret
   exact HRET.out
  ·go_wp2_with fail
   refine (lit_good p _ 10 5 [⟨#[115, 104, 111, 119, 32]⟩, ⟨#[99, 121, 99, 108, 101, 32]⟩, ⟨#[100, 114, 111, 112, 32]⟩, ⟨#[115, 104, 111, 119, 32]⟩, ⟨#[99, 121, 99, 108, 101, 32]⟩] _ w5 HS5.out (by omega) rfl rfl (by decide) (by decide) (by decide +kernel)).mono ?_
   rintro e w6 ⟨t, gt, rfl, sw6, grw6⟩
   obtain ⟨c1, gc1, hc1⟩ := add_good (gt) ((HG1).out) (by decide)
   have HRET := J (HR.out _ w6 _ (gc1.more (by decide)) (by omega) sw6 (HB5.out.trans (Beside.grown grw6)))
   clear sw6 grw6
   go_wp2
   go_ret
   exact HRET.out
  ·obtain ⟨c1, gc1, hc1⟩ := add_good (gdB_true (n := 5) (t := ⟨#[98, 105, 116, 115, 32]⟩) (by decide +kernel)) ((HG1).out) (by decide)
   obtain ⟨c2, gc2, hc2⟩ := add_good (gc1) (gdB_true (n := 1) (t := ⟨#[32]⟩) (by decide +kernel)) (by decide)
   go_wp2_with fail
   refine (pick_any p _ 30 w5 HS5.out (by omega)).mono ?_
   rintro e w6 ⟨r2, rfl, hr2, sw6, grw6⟩
   have HSw6 := J sw6
   have HBw6 := J (HB5.out.trans (Beside.grown grw6))
   clear sw6 grw6
   go_wp2_with fail
   refine (dec_good ((r2 : Int) - 1) (by omega) (by omega) w6).mono ?_
   rintro e w8 ⟨td, gd, rfl, b8⟩
   obtain ⟨cd, gcd, hcd⟩ := add_good (gc2) (gd) (by decide)
   have HS8 := J (HSw6.out.below b8)
   have HB8 := J (HBw6.out.trans (Beside.ofBelow b8))
   have HRET := J (HR.out _ w8 _ (gcd.more (by decide)) (by omega) HS8.out (HB8.out))
   clear b8
   go_wp2
   go_ret
   exact HRET.out
  ·obtain ⟨c1, gc1, hc1⟩ := add_good (gdB_true (n := 5) (t := ⟨#[115, 107, 105, 112, 32]⟩) (by decide +kernel)) ((HG1).out) (by decide)
   obtain ⟨c2, gc2, hc2⟩ := add_good (gc1) (gdB_true (n := 1) (t := ⟨#[32]⟩) (by decide +kernel)) (by decide)
   go_wp2_with fail
   refine (pick_any p _ 60000 w5 HS5.out (by omega)).mono ?_
   rintro e w6 ⟨r2, rfl, hr2, sw6, grw6⟩
   have HSw6 := J sw6
   have HBw6 := J (HB5.out.trans (Beside.grown grw6))
   clear sw6 grw6
   go_wp2_with fail
   refine (pick_any p _ 60000 w6 HSw6.out (by omega)).mono ?_
   rintro e w7 ⟨r3, rfl, hr3, sw7, grw7⟩
   have HSw7 := J sw7
   have HBw7 := J (HBw6.out.trans (Beside.grown grw7))
   clear sw7 grw7
   have hpl : r2 * r3 ≤ 60000 * 60000 := Nat.mul_le_mul (by omega) (by omega)
   have hpw : wrap64 ((r2 : Int) * (r3 : Int)) = ((r2 * r3 : Nat) : Int) := by
    rw [show (r2 : Int) * (r3 : Int) = ((r2 * r3 : Nat) : Int) by simp]
    generalize r2 * r3 = z at *
    simp only [wrap64]; omega
   obtain ⟨z, hz⟩ : ∃ z, z = r2 * r3 := ⟨_, rfl⟩
   rw [← hz] at hpw hpl
   clear hz
   go_wp2_with fail
   refine (dec_good (z : Int) (by omega) (by omega) w7).mono ?_
   rintro e w8 ⟨td, gd, rfl, b8⟩
   obtain ⟨cd, gcd, hcd⟩ := add_good (gc2) (gd) (by decide)
   have HS8 := J (HSw7.out.below b8)
   have HB8 := J (HBw7.out.trans (Beside.ofBelow b8))
   have HRET := J (HR.out _ w8 _ (gcd.more (by decide)) (by omega) HS8.out (HB8.out))
   clear b8
   go_wp2
   go_ret
   exact HRET.out
  ·go_wp2_with fail
   refine (lit_good p _ 10 3 [⟨#[114, 111, 108, 108, 32]⟩, ⟨#[99, 97, 114, 100, 115, 32]⟩, ⟨#[108, 101, 118, 101, 108, 115, 32]⟩] _ w5 HS5.out (by omega) rfl rfl (by decide) (by decide) (by decide +kernel)).mono ?_
   rintro e w6 ⟨t, gt, rfl, sw6, grw6⟩
   have HS6 := J sw6
   have HB6 := J (HB5.out.trans (Beside.grown grw6))
   clear sw6 grw6
   obtain ⟨c1, gc1, hc1⟩ := add_good (gt) ((HG1).out) (by decide)
   obtain ⟨c2, gc2, hc2⟩ := add_good (gc1) (gdB_true (n := 1) (t := ⟨#[32]⟩) (by decide +kernel)) (by decide)
   go_wp2_with fail
   refine (pick_any p _ 18 w6 HS6.out (by omega)).mono ?_
   rintro e w7 ⟨r2, rfl, hr2, sw7, grw7⟩
   have HSw7 := J sw7
   have HBw7 := J (HB6.out.trans (Beside.grown grw7))
   clear sw7 grw7
   go_wp2_with fail
   refine (dec_good ((r2 : Int) - 1) (by omega) (by omega) w7).mono ?_
   rintro e w8 ⟨td, gd, rfl, b8⟩
   obtain ⟨cd, gcd, hcd⟩ := add_good (gc2) (gd) (by decide)
   have HS8 := J (HSw7.out.below b8)
   have HB8 := J (HBw7.out.trans (Beside.ofBelow b8))
   have HRET := J (HR.out _ w8 _ (gcd.more (by decide)) (by omega) HS8.out (HB8.out))
   clear b8
   go_wp2
   go_ret
   exact HRET.out
 ·have hn1 : (0 : Int) < (n : Int) := by omega
  go_wp2_with fail
  refine (one_any p _ 6 w1 HS1.out (by omega)).mono ?_
  rintro e w2 ⟨r, rfl, s2, gr2⟩
  have HS2 := J s2
  have HB2 := J (HB1.out.trans (Beside.grown gr2))
  have h02 : w2.cell? ⟨b, 0, none⟩ = some (.slice A n c) := (World.cell?_of_block (a := ⟨b, 0, none⟩) (gr2.block b hlt fun e => hne (Option.some.inj e))).trans h0
  obtain ⟨g, off, hA, hgp, hgl, hc⟩ := HRR.out (by omega)
  have HC2 := J (fun i (hi : i < n) => (World.cell?_of_block (a := ⟨g, off + i, none⟩) (gr2.block g hgl fun e => hgp (Option.some.inj e))).trans (hc i hi))
  have hg2 : g < w2.heap.size := Nat.lt_of_lt_of_le hgl gr2.size
  subst hA
  clear s2 gr2 h0 hc HRR
  cases r with
  | true =>
   clear HC2 HLL HGD
   go_wp2_with fail
   clear h02 hne hlt h6 hn1 hn hgp hgl hg2
   refine (lit_good p (K + 2 + 2) 10 6 [⟨#[97]⟩, ⟨#[98]⟩, ⟨#[110, 101, 119]⟩, ⟨#[120]⟩, ⟨#[99, 111, 105, 110]⟩, ⟨#[81]⟩] _ w2 (HS2).out (by omega) rfl rfl (by decide) (by decide) (by decide +kernel)).mono ?_
   rintro e w4 ⟨fr, gf, rfl, s4, gr4⟩
   have HS4 := J s4
   have HB4 := J ((HB2).out.trans (Beside.grown gr4))
   clear s4 gr4
   go_wp2_with fail
   refine (pick_any p _ 7 w4 HS4.out (by omega)).mono ?_
   rintro e w5 ⟨r0, rfl, hr0, s5, gr5⟩
   have HS5 := J s5
   have HB5 := J (HB4.out.trans (Beside.grown gr5))
   clear s5 gr5
   have hr7 : r0 = 0 ∨ r0 = 1 ∨ r0 = 2 ∨ r0 = 3 ∨ r0 = 4 ∨ r0 = 5 ∨ r0 = 6 := by omega
   clear hr0
   rcases hr7 with rfl | rfl | rfl | rfl | rfl | rfl | rfl
   ·go_wp2_with fail
    refine (lit_good p _ 40 14 [⟨#[]⟩, ⟨#[119, 104, 97, 116]⟩, ⟨#[115, 101, 116]⟩, ⟨#[115, 101, 116, 32, 97]⟩, ⟨#[115, 101, 116, 32, 97, 32, 114, 58, 51, 58, 51, 58, 56]⟩, ⟨#[98, 105, 116, 115, 32, 97]⟩, ⟨#[98, 105, 116, 115, 32, 97, 32, 120]⟩, ⟨#[99, 111, 112, 121, 32, 97]⟩, ⟨#[100, 114, 111, 112]⟩, ⟨#[115, 104, 111, 119]⟩, ⟨#[99, 121, 99, 108, 101]⟩, ⟨#[114, 111, 108, 108, 32, 97, 32, 48]⟩, ⟨#[98, 105, 116, 115, 32, 32, 97, 32, 51]⟩, ⟨#[99, 97, 114, 100, 115, 32, 97, 32, 49, 51]⟩] _ w5 HS5.out (by omega) rfl rfl (by decide) (by decide) (by decide +kernel)).mono ?_
    rintro e w6 ⟨t, gt, rfl, sw6, grw6⟩
    have HRET := J (HR.out _ w6 _ (gt.more (by decide)) (by omega) sw6 (HB5.out.trans (Beside.grown grw6)))
    clear sw6 grw6
    go_wp2
    go_ret
    exact HRET.out
   ·go_wp2_with fail
    refine (l11DrawOk_any p _ w5 HS5.out (by omega)).mono ?_
    rintro e w6 ⟨C, V, T, m, f, a, s, hB, rfl, s6, bs6⟩
    obtain ⟨W6, hW6⟩ : ∃ V', V' = w6.alloc (.cells #[.int .i64 C, .int .i64 V, .int .i64 T, .int .i64 m, .int .i64 f, .int .i64 a, .int .i64 s] 29) := ⟨_, rfl⟩
    have x6 : Below w6.heap.size w6 W6 := by rw [hW6]; exact (Below.refl _ _).alloc (Nat.le_refl _) _
    have HT := J (l11Text_any w6.heap.size C V T m f a s W6 (by rw [hW6]; exact SBox.new _ _ _ _ _ _ _ _) hB)
    have HS6 := J (s6.below x6)
    have HB6 := J (HB5.out.trans (bs6.trans (Beside.ofBelow x6)))
    have GT := J (text_bytes hB)
    have HW6 := J hW6
    obtain ⟨c1, gc1, hc1⟩ := add_good (gdB_true (n := 4) (t := ⟨#[115, 101, 116, 32]⟩) (by decide +kernel)) (gf) (by decide)
    obtain ⟨c2, gc2, hc2⟩ := add_good (gc1) (gdB_true (n := 1) (t := ⟨#[32]⟩) (by decide +kernel)) (by decide)
    generalize tx (textS C V T m f a s) = tt at *
    clear hW6 x6 s6 bs6 hB
    go_wp2_with fail
    rw [← HW6.out]
    refine HT.out.mono ?_
    rintro e w7 ⟨rfl, b7⟩
    obtain ⟨c3, gc3, hc3⟩ := add_good (gc2) (GT.out) (by decide)
    have HS7 := J (HS6.out.below b7)
    have HB7 := J (HB6.out.trans (Beside.ofBelow b7))
    have HRET := J (HR.out _ w7 _ (gc3.more (by decide)) (by omega) HS7.out (HB7.out))
    clear b7
    go_wp2
    go_ret
    exact HRET.out
   ·obtain ⟨c1, gc1, hc1⟩ := add_good (gdB_true (n := 5) (t := ⟨#[99, 111, 112, 121, 32]⟩) (by decide +kernel)) (gf) (by decide)
    obtain ⟨c2, gc2, hc2⟩ := add_good (gc1) (gdB_true (n := 1) (t := ⟨#[32]⟩) (by decide +kernel)) (by decide)
    obtain ⟨c3, gc3, hc3⟩ := add_good (gc2) ((HG1).out) (by decide)
    have HRET := J (HR.out _ w5 _ (gc3.more (by decide)) (by omega) HS5.out (HB5.out))
    go_wp2
    go_ret
    exact HRET.out
   ·go_wp2_with fail
    refine (lit_good p _ 10 5 [⟨#[115, 104, 111, 119, 32]⟩, ⟨#[99, 121, 99, 108, 101, 32]⟩, ⟨#[100, 114, 111, 112, 32]⟩, ⟨#[115, 104, 111, 119, 32]⟩, ⟨#[99, 121, 99, 108, 101, 32]⟩] _ w5 HS5.out (by omega) rfl rfl (by decide) (by decide) (by decide +kernel)).mono ?_
    rintro e w6 ⟨t, gt, rfl, sw6, grw6⟩
    obtain ⟨c1, gc1, hc1⟩ := add_good (gt) ((HG1).out) (by decide)
    have HRET := J (HR.out _ w6 _ (gc1.more (by decide)) (by omega) sw6 (HB5.out.trans (Beside.grown grw6)))
    clear sw6 grw6
    go_wp2
    go_ret
    exact HRET.out
   ·obtain ⟨c1, gc1, hc1⟩ := add_good (gdB_true (n := 5) (t := ⟨#[98, 105, 116, 115, 32]⟩) (by decide +kernel)) ((HG1).out) (by decide)
    obtain ⟨c2, gc2, hc2⟩ := add_good (gc1) (gdB_true (n := 1) (t := ⟨#[32]⟩) (by decide +kernel)) (by decide)
    go_wp2_with fail
    refine (pick_any p _ 30 w5 HS5.out (by omega)).mono ?_
    rintro e w6 ⟨r2, rfl, hr2, sw6, grw6⟩
    have HSw6 := J sw6
    have HBw6 := J (HB5.out.trans (Beside.grown grw6))
    clear sw6 grw6
    go_wp2_with fail
    refine (dec_good ((r2 : Int) - 1) (by omega) (by omega) w6).mono ?_
    rintro e w8 ⟨td, gd, rfl, b8⟩
    obtain ⟨cd, gcd, hcd⟩ := add_good (gc2) (gd) (by decide)
    have HS8 := J (HSw6.out.below b8)
    have HB8 := J (HBw6.out.trans (Beside.ofBelow b8))
    have HRET := J (HR.out _ w8 _ (gcd.more (by decide)) (by omega) HS8.out (HB8.out))
    clear b8
    go_wp2
    go_ret
    exact HRET.out
   ·obtain ⟨c1, gc1, hc1⟩ := add_good (gdB_true (n := 5) (t := ⟨#[115, 107, 105, 112, 32]⟩) (by decide +kernel)) ((HG1).out) (by decide)
    obtain ⟨c2, gc2, hc2⟩ := add_good (gc1) (gdB_true (n := 1) (t := ⟨#[32]⟩) (by decide +kernel)) (by decide)
    go_wp2_with fail
    refine (pick_any p _ 60000 w5 HS5.out (by omega)).mono ?_
    rintro e w6 ⟨r2, rfl, hr2, sw6, grw6⟩
    have HSw6 := J sw6
    have HBw6 := J (HB5.out.trans (Beside.grown grw6))
    clear sw6 grw6
    go_wp2_with fail
    refine (pick_any p _ 60000 w6 HSw6.out (by omega)).mono ?_
    rintro e w7 ⟨r3, rfl, hr3, sw7, grw7⟩
    have HSw7 := J sw7
    have HBw7 := J (HBw6.out.trans (Beside.grown grw7))
    clear sw7 grw7
    have hpl : r2 * r3 ≤ 60000 * 60000 := Nat.mul_le_mul (by omega) (by omega)
    have hpw : wrap64 ((r2 : Int) * (r3 : Int)) = ((r2 * r3 : Nat) : Int) := by
     rw [show (r2 : Int) * (r3 : Int) = ((r2 * r3 : Nat) : Int) by simp]
     generalize r2 * r3 = z at *
     simp only [wrap64]; omega
    obtain ⟨z, hz⟩ : ∃ z, z = r2 * r3 := ⟨_, rfl⟩
    rw [← hz] at hpw hpl
    clear hz
    go_wp2_with fail
    refine (dec_good (z : Int) (by omega) (by omega) w7).mono ?_
    rintro e w8 ⟨td, gd, rfl, b8⟩
    obtain ⟨cd, gcd, hcd⟩ := add_good (gc2) (gd) (by decide)
    have HS8 := J (HSw7.out.below b8)
    have HB8 := J (HBw7.out.trans (Beside.ofBelow b8))
    have HRET := J (HR.out _ w8 _ (gcd.more (by decide)) (by omega) HS8.out (HB8.out))
    clear b8
    go_wp2
    go_ret
    exact HRET.out
   ·go_wp2_with fail
    refine (lit_good p _ 10 3 [⟨#[114, 111, 108, 108, 32]⟩, ⟨#[99, 97, 114, 100, 115, 32]⟩, ⟨#[108, 101, 118, 101, 108, 115, 32]⟩] _ w5 HS5.out (by omega) rfl rfl (by decide) (by decide) (by decide +kernel)).mono ?_
    rintro e w6 ⟨t, gt, rfl, sw6, grw6⟩
    have HS6 := J sw6
    have HB6 := J (HB5.out.trans (Beside.grown grw6))
    clear sw6 grw6
    obtain ⟨c1, gc1, hc1⟩ := add_good (gt) ((HG1).out) (by decide)
    obtain ⟨c2, gc2, hc2⟩ := add_good (gc1) (gdB_true (n := 1) (t := ⟨#[32]⟩) (by decide +kernel)) (by decide)
    go_wp2_with fail
    refine (pick_any p _ 18 w6 HS6.out (by omega)).mono ?_
    rintro e w7 ⟨r2, rfl, hr2, sw7, grw7⟩
    have HSw7 := J sw7
    have HBw7 := J (HB6.out.trans (Beside.grown grw7))
    clear sw7 grw7
    go_wp2_with fail
    refine (dec_good ((r2 : Int) - 1) (by omega) (by omega) w7).mono ?_
    rintro e w8 ⟨td, gd, rfl, b8⟩
    obtain ⟨cd, gcd, hcd⟩ := add_good (gc2) (gd) (by decide)
    have HS8 := J (HSw7.out.below b8)
    have HB8 := J (HBw7.out.trans (Beside.ofBelow b8))
    have HRET := J (HR.out _ w8 _ (gcd.more (by decide)) (by omega) HS8.out (HB8.out))
    clear b8
    go_wp2
    go_ret
    exact HRET.out
  | false =>
   have HT := J (text_good p _ g off c 10 ss w2 HS2.out (by omega) hgp hg2 (by have := HLL.out; omega) (by have := HLL.out; omega) (fun i hi => HC2.out i (by have := HLL.out; omega)) HGD.out)
   rw [HLL.out] at HT
   clear HC2 HLL HGD
   go_wp2_with fail
   refine HT.out.mono ?_
   rintro e w3 ⟨t3, g3, rfl, s3, gr3⟩
   have HS3 := J s3
   have HB3 := J (HB2.out.trans (Beside.grown gr3))
   have HG3 := J g3
   clear s3 gr3 g3 HT
   clear h02 hne hlt h6 hn1 hn hgp hgl hg2
   go_wp2_with fail
   refine (lit_good p (K + 2 + 2 + 2) 10 6 [⟨#[97]⟩, ⟨#[98]⟩, ⟨#[110, 101, 119]⟩, ⟨#[120]⟩, ⟨#[99, 111, 105, 110]⟩, ⟨#[81]⟩] _ w3 (HS3).out (by omega) rfl rfl (by decide) (by decide) (by decide +kernel)).mono ?_
   rintro e w4 ⟨fr, gf, rfl, s4, gr4⟩
   have HS4 := J s4
   have HB4 := J ((HB3).out.trans (Beside.grown gr4))
   clear s4 gr4
   go_wp2_with fail
   refine (pick_any p _ 7 w4 HS4.out (by omega)).mono ?_
   rintro e w5 ⟨r0, rfl, hr0, s5, gr5⟩
   have HS5 := J s5
   have HB5 := J (HB4.out.trans (Beside.grown gr5))
   clear s5 gr5
   have hr7 : r0 = 0 ∨ r0 = 1 ∨ r0 = 2 ∨ r0 = 3 ∨ r0 = 4 ∨ r0 = 5 ∨ r0 = 6 := by omega
   clear hr0
   rcases hr7 with rfl | rfl | rfl | rfl | rfl | rfl | rfl
   ·go_wp2_with fail
    refine (lit_good p _ 40 14 [⟨#[]⟩, ⟨#[119, 104, 97, 116]⟩, ⟨#[115, 101, 116]⟩, ⟨#[115, 101, 116, 32, 97]⟩, ⟨#[115, 101, 116, 32, 97, 32, 114, 58, 51, 58, 51, 58, 56]⟩, ⟨#[98, 105, 116, 115, 32, 97]⟩, ⟨#[98, 105, 116, 115, 32, 97, 32, 120]⟩, ⟨#[99, 111, 112, 121, 32, 97]⟩, ⟨#[100, 114, 111, 112]⟩, ⟨#[115, 104, 111, 119]⟩, ⟨#[99, 121, 99, 108, 101]⟩, ⟨#[114, 111, 108, 108, 32, 97, 32, 48]⟩, ⟨#[98, 105, 116, 115, 32, 32, 97, 32, 51]⟩, ⟨#[99, 97, 114, 100, 115, 32, 97, 32, 49, 51]⟩] _ w5 HS5.out (by omega) rfl rfl (by decide) (by decide) (by decide +kernel)).mono ?_
    rintro e w6 ⟨t, gt, rfl, sw6, grw6⟩
    have HRET := J (HR.out _ w6 _ (gt.more (by decide)) (by omega) sw6 (HB5.out.trans (Beside.grown grw6)))
    clear sw6 grw6
    go_wp2
    go_ret
    exact HRET.out
   ·go_wp2_with fail
    refine (l11DrawOk_any p _ w5 HS5.out (by omega)).mono ?_
    rintro e w6 ⟨C, V, T, m, f, a, s, hB, rfl, s6, bs6⟩
    obtain ⟨W6, hW6⟩ : ∃ V', V' = w6.alloc (.cells #[.int .i64 C, .int .i64 V, .int .i64 T, .int .i64 m, .int .i64 f, .int .i64 a, .int .i64 s] 29) := ⟨_, rfl⟩
    have x6 : Below w6.heap.size w6 W6 := by rw [hW6]; exact (Below.refl _ _).alloc (Nat.le_refl _) _
    have HT := J (l11Text_any w6.heap.size C V T m f a s W6 (by rw [hW6]; exact SBox.new _ _ _ _ _ _ _ _) hB)
    have HS6 := J (s6.below x6)
    have HB6 := J (HB5.out.trans (bs6.trans (Beside.ofBelow x6)))
    have GT := J (text_bytes hB)
    have HW6 := J hW6
    obtain ⟨c1, gc1, hc1⟩ := add_good (gdB_true (n := 4) (t := ⟨#[115, 101, 116, 32]⟩) (by decide +kernel)) (gf) (by decide)
    obtain ⟨c2, gc2, hc2⟩ := add_good (gc1) (gdB_true (n := 1) (t := ⟨#[32]⟩) (by decide +kernel)) (by decide)
    generalize tx (textS C V T m f a s) = tt at *
    clear hW6 x6 s6 bs6 hB
    go_wp2_with fail
    rw [← HW6.out]
    refine HT.out.mono ?_
    rintro e w7 ⟨rfl, b7⟩
    obtain ⟨c3, gc3, hc3⟩ := add_good (gc2) (GT.out) (by decide)
    have HS7 := J (HS6.out.below b7)
    have HB7 := J (HB6.out.trans (Beside.ofBelow b7))
    have HRET := J (HR.out _ w7 _ (gc3.more (by decide)) (by omega) HS7.out (HB7.out))
    clear b7
    go_wp2
    go_ret
    exact HRET.out
   ·obtain ⟨c1, gc1, hc1⟩ := add_good (gdB_true (n := 5) (t := ⟨#[99, 111, 112, 121, 32]⟩) (by decide +kernel)) (gf) (by decide)
    obtain ⟨c2, gc2, hc2⟩ := add_good (gc1) (gdB_true (n := 1) (t := ⟨#[32]⟩) (by decide +kernel)) (by decide)
    obtain ⟨c3, gc3, hc3⟩ := add_good (gc2) ((HG3).out) (by decide)
    have HRET := J (HR.out _ w5 _ (gc3.more (by decide)) (by omega) HS5.out (HB5.out))
    go_wp2
    go_ret
    exact HRET.out
   ·go_wp2_with fail
    refine (lit_good p _ 10 5 [⟨#[115, 104, 111, 119, 32]⟩, ⟨#[99, 121, 99, 108, 101, 32]⟩, ⟨#[100, 114, 111, 112, 32]⟩, ⟨#[115, 104, 111, 119, 32]⟩, ⟨#[99, 121, 99, 108, 101, 32]⟩] _ w5 HS5.out (by omega) rfl rfl (by decide) (by decide) (by decide +kernel)).mono ?_
    rintro e w6 ⟨t, gt, rfl, sw6, grw6⟩
    obtain ⟨c1, gc1, hc1⟩ := add_good (gt) ((HG3).out) (by decide)
    have HRET := J (HR.out _ w6 _ (gc1.more (by decide)) (by omega) sw6 (HB5.out.trans (Beside.grown grw6)))
    clear sw6 grw6
    go_wp2
    go_ret
    exact HRET.out
   ·obtain ⟨c1, gc1, hc1⟩ := add_good (gdB_true (n := 5) (t := ⟨#[98, 105, 116, 115, 32]⟩) (by decide +kernel)) ((HG3).out) (by decide)
    obtain ⟨c2, gc2, hc2⟩ := add_good (gc1) (gdB_true (n := 1) (t := ⟨#[32]⟩) (by decide +kernel)) (by decide)
    go_wp2_with fail
    refine (pick_any p _ 30 w5 HS5.out (by omega)).mono ?_
    rintro e w6 ⟨r2, rfl, hr2, sw6, grw6⟩
    have HSw6 := J sw6
    have HBw6 := J (HB5.out.trans (Beside.grown grw6))
    clear sw6 grw6
    go_wp2_with fail
    refine (dec_good ((r2 : Int) - 1) (by omega) (by omega) w6).mono ?_
    rintro e w8 ⟨td, gd, rfl, b8⟩
    obtain ⟨cd, gcd, hcd⟩ := add_good (gc2) (gd) (by decide)
    have HS8 := J (HSw6.out.below b8)
    have HB8 := J (HBw6.out.trans (Beside.ofBelow b8))
    have HRET := J (HR.out _ w8 _ (gcd.more (by decide)) (by omega) HS8.out (HB8.out))
    clear b8
    go_wp2
    go_ret
    exact HRET.out
   ·obtain ⟨c1, gc1, hc1⟩ := add_good (gdB_true (n := 5) (t := ⟨#[115, 107, 105, 112, 32]⟩) (by decide +kernel)) ((HG3).out) (by decide)
    obtain ⟨c2, gc2, hc2⟩ := add_good (gc1) (gdB_true (n := 1) (t := ⟨#[32]⟩) (by decide +kernel)) (by decide)
    go_wp2_with fail
    refine (pick_any p _ 60000 w5 HS5.out (by omega)).mono ?_
    rintro e w6 ⟨r2, rfl, hr2, sw6, grw6⟩
    have HSw6 := J sw6
    have HBw6 := J (HB5.out.trans (Beside.grown grw6))
    clear sw6 grw6
    go_wp2_with fail
    refine (pick_any p _ 60000 w6 HSw6.out (by omega)).mono ?_
    rintro e w7 ⟨r3, rfl, hr3, sw7, grw7⟩
    have HSw7 := J sw7
    have HBw7 := J (HBw6.out.trans (Beside.grown grw7))
    clear sw7 grw7
    have hpl : r2 * r3 ≤ 60000 * 60000 := Nat.mul_le_mul (by omega) (by omega)
    have hpw : wrap64 ((r2 : Int) * (r3 : Int)) = ((r2 * r3 : Nat) : Int) := by
     rw [show (r2 : Int) * (r3 : Int) = ((r2 * r3 : Nat) : Int) by simp]
     generalize r2 * r3 = z at *
     simp only [wrap64]; omega
    obtain ⟨z, hz⟩ : ∃ z, z = r2 * r3 := ⟨_, rfl⟩
    rw [← hz] at hpw hpl
    clear hz
    go_wp2_with fail
    refine (dec_good (z : Int) (by omega) (by omega) w7).mono ?_
    rintro e w8 ⟨td, gd, rfl, b8⟩
    obtain ⟨cd, gcd, hcd⟩ := add_good (gc2) (gd) (by decide)
    have HS8 := J (HSw7.out.below b8)
    have HB8 := J (HBw7.out.trans (Beside.ofBelow b8))
    have HRET := J (HR.out _ w8 _ (gcd.more (by decide)) (by omega) HS8.out (HB8.out))
    clear b8
    go_wp2
    go_ret
    exact HRET.out
   ·go_wp2_with fail
    refine (lit_good p _ 10 3 [⟨#[114, 111, 108, 108, 32]⟩, ⟨#[99, 97, 114, 100, 115, 32]⟩, ⟨#[108, 101, 118, 101, 108, 115, 32]⟩] _ w5 HS5.out (by omega) rfl rfl (by decide) (by decide) (by decide +kernel)).mono ?_
    rintro e w6 ⟨t, gt, rfl, sw6, grw6⟩
    have HS6 := J sw6
    have HB6 := J (HB5.out.trans (Beside.grown grw6))
    clear sw6 grw6
    obtain ⟨c1, gc1, hc1⟩ := add_good (gt) ((HG3).out) (by decide)
    obtain ⟨c2, gc2, hc2⟩ := add_good (gc1) (gdB_true (n := 1) (t := ⟨#[32]⟩) (by decide +kernel)) (by decide)
    go_wp2_with fail
    refine (pick_any p _ 18 w6 HS6.out (by omega)).mono ?_
    rintro e w7 ⟨r2, rfl, hr2, sw7, grw7⟩
    have HSw7 := J sw7
    have HBw7 := J (HB6.out.trans (Beside.grown grw7))
    clear sw7 grw7
    go_wp2_with fail
    refine (dec_good ((r2 : Int) - 1) (by omega) (by omega) w7).mono ?_
    rintro e w8 ⟨td, gd, rfl, b8⟩
    obtain ⟨cd, gcd, hcd⟩ := add_good (gc2) (gd) (by decide)
    have HS8 := J (HSw7.out.below b8)
    have HB8 := J (HBw7.out.trans (Beside.ofBelow b8))
    have HRET := J (HR.out _ w8 _ (gcd.more (by decide)) (by omega) HS8.out (HB8.out))
    clear b8
    go_wp2
    go_ret
    exact HRET.out
end LabD
namespace Find
open Go.RowKit Base Mem LabM
def FoundAt (ss : List ByteArray) (x : ByteArray) (r : Int) : Prop := (r = -1 ∧ ∀ i, i < ss.length → ss.getD i ByteArray.empty ≠ x) ∨ ∃ k : Nat, k < ss.length ∧ r = k ∧ ss.getD k ByteArray.empty = x
theorem FoundAt.no {ss : List ByteArray} {x : ByteArray} (h : ∀ i, i < ss.length → ss.getD i ByteArray.empty ≠ x) : FoundAt ss x (-1) := .inl ⟨rfl, h⟩
theorem FoundAt.yes {ss : List ByteArray} {x : ByteArray} {k : Nat} (h : k < ss.length) (e : ss.getD k ByteArray.empty = x) : FoundAt ss x (k : Int) := .inr ⟨k, h, rfl, e⟩
theorem eqS_no {y x : ByteArray} (h : ¬ y = x) : (y.toList == x.toList) = false := by
 rw [ByteArray.toList_eq, ByteArray.toList_eq]
 refine beq_false_of_ne fun e => h ?_
 rcases y with ⟨⟨y⟩⟩
 rcases x with ⟨⟨x⟩⟩
 simp at e
 rw [e]
def FindRet (ss : List ByteArray) (x : ByteArray) (w : World) (e : Ending) (w' : World) : Prop := ∃ r : Int, e = .returned (.int .i64 r) ∧ FoundAt ss x r ∧ w = w'
def FindSt (ss : List ByteArray) (x : ByteArray) (i : Value) : Prop := ∃ k : Nat, k ≤ ss.length ∧ i = .int .i64 k ∧ Hid (∀ j, j < k → ss.getD j ByteArray.empty ≠ x)
theorem find_any (b c B : Nat) (A : Option Addr) (ss : List ByteArray) (x : ByteArray) (w : World) (h0 : w.cell? ⟨b, 0, none⟩ = some (.slice A ss.length c)) (hx : RdT w B A ss) (hm : ss.length ≤ 1000) :
  Calls Tryz.prog 169 #[.pointer (some ⟨b, 0, none⟩), .string x] w (FindRet ss x w) := by
 have HX := J hx
 clear hx
 go_enter Tryz.func169, Tryz.ntmps169
 go_wp2
 go_loop [5] (fun i => FindSt ss x i) (fun i => ss.length - (intOf i).toNat)
 case atStart => exact ⟨0, Nat.zero_le _, rfl, J fun j hj => absurd hj (Nat.not_lt_zero j)⟩
 case round =>
  obtain ⟨k, hk, rfl, HNo⟩ := hrel
  by_cases hlt : k < ss.length
  ·obtain ⟨g, off, rfl, _, hc⟩ := HX.out (by omega)
   have g1 := hc k hlt
   have HY : Hid (∀ y, y = ss.getD k ByteArray.empty → (y = x → FoundAt ss x (k : Int)) ∧ (y ≠ x → ∀ j, j < k + 1 → ss.getD j ByteArray.empty ≠ x)) := J fun y e => ⟨fun h => FoundAt.yes hlt (e ▸ h), fun h j hj => by
    rcases Nat.lt_or_ge j k with h1 | h1
    ·exact HNo.out j h1
    ·obtain rfl : j = k := by omega
     exact e ▸ h⟩
   clear hc HX
   generalize hy : ss.getD k ByteArray.empty = y at g1
   obtain ⟨q1, q2⟩ := HY.out y hy.symm
   have Q2 := J q2
   clear HY q2 hy
   by_cases he : y = x
   ·have Q1 := J (q1 he)
    clear q1 Q2
    subst he
    have hbe : (y.toList == y.toList) = true := by simp
    go_wp2
    go_ret
    exact ⟨_, rfl, Q1.out, rfl⟩
   ·have Q3 := J (Q2.out he)
    clear q1 Q2
    have hbe := eqS_no he
    go_wp2
    go_round
    case rel => exact ⟨k + 1, by omega, by go_num, Q3⟩
    case measure => simp [intOf]; omega
  ·have HF : Hid (FoundAt ss x (-1)) := J (FoundAt.no fun i hi => HNo.out i (by omega))
   clear HX
   go_wp2
   go_ret
   exact ⟨_, rfl, HF.out, rfl⟩
end Find
namespace LabV
open Go.RowKit Base Mem Cpy MemS Str LabM Take
def lowTo (s : ByteArray) : Nat → Bool
 | 0 => true
 | i + 1 => lowTo s i && (if h : i < s.size then decide (97 ≤ (s[i]'h).toNat) && decide ((s[i]'h).toNat ≤ 122) else false)
theorem lowTo_no {s : ByteArray} {i : Nat} (h : lowTo s i = false) : ∀ n, i ≤ n → lowTo s n = false
  | 0, hn => by obtain rfl : i = 0 := by omega
                exact h
  | n + 1, hn => by
    by_cases e : i = n + 1
    · subst e; exact h
    · rw [lowTo, lowTo_no h n (by omega)]; rfl
theorem lowTo_step {s : ByteArray} {i : Nat} (h : lowTo s i = true) (hi : i < s.size) {x : Nat} (hx : (s[i]'hi).toNat = x) : lowTo s (i + 1) = (decide (97 ≤ x) && decide (x ≤ 122)) := by
 rw [lowTo, h, dif_pos hi, hx, Bool.true_and]
def nameB (s : ByteArray) : Bool := lowTo s s.size && inR (s.size : Int) 1 10
theorem implName_any (s : ByteArray) (hs : s.size ≤ 9223372036854775807) (w : World) : Calls Tryz.prog 62 #[.string s] w fun e w' => e = .returned (.bool (nameB s)) ∧ w = w' := by
 go_enter Tryz.func62, Tryz.ntmps62
 go_wp2
 go_loop [6] (fun i => ∃ k : Nat, k ≤ s.size ∧ i = .int .i64 (k : Int) ∧ Hid (lowTo s k = true)) (fun i => s.size - (intOf i).toNat)
 case atStart => exact ⟨0, Nat.zero_le _, rfl, J rfl⟩
 case round =>
  obtain ⟨k, hk, rfl, hL⟩ := hrel
  by_cases hlt : k < s.size
  ·obtain ⟨x, hx⟩ : ∃ x, (s[k]'hlt).toNat = x := ⟨_, rfl⟩
   have HN := J (lowTo_step hL.out hlt hx)
   have HF := J (fun (h : lowTo s (k + 1) = false) => lowTo_no h s.size hlt)
   by_cases h1 : x < 97
   ·go_wp2
    go_ret
    exact ⟨ret_bool (by rw [nameB, HF.out (by rw [HN.out]; simp; omega)]; rfl), rfl⟩
   ·by_cases h2 : 122 < x
    ·go_wp2
     go_ret
     exact ⟨ret_bool (by rw [nameB, HF.out (by rw [HN.out]; simp; omega)]; rfl), rfl⟩
    ·go_wp2
     go_round
     case rel => exact ⟨k + 1, hlt, by go_num, J (by rw [HN.out]; simp; omega)⟩
     case measure => simp [intOf]; omega
  ·obtain rfl : k = s.size := by omega
   go_wp2_with (go_at_call 31; refine (inRange_any _ _ _ _).mono ?_; rintro e w' ⟨rfl, rfl⟩)
   go_ret
   exact ⟨ret_bool (by rw [nameB, hL.out, Bool.true_and]), rfl⟩
theorem specName_any (s : ByteArray) (hs : s.size ≤ 9223372036854775807) (w : World) : Calls Tryz.prog 170 #[.string s] w fun e w' => e = .returned (.bool (nameB s)) ∧ w = w' := by
 go_enter Tryz.func170, Tryz.ntmps170
 go_wp2
 go_loop [3] (fun i => ∃ k : Nat, k ≤ s.size ∧ i = .int .i64 (k : Int) ∧ Hid (lowTo s k = true)) (fun i => s.size - (intOf i).toNat)
 case atStart => exact ⟨0, Nat.zero_le _, rfl, J rfl⟩
 case round =>
  obtain ⟨k, hk, rfl, hL⟩ := hrel
  by_cases hlt : k < s.size
  ·obtain ⟨x, hx⟩ : ∃ x, (s[k]'hlt).toNat = x := ⟨_, rfl⟩
   have HN := J (lowTo_step hL.out hlt hx)
   have HF := J (fun (h : lowTo s (k + 1) = false) => lowTo_no h s.size hlt)
   by_cases h1 : x < 97
   ·go_wp2
    go_ret
    exact ⟨ret_bool (by rw [nameB, HF.out (by rw [HN.out]; simp; omega)]; rfl), rfl⟩
   ·by_cases h2 : 122 < x
    ·go_wp2
     go_ret
     exact ⟨ret_bool (by rw [nameB, HF.out (by rw [HN.out]; simp; omega)]; rfl), rfl⟩
    ·go_wp2
     go_round
     case rel => exact ⟨k + 1, hlt, by go_num, J (by rw [HN.out]; simp; omega)⟩
     case measure => simp [intOf]; omega
  ·obtain rfl : k = s.size := by omega
   have HR : Hid (nameB s = inR (s.size : Int) 1 10) := J (by rw [nameB, hL.out, Bool.true_and])
   by_cases h1 : 1 ≤ s.size
   ·by_cases h2 : s.size ≤ 10
    ·have HB := J (inR_yes (n := (s.size : Int)) (lo := 1) (hi := 10) (by omega))
     go_wp2
     go_ret
     exact ⟨ret_bool (by rw [HR.out, HB.out]; try simp; try omega), rfl⟩
    ·have HB := J (inR_no (n := (s.size : Int)) (lo := 1) (hi := 10) (by omega))
     go_wp2
     go_ret
     exact ⟨ret_bool (by rw [HR.out, HB.out]; try simp; try omega), rfl⟩
   ·have HB := J (inR_no (n := (s.size : Int)) (lo := 1) (hi := 10) (by omega))
    go_wp2
    go_ret
    exact ⟨ret_bool (by rw [HR.out, HB.out]; try simp; try omega), rfl⟩
def lessS (x y : ByteArray) : Bool := Op.bytesLess x.toList y.toList
def strB (fs : List Int) (j : Nat) : Bool := streamB (fs.getD (7 * j + 0) 0) (fs.getD (7 * j + 1) 0) (fs.getD (7 * j + 2) 0) (fs.getD (7 * j + 3) 0) (fs.getD (7 * j + 4) 0) (fs.getD (7 * j + 5) 0) (fs.getD (7 * j + 6) 0)
def entB (ss : List ByteArray) (fs : List Int) (j : Nat) : Bool := nameB (ss.getD j ByteArray.empty) && (strB fs j && (j == 0 || lessS (ss.getD (j - 1) ByteArray.empty) (ss.getD j ByteArray.empty)))
def labTo (ss : List ByteArray) (fs : List Int) : Nat → Bool
 | 0 => true
 | j + 1 => labTo ss fs j && entB ss fs j
theorem labTo_no {ss : List ByteArray} {fs : List Int} {i : Nat} (h : labTo ss fs i = false) : ∀ n, i ≤ n → labTo ss fs n = false
  | 0, hn => by obtain rfl : i = 0 := by omega
                exact h
  | n + 1, hn => by
    by_cases e : i = n + 1
    · subst e; exact h
    · rw [labTo, labTo_no h n (by omega)]; rfl
def labB (ss : List ByteArray) (n : Nat) (fs : List Int) : Bool := decide (n ≤ 6) && (decide (ss.length = n) && labTo ss fs n)
theorem implLab_any (A A' : Option Addr) (c c' B n : Nat) (ss : List ByteArray) (fs : List Int) (w : World)
  (hx : RdT w B A ss) (hy : RdS w B A' n fs) (hB : B ≤ w.heap.size) (hs : ∀ i, i < ss.length → (ss.getD i ByteArray.empty).size ≤ 9223372036854775807) (hl : ss.length ≤ 1048576) (hn : n ≤ 1048576) :
  Calls Tryz.prog 26 #[.agg #[.slice A ss.length c, .slice A' n c']] w fun e w' => e = .returned (.bool (labB ss n fs)) ∧ Below w.heap.size w w' := by
 have hb0 : Below w.heap.size w (w.alloc (.cells #[.slice A ss.length c, .slice A' n c'] 53)) := (Below.refl _ _).alloc (Nat.le_refl _) _
 by_cases hn6 : 6 < n
 ·have HF : Hid (labB ss n fs = false) := J (by simp [labB, show ¬ n ≤ 6 by omega])
  clear hx hy hs
  go_enter Tryz.func26, Tryz.ntmps26
  go_wp2
  go_ret
  exact ⟨ret_bool HF.out.symm, hb0⟩
 by_cases hne : ss.length = n
 ·obtain ⟨W0, hW0⟩ : ∃ W0, W0 = w.alloc (.cells #[.slice A ss.length c, .slice A' n c'] 53) := ⟨_, rfl⟩
  have k0 : W0.cell? ⟨w.heap.size, 0, none⟩ = some (.slice A ss.length c) := by rw [hW0]; exact World.cell?_alloc_new w _ _ 0
  have k1 : W0.cell? ⟨w.heap.size, 1, none⟩ = some (.slice A' n c') := by rw [hW0]; exact World.cell?_alloc_new w _ _ 1
  have hz : w.heap.size < W0.heap.size := by rw [hW0]; simp
  rw [← hW0] at hb0
  have HX := J ((hx.below hb0 hB).more (C := W0.heap.size) (by omega))
  have HY := J ((hy.below hb0 hB).more (C := W0.heap.size) (by omega))
  have HS := J hs
  obtain ⟨N, hN⟩ : ∃ N, N = ss.length := ⟨_, rfl⟩
  have HB : Hid (labB ss n fs = labTo ss fs N) := J (by simp [labB, hN, hne, show n ≤ 6 by omega])
  obtain rfl : n = N := by omega
  rw [← hN] at k0 hW0
  have HNl := J hN
  have HW0 := J hW0
  have HB0 := J hb0
  rw [← hN]
  clear hx hy hs hN hne hl hW0 hb0
  go_enter Tryz.func26, Tryz.ntmps26
  go_wp2
  rw [← HW0.out]
  go_loopw [21] (fun i wr => ∃ (k : Nat), k ≤ n ∧ i = .int .i64 (k : Int) ∧ Hid (labTo ss fs k = true) ∧ Hid (Below W0.heap.size W0 wr)) (fun i _ => n - (intOf i).toNat)
  case atStart => exact ⟨0, Nat.zero_le _, rfl, J rfl, J (Below.refl _ _)⟩
  case round =>
   obtain ⟨k, hk, rfl, hL, hbw⟩ := hrel
   have e0 := (hbw.out.cell (p := ⟨w.heap.size, 0, none⟩) hz).trans k0
   have e1 := (hbw.out.cell (p := ⟨w.heap.size, 1, none⟩) hz).trans k1
   by_cases hlt : k < n
   ·obtain ⟨bs, os, rfl, hbs, hc⟩ := HX.out (by have := HNl.out; omega)
    obtain ⟨bt, ot, rfl, hbt, hd⟩ := HY.out.at7 hlt
    have g1 := (hbw.out.cell (p := ⟨bs, os + k, none⟩) hbs).trans (hc k (by have := HNl.out; omega))
    have gp : 0 < k → ∀ w1, Below wr.heap.size wr w1 → w1.cell? ⟨bs, os + (k - 1), none⟩ = some (.string (ss.getD (k - 1) ByteArray.empty)) := fun _ w1 h1 => ((hbw.out.trans (h1.mono hbw.out.size)).cell (p := ⟨bs, os + (k - 1), none⟩) hbs).trans (hc (k - 1) (by have := HNl.out; omega))
    have d0 := (hbw.out.cell (p := ⟨bt, ot + k * 7, none⟩) hbt).trans hd.c0
    have d1 := (hbw.out.cell (p := ⟨bt, ot + k * 7 + 1, none⟩) hbt).trans hd.c1
    have d2 := (hbw.out.cell (p := ⟨bt, ot + k * 7 + 2, none⟩) hbt).trans hd.c2
    have d3 := (hbw.out.cell (p := ⟨bt, ot + k * 7 + 3, none⟩) hbt).trans hd.c3
    have d4 := (hbw.out.cell (p := ⟨bt, ot + k * 7 + 4, none⟩) hbt).trans hd.c4
    have d5 := (hbw.out.cell (p := ⟨bt, ot + k * 7 + 5, none⟩) hbt).trans hd.c5
    have d6 := (hbw.out.cell (p := ⟨bt, ot + k * 7 + 6, none⟩) hbt).trans hd.c6
    have HK : Hid (∀ w1, Below wr.heap.size wr w1 → w1.cell? ⟨w.heap.size, 0, none⟩ = some (.slice (some ⟨bs, os, none⟩) n c)) := J fun w1 h1 => ((hbw.out.trans (h1.mono hbw.out.size)).cell (p := ⟨w.heap.size, 0, none⟩) hz).trans k0
    have HS1 := J (fun r (h : nameB (ss.getD k ByteArray.empty) = r) W => (implName_any (ss.getD k ByteArray.empty) (HS.out k (by have := HNl.out; omega)) W).mono (R' := fun e w' => e = .returned (.bool r) ∧ W = w') (fun e w' h' => ⟨by rw [h'.1, h], h'.2⟩))
    have HS2 := J (fun r (h : strB fs k = r) W => (validStream_any (fs.getD (7 * k + 0) 0) (fs.getD (7 * k + 1) 0) (fs.getD (7 * k + 2) 0) (fs.getD (7 * k + 3) 0) (fs.getD (7 * k + 4) 0) (fs.getD (7 * k + 5) 0) (fs.getD (7 * k + 6) 0) W).mono (R' := fun e w' => e = .returned (.bool r) ∧ Below W.heap.size W w') (fun e w' h' => ⟨by rw [h'.1, ← h]; rfl, h'.2⟩))
    have HNo := J (fun (h : entB ss fs k = false) => show labB ss n fs = false by rw [HB.out]; exact labTo_no (i := k + 1) (by rw [labTo, h, Bool.and_false]) n hlt)
    have HYe := J (fun (h : entB ss fs k = true) => show labTo ss fs (k + 1) = true by rw [labTo, h, hL.out]; rfl)
    unfold entB at HNo HYe
    clear hL hc hd
    generalize ss.getD k ByteArray.empty = x at *
    generalize ss.getD (k - 1) ByteArray.empty = y at *
    generalize strB fs k = q2v at *
    generalize fs.getD (7 * k + 0) 0 = f0 at *
    generalize fs.getD (7 * k + 1) 0 = f1 at *
    generalize fs.getD (7 * k + 2) 0 = f2 at *
    generalize fs.getD (7 * k + 3) 0 = f3 at *
    generalize fs.getD (7 * k + 4) 0 = f4 at *
    generalize fs.getD (7 * k + 5) 0 = f5 at *
    generalize fs.getD (7 * k + 6) 0 = f6 at *
    cases q1 : nameB x
    ·have C1 := J (HS1.out _ q1)
     go_wp2_with (go_at_call 62; refine (C1.out _).mono ?_; rintro e w' ⟨rfl, rfl⟩)
     go_ret
     exact ⟨ret_bool (HNo.out (by rw [q1]; rfl)).symm, HB0.out.trans (hbw.out.mono HB0.out.size)⟩
    ·have C1 := J (HS1.out _ q1)
     cases q2 : q2v
     ·have C2 := J (HS2.out _ q2)
      go_wp2_with (first | (go_at_call 62; refine (C1.out _).mono ?_; rintro e w' ⟨rfl, rfl⟩) | (go_at_call 29; refine (C2.out _).mono ?_; rintro e w2 ⟨rfl, hb2⟩))
      go_ret
      exact ⟨ret_bool (HNo.out (by rw [q1, q2]; rfl)).symm, HB0.out.trans ((hbw.out.trans (hb2.mono hbw.out.size)).mono HB0.out.size)⟩
     ·have C2 := J (HS2.out _ q2)
      by_cases hk0 : k = 0
      ·subst hk0
       rw [Nat.add_zero] at g1
       rw [Nat.zero_mul, Nat.add_zero] at d0 d1 d2 d3 d4 d5 d6
       go_wp2_with (first | (go_at_call 62; refine (C1.out _).mono ?_; rintro e w' ⟨rfl, rfl⟩) | (go_at_call 29; refine (C2.out _).mono ?_; rintro e w2 ⟨rfl, hb2⟩))
       go_roundw
       case rel => exact ⟨1, hlt, rfl, J (HYe.out (by rw [q1, q2]; rfl)), J (hbw.out.trans (hb2.mono hbw.out.size))⟩
       case measure => simp [intOf]; omega
      ·obtain ⟨j, rfl⟩ : ∃ j, k = j + 1 := ⟨k - 1, by omega⟩
       have GQ := J (gp (by omega))
       rw [Nat.add_sub_cancel] at GQ
       clear gp
       have hk1 : (0 : Int) < ((j + 1 : Nat) : Int) := by omega
       cases q3 : lessS y x
       ·have q4 := q3
        unfold lessS at q4
        go_wp2_with (first | (go_at_call 62; refine (C1.out _).mono ?_; rintro e w' ⟨rfl, rfl⟩) | (go_at_call 29; refine (C2.out _).mono ?_; rintro e w2 ⟨rfl, hb2⟩; have gq := GQ.out w2 hb2; have gk := HK.out w2 hb2))
        go_ret
        exact ⟨ret_bool (HNo.out (by rw [q1, q2, q3]; simp)).symm, HB0.out.trans ((hbw.out.trans (hb2.mono hbw.out.size)).mono HB0.out.size)⟩
       ·have q4 := q3
        unfold lessS at q4
        go_wp2_with (first | (go_at_call 62; refine (C1.out _).mono ?_; rintro e w' ⟨rfl, rfl⟩) | (go_at_call 29; refine (C2.out _).mono ?_; rintro e w2 ⟨rfl, hb2⟩; have gq := GQ.out w2 hb2; have gk := HK.out w2 hb2))
        go_roundw
        case rel => exact ⟨j + 1 + 1, hlt, by go_num, J (HYe.out (by rw [q1, q2, q3]; simp)), J (hbw.out.trans (hb2.mono hbw.out.size))⟩
        case measure => simp [intOf]; omega
   ·obtain rfl : k = n := by omega
    go_wp2
    go_ret
    exact ⟨ret_bool (by rw [HB.out, hL.out]), HB0.out.trans (hbw.out.mono HB0.out.size)⟩
 ·have HF : Hid (labB ss n fs = false) := J (by simp [labB, hne])
  have hne3 : ((ss.length : Int) != (n : Int)) = true := by simp only [bne_iff_ne, ne_eq]; omega
  clear hx hy hs
  go_enter Tryz.func26, Tryz.ntmps26
  go_wp2
  go_ret
  exact ⟨ret_bool HF.out.symm, hb0⟩
end LabV
namespace StM
open LabV Str
structure St where
 K : Int
 W : Int
 T : Int
 m : Int
 f : Int
 a : Int
 s : Int
deriving DecidableEq
def St.l (x : St) : List Int := [x.K, x.W, x.T, x.m, x.f, x.a, x.s]
def St.ok (x : St) : Bool := streamB x.K x.W x.T x.m x.f x.a x.s
def St.val (x : St) : Value := .agg #[.int .i64 x.K, .int .i64 x.W, .int .i64 x.T, .int .i64 x.m, .int .i64 x.f, .int .i64 x.a, .int .i64 x.s]
def St.to (x : St) (s : Int) : St := { x with s := s }
def zeroSt : St := ⟨0, 0, 0, 0, 0, 0, 0⟩
def flat (xs : List St) : List Int := xs.flatMap St.l
theorem flat_cons (x : St) (xs : List St) : flat (x :: xs) = x.l ++ flat xs := rfl
theorem flat_app (xs ys : List St) : flat (xs ++ ys) = flat xs ++ flat ys := List.flatMap_append
theorem flat_len : ∀ xs : List St, (flat xs).length = 7 * xs.length
 | [] => rfl
 | x :: xs => by rw [flat_cons, List.length_append, flat_len xs, List.length_cons]; show 7 + _ = _; omega
theorem flat_take : ∀ (xs : List St) (p : Nat), flat (xs.take p) = (flat xs).take (7 * p)
 | [], p => by simp [flat]
 | x :: xs, 0 => by simp [flat]
 | x :: xs, p + 1 => by
  rw [List.take_succ_cons, flat_cons, flat_cons, flat_take xs p, show 7 * (p + 1) = x.l.length + 7 * p by show _ = 7 + _; omega, List.take_length_add_append]
theorem flat_drop : ∀ (xs : List St) (p : Nat), flat (xs.drop p) = (flat xs).drop (7 * p)
 | [], p => by simp [flat]
 | x :: xs, 0 => by simp
 | x :: xs, p + 1 => by
  rw [List.drop_succ_cons, flat_cons, flat_drop xs p, show 7 * (p + 1) = x.l.length + 7 * p by show _ = 7 + _; omega, List.drop_length_add_append]
theorem getD_app1 {l r : List Int} {i : Nat} (h : i < l.length) : (l ++ r).getD i 0 = l.getD i 0 := by
 simp only [List.getD_eq_getElem?_getD, List.getElem?_append_left h]
theorem getD_app2 (l r : List Int) (i : Nat) : (l ++ r).getD (l.length + i) 0 = r.getD i 0 := by
 simp only [List.getD_eq_getElem?_getD, List.getElem?_append_right (Nat.le_add_right _ _), Nat.add_sub_cancel_left]
theorem flat_get : ∀ (xs : List St) (j i : Nat), i < 7 → (flat xs).getD (7 * j + i) 0 = (xs.getD j zeroSt).l.getD i 0
 | [], j, i, hi => by
  have : ([].getD j zeroSt : St) = zeroSt := by simp [List.getD]
  rw [this]
  match i, hi with
  | 0, _ => simp [flat, zeroSt, St.l]
  | 1, _ => simp [flat, zeroSt, St.l]
  | 2, _ => simp [flat, zeroSt, St.l]
  | 3, _ => simp [flat, zeroSt, St.l]
  | 4, _ => simp [flat, zeroSt, St.l]
  | 5, _ => simp [flat, zeroSt, St.l]
  | 6, _ => simp [flat, zeroSt, St.l]
 | x :: xs, 0, i, hi => by
  rw [flat_cons, show 7 * 0 + i = i by omega, getD_app1 (by show i < 7; exact hi)]
  rfl
 | x :: xs, j + 1, i, hi => by
  rw [flat_cons, show 7 * (j + 1) + i = x.l.length + (7 * j + i) by show _ = 7 + _; omega, getD_app2, flat_get xs j i hi]
  rfl
theorem flat_set : ∀ (xs : List St) (p : Nat) (x : St), p < xs.length → flat (xs.set p x) = (flat xs).take (7 * p) ++ x.l ++ (flat xs).drop (7 * p + 7) := by
 intro xs p x h
 rw [List.set_eq_take_append_cons_drop, if_pos h, flat_app, flat_cons, flat_take, flat_drop, show 7 * (p + 1) = 7 * p + 7 by omega, List.append_assoc]
theorem flat_ins (xs : List St) (p : Nat) (x : St) : flat (xs.take p ++ x :: xs.drop p) = (flat xs).take (7 * p) ++ x.l ++ (flat xs).drop (7 * p) := by
 rw [flat_app, flat_cons, flat_take, flat_drop, List.append_assoc]
theorem flat_del (xs : List St) (p : Nat) : flat (xs.take p ++ xs.drop (p + 1)) = (flat xs).take (7 * p) ++ (flat xs).drop (7 * p + 7) := by
 rw [flat_app, flat_take, flat_drop, show 7 * (p + 1) = 7 * p + 7 by omega]
end StM
namespace Jour
open Go.RowKit Base Mem Dec LabM
theorem dec_len {u : Nat} (h : u < 1000000) : 1 ≤ (Lib.decDigits u).length ∧ (Lib.decDigits u).length ≤ 6 := by
 rw [Lib.decDigits_length]
 refine ⟨Lib.nDigits_pos u, ?_⟩
 rw [← Lib.decDigits_length]
 by_cases h0 : u = 0
 ·subst h0; rw [Lib.decDigits_one (by decide)]; simp
 ·rw [← rd_rev u (by omega), List.length_reverse]
  exact rd_len 6 u h
end Jour
end Go.Proofs.YtgipnbeipfhekaaGreatDoor
namespace Go.Proofs
open Go.Shelf
end Go.Proofs
namespace Go.Proofs.YtgipnbeipfhekaaGreatDoor
namespace Jour
open Go.RowKit Base Mem Dec LabM
def IsJ (B b : Nat) (l : List UInt8) (w : World) : Prop := Lib.IsBuilder 93 5 B b (Lib.byteCells l) w
theorem IsJ.below {B b : Nat} {l : List UInt8} {w w' : World} (h : IsJ B b l w) (hb : Below w.heap.size w w') : IsJ B b l w' := by
 rcases h with ⟨h1, v, h2, h3, h4⟩ | ⟨h1, v, h2, h3, h4⟩
 ·have hlt : b < w.heap.size := Lib.BuilderAt.lt ⟨h1, v, h2, h3, h4⟩
  exact .inl ⟨h1, v, (hb.block b hlt).trans h2, ownsRow_below h3 hb, h4⟩
 ·have hlt : b < w.heap.size := Lib.BuilderAt.lt ⟨h1, v, h2, h3, h4⟩
  exact .inr ⟨h1, v, (hb.block b hlt).trans h2, ownsRow_below h3 hb, h4⟩
end Jour
end Go.Proofs.YtgipnbeipfhekaaGreatDoor
namespace Go.Proofs
open Go.Shelf
end Go.Proofs
namespace Go.Proofs.YtgipnbeipfhekaaGreatDoor
namespace RecJ
open Go.RowKit Base Mem Dec LabM Jour
inductive At (l : List UInt8) (c : UInt8) : Option Nat → Prop
 | no : Lib.indexByte l c = -1 → At l c none
 | yes {o : Nat} : Lib.indexByte l c = o → o < l.length → At l c (some o)
theorem at_any (l : List UInt8) (c : UInt8) : At l c none ∨ ∃ o, At l c (some o) := by
 by_cases h : Lib.indexByte l c = -1
 ·exact .inl (.no h)
 ·have h0 := Lib.indexByte_ge l c
  obtain ⟨o, ho⟩ := Int.eq_ofNat_of_zero_le (show 0 ≤ Lib.indexByte l c by omega)
  exact .inr ⟨o, .yes ho (List.getElem?_eq_some_iff.1 (Lib.indexByte_some ho).1).1⟩
theorem At.uniq {l : List UInt8} {c : UInt8} {a b : Option Nat} (h : At l c a) (k : At l c b) : a = b := by
 cases h with
 | no h =>
  cases k with
  | no _ => rfl
  | yes k _ => omega
 | yes h _ =>
  cases k with
  | no k => omega
  | yes k _ => congr 1; omega
theorem At.of {l : List UInt8} {c : UInt8} {o : Nat} (h : l[o]? = some c) (k : ∀ j, j < o → l[j]? ≠ some c) : At l c (some o) := by
 rcases at_any l c with h1 | ⟨p, h1⟩
 ·cases h1 with
  | no e => exact absurd h (Lib.indexByte_none e o)
 ·have hp := h1
  cases h1 with
  | yes e hlt =>
   obtain ⟨e1, e2⟩ := Lib.indexByte_some e
   have : p = o := by
    rcases Nat.lt_trichotomy p o with q | q | q
    ·exact absurd e1 (k p q)
    ·exact q
    ·exact absurd h (e2 o q)
   rw [← this]; exact hp
theorem At.none_of {l : List UInt8} {c : UInt8} (k : ∀ j, j < l.length → l[j]? ≠ some c) : At l c none := by
 rcases at_any l c with h1 | ⟨p, h1⟩
 ·exact h1
 ·cases h1 with
  | yes e hlt => exact absurd (Lib.indexByte_some e).1 (k p hlt)
noncomputable def posOf (l : List UInt8) (c : UInt8) : Option Nat := if Lib.indexByte l c = -1 then none else some (Lib.indexByte l c).toNat
theorem At.pos {l : List UInt8} {c : UInt8} {a : Option Nat} (h : At l c a) : posOf l c = a := by
 cases h with
 | no e => rw [posOf, if_pos e]
 | yes e _ => rw [posOf, if_neg (by omega), e]; rfl
theorem pos_at (l : List UInt8) (c : UInt8) : At l c (posOf l c) := by
 rcases at_any l c with h | ⟨o, h⟩
 ·rw [h.pos]; exact h
 ·rw [h.pos]; exact h
noncomputable def linesR (l : List UInt8) : List (List UInt8) := match h : posOf l 10 with
 | none => []
 | some o => l.take o :: linesR (l.drop (o + 1))
termination_by l.length
decreasing_by
 have := pos_at l 10
 rw [h] at this
 cases this with
 | yes e hlt => rw [List.length_drop]; omega
end RecJ
namespace RecJ
open Go.RowKit Base Mem Dec LabM Jour
def txs (ls : List (List UInt8)) : List ByteArray := ls.map tx
theorem txs_len (ls : List (List UInt8)) : (txs ls).length = ls.length := by simp [txs]
theorem txs_get (ls : List (List UInt8)) (i : Nat) (h : i < ls.length) : (txs ls).getD i ByteArray.empty = tx (ls.getD i []) := by simp [txs, List.getD, h]
def LinesRet (s : ByteArray) (w : World) (e : Ending) (w' : World) : Prop := ∃ (A : Option Addr) (c : Nat) (rest : ByteArray), e = .returned (.tuple #[.slice A (linesR s.data.toList).length c, .string rest]) ∧ RdT w' w'.heap.size A (txs (linesR s.data.toList)) ∧ Below w.heap.size w w'
end RecJ
end Go.Proofs.YtgipnbeipfhekaaGreatDoor
