/- The decimal text of a number below 0; of the reference and of the program. -/
import Derived.Test.YtpjepheiagllgaaDoorMgFnJ02
namespace Go.Proofs.YtpjepheiagllgaaDoor.Dec
open Go.RowKit Go.Proofs.YtpjepheiagllgaaDoor Go.Proofs.YtpjepheiagllgaaDoor.Base Go.Proofs.YtpjepheiagllgaaDoor.Mem
set_option linter.unusedVariables false
def DigToN (u : Nat) (w : World) (v i : Value) (wr : World) : Prop := ∃ r : Nat, i = .int .i64 (-(r : Int)) ∧ DigTo u w v (.int .i64 (r : Int)) wr
set_option maxHeartbeats 2000000 in
set_option maxRecDepth 100000 in
theorem l01Dec_neg (u : Nat) (hu0 : 0 < u) (hu : u ≤ 9223372036854775807) (w : World) : Calls Tryd.prog 27 #[.int .i64 (-(u : Int))] w fun e w' => e = .returned (.string (tx (45 :: Lib.decDigits u))) ∧ Below w.heap.size w w' := by
 obtain ⟨i0, hi, hz0, hz1, hz2⟩ := info_parts infoByte
 have hu20 : u < 10 ^ 20 := by omega
 have hz' : (-(u : Int) == 0) = false := by simp only [beq_eq_false_iff_ne]; omega
 have HR := Lib.hid (rd_rev u hu0)
 have HLn := Lib.hid (rd_len 20 u hu20)
 have H0 : Hid (DigToN u w (.slice (some ⟨w.heap.size, 0, none⟩) 0 0) (.int .i64 (-(u : Int))) (w.alloc (.cells #[] 5))) := Lib.hid ⟨u, rfl, u, [], rfl, Nat.le_refl _, by simp, Lib.hid (by simp), Lib.hid (World.ownsRow_made w #[] 0 (Nat.le_refl _) (Nat.zero_le _) (by simp)), Lib.hid ((Below.refl _ _).alloc (Nat.le_refl _) _)⟩
 have HU20 := Lib.hid hu20
 clear hu20
 go_enter Tryd.func27, Tryd.ntmps27
 go_wp2
 go_loopw [3, 4] (fun v i wr => DigToN u w v i wr) (fun _ i _ => (-(intOf i)).toNat)
 case atStart => exact H0.out
 case round =>
  obtain ⟨r, rfl, r', D, hrr, hru, hD20, HD, HO, HB⟩ := hrel
  obtain rfl : r = r' := by injection hrr with _ h; omega
  clear hrr
  clear H0
  by_cases hr : r = 0
  ·subst hr
   have HDu : Hid (D = rd u) := Lib.hid (by have := HD.out; rwa [rd_zero, List.append_nil] at this)
   have hDl : D.length ≤ 20 := hD20
   obtain ⟨A0, c0, e0, hf0⟩ := ownsRow_form HO.out
   have HF0 := Lib.hid hf0
   clear hf0
   subst e0
   have hneg : -(u : Int) < 0 := by omega
   have HWs := Lib.hid (World.ownsRow.alloc HO.out (.cells #[.int .u8 45] 5))
   have hwsz := HB.out.size
   have HSg : Hid (∀ v' w3, w3.ownsRow w.heap.size 5 1 v' (D.length + 1) (Lib.byteCells D ++ [.int .u8 (45 : Int)]) → (wr.alloc (.cells #[.int .u8 45] 5)).grownBy w3 (Value.slice A0 D.length c0).ownBlock → w3.ownsRow w.heap.size 5 1 v' (D ++ [45]).length (Lib.byteCells (D ++ [45])) ∧ Below w.heap.size w w3) := Lib.hid fun v' w3 h1 h2 =>
    ⟨own_byte (x := 45) (by decide) h1, HB.out.trans (((Below.refl wr.heap.size wr).alloc (Nat.le_refl _) _ |>.mono HB.out.size).trans (grown_below h2 (fun g e => by obtain ⟨_, _, q, _⟩ := ownsRow_block HO.out e; exact q) (by have := HB.out.size; simp; omega)))⟩
   have hneg2 : (0 : Int) < (u : Int) := by omega
   go_wp2_with (at_builtin; refine wpList_append_own_at _ rfl (.tmp 30) (.tmp 31) 22 rfl w.heap.size 5 i0 (.int .u8 0) 1 1 Tryd.underlying22 hi hz0 hz1 hz2 rfl (by decide) _ _ _ rfl HWs.out ⟨wr.heap.size, 0, none⟩ 1 1 [.int .u8 45] rfl rfl ?p1s ?p2s ?p3s ?p4s ?p5s ?_)
   try case p1s => exact news_one _ _ _ (by simp)
   try case p2s => first | rfl | (intro u hu; simp at hu; subst hu; rfl)
   try case p3s => first | (simp only [maxLen]; omega) | omega
   try case p4s => omega
   try case p5s => first | (simp only [World.size_alloc]; omega) | omega
   intro v5 w5 hown5 hg5 _ he5
   obtain ⟨ho5, hb5⟩ := HSg.out v5 w5 hown5 hg5
   have HO5 := Lib.hid ho5
   have HB5 := Lib.hid hb5
   obtain ⟨A0, c0, e0, hf0⟩ := ownsRow_form ho5
   have HF5 := Lib.hid hf0
   clear hf0 hown5 hg5 he5 ho5 hb5 HSg HWs HO HB HF0
   subst e0
   obtain ⟨E, hE⟩ : ∃ E, D ++ [45] = E := ⟨_, rfl⟩
   have hE20 : E.length ≤ 21 := by rw [← hE]; simp; omega
   rw [hE] at HO5 HF5 ⊢
   have HEr : Hid (E.reverse = 45 :: Lib.decDigits u) := Lib.hid (by rw [← hE, List.reverse_append, HDu.out, HR.out]; rfl)
   have H1 : Hid (DigBack E w5 (.slice (some ⟨w5.heap.size, 0, none⟩) 0 0) (.int .i64 ((E.length : Int) - 1)) (w5.alloc (.cells #[] 5))) := Lib.hid ⟨E.length, Nat.le_refl _, rfl, Lib.hid (by rw [Nat.sub_self, List.drop_length]; exact World.ownsRow_made w5 #[] 0 (Nat.le_refl _) (Nat.zero_le _) (by simp)), Lib.hid ((Below.refl _ _).alloc (Nat.le_refl _) _)⟩
   clear hE
   go_wp2
   obtain ⟨W0, hW0⟩ : ∃ W0, W0 = w5 := ⟨_, rfl⟩
   rw [← hW0] at H1 HO5 HB5 HF5
   have HW0 := Lib.hid hW0
   clear hW0
   go_loopw [6, 7] (fun v i w2 => DigBack E W0 v i w2) (fun _ i _ => (intOf i + 1).toNat)
   case atStart => rw [← HW0.out]; exact H1.out
   case round =>
    obtain ⟨j, hj, rfl, HO2, HB2⟩ := hrel
    clear H1
    by_cases hj0 : j = 0
    ·subst hj0
     have hC := convT_any HO2.out (by simp)
     have HRs : Hid ((E.drop 0).reverse = 45 :: Lib.decDigits u) := Lib.hid (by rw [List.drop_zero, HEr.out])
     rw [HRs.out] at hC
     go_wp2
     go_ret
     exact ⟨rfl, HB5.out.trans (HB2.out.mono HB5.out.size)⟩
    ·obtain ⟨k, rfl⟩ : ∃ k, j = k + 1 := ⟨j - 1, by omega⟩
     have hk : k < E.length := by omega
     obtain ⟨g, hg0, hg1, hg2⟩ := HF5.out (by omega)
     subst hg0
     have hcell0 := HO5.out.cellAt k (by omega)
     have hcell : wr.cell? ⟨g, k, none⟩ = some (.int .u8 ((E[k]'hk).toNat : Int)) := by
      have h3 := (HB2.out.cell (p := ⟨g, k, none⟩) (show g < W0.heap.size from hg2)).trans hcell0
      rw [h3]
      simp [Lib.byteCells, hk]
     have HNx := Lib.hid (fun v' w3 h1 h2 => DigBack.next (o := .cells #[.int .u8 ((E[k]'hk).toNat : Int)] 5) (v' := v') (w3 := w3) hk HO2.out HB2.out h1 h2)
     have hby : (E[k]'hk).toNat < 256 := (E[k]'hk).toNat_lt
     have hws := HB2.out.size
     have HW2 := Lib.hid (World.ownsRow.alloc HO2.out (.cells #[.int .u8 ((E[k]'hk).toNat : Int)] 5))
     clear hcell0
     generalize (E[k]'hk).toNat = y at *
     go_wp2_with (at_builtin; refine wpList_append_own_at _ rfl (.tmp 41) (.tmp 46) 22 rfl W0.heap.size 5 i0 (.int .u8 0) 1 1 Tryd.underlying22 hi hz0 hz1 hz2 rfl (by decide) _ _ _ rfl HW2.out ⟨wr.heap.size, 0, none⟩ 1 1 [.int .u8 (y : Int)] rfl rfl ?p1b ?p2b ?p3b ?p4b ?p5b ?_)
     try case p1b => exact news_one _ _ _ (by simp)
     try case p2b => first | rfl | (intro u hu; simp at hu; subst hu; rfl)
     try case p3b => first | (simp only [maxLen]; omega) | omega
     try case p4b => omega
     try case p5b => first | (simp only [World.size_alloc]; omega) | omega
     intro v' w3 hown' hg' _ he
     have HN := Lib.hid (HNx.out v' w3 hown' hg')
     clear hown' hg' he hcell
     go_wp2_with fail
     go_roundw
     case rel => exact HN.out
     case measure => simp [intOf]
  ·have hr0 : 0 < r := by omega
   have hne : (-(r : Int) != 0) = true := by simp only [bne_iff_ne, ne_eq]; omega
   have hws := HB.out.size
   have HNx := Lib.hid (fun v' w3 h1 h2 => DigTo.next (o := .cells #[.int .u8 ((48 + r % 10 : Nat) : Int)] 5) (v' := v') (w3 := w3) hr0 hru HU20.out HD.out HO.out HB.out h1 h2)
   have HW := Lib.hid (World.ownsRow.alloc HO.out (.cells #[.int .u8 ((48 + r % 10 : Nat) : Int)] 5))
   obtain ⟨x, hx⟩ : ∃ x, r % 10 = x := ⟨_, rfl⟩
   obtain ⟨q, hq⟩ : ∃ q, r / 10 = q := ⟨_, rfl⟩
   have hmt : (-(r : Int)).tmod 10 = -(x : Int) := by rw [Int.neg_tmod, Int.tmod_eq_emod_of_nonneg (by omega)]; omega
   have hdt : (-(r : Int)).tdiv 10 = -(q : Int) := by rw [Int.neg_tdiv, Int.tdiv_eq_ediv_of_nonneg (by omega)]; omega
   have hmu : (r : Int).tmod 10 = (x : Int) := by rw [Int.tmod_eq_emod_of_nonneg (by omega)]; omega
   have hdu : (r : Int).tdiv 10 = (q : Int) := by rw [Int.tdiv_eq_ediv_of_nonneg (by omega)]; omega
   have hx10 : x < 10 := by omega
   have hqr : q < r := by omega
   rw [hx, hq] at HNx
   rw [hx] at HW
   have hcast : ((48 + x : Nat) : Int) = 48 + (x : Int) := by omega
   rw [hcast] at HW HNx
   clear hx hq
   by_cases hx0 : x = 0
   ·subst hx0
    rw [show -((0 : Nat) : Int) = 0 from rfl] at hmt
    simp only [Int.natCast_zero, Int.add_zero] at HW HNx
    go_wp2_with (at_builtin; refine wpList_append_own_at _ rfl (.tmp 22) (.tmp 26) 22 rfl w.heap.size 5 i0 (.int .u8 0) 1 1 Tryd.underlying22 hi hz0 hz1 hz2 rfl (by decide) _ _ _ rfl HW.out ⟨wr.heap.size, 0, none⟩ 1 1 [.int .u8 48] rfl rfl ?p1a ?p2a ?p3a ?p4a ?p5a ?_)
    try case p1a => exact news_one _ _ _ (by simp)
    try case p2a => first | rfl | (intro u hu; simp at hu; subst hu; rfl)
    try case p3a => first | (simp only [maxLen]; omega) | omega
    try case p4a => omega
    try case p5a => first | (simp only [World.size_alloc]; omega) | omega
    intro v' w3 hown' hg' _ he
    obtain ⟨r2, D2, e2, rest⟩ := HNx.out v' w3 hown' hg'
    have HN := Lib.hid (show DigToN u w v' (.int .i64 (-(q : Int))) w3 from ⟨q, rfl, r2, D2, e2, rest⟩)
    clear hown' hg' he
    go_wp2_with fail
    go_roundw
    case rel => exact HN.out
    case measure => simp [intOf]; omega
   ·have hxn : -(x : Int) < 0 := by omega
    have hxp : (0 : Int) < (x : Int) := by omega
    go_wp2_with (at_builtin; refine wpList_append_own_at _ rfl (.tmp 22) (.tmp 26) 22 rfl w.heap.size 5 i0 (.int .u8 0) 1 1 Tryd.underlying22 hi hz0 hz1 hz2 rfl (by decide) _ _ _ rfl HW.out ⟨wr.heap.size, 0, none⟩ 1 1 [.int .u8 (48 + (x : Int))] rfl rfl ?p1a ?p2a ?p3a ?p4a ?p5a ?_)
    try case p1a => exact news_one _ _ _ (by simp)
    try case p2a => first | rfl | (intro u hu; simp at hu; subst hu; rfl)
    try case p3a => first | (simp only [maxLen]; omega) | omega
    try case p4a => omega
    try case p5a => first | (simp only [World.size_alloc]; omega) | omega
    intro v' w3 hown' hg' _ he
    obtain ⟨r2, D2, e2, rest⟩ := HNx.out v' w3 hown' hg'
    have HN := Lib.hid (show DigToN u w v' (.int .i64 (-(q : Int))) w3 from ⟨q, rfl, r2, D2, e2, rest⟩)
    clear hown' hg' he
    go_wp2_with fail
    go_roundw
    case rel => exact HN.out
    case measure => simp [intOf]; omega
end Go.Proofs.YtpjepheiagllgaaDoor.Dec
