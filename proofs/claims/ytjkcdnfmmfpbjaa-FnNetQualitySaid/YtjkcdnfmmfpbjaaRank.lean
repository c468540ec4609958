/- The rank of masks: the reference's elimination. -/
import Derived.Test.YtjkcdnfmmfpbjaaRankMath
import Derived.Test.YtjkcdnfmmfpbjaaScr
import Derived.Test.YtjkcdnfmmfpbjaaBits
import Derived.Shelf.RegionOpenPlain
import Derived.RegionTactic
import Derived.ChangeAlike
namespace Go.Proofs.Ytjkcdnfmmfpbjaa.Rank
open Go.RowKit Go.Proofs.Ytjkcdnfmmfpbjaa Go.Proofs.Ytjkcdnfmmfpbjaa.Base Go.Proofs.Ytjkcdnfmmfpbjaa.Mem Go.Proofs.Ytjkcdnfmmfpbjaa.RankM Go.Proofs.Ytjkcdnfmmfpbjaa.Scr
set_option linter.unusedVariables false
/-- masks as numbers of the program -/
def ofN (L : List Nat) : List Int := L.map fun x : Nat => (x : Int)
theorem ofN_len (L : List Nat) : (ofN L).length = L.length := by simp [ofN]
theorem ofN_get (L : List Nat) (i : Nat) (h : i < L.length) : (ofN L).getD i 0 = ((L.getD i 0 : Nat) : Int) := by simp [ofN, List.getD, h]
theorem set_self (L : List Nat) (k : Nat) : L.set k (L.getD k 0) = L := by
  refine List.ext_getElem (by simp) fun j h1 h2 => ?_
  rw [List.getElem_set]
  split
  · subst_vars; simp [List.getD, h2]
  · rfl
theorem ofN_set (L : List Nat) (i x : Nat) : (ofN L).set i (x : Int) = ofN (L.set i x) := by simp [ofN, List.map_set]
theorem lowBit_fin : ∀ a : Fin 64, a.val ≠ 0 → ∃ q : Fin 6, bits .and .i64 (a.val : Int) (-(a.val : Int)) = ((2 ^ q.val : Nat) : Int) ∧ a.val.testBit q.val = true ∧ ∀ q', q' < q.val → a.val.testBit q' = false := by decide +kernel
theorem lowBit {a : Nat} (h : a < 64) (h0 : a ≠ 0) : ∃ q : Nat, q < 6 ∧ bits .and .i64 (a : Int) (-(a : Int)) = ((2 ^ q : Nat) : Int) ∧ a.testBit q = true ∧ ∀ q', q' < q → a.testBit q' = false := by
  obtain ⟨q, h1, h2, h3⟩ := lowBit_fin ⟨a, h⟩ h0
  exact ⟨q.val, q.isLt, h1, h2, h3⟩
theorem andBit_fin : ∀ (y : Fin 64) (q : Fin 6), bits .and .i64 (y.val : Int) ((2 ^ q.val : Nat) : Int) = ((if y.val.testBit q.val = true then 2 ^ q.val else 0 : Nat) : Int) := by decide +kernel
theorem andBit {y q : Nat} (hy : y < 64) (hq : q < 6) : bits .and .i64 (y : Int) ((2 ^ q : Nat) : Int) = ((if y.testBit q = true then 2 ^ q else 0 : Nat) : Int) := andBit_fin ⟨y, hy⟩ ⟨q, hq⟩
theorem xor64 {a b : Nat} (ha : a < 64) (hb : b < 64) : a ^^^ b < 64 := Nat.xor_lt_two_pow (n := 6) ha hb
theorem xorI {a b : Nat} (ha : a < 64) (hb : b < 64) : bits .xor .i64 (a : Int) (b : Int) = ((a ^^^ b : Nat) : Int) := Bits.i64_xor_nat a b (by omega) (by omega)
theorem clr_lt {a p x : Nat} (ha : a < 64) (hx : x < 64) : clr a p x < 64 := by
  unfold clr
  split
  · exact xor64 hx ha
  · exact hx
/-- small masks -/
def Small (L : List Nat) : Prop := ∀ j, L.getD j 0 < 64
theorem Small.clrTo {L : List Nat} (h : Small L) (i p k : Nat) : Small (clrTo L i p k) := fun j => by
  rw [clrTo_getD]
  split
  · exact clr_lt (h i) (h j)
  · exact h j
/-- an elimination at row i, with r rows that are not 0 -/
structure RkSt (rows L : List Nat) (i r : Nat) : Prop where
  el : Elim rows L i
  le : r ≤ i
  iff : r = i ↔ ∀ j, j < i → L.getD j 0 ≠ 0
  sm : Small L
theorem RkSt.skip {rows L : List Nat} {i r : Nat} (h : RkSt rows L i r) (h0 : L.getD i 0 = 0) : RkSt rows L (i + 1) r :=
  ⟨h.el.skip h0, by have := h.le; omega, ⟨fun e => by have := h.le; omega, fun k => absurd h0 (k i (by omega))⟩, h.sm⟩
theorem RkSt.next {rows L : List Nat} {i r q : Nat} (h : RkSt rows L i r) (hi : i < rows.length) (h0 : L.getD i 0 ≠ 0) (hq : (L.getD i 0).testBit q = true) : RkSt rows (clrTo L i q rows.length) (i + 1) (r + 1) := by
  have hs : ∀ j, j ≤ i → (clrTo L i q rows.length).getD j 0 = L.getD j 0 := fun j hj => by rw [clrTo_getD, if_neg (by omega)]
  refine ⟨h.el.next hi hq, by have := h.le; omega, ⟨fun e j hj => ?_, fun k => ?_⟩, h.sm.clrTo i q _⟩
  · rw [hs j (by omega)]
    by_cases e2 : j = i
    · subst e2; exact h0
    · exact h.iff.1 (by omega) j (by omega)
  · have := h.iff.2 fun j hj => by
      have := k j (by omega)
      rwa [hs j (by omega)] at this
    omega
theorem RkSt.done {rows L : List Nat} {r : Nat} (h : RkSt rows L rows.length r) : r = rows.length ↔ Ind rows := by
  rw [h.iff, h.el.done]
def RkTo (rows : List Nat) (n : Nat) (v : Value) (w : World) (rv iv : Value) (wr : World) : Prop :=
  ∃ (i r : Nat) (L : List Nat), i ≤ n ∧ iv = .int .i64 (i : Int) ∧ rv = .int .i64 (r : Int) ∧ Hid (RkSt rows L i r) ∧ Hid (wr.ownsRow w.heap.size 2 1 v n (ints (ofN L))) ∧ Hid (Below w.heap.size w wr)
/-- what the rank's function returns -/
def RankRet (rows : List Nat) (w : World) (e : Ending) (w' : World) : Prop := ∃ r : Nat, e = .returned (.int .i64 (r : Int)) ∧ r ≤ rows.length ∧ (r = rows.length ↔ Ind rows) ∧ Below w.heap.size w w'
set_option maxHeartbeats 2000000 in
set_option maxRecDepth 100000 in
theorem l08Rank_any (A : Option Addr) (c B n : Nat) (rows : List Nat) (w : World) (hn : rows.length = n) (hx : RdI w B A (ofN rows)) (hB : B ≤ w.heap.size) (hl : n ≤ 1048576) (hs : Small rows) :
    Calls Try.prog 84 #[.slice A n c] w (RankRet rows w) := by
  have HOw := Lib.hid (own_any A c B (ofN rows) w hx hB (by rw [ofN_len, hn]; exact hl))
  rw [ofN_len, hn] at HOw
  have HN := Lib.hid hn
  have HS := Lib.hid hs
  clear hx hn hs
  go_enter Try.func84, Try.ntmps84
  go_wp2_with fail
  refine HOw.out.mono ?_
  rintro e w1 ⟨A1, c1, rfl, o1, b1⟩
  rw [ofN_len, HN.out] at o1 ⊢
  have H0 : Hid (RkTo rows n (.slice A1 n c1) w (.int .i64 0) (.int .i64 0) w1) := Lib.hid ⟨0, 0, rows, Nat.zero_le _, rfl, rfl, Lib.hid ⟨Elim.start rows, Nat.le_refl _, ⟨fun _ j hj => absurd hj (Nat.not_lt_zero j), fun _ => rfl⟩, HS.out⟩, Lib.hid (by have := o1; unfold OwnI at this; rw [ofN_len, HN.out] at this; exact this), Lib.hid b1⟩
  clear o1 b1
  go_wp2
  go_loopw [3, 5] (fun rv iv wr => RkTo rows n (.slice A1 n c1) w rv iv wr) (fun _ iv _ => n - (intOf iv).toNat)
  case atStart => exact H0.out
  case round =>
    obtain ⟨i, r, L, hi, rfl, rfl, HR, HO, HB⟩ := hrel
    clear H0
    have hLl : L.length = n := by rw [HR.out.el.len]; exact HN.out
    have HLl := Lib.hid hLl
    by_cases hlt : i < n
    · obtain ⟨A', c', e, hf⟩ := ownsRow_form HO.out
      injection e with e1 e2 e3
      subst e1 e3
      obtain ⟨g, rfl, hg1, hg2⟩ := hf (by omega)
      have ha64 := HR.out.sm i
      have hle := HR.out.le
      by_cases h0 : L.getD i 0 = 0
      · have hc := HO.out.cellAt i (by omega)
        rw [ints_get _ i (by rw [ofN_len]; omega), ofN_get _ i (by omega), h0] at hc
        have HNx := Lib.hid (HR.out.skip h0)
        clear hf hLl ha64 h0
        go_wp2
        go_roundw
        case rel => exact ⟨i + 1, r, L, hlt, by go_num, rfl, HNx, HO, HB⟩
        case measure => simp [intOf]; omega
      · obtain ⟨q, hq6, hq1, hq2, hq3⟩ := lowBit ha64 h0
        have HNx := Lib.hid (HR.out.next (q := q) (by rw [HN.out]; exact hlt) h0 hq2)
        rw [HN.out] at HNx
        have hc := HO.out.cellAt i (by omega)
        rw [ints_get _ i (by rw [ofN_len]; omega), ofN_get _ i (by omega)] at hc
        have HSm := Lib.hid HR.out.sm
        have HAi := Lib.hid (show ∀ k, (clrTo L i q k).getD i 0 = L.getD i 0 from fun k => by rw [clrTo_getD, if_neg (by omega)])
        have HCs := Lib.hid (fun k (h1 : i < k) (h2 : k < n) => clrTo_set L i q k h1 (by omega))
        have HCk := Lib.hid (show ∀ k, (clrTo L i q k).getD k 0 = L.getD k 0 from fun k => by rw [clrTo_getD, if_neg (by omega)])
        have HCl := Lib.hid (show ∀ k, (clrTo L i q k).length = n from fun k => by rw [clrTo_len]; omega)
        have H1 : Hid (wr.ownsRow w.heap.size 2 1 (.slice (some ⟨g, 0, none⟩) n c1) n (ints (ofN (clrTo L i q (i + 1))))) := Lib.hid (by rw [clrTo_start]; exact HO.out)
        have hane : (((L.getD i 0 : Nat) : Int) == 0) = false := by simp only [beq_eq_false_iff_ne]; omega
        clear hf hLl hq2 hq3 HR
        generalize hav : L.getD i 0 = a at *
        clear hav
        have mixed : Try.prog.follows .mixedOrders = true := by kernel_rfl
        have hpos := Nat.two_pow_pos q
        have hp64 : 2 ^ q ≤ 2 ^ 6 := Nat.pow_le_pow_right (by decide) (by omega)
        have HAnd := Lib.hid (fun y (hy : y < 64) => andBit hy hq6)
        generalize 2 ^ q = P at *
        go_wp2
        go_region_o
        go_wp2
        go_loopw [7] (fun kv w2 => ∃ k : Nat, i + 1 ≤ k ∧ k ≤ n ∧ kv = .int .i64 (k : Int) ∧ Hid (w2.ownsRow w.heap.size 2 1 (.slice (some ⟨g, 0, none⟩) n c1) n (ints (ofN (clrTo L i q k)))) ∧ Hid (Below w.heap.size w w2)) (fun kv _ => n - (intOf kv).toNat)
        case atStart => exact ⟨i + 1, Nat.le_refl _, hlt, by simp, Lib.hid (ownsRow_below H1.out ((Below.refl _ _).drew)), Lib.hid HB.out.drew⟩
        case round =>
          obtain ⟨k, hk1, hk2, rfl, HO2, HB2⟩ := hrel
          clear H1
          by_cases hkt : k < n
          · have hck := HO2.out.cellAt k (by omega)
            rw [ints_get _ k (by rw [ofN_len, HCl.out]; omega), ofN_get _ k (by rw [HCl.out]; omega), HCk.out k] at hck
            have hci := HO2.out.cellAt i (by omega)
            rw [ints_get _ i (by rw [ofN_len, HCl.out]; omega), ofN_get _ i (by rw [HCl.out]; omega), HAi.out k] at hci
            have hy64 := HSm.out k
            have e2 := HCs.out k (by omega) hkt
            have e3 := set_self (clrTo L i q k) k
            rw [HCk.out k] at e2 e3
            have hst := fun x : Nat => HO2.out.stored k (.int .i64 ((x : Nat) : Int))
            have hfz := HO2.out.frozenAt k
            have hAnd := HAnd.out _ hy64
            generalize L.getD k 0 = y at *
            cases hb : y.testBit q
            · have HN2 : Hid (wr.ownsRow w.heap.size 2 1 (.slice (some ⟨g, 0, none⟩) n c1) n (ints (ofN (clrTo L i q (k + 1))))) := Lib.hid (by
                rw [← e2, show clr a q y = y by simp [clr, hb], e3]; exact HO2.out)
              rw [hb] at hAnd
              simp only [Bool.false_eq_true, if_false] at hAnd
              clear e2 e3 hst
              go_wp2
              go_roundw
              case rel => exact ⟨k + 1, by omega, hkt, by go_num, HN2, HB2⟩
              case measure => simp [intOf]; omega
            · have HN2 : Hid (((wr.setCell ⟨g, k, none⟩ (.int .i64 ((y ^^^ a : Nat) : Int))).drew).ownsRow w.heap.size 2 1 (.slice (some ⟨g, 0, none⟩) n c1) n (ints (ofN (clrTo L i q (k + 1))))) := Lib.hid (by
                have h1 := (hst (y ^^^ a)).1
                have e4 : clr a q y = y ^^^ a := by simp [clr, hb]
                rw [e4] at e2
                rw [ints_set, ofN_set, e2] at h1
                exact ownsRow_below h1 ((Below.refl _ _).drew))
              have HB3 : Hid (Below w.heap.size w ((wr.setCell ⟨g, k, none⟩ (.int .i64 ((y ^^^ a : Nat) : Int))).drew)) := Lib.hid ((HB2.out.setCell hg1 _).drew)
              have hX := xorI hy64 ha64
              rw [hb] at hAnd
              simp only [if_true] at hAnd
              generalize y ^^^ a = z at *
              clear e2 e3 hst hb
              go_wp2
              go_region
              go_wp2
              go_roundw
              case rel => exact ⟨k + 1, by omega, hkt, by go_num, HN2, HB3⟩
              case measure => simp [intOf]; omega
          · obtain rfl : k = n := by omega
            go_wp2
            go_roundw
            case rel => exact ⟨i + 1, r + 1, _, hlt, by go_num, by go_num, HNx, HO2, HB2⟩
            case measure => simp [intOf]; omega
    · obtain rfl : i = n := by omega
      have HR2 : Hid (RankRet rows w (.returned (.int .i64 (r : Int))) wr) := Lib.hid ⟨r, rfl, by have := HR.out.le; have := HN.out; omega, by have h1 := HR.out; rw [← HN.out] at h1; exact h1.done, HB.out⟩
      go_wp2
      go_ret
      exact HR2.out
end Go.Proofs.Ytjkcdnfmmfpbjaa.Rank
