/- The program's equations: rows that are reduced among each other. -/
import Derived.Test.YtjkcdnfmmfpbjaaRank
import Derived.Test.YtjkcdnfmmfpbjaaJumpW
import Derived.Test.YtjkcdnfmmfpbjaaSrc
namespace Go.Proofs.Ytjkcdnfmmfpbjaa.Eqs
open Go.RowKit Go.Proofs.Ytjkcdnfmmfpbjaa Go.Proofs.Ytjkcdnfmmfpbjaa.Base Go.Proofs.Ytjkcdnfmmfpbjaa.Mem Go.Proofs.Ytjkcdnfmmfpbjaa.RankM Go.Proofs.Ytjkcdnfmmfpbjaa.Rank
set_option linter.unusedVariables false
set_option maxRecDepth 100000 in
theorem degree_zero (w : World) : Calls Try.prog 109 #[.int .i64 0] w fun e w' => e = .returned (.int .i64 (-1)) ∧ w = w' := by
  go_enter Try.func109, Try.ntmps109
  go_wp2
  go_ret
  exact ⟨ret_int (by decide +kernel), rfl⟩
set_option maxRecDepth 100000 in
theorem degree_pow (q P : Nat) (hq : q < 6) (hP : P = 2 ^ q) (w : World) : Calls Try.prog 109 #[.int .i64 (P : Int)] w fun e w' => e = .returned (.int .i64 (q : Int)) ∧ w = w' := by
  have h : q = 0 ∨ q = 1 ∨ q = 2 ∨ q = 3 ∨ q = 4 ∨ q = 5 := by omega
  rcases h with rfl | rfl | rfl | rfl | rfl | rfl
  all_goals
    obtain rfl : P = _ := hP
    go_enter Try.func109, Try.ntmps109
    go_wp2
    go_ret
    exact ⟨ret_int (by decide +kernel), rfl⟩
theorem and_mask_fin : ∀ (W : Fin 7) (x : Fin 64), x.val < 2 ^ W.val → bits .and .i64 (x.val : Int) ((2 : Int) ^ W.val - 1) = (x.val : Int) := by decide +kernel
theorem and_mask {W x : Nat} (hW : W ≤ 6) (hx : x < 2 ^ W) : bits .and .i64 (x : Int) ((2 : Int) ^ W - 1) = (x : Int) :=
  and_mask_fin ⟨W, by omega⟩ ⟨x, Nat.lt_of_lt_of_le hx (Nat.pow_le_pow_right (n := 2) (by decide) hW)⟩ hx
theorem pw64 {W : Nat} (hW : W ≤ 6) : (1 : Int) ≤ (2 : Int) ^ W ∧ (2 : Int) ^ W ≤ 64 := by
  have h : W = 0 ∨ W = 1 ∨ W = 2 ∨ W = 3 ∨ W = 4 ∨ W = 5 ∨ W = 6 := by omega
  rcases h with rfl | rfl | rfl | rfl | rfl | rfl | rfl <;> decide
theorem pow64 {W : Nat} (hW : W ≤ 6) : 2 ^ W ≤ 64 := Nat.pow_le_pow_right (n := 2) (by decide) hW
theorem lead_any (b W q x : Nat) (w : World) (hc : w.cell? ⟨b, 0, none⟩ = some (.int .i64 (W : Int))) (hW : W ≤ 6) (hx : x < 2 ^ W) (hq : q < 6) (h1 : bits .and .i64 (x : Int) (-(x : Int)) = ((2 ^ q : Nat) : Int)) :
    Calls Try.prog 99 #[.pointer (some ⟨b, 0, none⟩), .int .i64 (x : Int)] w fun e w' => e = .returned (.int .i64 (q : Int)) ∧ w = w' := by
  have hm := and_mask hW hx
  obtain ⟨p1, p2⟩ := pw64 hW
  obtain ⟨P, hP⟩ : ∃ P, P = 2 ^ q := ⟨_, rfl⟩
  rw [← hP] at h1
  have HD := Lib.hid (degree_pow q P hq hP w)
  have hx6 := pow64 hW
  clear hP
  go_enter Try.func99, Try.ntmps99
  go_wp2_with fail
  refine HD.out.mono ?_
  rintro e w1 ⟨rfl, rfl⟩
  go_wp2
  go_ret
  exact ⟨rfl, rfl⟩
theorem lead_zero (b W : Nat) (w : World) (hc : w.cell? ⟨b, 0, none⟩ = some (.int .i64 (W : Int))) (hW : W ≤ 6) :
    Calls Try.prog 99 #[.pointer (some ⟨b, 0, none⟩), .int .i64 0] w fun e w' => e = .returned (.int .i64 (-1)) ∧ w = w' := by
  have hm : bits .and .i64 0 ((2 : Int) ^ W - 1) = 0 := and_mask (x := 0) hW (Nat.two_pow_pos W)
  have h1 : bits .and .i64 0 0 = 0 := by decide
  obtain ⟨p1, p2⟩ := pw64 hW
  have HD := Lib.hid (degree_zero w)
  go_enter Try.func99, Try.ntmps99
  go_wp2_with fail
  refine HD.out.mono ?_
  rintro e w1 ⟨rfl, rfl⟩
  go_wp2
  go_ret
  exact ⟨rfl, rfl⟩
/-- the least bit is one -/
theorem low_uniq {x p q : Nat} (h1 : x.testBit p = true) (h2 : ∀ q', q' < p → x.testBit q' = false) (g1 : x.testBit q = true) (g2 : ∀ q', q' < q → x.testBit q' = false) : p = q := by
  rcases Nat.lt_trichotomy p q with h | h | h
  · have := g2 p h; rw [h1] at this; cases this
  · exact h
  · have := h2 q h; rw [g1] at this; cases this
theorem low_of {x p : Nat} (hx : x < 64) (h1 : x.testBit p = true) (h2 : ∀ q', q' < p → x.testBit q' = false) : p < 6 ∧ bits .and .i64 (x : Int) (-(x : Int)) = ((2 ^ p : Nat) : Int) := by
  have h0 : x ≠ 0 := fun e => by rw [e, Nat.zero_testBit] at h1; cases h1
  obtain ⟨q, hq, e, g1, g2⟩ := lowBit hx h0
  rw [low_uniq h1 h2 g1 g2]
  exact ⟨hq, e⟩
/-- rows of W bits -/
def RowsB (W : Nat) (E : List Nat) : Prop := ∀ j, E.getD j 0 < 2 ^ W
theorem clr_ltW {W a p x : Nat} (ha : a < 2 ^ W) (hx : x < 2 ^ W) : clr a p x < 2 ^ W := by
  unfold clr
  split
  · exact Nat.xor_lt_two_pow hx ha
  · exact hx
theorem redTo_ltW {W : Nat} {E ps : List Nat} (hE : RowsB W E) {x : Nat} (hx : x < 2 ^ W) : ∀ n, redTo E ps x n < 2 ^ W
  | 0 => hx
  | n + 1 => clr_ltW (hE n) (redTo_ltW hE hx n)
set_option maxHeartbeats 1000000 in
theorem reduced_any (b W n c B x : Nat) (A : Option Addr) (given E ps : List Nat) (w : World) (hc : w.cell? ⟨b, 0, none⟩ = some (.int .i64 (W : Int))) (hc1 : w.cell? ⟨b, 1, none⟩ = some (.slice A n c)) (hx : RdI w B A (ofN E)) (hn : E.length = n) (hl : n ≤ 1000) (hR : Red given E ps) (hE : RowsB W E) (hW : W ≤ 6) (hx2 : x < 2 ^ W) :
    Calls Try.prog 98 #[.pointer (some ⟨b, 0, none⟩), .int .i64 (x : Int)] w fun e w' => e = .returned (.int .i64 ((redA E ps x : Nat) : Int)) ∧ w = w' := by
  have HX := Lib.hid hx
  have HN := Lib.hid hn
  have HR := Lib.hid hR
  have HE := Lib.hid hE
  have HT := Lib.hid (fun k => redTo_ltW (ps := ps) hE hx2 k)
  clear hx hn hR hE
  go_enter Try.func98, Try.ntmps98
  go_wp2
  go_loop [1, 13] (fun rv iv => ∃ k : Nat, k ≤ n ∧ iv = .int .i64 (k : Int) ∧ rv = .int .i64 ((redTo E ps x k : Nat) : Int)) (fun _ iv => n - (intOf iv).toNat)
  case atStart => exact ⟨0, Nat.zero_le _, rfl, rfl⟩
  case round =>
    obtain ⟨k, hk, rfl, rfl⟩ := hrel
    by_cases hlt : k < n
    · obtain ⟨bb, off, rfl, _, hcc⟩ := HX.out (by rw [ofN_len, HN.out]; omega)
      have g := hcc k (by rw [ofN_len, HN.out]; omega)
      rw [ofN_get _ k (by rw [HN.out]; omega)] at g
      have ha := HE.out k
      have hr := HT.out k
      have hp6 := pow64 hW
      have ha64 : E.getD k 0 < 64 := by omega
      have hr64 : redTo E ps x k < 64 := by omega
      obtain ⟨q1, q2⟩ := low_of ha64 (HR.out.own k (by rw [HN.out]; omega)) (HR.out.low k (by rw [HN.out]; omega))
      have HL := Lib.hid (lead_any b W (ps.getD k 0) (E.getD k 0) w hc hW ha q1 q2)
      have hb := Jump.bit_test (redTo E ps x k) (ps.getD k 0) (by omega)
      have hX := xorI hr64 ha64
      have HNx := Lib.hid (show redTo E ps x (k + 1) = if (redTo E ps x k).testBit (ps.getD k 0) = true then redTo E ps x k ^^^ E.getD k 0 else redTo E ps x k from rfl)
      have hpl : ps.getD k 0 < 6 := q1
      clear hcc q1 q2 ha hr
      generalize redTo E ps x k = r at *
      generalize ps.getD k 0 = p at *
      generalize E.getD k 0 = a at *
      cases ht : r.testBit p with
      | false =>
        rw [ht] at hb HNx
        have HF := Lib.hid (show redTo E ps x (k + 1) = r by rw [HNx.out]; simp)
        clear HNx ht
        go_wp2_with fail
        refine HL.out.mono ?_
        rintro e w1 ⟨rfl, rfl⟩
        go_wp2
        go_round
        case rel => exact ⟨k + 1, hlt, by go_num, by rw [HF.out]⟩
        case measure => simp [intOf]; omega
      | true =>
        rw [ht] at hb HNx
        have HF := Lib.hid (show redTo E ps x (k + 1) = r ^^^ a by rw [HNx.out]; simp)
        clear HNx ht
        generalize r ^^^ a = z at *
        go_wp2_with fail
        refine HL.out.mono ?_
        rintro e w1 ⟨rfl, rfl⟩
        go_wp2
        go_round
        case rel => exact ⟨k + 1, hlt, by go_num, by rw [HF.out]⟩
        case measure => simp [intOf]; omega
    · obtain rfl : k = n := by omega
      have HD := Lib.hid (show redTo E ps x k = redA E ps x by rw [redA, HN.out])
      clear hk hlt
      go_wp2
      go_ret
      exact ⟨ret_int (by rw [HD.out]), rfl⟩
/-- rows that are cleared of a bit, up to k -/
def eqTo (E : List Nat) (r q k : Nat) : List Nat := E.mapIdx fun j x => if j < k then clr r q x else x
theorem eqTo_len (E : List Nat) (r q k : Nat) : (eqTo E r q k).length = E.length := by simp [eqTo]
theorem eqTo_at (E : List Nat) (r q k : Nat) : (eqTo E r q k).getD k 0 = E.getD k 0 := by
  by_cases hj : k < E.length
  · simp [eqTo, List.getD, hj]
  · simp [eqTo, List.getD, hj]
theorem eqTo_start (E : List Nat) (r q : Nat) : eqTo E r q 0 = E := by
  refine List.ext_getElem (eqTo_len _ _ _ _) fun j h1 h2 => ?_
  simp [eqTo]
theorem eqTo_end (E : List Nat) (r q : Nat) : eqTo E r q E.length = E.map (clr r q) := by
  refine List.ext_getElem (by simp [eqTo]) fun j h1 h2 => ?_
  have : j < E.length := by simpa [eqTo] using h1
  simp [eqTo, this]
theorem eqTo_set (E : List Nat) (r q k : Nat) (hk : k < E.length) : (eqTo E r q k).set k (clr r q (E.getD k 0)) = eqTo E r q (k + 1) := by
  refine List.ext_getElem (by simp [eqTo]) fun j h1 h2 => ?_
  rw [List.getElem_set]
  have hjl : j < E.length := by simpa [eqTo] using h2
  by_cases hj : k = j
  · subst hj
    rw [if_pos rfl]
    simp [eqTo, List.getD, hk]
  · rw [if_neg hj]
    simp only [eqTo, List.getElem_mapIdx]
    by_cases h3 : j < k
    · rw [if_pos h3, if_pos (by omega)]
    · rw [if_neg h3, if_neg (by omega)]
/-- the equations in the block b -/
structure EqSt (b K W : Nat) (given E ps : List Nat) (A : Option Addr) (c : Nat) (w : World) : Prop where
  c0 : w.cell? ⟨b, 0, none⟩ = some (.int .i64 (W : Int))
  c1 : w.cell? ⟨b, 1, none⟩ = some (.slice A E.length c)
  f1 : w.frozen? ⟨b, 1, none⟩ = false
  own : w.ownsRow K 2 1 (.slice A E.length c) E.length (ints (ofN E))
  red : Red given E ps
  bd : RowsB W E
  lt : b < K
  le : K ≤ w.heap.size
/-- what lies below K, but for the block b, is as it was -/
def But (b K : Nat) (w w' : World) : Prop := w'.os = w.os ∧ w'.tape = w.tape ∧ w'.output = w.output ∧ w.heap.size ≤ w'.heap.size ∧ ∀ q, q < K → q ≠ b → w'.heap[q]? = w.heap[q]?
theorem But.below {b K : Nat} {w w' : World} (h : But b K w w') (hb : b < K) : Below b w w' := ⟨h.1, h.2.1, h.2.2.1, h.2.2.2.1, fun q hq => h.2.2.2.2 q (by omega) (by omega)⟩
theorem But.trans {b K : Nat} {w w' w'' : World} (h : But b K w w') (g : But b K w' w'') : But b K w w'' := ⟨g.1.trans h.1, g.2.1.trans h.2.1, g.2.2.1.trans h.2.2.1, Nat.le_trans h.2.2.2.1 g.2.2.2.1, fun q h1 h2 => (g.2.2.2.2 q h1 h2).trans (h.2.2.2.2 q h1 h2)⟩
theorem But.refl (b K : Nat) (w : World) : But b K w w := ⟨rfl, rfl, rfl, Nat.le_refl _, fun _ _ _ => rfl⟩
theorem But.of {b K : Nat} {w w' : World} (h : Below K w w') (v : Value) (i : Nat) : But b K w (w'.setCell ⟨b, i, none⟩ v) := by
  have g : w'.grownBy (w'.setCell ⟨b, i, none⟩ v) (some b) := Src.grown_setCell w' ⟨b, i, none⟩ v
  refine ⟨g.os.trans h.os, g.tape.trans h.tape, g.output.trans h.output, Nat.le_trans h.size g.size, fun q h1 h2 => ?_⟩
  by_cases hq : q < w'.heap.size
  · exact (g.block q hq (fun e => h2 (Option.some.inj e))).trans (h.block q h1)
  · rw [← h.block q h1, Array.getElem?_eq_none (show w'.heap.size ≤ q by omega), Array.getElem?_eq_none (by rw [World.size_setCell]; omega)]
theorem But.cell {b K : Nat} {w w' : World} (h : But b K w w') {p : Addr} (hp : p.block < K) (hne : p.block ≠ b) : w'.cell? p = w.cell? p := World.cell?_of_block (h.2.2.2.2 p.block hp hne)
/-- what an equation that is added leaves -/
def AddRet (b K W x : Nat) (given E : List Nat) (w : World) (e : Ending) (w' : World) : Prop :=
  ∃ (E' ps' : List Nat) (A' : Option Addr) (c' : Nat), e = .returned (.bool true) ∧ EqSt b K W (given ++ [x]) E' ps' A' c' w' ∧ ((Sp given x ∧ E'.length = E.length) ∨ (¬ Sp given x ∧ E'.length = E.length + 1)) ∧ But b K w w'
theorem RowsB.add {W r q : Nat} {E : List Nat} (h : RowsB W E) (hr : r < 2 ^ W) : RowsB W (E.map (clr r q) ++ [r]) := fun j => by
  rcases Nat.lt_trichotomy j E.length with hj | hj | hj
  · rw [app_lt (by simpa using hj), map_getD _ _ hj]
    exact clr_ltW hr (h j)
  · rw [app_eq (by simpa using hj)]; exact hr
  · have : (E.map (clr r q) ++ [r]).getD j 0 = 0 := by
      have : (E.map (clr r q) ++ [r]).length ≤ j := by simp; omega
      rw [List.getD, List.getElem?_eq_none this]; rfl
    rw [this]; exact Nat.two_pow_pos W
set_option maxHeartbeats 2000000 in
set_option maxRecDepth 100000 in
theorem add_any (b K W n c x : Nat) (A : Option Addr) (given E ps : List Nat) (w : World) (h : EqSt b K W given E ps A c w) (hn : E.length = n) (hl : n ≤ 1000) (hW : W ≤ 6) (hx2 : x < 2 ^ W) :
    Calls Try.prog 86 #[.pointer (some ⟨b, 0, none⟩), .int .i64 (x : Int), .int .i64 0] w (AddRet b K W x given E w) := by
  obtain ⟨i0, hi, hz0, hz1, hz2⟩ := info_parts infoI
  have hc := h.c0
  have hc1 := h.c1
  have hrd : RdI w w.heap.size A (ofN E) := by
    have ho : OwnI w K (.slice A E.length c) (ofN E) := by
      unfold OwnI
      rw [ofN_len]; exact h.own
    exact ho.rd
  rw [hn] at hc1
  have HRd := Lib.hid (reduced_any b W n c w.heap.size x A given E ps w hc hc1 hrd hn hl h.red h.bd hW hx2)
  have hor : bits .or .i64 (x : Int) 0 = (x : Int) := by
    have := Bits.i64_or_nat x 0 (by have := pow64 hW; omega) (by omega)
    simpa using this
  obtain ⟨p1, p2⟩ := pw64 hW
  have hr2 : redA E ps x < 2 ^ W := redTo_ltW h.bd hx2 _
  have HS := Lib.hid (redA_zero h.red x)
  have H := Lib.hid h
  have HN := Lib.hid hn
  have hp6 := pow64 hW
  have HA := Lib.hid (fun q : Nat => h.red.add (q := q) x)
  clear h hn hrd
  generalize redA E ps x = r at *
  by_cases hr0 : r = 0
  · subst hr0
    have hsp := HS.out.1 rfl
    have HL := Lib.hid (lead_zero b W w hc hW)
    have HR : Hid (AddRet b K W x given E w (.returned (.bool true)) w) := Lib.hid ⟨E, ps, A, c, rfl, ⟨H.out.c0, H.out.c1, H.out.f1, H.out.own, H.out.red.skip hsp, H.out.bd, H.out.lt, H.out.le⟩, .inl ⟨hsp, rfl⟩, But.refl _ _ _⟩
    go_enter Try.func86, Try.ntmps86
    go_wp2_with fail
    refine HRd.out.mono ?_
    rintro e w1 ⟨rfl, rfl⟩
    go_wp2_with fail
    refine HL.out.mono ?_
    rintro e w1 ⟨rfl, rfl⟩
    go_wp2
    go_ret
    exact HR.out
  · obtain ⟨q, hq6, hq1, hq2, hq3⟩ := lowBit (by omega : r < 64) hr0
    have hnsp : ¬ Sp given x := fun e => hr0 (HS.out.2 e)
    have HAq := Lib.hid (HA.out q hq2 hq3)
    have HL := Lib.hid (fun W1 (h1 : W1.cell? ⟨b, 0, none⟩ = some (.int .i64 (W : Int))) => lead_any b W q r W1 h1 hW hr2 hq6 hq1)
    have hf1 := H.out.f1
    have hblt := H.out.lt
    have hKw := H.out.le
    have H0 : Hid (w.ownsRow K 2 1 (.slice A n c) n (ints (ofN (eqTo E r q 0)))) := Lib.hid (by rw [eqTo_start]; have := H.out.own; rw [HN.out] at this; exact this)
    have HE := Lib.hid (eqTo_end E r q)
    rw [HN.out] at HE
    have HQ := Lib.hid (And.intro hq2 hq3)
    clear hq1 hq2 hq3
    go_enter Try.func86, Try.ntmps86
    go_wp2_with fail
    refine HRd.out.mono ?_
    rintro e w1 ⟨rfl, rfl⟩
    go_wp2_with fail
    refine (HL.out _ hc).mono ?_
    rintro e w1 ⟨rfl, rfl⟩
    go_wp2
    go_loopw [31] (fun iv wr => ∃ k : Nat, k ≤ n ∧ iv = .int .i64 (k : Int) ∧ Hid (wr.ownsRow K 2 1 (.slice A n c) n (ints (ofN (eqTo E r q k)))) ∧ wr.cell? ⟨b, 0, none⟩ = some (.int .i64 (W : Int)) ∧ wr.cell? ⟨b, 1, none⟩ = some (.slice A n c) ∧ wr.frozen? ⟨b, 1, none⟩ = false ∧ Hid (Below K w wr)) (fun iv _ => n - (intOf iv).toNat)
    case atStart => exact ⟨0, Nat.zero_le _, rfl, H0, hc, hc1, hf1, Lib.hid (Below.refl _ _)⟩
    case round =>
      obtain ⟨k, hk, rfl, HO, gc0, gc1, gf1, HB⟩ := hrel
      clear H0 hc hc1 hf1
      by_cases hlt : k < n
      · obtain ⟨A', c', e, hf⟩ := ownsRow_form HO.out
        injection e with e1 e2 e3
        subst e1 e3
        obtain ⟨g, rfl, hg1, hg2⟩ := hf (by omega)
        have hck := HO.out.cellAt k (by omega)
        rw [ints_get _ k (by rw [ofN_len, eqTo_len, HN.out]; omega), ofN_get _ k (by rw [eqTo_len, HN.out]; omega), eqTo_at] at hck
        have hfk := HO.out.frozenAt k
        have ha := H.out.bd k
        have ha64 : E.getD k 0 < 64 := by omega
        have hb := Jump.bit_test (E.getD k 0) q (by omega)
        have hX := xorI ha64 (show r < 64 by omega)
        have hst := Lib.hid (fun z : Nat => HO.out.stored k (.int .i64 (z : Int)))
        have HSet := Lib.hid (eqTo_set E r q k (by rw [HN.out]; exact hlt))
        have HSelf := Lib.hid (set_self (eqTo E r q k) k)
        rw [eqTo_at] at HSelf
        have hne : g ≠ b := by omega
        have hsz := HB.out.size
        clear hf
        generalize E.getD k 0 = a at *
        cases ht : a.testBit q with
        | false =>
          rw [ht] at hb
          have HO2 : Hid (wr.ownsRow K 2 1 (.slice (some ⟨g, 0, none⟩) n c) n (ints (ofN (eqTo E r q (k + 1))))) := Lib.hid (by
            rw [← HSet.out, show clr r q a = a by simp [clr, ht], HSelf.out]; exact HO.out)
          clear ht
          go_wp2_with fail
          refine (HL.out _ gc0).mono ?_
          rintro e w1 ⟨rfl, rfl⟩
          go_wp2
          go_roundw
          case rel => exact ⟨k + 1, hlt, by go_num, HO2, gc0, gc1, gf1, HB⟩
          case measure => simp [intOf]; omega
        | true =>
          rw [ht] at hb
          have e4 : clr r q a = a ^^^ r := by simp [clr, ht]
          have HN2 : Hid ((wr.setCell ⟨g, k, none⟩ (.int .i64 ((a ^^^ r : Nat) : Int))).ownsRow K 2 1 (.slice (some ⟨g, 0, none⟩) n c) n (ints (ofN (eqTo E r q (k + 1)))) ∧ Below K w (wr.setCell ⟨g, k, none⟩ (.int .i64 ((a ^^^ r : Nat) : Int))) ∧ (wr.setCell ⟨g, k, none⟩ (.int .i64 ((a ^^^ r : Nat) : Int))).cell? ⟨b, 0, none⟩ = some (.int .i64 (W : Int)) ∧ (wr.setCell ⟨g, k, none⟩ (.int .i64 ((a ^^^ r : Nat) : Int))).cell? ⟨b, 1, none⟩ = some (.slice (some ⟨g, 0, none⟩) n c) ∧ (wr.setCell ⟨g, k, none⟩ (.int .i64 ((a ^^^ r : Nat) : Int))).frozen? ⟨b, 1, none⟩ = false) := Lib.hid (by
            have h1 := (hst.out (a ^^^ r)).1
            have h2 := HSet.out
            rw [e4] at h2
            rw [ints_set, ofN_set, h2] at h1
            exact ⟨h1, HB.out.setCell (by show K ≤ g; omega) _, by rw [World.cell?_setCell_far _ _ _ _ hne]; exact gc0, by rw [World.cell?_setCell_far _ _ _ _ hne]; exact gc1, by rw [World.frozen?_setCell]; exact gf1⟩)
          clear ht e4
          generalize a ^^^ r = z at *
          go_wp2_with fail
          refine (HL.out _ gc0).mono ?_
          rintro e w1 ⟨rfl, rfl⟩
          go_wp2
          go_roundw
          case rel => exact ⟨k + 1, hlt, by go_num, Lib.hid HN2.out.1, HN2.out.2.2.1, HN2.out.2.2.2.1, HN2.out.2.2.2.2, Lib.hid HN2.out.2.1⟩
          case measure => simp [intOf]; omega
      · obtain rfl : k = n := by omega
        rw [HE.out] at HO
        have hsz := HB.out.size
        have hW1 := Lib.hid (World.ownsRow.alloc HO.out (.cells #[.int .i64 (r : Int)] 2))
        have HBA := Lib.hid (HB.out.alloc (by omega : K ≤ wr.heap.size) (.cells #[.int .i64 (r : Int)] 2))
        have HC1 : Hid (∀ w2 : World, (wr.alloc (.cells #[.int .i64 (r : Int)] 2)).grownBy w2 (Value.slice A k c).ownBlock → Below K wr w2) := Lib.hid fun w2 hg => ((Below.refl K wr).alloc (by omega) _).trans (grown_below hg (fun q he => by
            obtain ⟨_, _, h3, _⟩ := ownsRow_block hW1.out he
            exact h3) (by simp; omega))
        clear hk hlt
        go_wp2_with (at_builtin; refine wpList_append_own_at _ rfl (.tmp 58) (.tmp 60) 28 rfl K 2 i0 (.int .i64 0) 1 8 Try.underlying28 hi hz0 hz1 hz2 rfl (by decide) _ _ _ rfl hW1.out ⟨wr.heap.size, 0, none⟩ 1 1 [.int .i64 (r : Int)] rfl rfl ?p1a ?p2a ?p3a ?p4a ?p5a ?_)
        try case p1a => exact news_one _ _ _ (by simp)
        try case p2a => first | exact one_int | rfl | simp
        try case p3a => first | (simp only [maxLen]; omega) | omega
        try case p4a => omega
        try case p5a => first | (simp only [World.size_alloc]; omega) | omega
        intro v' w2 hown' hg' _ he
        have hbl := HC1.out w2 hg'
        have k0 := (hbl.cell (p := ⟨b, 0, none⟩) hblt).trans gc0
        have k1 := (hbl.cell (p := ⟨b, 1, none⟩) hblt).trans gc1
        have kf := (hbl.frozen (p := ⟨b, 1, none⟩) hblt).trans gf1
        obtain ⟨A9, c9, e9, _⟩ := ownsRow_form hown'
        subst e9
        have HR : Hid (AddRet b K W x given E w (.returned (.bool true)) (w2.setCell ⟨b, 1, none⟩ (.slice A9 (k + 1) c9))) := Lib.hid (by
          have ho : w2.ownsRow K 2 1 (.slice A9 (k + 1) c9) (k + 1) (ints (ofN (E.map (clr r q) ++ [r]))) := by
            have : ints (ofN (E.map (clr r q) ++ [r])) = ints (ofN (E.map (clr r q))) ++ [.int .i64 (r : Int)] := by simp [ints, ofN]
            rw [this]; exact hown'
          have hl3 : (E.map (clr r q) ++ [r]).length = k + 1 := by simp [HN.out]
          refine ⟨E.map (clr r q) ++ [r], ps ++ [q], A9, c9, rfl, ⟨?_, ?_, ?_, ?_, HAq.out, H.out.bd.add hr2, hblt, ?_⟩, .inr ⟨hnsp, by simp⟩, ?_⟩
          · rw [World.cell?_setCell_other _ _ _ _ (by simp)]; exact k0
          · rw [hl3]; exact World.cell?_setCell_same _ _ _ k1
          · rw [World.frozen?_setCell]; exact kf
          · rw [hl3]; exact ownsRow_setCell_below ho hblt _
          · have := hbl.size; simp; omega
          · exact But.of (HB.out.trans hbl) _ _)
        clear hown' hg' he hbl
        go_wp2
        go_ret
        exact HR.out
end Go.Proofs.Ytjkcdnfmmfpbjaa.Eqs
