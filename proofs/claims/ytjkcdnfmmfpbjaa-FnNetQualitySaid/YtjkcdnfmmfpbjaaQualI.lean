/- The quality of a net: the program's search. -/
import Derived.Test.YtjkcdnfmmfpbjaaConcat
import Derived.Test.YtjkcdnfmmfpbjaaEqs
import Derived.Test.YtjkcdnfmmfpbjaaQualS
namespace Go.Proofs.Ytjkcdnfmmfpbjaa.QualI
open Go.RowKit Go.Proofs.Ytjkcdnfmmfpbjaa Go.Proofs.Ytjkcdnfmmfpbjaa.Base Go.Proofs.Ytjkcdnfmmfpbjaa.Mem Go.Proofs.Ytjkcdnfmmfpbjaa.Pts Go.Proofs.Ytjkcdnfmmfpbjaa.NetV Go.Proofs.Ytjkcdnfmmfpbjaa.NetP Go.Proofs.Ytjkcdnfmmfpbjaa.RevNet Go.Proofs.Ytjkcdnfmmfpbjaa.Scr Go.Proofs.Ytjkcdnfmmfpbjaa.Concat Go.Proofs.Ytjkcdnfmmfpbjaa.RankM Go.Proofs.Ytjkcdnfmmfpbjaa.Rank Go.Proofs.Ytjkcdnfmmfpbjaa.Eqs Go.Proofs.Ytjkcdnfmmfpbjaa.Ways Go.Proofs.Ytjkcdnfmmfpbjaa.QualL
set_option linter.unusedVariables false
/-- the lists xss lie behind A, in blocks below B, each with room for what it holds -/
def RdC (w : World) (B : Nat) (A : Option Addr) (xss : List (List Int)) : Prop :=
  0 < xss.length → ∃ b off, A = some ⟨b, off, none⟩ ∧ b < B ∧ ∀ i, i < xss.length → ∃ A' c, w.cell? ⟨b, off + i, none⟩ = some (.slice A' (xss.getD i []).length c) ∧ (xss.getD i []).length ≤ c ∧ c ≤ 9223372036854775807 ∧ RdI w B A' (xss.getD i [])
theorem RdC.rd {w : World} {B : Nat} {A : Option Addr} {xss : List (List Int)} (h : RdC w B A xss) : RdII w B A xss := fun h0 => by
  obtain ⟨b, off, e, hlt, hc⟩ := h h0
  refine ⟨b, off, e, hlt, fun i hi => ?_⟩
  obtain ⟨A', c, h1, _, _, h2⟩ := hc i hi
  exact ⟨A', c, h1, h2⟩
theorem RdC.below {w w' : World} {B C : Nat} {A : Option Addr} {xss : List (List Int)} (h : RdC w B A xss) (hb : Below C w w') (hBC : B ≤ C) : RdC w' B A xss := fun h0 => by
  obtain ⟨b, off, e, hlt, hc⟩ := h h0
  refine ⟨b, off, e, hlt, fun i hi => ?_⟩
  obtain ⟨A', c, h1, h3, h4, h2⟩ := hc i hi
  exact ⟨A', c, (hb.cell (p := ⟨b, off + i, none⟩) (by show b < C; omega)).trans h1, h3, h4, h2.below hb hBC⟩
theorem ownsRow_cap {w : World} {base : Nat} {e : TypeId} {size n c : Nat} {A : Option Addr} {xs : List Value} (h : w.ownsRow base e size (.slice A n c) n xs) : n ≤ c ∧ c ≤ 9223372036854775807 := by
  rcases h.2 with ⟨h1, h2⟩ | ⟨g, cap, cur, h1, _, _, h2, h3, _⟩
  · injection h1 with _ h3 h4
    omega
  · injection h1 with _ _ h4
    subst h4
    exact ⟨h2, by simp only [maxLen] at h3; omega⟩
theorem _root_.Go.Proofs.Ytjkcdnfmmfpbjaa.Mem.OwnII.rdC {w : World} {B n c : Nat} {A : Option Addr} {xss : List (List Int)} {us : List Value} (h : OwnII w B (.slice A n c) xss us) : RdC w w.heap.size A xss := fun h0 => by
  obtain ⟨b, off, e, hlt, hc⟩ := h.rd h0
  refine ⟨b, off, e, hlt, fun i hi => ?_⟩
  obtain ⟨A', c', h1, h2⟩ := hc i hi
  obtain ⟨A2, c2, e2, hf⟩ := h.form
  injection e2 with e3 e4 e5
  obtain ⟨g, e6, _, _⟩ := hf h0
  have ho := h.outer
  rw [e4] at ho
  rw [← e3, e] at e6
  injection e6 with e6
  injection e6 with e7 e8
  subst e7 e8
  rw [e] at ho
  have hcell := ho.cellAt i (by omega)
  rw [Nat.zero_add] at h1
  rw [h1] at hcell
  have hu : us.getD i undef = .slice A' (xss.getD i []).length c' := by
    rw [List.getD, ← hcell]; rfl
  have hi2 := h.inner i hi
  rw [hu] at hi2
  obtain ⟨k1, k2⟩ := ownsRow_cap hi2
  exact ⟨A', c', by rw [Nat.zero_add]; exact h1, k1, k2, h2⟩
theorem _root_.Go.Proofs.Ytjkcdnfmmfpbjaa.Mem.RdI.take {w : World} {B n : Nat} {A : Option Addr} {xs : List Int} (h : RdI w B A xs) (hn : n ≤ xs.length) : RdI w B A (xs.take n) := fun h0 => by
  rw [List.length_take] at h0
  obtain ⟨b, off, e, hlt, hc⟩ := h (by omega)
  refine ⟨b, off, e, hlt, fun i hi => ?_⟩
  rw [List.length_take] at hi
  rw [hc i (by omega)]
  simp [List.getD, show i < n by omega]
def IndRet (P : Prop) (w : World) (e : Ending) (w' : World) : Prop := ∃ r : Bool, e = .returned (.bool r) ∧ (r = true ↔ P) ∧ Below w.heap.size w w'
/-- rows that are added one after another -/
def AddsRel (b g K N : Nat) (all : List Nat) (w : World) (iv : Value) (wr : World) : Prop :=
  ∃ (k n c : Nat) (E ps : List Nat) (A : Option Addr), k ≤ N ∧ iv = .int .i64 (k : Int) ∧ E.length = n ∧ n ≤ k ∧ Hid (EqSt g K b (all.take k) E ps A c wr) ∧ Hid (E.length = k ↔ Ind (all.take k)) ∧ Hid (But g K w wr)
theorem AddsRel.next {b g K N k n : Nat} {all E E' ps' : List Nat} {w wr wr2 : World} {A' : Option Addr} {c' : Nat} (hN : all.length = N) (hk : k < N) (hn : E.length ≤ k) (hi : E.length = k ↔ Ind (all.take k)) (hb : But g K w wr)
    (hE : EqSt g K b (all.take k ++ [all.getD k 0]) E' ps' A' c' wr2) (hc : (Sp (all.take k) (all.getD k 0) ∧ E'.length = E.length) ∨ (¬ Sp (all.take k) (all.getD k 0) ∧ E'.length = E.length + 1)) (hb2 : But g K wr wr2) :
    AddsRel b g K N all w (.int .i64 ((k : Int) + 1)) wr2 := by
  rw [← RankM.take_snoc (by omega)] at hE
  refine ⟨k + 1, E'.length, c', E', ps', A', hk, by simp, rfl, ?_, Lib.hid hE, Lib.hid ?_, Lib.hid (hb.trans hb2)⟩
  · rcases hc with ⟨_, h⟩ | ⟨_, h⟩ <;> omega
  · rw [Ind.snoc (by omega)]
    rcases hc with ⟨h1, h2⟩ | ⟨h1, h2⟩
    · exact ⟨fun e => by omega, fun e => absurd h1 e.2⟩
    · exact ⟨fun e => ⟨hi.1 (by omega), h1⟩, fun e => by have := hi.2 e.1; omega⟩
set_option maxHeartbeats 4000000 in
set_option maxRecDepth 100000 in
theorem indFor_last (A A' : Option Addr) (c c' B b s n left : Nat) (xss : List (List Int)) (rows : List Nat) (w : World) (hx : RdC w B A xss) (hy : RdI w B A' (ofN rows)) (hB : B ≤ w.heap.size) (hv : xss.all (rowB b b) = true) (hb : b ≤ 6)
    (hs : s + 1 = xss.length) (hl4 : xss.length ≤ 4) (hleft : left ≤ b) (hn : rows.length = n) (hn2 : n ≤ 100) (hrows : RowsB b rows) :
    Calls Try.prog 63 #[.agg #[.int .i64 (b : Int), .slice A xss.length c], .int .i64 (s : Int), .int .i64 (left : Int), .slice A' n c'] w (IndRet (Ind (rows ++ (nats (xss.getD s [])).take left)) w) := by
  obtain ⟨W2, hW2⟩ : ∃ W2, W2 = (w.alloc (.cells #[.int .i64 (b : Int), .slice A xss.length c] 49)).alloc (.cells #[.int .i64 (b : Int), .slice none 0 0] 103) := ⟨_, rfl⟩
  have z2 : W2.heap.size = w.heap.size + 2 := by rw [hW2]; simp
  have b2 : Below w.heap.size w W2 := by rw [hW2]; exact ((Below.refl _ _).alloc (Nat.le_refl _) _).alloc (by simp) _
  have k1 : W2.cell? ⟨w.heap.size, 1, none⟩ = some (.slice A xss.length c) := by rw [hW2]; simp
  have e0 : W2.cell? ⟨w.heap.size + 1, 0, none⟩ = some (.int .i64 (b : Int)) := by rw [hW2]; simp
  have e1 : W2.cell? ⟨w.heap.size + 1, 1, none⟩ = some (.slice none 0 0) := by rw [hW2]; simp
  have ef : W2.frozen? ⟨w.heap.size + 1, 1, none⟩ = false := by rw [hW2]; simp
  obtain ⟨bb, off, hA, hbB, hc⟩ := hx (by omega)
  obtain ⟨A1, c1, g1, hcap, hcap2, r0⟩ := hc s (by omega)
  have r1 := r0.below b2 hB
  obtain ⟨m1, m2⟩ := row_of hv (show s < xss.length by omega)
  have hsq : ((s : Int) == (xss.length : Int) - 1) = true := by simp; omega
  have hofM : ofN (nats (xss.getD s [])) = xss.getD s [] := ofN_nats fun i hi => (m2 i (by omega)).1
  generalize xss.getD s [] = M at *
  have hsl : s < xss.length := by omega
  subst hA
  rw [m1] at hcap g1
  have hT : ofN ((nats M).take left) = M.take left := by
    have e : ofN ((nats M).take left) = (ofN (nats M)).take left := by simp only [ofN, List.map_take]
    rw [e, hofM]
  have hml : (M.take left).length = left := by rw [List.length_take]; omega
  have z22 : w.heap.size + 1 + 1 = W2.heap.size := by omega
  obtain ⟨W3, hW3⟩ : ∃ W3, W3 = W2.alloc (.cells #[.slice A' n c', .slice A1 left c1] 28) := ⟨_, rfl⟩
  have b3 : Below W2.heap.size W2 W3 := by rw [hW3]; exact (Below.refl _ _).alloc (Nat.le_refl _) _
  have z3 : W3.heap.size = w.heap.size + 3 := by rw [hW3]; simp; omega
  have HCc := Lib.hid (concat2 (w.heap.size + 1 + 1) n left c' c1 B B A' A1 (ofN rows) (M.take left) W3 (by rw [ofN_len]; exact hn) hml (by rw [hW3, z22]; simp) (by rw [hW3, z22]; simp) ((hy.below b2 hB).below b3 (by omega)) ((RdI.take (r1.below b3 (by omega)) (by omega))) (by omega) (by omega) (by omega) (by omega))
  obtain ⟨all, hall⟩ : ∃ all, all = rows ++ (nats M).take left := ⟨_, rfl⟩
  have hofall : ofN rows ++ M.take left = ofN all := by rw [hall, ← hT]; simp [ofN]
  have hNl : all.length = n + left := by rw [hall, List.length_append, List.length_take, nats_len]; omega
  have hallB : RowsB b all := fun j => by
    have hMb : RowsB b ((nats M).take left) := fun j => by
      rcases Nat.lt_or_ge j ((nats M).take left).length with hj | hj
      · rw [List.length_take, nats_len] at hj
        rw [show ((nats M).take left).getD j 0 = (nats M).getD j 0 by simp [List.getD, show j < left by omega], nats_get]
        have := m2 j (by omega)
        exact ShM.nat_lt this.1 this.2
      · rw [show ((nats M).take left).getD j 0 = 0 by rw [List.getD, List.getElem?_eq_none hj]; rfl]
        exact Nat.two_pow_pos b
    rw [hall]
    rcases Nat.lt_or_ge j rows.length with hj | hj
    · rw [app_lt hj]; exact hrows j
    · rw [show (rows ++ (nats M).take left).getD j 0 = ((nats M).take left).getD (j - rows.length) 0 by simp [List.getD, List.getElem?_append_right hj]]
      exact hMb _
  rw [hofall] at HCc
  rw [← hall]
  have HW2 := Lib.hid hW2
  have HW3 := Lib.hid hW3
  have HB2 := Lib.hid b2
  have HB3 := Lib.hid b3
  have HAB := Lib.hid hallB
  have HNl := Lib.hid hNl
  have hbl : bb < w.heap.size := by omega
  have hbl2 : bb ≠ w.heap.size := by omega
  have hbl3 : bb ≠ w.heap.size + 1 := by omega
  have HZ2 := Lib.hid z2
  have HZ3 := Lib.hid z3
  have z2' : w.heap.size + 2 ≤ W2.heap.size := by omega
  have z3' : w.heap.size + 3 ≤ W3.heap.size := by omega
  have z3'' : W2.heap.size ≤ W3.heap.size := by omega
  clear hs m1 hn hml z2 z3 z22
  clear hW2 hW3 b2 b3 hx hy hv r0 r1 hc hofM hT hall hofall hallB hNl m2 hrows
  go_enter Try.func63, Try.ntmps63
  rcases A1 with _ | ad1
  all_goals
    go_wp2_with fail
    rw [← HW2.out, ← HW3.out]
    refine HCc.out.mono ?_
    rintro e w5 ⟨A5, c5, rfl, o5, b5⟩
    have z5 := b5.size
    have kK : But (w.heap.size + 1) w5.heap.size w5 w5 := But.refl _ _ _
    have HES : Hid (EqSt (w.heap.size + 1) w5.heap.size b [] [] [] none 0 w5) := Lib.hid ⟨(b5.cell (p := ⟨w.heap.size + 1, 0, none⟩) (by show w.heap.size + 1 < _; omega)).trans ((HB3.out.cell (p := ⟨w.heap.size + 1, 0, none⟩) (by show w.heap.size + 1 < _; omega)).trans e0), (b5.cell (p := ⟨w.heap.size + 1, 1, none⟩) (by show w.heap.size + 1 < _; omega)).trans ((HB3.out.cell (p := ⟨w.heap.size + 1, 1, none⟩) (by show w.heap.size + 1 < _; omega)).trans e1), (b5.frozen (p := ⟨w.heap.size + 1, 1, none⟩) (by show w.heap.size + 1 < _; omega)).trans ((HB3.out.frozen (p := ⟨w.heap.size + 1, 1, none⟩) (by show w.heap.size + 1 < _; omega)).trans ef), World.ownsRow_nil _ _ _ _, Red.start, fun j => by simp; exact Nat.two_pow_pos b, by omega, Nat.le_refl _⟩
    have H0 : Hid (AddsRel b (w.heap.size + 1) w5.heap.size (n + left) all w5 (.int .i64 0) w5) := Lib.hid ⟨0, 0, 0, [], [], none, Nat.zero_le _, rfl, rfl, Nat.le_refl _, HES, Lib.hid ⟨fun _ => by simpa using Ind.nil, fun _ => rfl⟩, Lib.hid kK⟩
    have HRd := Lib.hid o5.rd
    have HB5 := Lib.hid (Below.nextA HB2.out (HB3.out.trans (b5.mono (by omega))))
    have HF5 : Hid (∀ g5 off5, A5 = some ⟨g5, off5, none⟩ → 0 < (ofN all).length → W3.heap.size ≤ g5) := Lib.hid fun g5 off5 e h0 => by
      obtain ⟨A6, c6, e6, hf⟩ := o5.form
      injection e6 with e7
      obtain ⟨g6, e8, h8, _⟩ := hf h0
      rw [← e7, e] at e8
      injection e8 with e8
      injection e8 with e8
      omega
    have hNlen : (ofN all).length = n + left := by rw [ofN_len]; exact HNl.out
    rw [hNlen]
    have HNe := Lib.hid hNlen
    clear o5 b5 kK HES hNlen
    go_wp2
    go_loopw [36] (fun iv wr => AddsRel b (w.heap.size + 1) w5.heap.size (n + left) all w5 iv wr) (fun iv _ => (n + left) - (intOf iv).toNat)
    case atStart => exact H0.out
    case round =>
      obtain ⟨k, nE, cE, E, ps, AE, hk, rfl, hnE, hnk, HE, HI, HBu⟩ := hrel
      clear H0
      by_cases hlt : k < n + left
      · obtain ⟨g5, off5, e5, hg5, hcell⟩ := HRd.out (by rw [HNe.out]; omega)
        have hlo := HF5.out g5 off5 e5 (by rw [HNe.out]; omega)
        subst e5
        have g := (HBu.out.cell (p := ⟨g5, off5 + k, none⟩) hg5 (by show g5 ≠ _; omega)).trans (hcell k (by rw [HNe.out]; omega))
        rw [ofN_get _ k (by rw [HNl.out]; omega)] at g
        have HAd := Lib.hid (add_any (w.heap.size + 1) w5.heap.size b nE cE (all.getD k 0) AE (all.take k) E ps wr HE.out hnE (by omega) hb (HAB.out k))
        have HNx := Lib.hid (fun E' ps' A' c' wr2 => AddsRel.next (b := b) (n := nE) (wr2 := wr2) (E' := E') (ps' := ps') (A' := A') (c' := c') HNl.out hlt (by omega) HI.out HBu.out)
        clear hcell
        generalize all.getD k 0 = x at *
        go_wp2_with fail
        refine HAd.out.mono ?_
        rintro e w6 ⟨E', ps', A6, c6, rfl, h1, h2, h3⟩
        have HN := Lib.hid (HNx.out E' ps' A6 c6 w6 h1 h2 h3)
        clear h1 h2 h3
        go_wp2
        go_roundw
        case rel => exact HN.out
        case measure => simp [intOf]; omega
      · obtain rfl : k = n + left := by omega
        have q1 := HE.out.c1
        have HR : Hid (IndRet (Ind all) w (.returned (.bool ((nE : Int) == ((n + left : Nat) : Int)))) wr) := Lib.hid ⟨_, rfl, by
          have h1 := HI.out
          rw [List.take_of_length_le (by rw [HNl.out]; exact Nat.le_refl _)] at h1
          rw [← h1, hnE]
          simp only [beq_iff_eq]
          omega, HB5.out.trans ((HBu.out.below (by omega)).mono (Nat.le_succ _))⟩
        rw [hnE] at q1
        go_wp2
        go_ret
        exact HR.out
theorem RdC.more {w : World} {B C : Nat} {A : Option Addr} {xss : List (List Int)} (h : RdC w B A xss) (hBC : B ≤ C) : RdC w C A xss := fun h0 => by
  obtain ⟨b, off, e, hlt, hc⟩ := h h0
  refine ⟨b, off, e, by omega, fun i hi => ?_⟩
  obtain ⟨A', c, h1, h3, h4, h2⟩ := hc i hi
  exact ⟨A', c, h1, h3, h4, h2.more hBC⟩
/-- what the search from a side on returns -/
def IndC (A : Option Addr) (c B b s : Nat) (xss : List (List Int)) : Prop := ∀ (A' : Option Addr) (c' n left : Nat) (rows : List Nat) (w : World), RdC w B A xss → RdI w w.heap.size A' (ofN rows) → B ≤ w.heap.size → left ≤ b → rows.length = n → n ≤ 6 * s → RowsB b rows →
  Calls Try.prog 63 #[.agg #[.int .i64 (b : Int), .slice A xss.length c], .int .i64 (s : Int), .int .i64 (left : Int), .slice A' n c'] w (IndRet (IndFor ((natss xss).drop s) left rows) w)
theorem drop_last {xss : List (List Int)} {s : Nat} (h : s + 1 = xss.length) : (natss xss).drop s = [nats (xss.getD s [])] := by
  rw [List.drop_eq_getElem_cons (by rw [natss_len]; omega), List.drop_eq_nil_of_le (by rw [natss_len]; omega)]
  congr 1
  rw [← natss_get]
  simp [List.getD, show s < (natss xss).length by rw [natss_len]; omega]
theorem drop_more {xss : List (List Int)} {s : Nat} (h : s + 1 < xss.length) : (natss xss).drop s = nats (xss.getD s []) :: (natss xss).drop (s + 1) := by
  rw [List.drop_eq_getElem_cons (by rw [natss_len]; omega)]
  congr 1
  rw [← natss_get]
  simp [List.getD, show s < (natss xss).length by rw [natss_len]; omega]
theorem rows_app {b : Nat} {rows M : List Nat} (h : RowsB b rows) (h' : RowsB b M) (k : Nat) : RowsB b (rows ++ M.take k) := fun j => by
  have hM : RowsB b (M.take k) := fun j => by
    rcases Nat.lt_or_ge j (M.take k).length with hj | hj
    · rw [List.length_take] at hj
      rw [show (M.take k).getD j 0 = M.getD j 0 by simp [List.getD, show j < k by omega]]
      exact h' j
    · rw [show (M.take k).getD j 0 = 0 by rw [List.getD, List.getElem?_eq_none hj]; rfl]
      exact Nat.two_pow_pos b
  rcases Nat.lt_or_ge j rows.length with hj | hj
  · rw [app_lt hj]; exact h j
  · rw [show (rows ++ M.take k).getD j 0 = (M.take k).getD (j - rows.length) 0 by simp [List.getD, List.getElem?_append_right hj]]
    exact hM _
theorem nats_rows {b s : Nat} {xss : List (List Int)} (hv : xss.all (rowB b b) = true) (hs : s < xss.length) : RowsB b (nats (xss.getD s [])) := fun j => by
  obtain ⟨m1, m2⟩ := row_of hv hs
  rw [nats_get]
  rcases Nat.lt_or_ge j b with hj | hj
  · have := m2 j hj
    exact ShM.nat_lt this.1 this.2
  · rw [show (xss.getD s []).getD j 0 = 0 by simp [List.getD] at m1 ⊢; rw [List.getElem?_eq_none (by omega)]; rfl]
    exact Nat.two_pow_pos b
set_option maxHeartbeats 4000000 in
set_option maxRecDepth 100000 in
theorem indFor_step (A : Option Addr) (c B b s : Nat) (xss : List (List Int)) (hv : xss.all (rowB b b) = true) (hb : b ≤ 6) (hs : s + 1 < xss.length) (hl4 : xss.length ≤ 4) (IH : IndC A c B b (s + 1) xss) : IndC A c B b s xss := by
  intro A' c' n left rows w hx hy hB hleft hn hn2 hrows
  rw [drop_more hs, indFor_more]
  have hMB := nats_rows hv (show s < xss.length by omega)
  obtain ⟨m1, m2⟩ := row_of hv (show s < xss.length by omega)
  have hofM : ofN (nats (xss.getD s [])) = xss.getD s [] := ofN_nats fun i hi => (m2 i (by omega)).1
  obtain ⟨bb, off, hA, hbB, hc⟩ := hx (by omega)
  obtain ⟨A1, c1, g1, hcap, hcap2, r0⟩ := hc s (by omega)
  have hHM : Hid (nats (xss.getD s []) = nats (xss.getD s [])) := Lib.hid rfl
  rw [m1] at hcap g1
  obtain ⟨W1, hW1⟩ : ∃ W1, W1 = w.alloc (.cells #[.int .i64 (b : Int), .slice A xss.length c] 49) := ⟨_, rfl⟩
  have z1 : W1.heap.size = w.heap.size + 1 := by rw [hW1]; simp
  have b1 : Below w.heap.size w W1 := by rw [hW1]; exact (Below.refl _ _).alloc (Nat.le_refl _) _
  have e0 : W1.cell? ⟨w.heap.size, 0, none⟩ = some (.int .i64 (b : Int)) := by rw [hW1]; simp
  have e1 : W1.cell? ⟨w.heap.size, 1, none⟩ = some (.slice A xss.length c) := by rw [hW1]; simp
  have e2 : W1.cell? ⟨bb, off + s, none⟩ = some (.slice A1 b c1) := (b1.cell (p := ⟨bb, off + s, none⟩) (by show bb < _; omega)).trans g1
  have hsq : ((s : Int) == (xss.length : Int) - 1) = false := by simp; omega
  have hsl : s < xss.length := by omega
  subst hA
  generalize xss.getD s [] = M at *
  have HB1 := Lib.hid b1
  have HSZ := Lib.hid z1
  have hbl : bb < W1.heap.size := by omega
  have hwl : w.heap.size < W1.heap.size := by omega
  have hBl : B ≤ W1.heap.size := by omega
  -- the calls of a round
  have HCc : Hid (∀ (wr : World) (k : Nat), Below W1.heap.size W1 wr → k ≤ left → ∀ Y : World, Below (wr.heap.size + 1) (wr.alloc (.cells #[.slice A' n c', .slice A1 k c1] 28)) Y → Calls Try.prog 85 #[.slice (some ⟨wr.heap.size, 0, none⟩) 2 2] Y fun e w2 => ∃ A4 c4, e = .returned (.slice A4 (n + k) c4) ∧ RdI w2 w2.heap.size A4 (ofN (rows ++ (nats M).take k)) ∧ Below wr.heap.size wr w2) := Lib.hid fun wr k hb0 hk Y hY => by
    have hT : ofN ((nats M).take k) = M.take k := by
      have e : ofN ((nats M).take k) = (ofN (nats M)).take k := by simp only [ofN, List.map_take]
      rw [e, hofM]
    have hsz := hb0.size
    have bA : Below wr.heap.size wr (wr.alloc (.cells #[.slice A' n c', .slice A1 k c1] 28)) := (Below.refl _ _).alloc (Nat.le_refl _) _
    have bY : Below wr.heap.size wr Y := bA.trans (hY.mono (Nat.le_succ _))
    have zY : wr.heap.size + 1 ≤ Y.heap.size := by have := hY.size; simp at this; exact this
    have bX : Below w.heap.size w Y := b1.trans ((hb0.trans (bY.mono hsz)).mono (by omega))
    have hcc := concat2 wr.heap.size n k c' c1 w.heap.size B A' A1 (ofN rows) (M.take k) Y (by rw [ofN_len]; exact hn) (by rw [List.length_take]; omega) ((hY.cell (p := ⟨wr.heap.size, 0, none⟩) (Nat.lt_succ_self _)).trans (by simp)) ((hY.cell (p := ⟨wr.heap.size, 1, none⟩) (Nat.lt_succ_self _)).trans (by simp)) (hy.below bX (Nat.le_refl _)) ((r0.below bX hB).take (by omega)) (by omega) (by omega) (by omega) (by omega)
    refine hcc.mono ?_
    rintro e w2 ⟨A4, c4, rfl, o4, b4⟩
    have hl : (ofN rows ++ M.take k).length = n + k := by rw [List.length_append, ofN_len, List.length_take]; omega
    have ho : ofN rows ++ M.take k = ofN (rows ++ (nats M).take k) := by rw [← hT]; simp [ofN]
    have ord := o4.rd
    rw [ho] at ord
    refine ⟨A4, c4, by rw [hl], ord, ?_⟩
    exact bY.trans (b4.mono (by omega))
  have HI : Hid (∀ (wr w2 : World) (k c4 : Nat) (A4 : Option Addr), Below W1.heap.size W1 wr → Below wr.heap.size wr w2 → k ≤ left → RdI w2 w2.heap.size A4 (ofN (rows ++ (nats M).take k)) → Calls Try.prog 63 #[.agg #[.int .i64 (b : Int), .slice (some ⟨bb, off, none⟩) xss.length c], .int .i64 ((s : Int) + 1), .int .i64 ((left : Int) - (k : Int)), .slice A4 (n + k) c4] w2 (IndRet (IndFor ((natss xss).drop (s + 1)) (left - k) (rows ++ (nats M).take k)) w2)) := Lib.hid fun wr w2 k c4 A4 hb0 hb2 hk hr => by
    have hsz := hb0.size
    have hsz2 := hb2.size
    have bX : Below w.heap.size w w2 := b1.trans ((hb0.trans (hb2.mono hsz)).mono (by omega))
    have := IH A4 c4 (n + k) (left - k) (rows ++ (nats M).take k) w2 (hx.below bX hB) hr (by omega) (by omega) (by rw [List.length_append, List.length_take, nats_len]; omega) (by omega) (rows_app hrows hMB k)
    rw [show ((s + 1 : Nat) : Int) = (s : Int) + 1 by simp, show ((left - k : Nat) : Int) = (left : Int) - (k : Int) by omega] at this
    exact this
  have HW1 := Lib.hid hW1
  clear hn m1 m2 hx hy hc r0 hv hrows hMB hofM IH hHM hW1 z1 b1 hs
  obtain ⟨P, hP⟩ : ∃ P : Nat → Prop, P = fun k => IndFor ((natss xss).drop (s + 1)) (left - k) (rows ++ (nats M).take k) := ⟨_, rfl⟩
  have hPk : ∀ k, IndFor ((natss xss).drop (s + 1)) (left - k) (rows ++ (nats M).take k) = P k := fun k => by rw [hP]
  simp only [hPk] at HI ⊢
  have HC1 : Hid (rows ++ nats M = rows ++ nats M) := Lib.hid rfl
  clear hP hPk
  have H0 : Hid (Below W1.heap.size W1 W1) := Lib.hid (Below.refl _ _)
  go_enter Try.func63, Try.ntmps63
  rcases A1 with _ | ad1
  · go_wp2_with fail
    rw [← HW1.out]
    go_loopw [54] (fun iv wr => ∃ k : Nat, k ≤ left + 1 ∧ iv = .int .i64 (k : Int) ∧ Hid (∀ m, m < k → P m) ∧ Hid (Below W1.heap.size W1 wr)) (fun iv _ => left + 1 - (intOf iv).toNat)
    case atStart => exact ⟨0, Nat.zero_le _, rfl, Lib.hid fun m hm => absurd hm (Nat.not_lt_zero m), H0⟩
    case round =>
      obtain ⟨k, hk, rfl, hall, HB⟩ := hrel
      clear H0
      have hsz := HB.out.size
      have d0 := (HB.out.cell (p := ⟨w.heap.size, 0, none⟩) hwl).trans e0
      have d1 := (HB.out.cell (p := ⟨w.heap.size, 1, none⟩) hwl).trans e1
      have d2 := (HB.out.cell (p := ⟨bb, off + s, none⟩) hbl).trans e2
      by_cases hlt : k ≤ left
      · have hkc : k ≤ c1 := by omega
        have HC2 := Lib.hid (HCc.out wr k HB.out hlt)
        have HI2 := Lib.hid (fun w2 c4 A4 hb2 hr => HI.out wr w2 k c4 A4 HB.out hb2 hlt hr)
        have L0 : w.heap.size < wr.heap.size := by omega
        have L2 : bb < wr.heap.size := by omega
        have hw1 : IntKind.i64.wrap ((s : Int) + 1) = (s : Int) + 1 := by rw [IntKind.wrap_i64]; omega
        have hw2 : IntKind.i64.wrap ((left : Int) - (k : Int)) = (left : Int) - (k : Int) := by rw [IntKind.wrap_i64]; omega
        clear HCc HI
        go_wp2
        go_region_held3 (fun w' => w'.cell? ⟨w.heap.size, 0, none⟩ = some (.int .i64 (b : Int)) ∧ w'.cell? ⟨w.heap.size, 1, none⟩ = some (.slice (some ⟨bb, off, none⟩) xss.length c) ∧ w'.cell? ⟨bb, off + s, none⟩ = some (.slice none b c1))
          (first | go_keep | exact ⟨k0, k1, k2⟩)
          (first
            | (go_at_call 85; refine (HC2.out _ (by first | exact Below.refl _ _ | exact (Below.refl _ _).drew)).mono ?_; rintro e w2 ⟨A4, c4, rfl, r4, b4⟩; have k0 := (b4.cell (p := ⟨w.heap.size, 0, none⟩) L0).trans d0; have k1 := (b4.cell (p := ⟨w.heap.size, 1, none⟩) L0).trans d1; have k2 := (b4.cell (p := ⟨bb, off + s, none⟩) L2).trans d2; have HR4 := Lib.hid r4; have HB4 := Lib.hid b4; clear r4 b4)
            | (go_at_call 63; refine (HI2.out _ _ _ HB4.out HR4.out).mono ?_; rintro e w3 ⟨r, rfl, hr, b3⟩; have HR := Lib.hid hr; have HB3 := Lib.hid (HB.out.trans ((HB4.out.trans (b3.mono HB4.out.size)).mono hsz)); have k0 := (b3.cell (p := ⟨w.heap.size, 0, none⟩) (Nat.lt_of_lt_of_le L0 HB4.out.size)).trans k0; have k1 := (b3.cell (p := ⟨w.heap.size, 1, none⟩) (Nat.lt_of_lt_of_le L0 HB4.out.size)).trans k1; have k2 := (b3.cell (p := ⟨bb, off + s, none⟩) (Nat.lt_of_lt_of_le L2 HB4.out.size)).trans k2; clear hr b3))
        all_goals
          cases r with
          | false =>
            have hnk : ¬ P k := fun h => by
              have := HR.out.2 h
              cases this
            have HF : Hid (IndRet (∀ many, many ≤ left → P many) w (.returned (.bool false)) w3) := Lib.hid ⟨false, rfl, ⟨fun e => (by cases e), fun h => absurd (h k hlt) hnk⟩, HB1.out.trans (HB3.out.mono (by omega))⟩
            go_wp2
            go_ret
            exact HF.out
          | true =>
            have HN : Hid (∀ m, m < k + 1 → P m) := Lib.hid fun m hm => by
              rcases Nat.lt_or_ge m k with h | h
              · exact hall.out m h
              · rw [show m = k by omega]; exact HR.out.1 rfl
            go_wp2
            go_roundw
            case rel => exact ⟨k + 1, by omega, by go_num, HN, HB3⟩
            case measure => simp [intOf]; omega
      · obtain rfl : k = left + 1 := by omega
        have HF : Hid (IndRet (∀ many, many ≤ left → P many) w (.returned (.bool true)) wr) := Lib.hid ⟨true, rfl, ⟨fun _ m hm => hall.out m (by omega), fun _ => rfl⟩, HB1.out.trans (HB.out.mono (by omega))⟩
        go_wp2
        go_ret
        exact HF.out
  · go_wp2_with fail
    rw [← HW1.out]
    go_loopw [54] (fun iv wr => ∃ k : Nat, k ≤ left + 1 ∧ iv = .int .i64 (k : Int) ∧ Hid (∀ m, m < k → P m) ∧ Hid (Below W1.heap.size W1 wr)) (fun iv _ => left + 1 - (intOf iv).toNat)
    case atStart => exact ⟨0, Nat.zero_le _, rfl, Lib.hid fun m hm => absurd hm (Nat.not_lt_zero m), H0⟩
    case round =>
      obtain ⟨k, hk, rfl, hall, HB⟩ := hrel
      clear H0
      have hsz := HB.out.size
      have d0 := (HB.out.cell (p := ⟨w.heap.size, 0, none⟩) hwl).trans e0
      have d1 := (HB.out.cell (p := ⟨w.heap.size, 1, none⟩) hwl).trans e1
      have d2 := (HB.out.cell (p := ⟨bb, off + s, none⟩) hbl).trans e2
      by_cases hlt : k ≤ left
      · have hkc : k ≤ c1 := by omega
        have HC2 := Lib.hid (HCc.out wr k HB.out hlt)
        have HI2 := Lib.hid (fun w2 c4 A4 hb2 hr => HI.out wr w2 k c4 A4 HB.out hb2 hlt hr)
        have L0 : w.heap.size < wr.heap.size := by omega
        have L2 : bb < wr.heap.size := by omega
        have hw1 : IntKind.i64.wrap ((s : Int) + 1) = (s : Int) + 1 := by rw [IntKind.wrap_i64]; omega
        have hw2 : IntKind.i64.wrap ((left : Int) - (k : Int)) = (left : Int) - (k : Int) := by rw [IntKind.wrap_i64]; omega
        clear HCc HI
        go_wp2
        go_region_held3 (fun w' => w'.cell? ⟨w.heap.size, 0, none⟩ = some (.int .i64 (b : Int)) ∧ w'.cell? ⟨w.heap.size, 1, none⟩ = some (.slice (some ⟨bb, off, none⟩) xss.length c) ∧ w'.cell? ⟨bb, off + s, none⟩ = some (.slice (some ad1) b c1))
          (first | go_keep | exact ⟨k0, k1, k2⟩)
          (first
            | (go_at_call 85; refine (HC2.out _ (by first | exact Below.refl _ _ | exact (Below.refl _ _).drew)).mono ?_; rintro e w2 ⟨A4, c4, rfl, r4, b4⟩; have k0 := (b4.cell (p := ⟨w.heap.size, 0, none⟩) L0).trans d0; have k1 := (b4.cell (p := ⟨w.heap.size, 1, none⟩) L0).trans d1; have k2 := (b4.cell (p := ⟨bb, off + s, none⟩) L2).trans d2; have HR4 := Lib.hid r4; have HB4 := Lib.hid b4; clear r4 b4)
            | (go_at_call 63; refine (HI2.out _ _ _ HB4.out HR4.out).mono ?_; rintro e w3 ⟨r, rfl, hr, b3⟩; have HR := Lib.hid hr; have HB3 := Lib.hid (HB.out.trans ((HB4.out.trans (b3.mono HB4.out.size)).mono hsz)); have k0 := (b3.cell (p := ⟨w.heap.size, 0, none⟩) (Nat.lt_of_lt_of_le L0 HB4.out.size)).trans k0; have k1 := (b3.cell (p := ⟨w.heap.size, 1, none⟩) (Nat.lt_of_lt_of_le L0 HB4.out.size)).trans k1; have k2 := (b3.cell (p := ⟨bb, off + s, none⟩) (Nat.lt_of_lt_of_le L2 HB4.out.size)).trans k2; clear hr b3))
        all_goals
          cases r with
          | false =>
            have hnk : ¬ P k := fun h => by
              have := HR.out.2 h
              cases this
            have HF : Hid (IndRet (∀ many, many ≤ left → P many) w (.returned (.bool false)) w3) := Lib.hid ⟨false, rfl, ⟨fun e => (by cases e), fun h => absurd (h k hlt) hnk⟩, HB1.out.trans (HB3.out.mono (by omega))⟩
            go_wp2
            go_ret
            exact HF.out
          | true =>
            have HN : Hid (∀ m, m < k + 1 → P m) := Lib.hid fun m hm => by
              rcases Nat.lt_or_ge m k with h | h
              · exact hall.out m h
              · rw [show m = k by omega]; exact HR.out.1 rfl
            go_wp2
            go_roundw
            case rel => exact ⟨k + 1, by omega, by go_num, HN, HB3⟩
            case measure => simp [intOf]; omega
      · obtain rfl : k = left + 1 := by omega
        have HF : Hid (IndRet (∀ many, many ≤ left → P many) w (.returned (.bool true)) wr) := Lib.hid ⟨true, rfl, ⟨fun _ m hm => hall.out m (by omega), fun _ => rfl⟩, HB1.out.trans (HB.out.mono (by omega))⟩
        go_wp2
        go_ret
        exact HF.out
theorem indFor_any (A : Option Addr) (c B b : Nat) (xss : List (List Int)) (hv : xss.all (rowB b b) = true) (hb : b ≤ 6) (hl4 : xss.length ≤ 4) : ∀ d s, s + 1 + d = xss.length → IndC A c B b s xss
  | 0, s, h => fun A' c' n left rows w hx hy hB hleft hn hn2 hrows => by
    rw [drop_last h, indFor_one]
    exact indFor_last A A' c c' w.heap.size b s n left xss rows w (hx.more hB) hy (Nat.le_refl _) hv hb h hl4 hleft hn (by omega) hrows
  | d + 1, s, h => indFor_step A c B b s xss hv hb (by omega) hl4 (indFor_any A c B b xss hv hb hl4 d (s + 1) (by omega))
theorem indFor_zero_any (A : Option Addr) (c B b left : Nat) (xss : List (List Int)) (w : World) (hx : RdC w B A xss) (hB : B ≤ w.heap.size) (hv : xss.all (rowB b b) = true) (hb : b ≤ 6) (h1 : 1 ≤ xss.length) (hl4 : xss.length ≤ 4) (hleft : left ≤ b) :
    Calls Try.prog 63 #[.agg #[.int .i64 (b : Int), .slice A xss.length c], .int .i64 0, .int .i64 (left : Int), .slice none 0 0] w (IndRet (IndFor (natss xss) left []) w) := by
  have := indFor_any A c B b xss hv hb hl4 (xss.length - 1) 0 (by omega) none 0 0 left [] w hx (fun h0 => by simp [ofN] at h0) hB hleft rfl (Nat.zero_le _) (fun j => by simp; exact Nat.two_pow_pos b)
  simpa using this
def QRet (b : Nat) (xss : List (List Int)) (w : World) (e : Ending) (w' : World) : Prop := ∃ t : Nat, e = .returned (.tuple #[.int .i64 (t : Int), .bool true]) ∧ IsQ b (natss xss) t ∧ Below w.heap.size w w'
def QNo (w : World) (e : Ending) (w' : World) : Prop := e = .returned (.tuple #[.int .i64 0, .bool false]) ∧ Below w.heap.size w w'
set_option maxHeartbeats 2000000 in
set_option maxRecDepth 100000 in
theorem implQ_any (A : Option Addr) (c B : Nat) (bits : Int) (xss : List (List Int)) (w : World) (hx : RdC w B A xss) (hB : B ≤ w.heap.size) (hl : xss.length ≤ 1048576) (hm : tot xss ≤ 1048576) :
    Calls Try.prog 35 #[.agg #[.int .i64 bits, .slice A xss.length c]] w fun e w' => (netB bits xss = true → QRet bits.toNat xss w e w') ∧ (netB bits xss = false → QNo w e w') := by
  obtain ⟨W1, hW1⟩ : ∃ W1, W1 = w.alloc (.cells #[.int .i64 bits, .slice A xss.length c] 49) := ⟨_, rfl⟩
  have z1 : W1.heap.size = w.heap.size + 1 := by rw [hW1]; simp
  have b1 : Below w.heap.size w W1 := by rw [hW1]; exact (Below.refl _ _).alloc (Nat.le_refl _) _
  have e0 : W1.cell? ⟨w.heap.size, 0, none⟩ = some (.int .i64 bits) := by rw [hW1]; simp
  have e1 : W1.cell? ⟨w.heap.size, 1, none⟩ = some (.slice A xss.length c) := by rw [hW1]; simp
  have hwl : w.heap.size < W1.heap.size := by omega
  have HV := Lib.hid (implValidNet_any A c B bits xss W1 (hx.rd.below b1 hB) (by omega) hl hm)
  have HW1 := Lib.hid hW1
  have HB1 := Lib.hid b1
  have HX := Lib.hid hx
  have hB1 : B ≤ W1.heap.size := by omega
  cases hN : netB bits xss with
  | false =>
    rw [hN] at HV
    clear hW1 z1 b1 hx hN
    go_enter Try.func35, Try.ntmps35
    go_wp2_with fail
    rw [← HW1.out]
    refine HV.out.mono ?_
    rintro e w1 ⟨rfl, hD⟩
    have HB2 := Lib.hid (HB1.out.trans (hD.mono (by omega)))
    clear hD
    go_wp2
    go_ret2
    exact ⟨fun h => (by cases h), fun _ => ⟨rfl, HB2.out⟩⟩
  | true =>
    rw [hN] at HV
    obtain ⟨n1, n2, n3, n4, n5⟩ := netB_true hN
    obtain ⟨b, rfl⟩ := Int.eq_ofNat_of_zero_le n1
    rw [Int.toNat_natCast] at n5
    have hb6 : b ≤ 6 := by omega
    have HC := Lib.hid (fun (w1 : World) (left : Nat) (hb1 : Below W1.heap.size W1 w1) (hl : left ≤ b) => indFor_zero_any A c B b left xss w1 ((hx.below b1 hB).below hb1 hB1) (Nat.le_trans hB1 hb1.size) n5 hb6 n3 n4 hl)
    have hz0 := indFor_zero (natss xss)
    have HZ := Lib.hid hz0
    clear hW1 z1 b1 hx hN n5 hz0
    go_enter Try.func35, Try.ntmps35
    go_wp2_with fail
    rw [← HW1.out]
    refine HV.out.mono ?_
    rintro e w1 ⟨rfl, hD⟩
    have H0 : Hid (Below W1.heap.size W1 w1) := Lib.hid hD
    clear hD
    go_wp2
    go_loopw [4] (fun tv wr => ∃ t : Nat, t ≤ b ∧ tv = .int .i64 (t : Int) ∧ Hid (∀ s, s < t → ¬ IndFor (natss xss) (b - s) []) ∧ Hid (Below W1.heap.size W1 wr)) (fun tv _ => b + 1 - (intOf tv).toNat)
    case atStart => exact ⟨0, Nat.zero_le _, rfl, Lib.hid fun m hm => absurd hm (Nat.not_lt_zero m), H0⟩
    case round =>
      obtain ⟨t, ht, rfl, hall, HB⟩ := hrel
      clear H0
      have d0 := (HB.out.cell (p := ⟨w.heap.size, 0, none⟩) hwl).trans e0
      have d1 := (HB.out.cell (p := ⟨w.heap.size, 1, none⟩) hwl).trans e1
      have HCt := HC.out wr (b - t) HB.out (Nat.sub_le _ _)
      rw [show ((b - t : Nat) : Int) = (b : Int) - (t : Int) by omega] at HCt
      have HCt := Lib.hid HCt
      go_wp2_with fail
      refine HCt.out.mono ?_
      rintro e w2 ⟨r, rfl, hr, hb2⟩
      have HB2 := Lib.hid (HB.out.trans (hb2.mono HB.out.size))
      have HR := Lib.hid hr
      clear hr hb2
      cases r with
      | true =>
        have HF : Hid (QRet b xss w (.returned (.tuple #[.int .i64 (t : Int), .bool true])) w2) := Lib.hid ⟨t, rfl, ⟨ht, HR.out.1 rfl, hall.out⟩, HB1.out.trans (HB2.out.mono (by omega))⟩
        go_wp2
        go_ret2
        exact ⟨fun _ => HF.out, fun h => (by cases h)⟩
      | false =>
        have hno : ¬ IndFor (natss xss) (b - t) [] := fun h => by have := HR.out.2 h; cases this
        have hlt : t < b := by
          rcases Nat.lt_or_ge t b with h | h
          · exact h
          · exact absurd (by rw [show b - t = 0 by omega]; exact HZ.out) hno
        have HN : Hid (∀ s, s < t + 1 → ¬ IndFor (natss xss) (b - s) []) := Lib.hid fun s hs => by
          rcases Nat.lt_or_ge s t with h | h
          · exact hall.out s h
          · rw [show s = t by omega]; exact hno
        clear hno
        go_wp2
        go_roundw
        case rel => exact ⟨t + 1, hlt, by go_num, HN, HB2⟩
        case measure => simp [intOf]; omega
end Go.Proofs.Ytjkcdnfmmfpbjaa.QualI
