/- Plain mathematics: masks that are sums modulo 2 of others, and two ways to find out whether some are. No program in sight. -/
import Derived.Laws.BitsAllLaws
set_option linter.unusedVariables false
namespace Go.Proofs.Ytjkcdnfmmfpbjaa.RankM
/-- what masks span -/
inductive Sp (rows : List Nat) : Nat → Prop
  | zero : Sp rows 0
  | step {x r : Nat} : Sp rows x → r ∈ rows → Sp rows (x ^^^ r)
theorem Sp.mem {rows : List Nat} {r : Nat} (h : r ∈ rows) : Sp rows r := by
  have := Sp.step .zero h
  rwa [Nat.zero_xor] at this
theorem Sp.xor {rows : List Nat} {x y : Nat} (h : Sp rows x) (k : Sp rows y) : Sp rows (x ^^^ y) := by
  induction k with
  | zero => rwa [Nat.xor_zero]
  | step _ hr ih => rw [← Nat.xor_assoc]; exact .step ih hr
theorem Sp.of {rows rows' : List Nat} {x : Nat} (h : Sp rows x) (k : ∀ r, r ∈ rows → Sp rows' r) : Sp rows' x := by
  induction h with
  | zero => exact .zero
  | step _ hr ih => exact ih.xor (k _ hr)
theorem Sp.mono {rows rows' : List Nat} {x : Nat} (h : Sp rows x) (k : ∀ r, r ∈ rows → r ∈ rows') : Sp rows' x := h.of fun r hr => .mem (k r hr)
theorem Sp.nil {x : Nat} (h : Sp [] x) : x = 0 := by
  cases h with
  | zero => rfl
  | step _ hr => cases hr
theorem Sp.bit {rows : List Nat} {x p : Nat} (h : Sp rows x) (k : ∀ r, r ∈ rows → r.testBit p = false) : x.testBit p = false := by
  induction h with
  | zero => exact Nat.zero_testBit p
  | step _ hr ih => rw [Nat.testBit_xor, ih, k _ hr]; rfl
theorem Sp.cons {a : Nat} {rows : List Nat} {x : Nat} (h : Sp (a :: rows) x) : Sp rows x ∨ Sp rows (x ^^^ a) := by
  induction h with
  | zero => exact .inl .zero
  | @step y r _ hr ih =>
    rcases List.mem_cons.1 hr with rfl | hr
    · rcases ih with ih | ih
      · exact .inr (by rw [Nat.xor_assoc, Nat.xor_self, Nat.xor_zero]; exact ih)
      · exact .inl ih
    · rcases ih with ih | ih
      · exact .inl (.step ih hr)
      · exact .inr (by rw [Nat.xor_assoc, Nat.xor_comm r a, ← Nat.xor_assoc]; exact .step ih hr)
/-- each row has a bit of its own that the rows behind it lack -/
def Ech : List Nat → Prop
  | [] => True
  | a :: r => (∃ p, a.testBit p = true ∧ ∀ x, x ∈ r → x.testBit p = false) ∧ Ech r
/-- a mask without the bits of the rows is their sum only if it is 0 -/
theorem Sp.low : ∀ {rows : List Nat} {x : Nat}, Sp rows x → (∀ (l : List Nat) (a : Nat) (r : List Nat), rows = l ++ a :: r → ∃ p, a.testBit p = true ∧ (∀ y, y ∈ r → y.testBit p = false) ∧ x.testBit p = false) → x = 0
  | [], x, h, _ => h.nil
  | a :: rows, x, h, k => by
    obtain ⟨p, h1, h2, h3⟩ := k [] a rows rfl
    rcases h.cons with g | g
    · exact Sp.low g fun l b r e => k (a :: l) b r (by rw [e]; rfl)
    · have := g.bit h2
      rw [Nat.testBit_xor, h1, h3] at this
      cases this
/-- no row is a sum of rows before it -/
def Ind (rows : List Nat) : Prop := ∀ i, i < rows.length → ¬ Sp (rows.take i) (rows.getD i 0)
theorem Ind.nil : Ind [] := fun i hi => absurd hi (Nat.not_lt_zero i)
theorem take_snoc {rows : List Nat} {i : Nat} (h : i < rows.length) : rows.take (i + 1) = rows.take i ++ [rows.getD i 0] := by
  rw [List.take_succ_eq_append_getElem h]
  simp [List.getD, h]
/-- an elimination from the left, at row i: every row less a sum of rows before it -/
structure Elim (rows left : List Nat) (i : Nat) : Prop where
  len : left.length = rows.length
  sum : ∀ k, k < rows.length → Sp (rows.take k) (left.getD k 0 ^^^ rows.getD k 0)
  piv : ∀ j, j < i → left.getD j 0 ≠ 0 → ∃ p, (left.getD j 0).testBit p = true ∧ ∀ k, j < k → k < rows.length → (left.getD k 0).testBit p = false
theorem xx (a b : Nat) : a ^^^ (a ^^^ b) = b := by rw [← Nat.xor_assoc, Nat.xor_self, Nat.zero_xor]
theorem Elim.start (rows : List Nat) : Elim rows rows 0 := ⟨rfl, fun k _ => by rw [Nat.xor_self]; exact .zero, fun j hj => absurd hj (Nat.not_lt_zero j)⟩
theorem Elim.span {rows left : List Nat} {i : Nat} (h : Elim rows left i) : ∀ k, k ≤ rows.length → ∀ x, Sp (rows.take k) x → Sp (left.take k) x := by
  intro k
  induction k with
  | zero => intro _ x hx; simpa using hx
  | succ k ih =>
    intro hk x hx
    have e1 := take_snoc (rows := rows) (i := k) hk
    have e2 := take_snoc (rows := left) (i := k) (by rw [h.len]; exact hk)
    refine hx.of fun r hr => ?_
    rw [e1, List.mem_append, List.mem_singleton] at hr
    have hm : ∀ y, Sp (left.take k) y → Sp (left.take (k + 1)) y := fun y hy => hy.mono fun r hr => by rw [e2]; exact List.mem_append_left _ hr
    rcases hr with hr | rfl
    · exact hm _ (ih (by omega) r (.mem hr))
    · have h1 := hm _ (ih (by omega) _ (h.sum k hk))
      have h2 : Sp (left.take (k + 1)) (left.getD k 0) := .mem (by rw [e2]; exact List.mem_append_right _ (List.mem_singleton.2 rfl))
      have := h2.xor h1
      rwa [xx] at this
theorem Elim.done {rows left : List Nat} (h : Elim rows left rows.length) : Ind rows ↔ ∀ j, j < rows.length → left.getD j 0 ≠ 0 := by
  constructor
  · intro hi j hj e
    have := h.sum j hj
    rw [e, Nat.zero_xor] at this
    exact hi j hj this
  · intro hn i hi hs
    have h1 := h.span i (by omega) _ (hs.xor (h.sum i hi))
    rw [Nat.xor_comm, Nat.xor_assoc, Nat.xor_self, Nat.xor_zero] at h1
    refine hn i hi (h1.low fun l a r e => ?_)
    have hl : l.length < (left.take i).length := by rw [e]; simp
    have hl2 : l.length < i := by rw [List.length_take] at hl; omega
    have hget : ∀ k, k < i → (left.take i).getD k 0 = left.getD k 0 := fun k hk => by simp [List.getD, hk]
    have ha : left.getD l.length 0 = a := by rw [← hget _ hl2, e]; simp [List.getD]
    obtain ⟨p, p1, p2⟩ := h.piv l.length (by omega) (hn _ (by omega))
    refine ⟨p, by rw [← ha]; exact p1, fun y hy => ?_, p2 i hl2 hi⟩
    obtain ⟨n, hn1, hn2⟩ := List.mem_iff_getElem.1 hy
    have hlt : l.length + 1 + n < i := by
      have : (left.take i).length = l.length + 1 + r.length := by rw [e]; simp; omega
      rw [List.length_take] at this; omega
    have : left.getD (l.length + 1 + n) 0 = y := by
      rw [← hget _ hlt, e]
      simp [List.getD, List.getElem?_append_right, show l.length ≤ l.length + 1 + n by omega, show l.length + 1 + n - l.length = n + 1 by omega, hn1, hn2]
    rw [← this]
    exact p2 _ (by omega) (by omega)
/-- one row is cleared of the pivot's bit -/
def clr (a p x : Nat) : Nat := if x.testBit p then x ^^^ a else x
/-- the rows behind row i up to k are cleared -/
def clrTo (left : List Nat) (i p k : Nat) : List Nat := left.mapIdx fun j x => if i < j ∧ j < k then clr (left.getD i 0) p x else x
theorem clrTo_len (left : List Nat) (i p k : Nat) : (clrTo left i p k).length = left.length := by simp [clrTo]
theorem clrTo_getD (left : List Nat) (i p k j : Nat) : (clrTo left i p k).getD j 0 = if i < j ∧ j < k ∧ j < left.length then clr (left.getD i 0) p (left.getD j 0) else left.getD j 0 := by
  by_cases hj : j < left.length
  · simp [clrTo, List.getD, hj]
  · simp [clrTo, List.getD, hj]
theorem clrTo_start (left : List Nat) (i p : Nat) : clrTo left i p (i + 1) = left := by
  refine List.ext_getElem (clrTo_len _ _ _ _) fun j h1 h2 => ?_
  simp only [clrTo, List.getElem_mapIdx]
  rw [if_neg (by omega)]
theorem clrTo_set (left : List Nat) (i p k : Nat) (hik : i < k) (hk : k < left.length) : (clrTo left i p k).set k (clr (left.getD i 0) p ((clrTo left i p k).getD k 0)) = clrTo left i p (k + 1) := by
  have e : (clrTo left i p k).getD k 0 = left.getD k 0 := by rw [clrTo_getD, if_neg (by omega)]
  rw [e]
  refine List.ext_getElem (by simp [clrTo]) fun j h1 h2 => ?_
  rw [List.getElem_set]
  by_cases hj : k = j
  · subst hj
    rw [if_pos rfl]
    simp only [clrTo, List.getElem_mapIdx]
    rw [if_pos ⟨hik, Nat.lt_succ_self _⟩]
    simp [List.getD, hk]
  · rw [if_neg hj]
    simp only [clrTo, List.getElem_mapIdx]
    by_cases h3 : i < j ∧ j < k
    · rw [if_pos h3, if_pos ⟨h3.1, by omega⟩]
    · rw [if_neg h3, if_neg (by omega)]
theorem clr_bit {a p x : Nat} (h : a.testBit p = true) : (clr a p x).testBit p = false := by
  unfold clr
  by_cases hx : x.testBit p
  · rw [if_pos hx, Nat.testBit_xor, hx, h]; rfl
  · rw [if_neg hx]; simpa using hx
theorem clr_keep {a p q x : Nat} (h : a.testBit q = false) (hx : x.testBit q = false) : (clr a p x).testBit q = false := by
  unfold clr
  split
  · rw [Nat.testBit_xor, hx, h]; rfl
  · exact hx
theorem Elim.skip {rows left : List Nat} {i : Nat} (h : Elim rows left i) (h0 : left.getD i 0 = 0) : Elim rows left (i + 1) :=
  ⟨h.len, h.sum, fun j hj hn => by
    rcases Nat.lt_or_ge j i with hlt | hge
    · exact h.piv j hlt hn
    · obtain rfl : j = i := by omega
      exact absurd h0 hn⟩
theorem Elim.next {rows left : List Nat} {i p : Nat} (h : Elim rows left i) (hi : i < rows.length) (hp : (left.getD i 0).testBit p = true) : Elim rows (clrTo left i p rows.length) (i + 1) := by
  have hs : ∀ j, j ≤ i → (clrTo left i p rows.length).getD j 0 = left.getD j 0 := fun j hj => by rw [clrTo_getD, if_neg (by omega)]
  refine ⟨by rw [clrTo_len, h.len], fun k hk => ?_, fun j hj hn => ?_⟩
  · rw [clrTo_getD]
    by_cases hik : i < k
    · rw [if_pos ⟨hik, hk, by rw [h.len]; exact hk⟩]
      unfold clr
      split
      · have h1 := h.sum k hk
        have h2 : Sp (rows.take k) (left.getD i 0) := by
          have g1 : Sp (rows.take k) (left.getD i 0 ^^^ rows.getD i 0) := (h.sum i hi).mono fun r hr => by
            have : rows.take i = (rows.take k).take i := by rw [List.take_take, Nat.min_eq_left (by omega)]
            rw [this] at hr
            exact List.mem_of_mem_take hr
          have g2 : Sp (rows.take k) (rows.getD i 0) := .mem (by
            rw [List.mem_iff_getElem]
            exact ⟨i, by rw [List.length_take]; omega, by simp [List.getD, hi]⟩)
          have := g1.xor g2
          rwa [Nat.xor_assoc, Nat.xor_self, Nat.xor_zero] at this
        have := h1.xor h2
        rwa [Nat.xor_assoc, Nat.xor_comm (rows.getD k 0), ← Nat.xor_assoc] at this
      · exact h.sum k hk
    · rw [if_neg (by omega)]
      exact h.sum k hk
  · rcases Nat.lt_or_ge j i with hlt | hge
    · rw [hs j (by omega)] at hn ⊢
      obtain ⟨q, q1, q2⟩ := h.piv j hlt hn
      refine ⟨q, q1, fun k hk hkl => ?_⟩
      rw [clrTo_getD]
      split
      · exact clr_keep (q2 i hlt hi) (q2 k hk hkl)
      · exact q2 k hk hkl
    · obtain rfl : j = i := by omega
      rw [hs j (Nat.le_refl _)]
      refine ⟨p, hp, fun k hk hkl => ?_⟩
      rw [clrTo_getD, if_pos ⟨hk, hkl, by rw [h.len]; exact hkl⟩]
      exact clr_bit hp
/-! ### The other way: rows that are reduced among each other -/
/-- the rows E, with bits ps of their own, span what the given ones do -/
structure Red (given E : List Nat) (ps : List Nat) : Prop where
  len : ps.length = E.length
  own : ∀ j, j < E.length → (E.getD j 0).testBit (ps.getD j 0) = true
  low : ∀ j, j < E.length → ∀ q, q < ps.getD j 0 → (E.getD j 0).testBit q = false
  far : ∀ j k, j < E.length → k < E.length → j ≠ k → (E.getD k 0).testBit (ps.getD j 0) = false
  to : ∀ x, Sp given x → Sp E x
  fro : ∀ x, Sp E x → Sp given x
/-- a mask less the rows that are there -/
def redTo (E ps : List Nat) (x : Nat) : Nat → Nat
  | 0 => x
  | n + 1 => clr (E.getD n 0) (ps.getD n 0) (redTo E ps x n)
theorem getD_mem {E : List Nat} {j : Nat} (h : j < E.length) : E.getD j 0 ∈ E := by
  simp [List.getD, h]
theorem redTo_bits {given E ps : List Nat} (h : Red given E ps) (x : Nat) : ∀ n, n ≤ E.length → ∀ j, j < n → (redTo E ps x n).testBit (ps.getD j 0) = false
  | 0, _, j, hj => absurd hj (Nat.not_lt_zero j)
  | n + 1, hn, j, hj => by
    rw [redTo]
    by_cases e : j = n
    · subst e; exact clr_bit (h.own j (by omega))
    · exact clr_keep (h.far j n (by omega) (by omega) e) (redTo_bits h x n (by omega) j (by omega))
theorem redTo_sp {E ps : List Nat} (x : Nat) : ∀ n, n ≤ E.length → Sp E (redTo E ps x n ^^^ x)
  | 0, _ => by rw [redTo, Nat.xor_self]; exact .zero
  | n + 1, hn => by
    have ih := redTo_sp (E := E) (ps := ps) x n (by omega)
    rw [redTo]
    unfold clr
    split
    · have := ih.xor (Sp.mem (getD_mem (E := E) (j := n) (by omega)))
      rwa [Nat.xor_assoc, Nat.xor_comm x, ← Nat.xor_assoc] at this
    · exact ih
/-- a mask less the rows that are there -/
def redA (E ps : List Nat) (x : Nat) : Nat := redTo E ps x E.length
theorem redA_zero {given E ps : List Nat} (h : Red given E ps) (x : Nat) : redA E ps x = 0 ↔ Sp given x := by
  constructor
  · intro e
    have := redTo_sp (E := E) (ps := ps) x E.length (Nat.le_refl _)
    rw [show redTo E ps x E.length = 0 from e, Nat.zero_xor] at this
    exact h.fro _ this
  · intro hs
    have h1 := (redTo_sp (E := E) (ps := ps) x E.length (Nat.le_refl _)).xor (h.to _ hs)
    rw [Nat.xor_assoc, Nat.xor_self, Nat.xor_zero] at h1
    refine h1.low fun l a r e => ?_
    have hl : l.length < E.length := by rw [e]; simp
    have ha : E.getD l.length 0 = a := by rw [e]; simp [List.getD]
    refine ⟨ps.getD l.length 0, by rw [← ha]; exact h.own _ hl, fun y hy => ?_, redTo_bits h x E.length (Nat.le_refl _) _ hl⟩
    obtain ⟨n, hn1, hn2⟩ := List.mem_iff_getElem.1 hy
    have e2 : E.getD (l.length + 1 + n) 0 = y := by
      rw [e]
      simp [List.getD, List.getElem?_append_right, show l.length ≤ l.length + 1 + n by omega, show l.length + 1 + n - l.length = n + 1 by omega, hn1, hn2]
    have hlt : l.length + 1 + n < E.length := by rw [e]; simp; omega
    rw [← e2]
    exact h.far _ _ hl hlt (by omega)
theorem map_getD (E : List Nat) (g : Nat → Nat) {j : Nat} (h : j < E.length) : (E.map g).getD j 0 = g (E.getD j 0) := by simp [List.getD, h]
theorem app_lt {E F : List Nat} {j : Nat} (h : j < E.length) : (E ++ F).getD j 0 = E.getD j 0 := by simp [List.getD, List.getElem?_append_left h]
theorem app_eq {E : List Nat} {x j : Nat} (h : j = E.length) : (E ++ [x]).getD j 0 = x := by subst h; simp [List.getD]
theorem Red.add {given E ps : List Nat} (h : Red given E ps) (x : Nat) {q : Nat} (hq : (redA E ps x).testBit q = true) (hl : ∀ q', q' < q → (redA E ps x).testBit q' = false) :
    Red (given ++ [x]) (E.map (clr (redA E ps x) q) ++ [redA E ps x]) (ps ++ [q]) := by
  have hr : ∀ j, j < E.length → (redA E ps x).testBit (ps.getD j 0) = false := fun j hj => redTo_bits h x E.length (Nat.le_refl _) j hj
  have hsp : Sp E (redA E ps x ^^^ x) := redTo_sp x E.length (Nat.le_refl _)
  have hgx : Sp (given ++ [x]) (redA E ps x) := by
    have h1 : Sp (given ++ [x]) (redA E ps x ^^^ x) := (h.fro _ hsp).mono fun r hr => List.mem_append_left _ hr
    have := h1.xor (Sp.mem (List.mem_append_right given (List.mem_singleton.2 rfl)))
    rwa [Nat.xor_assoc, Nat.xor_self, Nat.xor_zero] at this
  generalize redA E ps x = r at *
  have hlen := h.len
  have hml : (E.map (clr r q)).length = E.length := by simp
  refine ⟨by simp [hlen], fun j hj => ?_, fun j hj q' hq' => ?_, fun j k hj hk hne => ?_, fun y hy => ?_, fun y hy => ?_⟩
  · simp only [List.length_append, List.length_map, List.length_cons, List.length_nil] at hj
    by_cases e : j < E.length
    · rw [app_lt (by simpa using e), app_lt (by omega), map_getD _ _ e]
      unfold clr
      split
      · rw [Nat.testBit_xor, h.own j e, hr j e]; rfl
      · exact h.own j e
    · rw [app_eq (by omega), app_eq (by omega)]; exact hq
  · simp only [List.length_append, List.length_map, List.length_cons, List.length_nil] at hj
    by_cases e : j < E.length
    · rw [app_lt (by simpa using e), map_getD _ _ e]
      rw [app_lt (by omega)] at hq'
      unfold clr
      split
      · rename_i hb
        have h1 : ps.getD j 0 ≤ q := by
          rcases Nat.lt_or_ge q (ps.getD j 0) with h2 | h2
          · have := h.low j e q h2
            rw [hb] at this; cases this
          · exact h2
        rw [Nat.testBit_xor, h.low j e q' hq', hl q' (by omega)]; rfl
      · exact h.low j e q' hq'
    · rw [app_eq (by omega)]
      rw [app_eq (by omega)] at hq'
      exact hl q' hq'
  · simp only [List.length_append, List.length_map, List.length_cons, List.length_nil] at hj hk
    by_cases ej : j < E.length
    · rw [app_lt (E := ps) (by omega)]
      by_cases ek : k < E.length
      · rw [app_lt (by simpa using ek), map_getD _ _ ek]
        exact clr_keep (hr j ej) (h.far j k ej ek hne)
      · rw [app_eq (by omega)]; exact hr j ej
    · rw [app_eq (E := ps) (by omega)]
      by_cases ek : k < E.length
      · rw [app_lt (by simpa using ek), map_getD _ _ ek]
        exact clr_bit hq
      · exact absurd (show j = k by omega) hne
  · have hE : ∀ z, Sp E z → Sp (E.map (clr r q) ++ [r]) z := fun z hz => hz.of fun a ha => by
      have h1 : Sp (E.map (clr r q) ++ [r]) (clr r q a) := .mem (List.mem_append_left _ (List.mem_map.2 ⟨a, ha, rfl⟩))
      have h2 : Sp (E.map (clr r q) ++ [r]) r := .mem (List.mem_append_right _ (List.mem_singleton.2 rfl))
      unfold clr at h1
      split at h1
      · have := h1.xor h2
        rwa [Nat.xor_assoc, Nat.xor_self, Nat.xor_zero] at this
      · exact h1
    refine hy.of fun a ha => ?_
    rcases List.mem_append.1 ha with ha | ha
    · exact hE a (h.to a (.mem ha))
    · rw [List.mem_singleton.1 ha]
      have h2 : Sp (E.map (clr r q) ++ [r]) r := .mem (List.mem_append_right _ (List.mem_singleton.2 rfl))
      have := h2.xor (hE _ hsp)
      rwa [xx] at this
  · have hE : ∀ a, a ∈ E → Sp (given ++ [x]) a := fun a ha => (h.fro a (.mem ha)).mono fun r hr => List.mem_append_left _ hr
    refine hy.of fun a ha => ?_
    rcases List.mem_append.1 ha with ha | ha
    · obtain ⟨b, hb, rfl⟩ := List.mem_map.1 ha
      unfold clr
      split
      · exact (hE b hb).xor hgx
      · exact hE b hb
    · rw [List.mem_singleton.1 ha]; exact hgx
theorem Red.skip {given E ps : List Nat} (h : Red given E ps) {x : Nat} (hx : Sp given x) : Red (given ++ [x]) E ps :=
  ⟨h.len, h.own, h.low, h.far, fun y hy => h.to y (hy.of fun a ha => by
    rcases List.mem_append.1 ha with ha | ha
    · exact .mem ha
    · rw [List.mem_singleton.1 ha]; exact hx), fun y hy => (h.fro y hy).mono fun r hr => List.mem_append_left _ hr⟩
theorem Red.start : Red [] [] [] :=
  ⟨rfl, fun j hj => absurd hj (Nat.not_lt_zero j), fun j hj => absurd hj (Nat.not_lt_zero j), fun j k hj => absurd hj (Nat.not_lt_zero j), fun x h => h, fun x h => h⟩
theorem Ind.take {rows : List Nat} (h : Ind rows) (n : Nat) : Ind (rows.take n) := fun i hi => by
  rw [List.length_take] at hi
  have e1 : (rows.take n).take i = rows.take i := by rw [List.take_take, Nat.min_eq_left (by omega)]
  have e2 : (rows.take n).getD i 0 = rows.getD i 0 := by simp [List.getD, show i < n by omega]
  rw [e1, e2]
  exact h i (by omega)
theorem Ind.snoc {rows : List Nat} {i : Nat} (hi : i < rows.length) : Ind (rows.take (i + 1)) ↔ Ind (rows.take i) ∧ ¬ Sp (rows.take i) (rows.getD i 0) := by
  constructor
  · intro h
    refine ⟨?_, ?_⟩
    · have := h.take i
      rwa [List.take_take, Nat.min_eq_left (by omega)] at this
    · have := h i (by rw [List.length_take]; omega)
      rw [List.take_take, Nat.min_eq_left (by omega)] at this
      have e2 : (rows.take (i + 1)).getD i 0 = rows.getD i 0 := by simp [List.getD]
      rwa [e2] at this
  · intro ⟨h1, h2⟩ j hj
    rw [List.length_take] at hj
    have e1 : (rows.take (i + 1)).take j = rows.take j := by rw [List.take_take, Nat.min_eq_left (by omega)]
    have e2 : (rows.take (i + 1)).getD j 0 = rows.getD j 0 := by simp [List.getD, show j < i + 1 by omega]
    rw [e1, e2]
    by_cases e : j = i
    · subst e; exact h2
    · have := h1 j (by rw [List.length_take]; omega)
      have e3 : (rows.take i).take j = rows.take j := by rw [List.take_take, Nat.min_eq_left (by omega)]
      have e4 : (rows.take i).getD j 0 = rows.getD j 0 := by simp [List.getD, show j < i by omega]
      rwa [e3, e4] at this
end Go.Proofs.Ytjkcdnfmmfpbjaa.RankM
