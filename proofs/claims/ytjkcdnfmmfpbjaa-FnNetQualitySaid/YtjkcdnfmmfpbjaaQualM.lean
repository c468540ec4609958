/- Plain mathematics: rows are independent exactly if each choice of parities belongs to as many numbers. No program in sight. -/
import Derived.Test.YtjkcdnfmmfpbjaaRankMath
import Derived.Test.YtjkcdnfmmfpbjaaPopMath
set_option linter.unusedVariables false
namespace Go.Proofs.Ytjkcdnfmmfpbjaa.QualM
open Go.Proofs.Ytjkcdnfmmfpbjaa.RankM Go.Proofs.Ytjkcdnfmmfpbjaa.PopM
/-! ### Parities -/
theorem par_half {x : Nat} (h : x < 18446744073709551616) : par x = (x % 2 + par (x / 2)) % 2 := by
  unfold par
  rw [pop_half h]
  omega
theorem par_xor : ∀ (n x y : Nat), n ≤ 64 → x < 2 ^ n → y < 2 ^ n → par (x ^^^ y) = (par x + par y) % 2
  | 0, x, y, _, hx, hy => by
    have hx : x = 0 := by simpa using hx
    have hy : y = 0 := by simpa using hy
    subst hx hy
    decide
  | n + 1, x, y, hn, hx, hy => by
    have hp : 2 ^ (n + 1) ≤ 2 ^ 64 := Nat.pow_le_pow_right (by decide) hn
    have hxy : x ^^^ y < 2 ^ (n + 1) := Nat.xor_lt_two_pow hx hy
    have e2 : (2 : Nat) ^ 64 = 18446744073709551616 := by decide
    have ih := par_xor n (x / 2) (y / 2) (by omega) (by rw [Nat.pow_succ] at hx; omega) (by rw [Nat.pow_succ] at hy; omega)
    rw [par_half (x := x ^^^ y) (by omega), par_half (x := x) (by omega), par_half (x := y) (by omega)]
    have hd : (x ^^^ y) / 2 = x / 2 ^^^ y / 2 := by
      apply Nat.eq_of_testBit_eq
      intro i
      rw [Nat.testBit_xor, Nat.testBit_div_two, Nat.testBit_div_two, Nat.testBit_div_two, Nat.testBit_xor]
    have hm : (x ^^^ y) % 2 = (x % 2 + y % 2) % 2 := by
      have h0 : (x ^^^ y) % 2 = x % 2 ^^^ y % 2 := by
        apply Nat.eq_of_testBit_eq
        intro i
        have e := fun z => Nat.testBit_mod_two_pow z 1 i
        simp only [Nat.pow_one] at e
        rw [Nat.testBit_xor, e, e, e, Nat.testBit_xor]
        by_cases h : i < 1 <;> simp [h]
      rw [h0, xor_bit _ _ (Nat.mod_lt _ (by decide)) (Nat.mod_lt _ (by decide))]
    rw [hd, ih, hm]
    omega
theorem par_pow : ∀ q : Nat, q < 63 → par (2 ^ q) = 1
  | 0, _ => by decide
  | q + 1, h => by
    have hp : 2 ^ (q + 1) ≤ 2 ^ 63 := Nat.pow_le_pow_right (by decide) (by omega)
    have e2 : (2 : Nat) ^ 63 = 9223372036854775808 := by decide
    rw [par_half (by omega), show 2 ^ (q + 1) / 2 = 2 ^ q by rw [Nat.pow_succ]; omega, par_pow q (by omega), show 2 ^ (q + 1) % 2 = 0 by rw [Nat.pow_succ]; omega]
/-- the parity of a row with a number -/
def pr (r k : Nat) : Nat := par (r &&& k)
theorem pr_lt (r k : Nat) : pr r k < 2 := par_lt _
theorem pr_xor_l {a b k : Nat} (ha : a < 64) (hb : b < 64) : pr (a ^^^ b) k = (pr a k + pr b k) % 2 := by
  unfold pr
  rw [Nat.and_xor_distrib_right]
  exact par_xor 6 _ _ (by decide) (Nat.lt_of_le_of_lt Nat.and_le_left ha) (Nat.lt_of_le_of_lt Nat.and_le_left hb)
theorem pr_xor_r {r a b : Nat} (hr : r < 64) : pr r (a ^^^ b) = (pr r a + pr r b) % 2 := by
  unfold pr
  rw [Nat.and_xor_distrib_left]
  exact par_xor 6 _ _ (by decide) (Nat.lt_of_le_of_lt Nat.and_le_left hr) (Nat.lt_of_le_of_lt Nat.and_le_left hr)
theorem pr_pow {r q : Nat} (hq : q < 63) : pr r (2 ^ q) = if r.testBit q then 1 else 0 := by
  unfold pr
  have : r &&& 2 ^ q = if r.testBit q then 2 ^ q else 0 := by
    apply Nat.eq_of_testBit_eq
    intro i
    rw [Nat.testBit_and, Nat.testBit_two_pow]
    by_cases h : q = i
    · subst h
      cases hb : r.testBit q
      · simp
      · simp
    · cases hb : r.testBit q
      · simp [h]
      · simp [h]
  rw [this]
  split
  · exact par_pow q hq
  · decide
theorem pr_zero (k : Nat) : pr 0 k = 0 := by unfold pr; rw [Nat.zero_and]; decide
theorem xor64' {a b : Nat} (ha : a < 64) (hb : b < 64) : a ^^^ b < 64 := Nat.xor_lt_two_pow (n := 6) ha hb
theorem pr_at_zero (r : Nat) : pr r 0 = 0 := by unfold pr; rw [Nat.and_zero]; decide
attribute [irreducible] pr
/-- a mask that is even with the rows is even with what they span -/
theorem sp_even {rows : List Nat} {z x : Nat} (hs : ∀ r, r ∈ rows → r < 64) (hz : ∀ r, r ∈ rows → pr r z = 0) (h : Sp rows x) : x < 64 ∧ pr x z = 0 := by
  induction h with
  | zero => exact ⟨by decide, pr_zero z⟩
  | @step y r _ hr ih =>
    refine ⟨xor64' ih.1 (hs r hr), ?_⟩
    rw [pr_xor_l ih.1 (hs r hr), ih.2, hz r hr]
/-! ### A number that is even with given rows, and odd with one that is not their sum -/
theorem least_bit {x : Nat} (h : x ≠ 0) : ∃ q, x.testBit q = true ∧ ∀ q', q' < q → x.testBit q' = false := by
  obtain ⟨i, hi⟩ := Nat.exists_testBit_of_ne_zero h
  induction i using Nat.strongRecOn with
  | _ i ih =>
    by_cases h2 : ∃ j, j < i ∧ x.testBit j = true
    · obtain ⟨j, h3, h4⟩ := h2
      exact ih j h3 h4
    · refine ⟨i, hi, fun q' hq' => ?_⟩
      cases hb : x.testBit q'
      · rfl
      · exact absurd ⟨q', hq', hb⟩ h2
theorem red_of : ∀ (given : List Nat), (∀ r, r ∈ given → r < 64) → ∃ E ps, Red given E ps ∧ ∀ r, r ∈ E → r < 64 := by
  have key : ∀ (n : Nat) (given : List Nat), given.length = n → (∀ r, r ∈ given → r < 64) → ∃ E ps, Red given E ps ∧ ∀ r, r ∈ E → r < 64 := by
    intro n
    induction n with
    | zero =>
      intro given hl _
      rw [List.eq_nil_of_length_eq_zero hl]
      exact ⟨[], [], Red.start, fun r hr => by cases hr⟩
    | succ n ih =>
      intro given hl hs
      obtain ⟨ds, x, rfl⟩ : ∃ ds x, given = ds ++ [x] := ⟨given.dropLast, given.getLast (by intro e; subst e; simp at hl), (List.dropLast_concat_getLast _).symm⟩
      obtain ⟨E, ps, hR, hE⟩ := ih ds (by simpa using hl) fun r hr => hs r (List.mem_append_left _ hr)
      have hx : x < 64 := hs x (by simp)
      by_cases hsp : Sp ds x
      · exact ⟨E, ps, hR.skip hsp, hE⟩
      · have h0 : redA E ps x ≠ 0 := fun e => hsp ((redA_zero hR x).1 e)
        have hr : redA E ps x < 64 := by
          have h1 : ∀ n, n ≤ E.length → redTo E ps x n < 64 := by
            intro n
            induction n with
            | zero => intro _; exact hx
            | succ n ih2 =>
              intro hn
              rw [redTo]; unfold clr
              split
              · exact Nat.xor_lt_two_pow (n := 6) (ih2 (by omega)) (hE _ (getD_mem (by omega)))
              · exact ih2 (by omega)
          exact h1 E.length (Nat.le_refl _)
        obtain ⟨q, hq1, hq2⟩ := least_bit h0
        refine ⟨_, _, hR.add x hq1 hq2, fun r hr' => ?_⟩
        rcases List.mem_append.1 hr' with h | h
        · obtain ⟨a, ha, rfl⟩ := List.mem_map.1 h
          unfold clr
          split
          · exact Nat.xor_lt_two_pow (n := 6) (hE a ha) hr
          · exact hE a ha
        · rw [List.mem_singleton.1 h]; exact hr
  exact fun given => key given.length given rfl
theorem bit_lt {x p b : Nat} (hx : x < 2 ^ b) (h : x.testBit p = true) : p < b := by
  rcases Nat.lt_or_ge p b with h1 | h1
  · exact h1
  · rw [Nat.testBit_lt_two_pow (Nat.lt_of_lt_of_le hx (Nat.pow_le_pow_right (by decide) h1))] at h; cases h
def zTo (E ps : List Nat) (q : Nat) : Nat → Nat
  | 0 => 2 ^ q
  | n + 1 => if (E.getD n 0).testBit q then zTo E ps q n ^^^ 2 ^ ps.getD n 0 else zTo E ps q n
theorem zTo_pr {E ps : List Nat} {q r : Nat} (hr : r < 64) (hq : q < 63) (hp : ∀ j, j < E.length → ps.getD j 0 < 63) : ∀ n, n ≤ E.length → (∀ j, j < n → r.testBit (ps.getD j 0) = false) → pr r (zTo E ps q n) = if r.testBit q then 1 else 0
  | 0, _, _ => pr_pow hq
  | n + 1, hn, h => by
    have ih := zTo_pr (E := E) hr hq hp n (by omega) fun j hj => h j (by omega)
    rw [zTo]
    split
    · rw [pr_xor_r hr, ih, pr_pow (hp n (by omega)), h n (by omega)]
      split <;> rfl
    · exact ih
theorem dual {given : List Nat} {x b : Nat} (hb : b ≤ 6) (hs : ∀ r, r ∈ given → r < 2 ^ b) (hx : x < 2 ^ b) (h : ¬ Sp given x) : ∃ z, z < 2 ^ b ∧ (∀ r, r ∈ given → pr r z = 0) ∧ pr x z = 1 := by
  have hb6 : 2 ^ b ≤ 64 := Nat.pow_le_pow_right (n := 2) (by decide) hb
  obtain ⟨E, ps, hR, hE⟩ := red_of given fun r hr => Nat.lt_of_lt_of_le (hs r hr) hb6
  have hEb : ∀ r, r ∈ E → r < 2 ^ b := fun r hr => by
    have : ∀ y, Sp given y → y < 2 ^ b := fun y hy => by
      induction hy with
      | zero => exact Nat.two_pow_pos b
      | step _ hr ih => exact Nat.xor_lt_two_pow ih (hs _ hr)
    exact this r (hR.fro r (.mem hr))
  have h0 : redA E ps x ≠ 0 := fun e => h ((redA_zero hR x).1 e)
  have hsp : Sp E (redA E ps x ^^^ x) := redTo_sp x E.length (Nat.le_refl _)
  have hrp : ∀ j, j < E.length → (redA E ps x).testBit (ps.getD j 0) = false := fun j hj => redTo_bits hR x E.length (Nat.le_refl _) j hj
  have hrb : redA E ps x < 2 ^ b := by
    have e : redA E ps x = (redA E ps x ^^^ x) ^^^ x := by rw [Nat.xor_assoc, Nat.xor_self, Nat.xor_zero]
    have h1 : ∀ y, Sp E y → y < 2 ^ b := fun y hy => by
      induction hy with
      | zero => exact Nat.two_pow_pos b
      | step _ hr ih => exact Nat.xor_lt_two_pow ih (hEb _ hr)
    rw [e]
    exact Nat.xor_lt_two_pow (h1 _ hsp) hx
  obtain ⟨q, hq1, _⟩ := least_bit h0
  have hqb := bit_lt hrb hq1
  have hpb : ∀ j, j < E.length → ps.getD j 0 < b := fun j hj => bit_lt (hEb _ (getD_mem hj)) (hR.own j hj)
  have hzr := zTo_pr (E := E) (ps := ps) (q := q) (r := redA E ps x) (by omega) (by omega) (fun j hj => by have := hpb j hj; omega) E.length (Nat.le_refl _) hrp
  rw [if_pos hq1] at hzr
  have hzE : ∀ r, r ∈ E → pr r (zTo E ps q E.length) = 0 := fun r hr => by
    obtain ⟨i, hi, e⟩ := List.mem_iff_getElem.1 hr
    have e : E.getD i 0 = r := by simp [List.getD, hi, e]
    have hr64 : r < 64 := by have := hEb r hr; omega
    have key : ∀ n, n ≤ E.length → pr r (zTo E ps q n) = if i < n then 0 else if r.testBit q then 1 else 0 := by
      intro n
      induction n with
      | zero => intro _; exact pr_pow (by omega)
      | succ n ih =>
        intro hn
        have ih := ih (by omega)
        rw [zTo]
        by_cases hin : i = n
        · subst hin
          rw [e]
          rw [if_neg (Nat.lt_irrefl i)] at ih
          rw [if_pos (Nat.lt_succ_self i)]
          have ho := hR.own i hi
          rw [e] at ho
          split
          · rename_i hb1
            rw [pr_xor_r hr64, ih, pr_pow (by have := hpb i hi; omega), ho, hb1]
            rfl
          · rename_i hb1
            rw [ih, if_neg hb1]
        · have hf := hR.far n i (by omega) hi (by omega)
          rw [e] at hf
          have e3 : (if i < n + 1 then 0 else if r.testBit q then 1 else 0) = (if i < n then (0 : Nat) else if r.testBit q then 1 else 0) := by
            by_cases h4 : i < n
            · rw [if_pos h4, if_pos (by omega)]
            · rw [if_neg h4, if_neg (by omega)]
          rw [e3]
          split
          · rw [pr_xor_r hr64, ih, pr_pow (by have := hpb n (by omega); omega), hf]
            split
            · rfl
            · split <;> rfl
          · exact ih
    rw [key E.length (Nat.le_refl _), if_pos hi]
  have hE64 : ∀ r, r ∈ E → r < 64 := fun r hr => by have := hEb r hr; omega
  refine ⟨zTo E ps q E.length, ?_, fun r hr => (sp_even hE64 hzE (hR.to r (.mem hr))).2, ?_⟩
  · have : ∀ n, n ≤ E.length → zTo E ps q n < 2 ^ b := by
      intro n
      induction n with
      | zero => intro _; exact Nat.pow_lt_pow_right (by decide) hqb
      | succ n ih =>
        intro hn
        rw [zTo]
        split
        · exact Nat.xor_lt_two_pow (ih (by omega)) (Nat.pow_lt_pow_right (by decide) (hpb n (by omega)))
        · exact ih (by omega)
    exact this E.length (Nat.le_refl _)
  · have e : x = redA E ps x ^^^ (redA E ps x ^^^ x) := (xx _ _).symm
    have h1 := sp_even hE64 hzE hsp
    rw [e, pr_xor_l (by omega) h1.1, hzr, h1.2]
/-! ### Counting -/
/-- the parities of rows with a number, as a number -/
def code (k : Nat) (R : List Nat) : Nat := R.foldl (fun m r => 2 * m + pr r k) 0
theorem code_snoc (k : Nat) (R : List Nat) (r : Nat) : code k (R ++ [r]) = 2 * code k R + pr r k := by simp [code]
theorem code_nil (k : Nat) : code k [] = 0 := rfl
theorem foldl_code (k : Nat) : ∀ (R : List Nat) (m : Nat), R.foldl (fun m r => 2 * m + pr r k) m = m * 2 ^ R.length + code k R
  | [], m => by simp [code]
  | r :: R, m => by
    have e1 : code k (r :: R) = pr r k * 2 ^ R.length + code k R := by
      have h := foldl_code k R (2 * 0 + pr r k)
      unfold code
      rw [List.foldl_cons, h]
      simp [code]
    rw [List.foldl_cons, foldl_code k R, e1, List.length_cons, Nat.pow_succ, Nat.add_mul, Nat.mul_comm 2 m, Nat.mul_assoc m 2, Nat.mul_comm 2 (2 ^ R.length), Nat.add_assoc]
theorem code_append (k : Nat) (R S : List Nat) : code k (R ++ S) = code k R * 2 ^ S.length + code k S := by
  rw [code, List.foldl_append]
  exact foldl_code k S _
theorem code_lt (k : Nat) : ∀ (n : Nat) (R : List Nat), R.length = n → code k R < 2 ^ n
  | 0, R, h => by rw [List.eq_nil_of_length_eq_zero h, code_nil]; exact Nat.one_pos
  | n + 1, R, h => by
    obtain ⟨ds, x, rfl⟩ : ∃ ds x, R = ds ++ [x] := ⟨R.dropLast, R.getLast (by intro e; subst e; simp at h), (List.dropLast_concat_getLast _).symm⟩
    have := code_lt k n ds (by simpa using h)
    have := pr_lt x k
    rw [code_snoc, Nat.pow_succ]
    omega
/-- how many numbers below n have a property -/
def cnt (P : Nat → Bool) : Nat → Nat
  | 0 => 0
  | n + 1 => cnt P n + if P n then 1 else 0
theorem cnt_congr {P Q : Nat → Bool} : ∀ n, (∀ k, k < n → P k = Q k) → cnt P n = cnt Q n
  | 0, _ => rfl
  | n + 1, h => by rw [cnt, cnt, cnt_congr n (fun k hk => h k (by omega)), h n (by omega)]
theorem cnt_add (P : Nat → Bool) (m : Nat) : ∀ n, cnt P (m + n) = cnt P m + cnt (fun k => P (m + k)) n
  | 0 => rfl
  | n + 1 => by rw [← Nat.add_assoc, cnt, cnt_add P m n, cnt, Nat.add_assoc]
theorem low_add {n k : Nat} (hk : k < 2 ^ n) : 2 ^ n + k = 2 ^ n ^^^ k := by
  have h := Nat.two_pow_add_eq_or_of_lt hk 1
  rw [Nat.mul_one] at h
  rw [h]
  apply Nat.eq_of_testBit_eq
  intro i
  rw [Nat.testBit_or, Nat.testBit_xor, Nat.testBit_two_pow]
  by_cases h : n = i
  · subst h
    rw [Nat.testBit_lt_two_pow hk]; simp
  · simp [h]
theorem cnt_xor : ∀ (n : Nat) (P : Nat → Bool) (z : Nat), z < 2 ^ n → cnt (fun k => P (k ^^^ z)) (2 ^ n) = cnt P (2 ^ n)
  | 0, P, z, hz => by
    have : z = 0 := by simpa using hz
    subst this
    simp
  | n + 1, P, z, hz => by
    rw [Nat.pow_succ, Nat.mul_two, cnt_add, cnt_add]
    rcases Nat.lt_or_ge z (2 ^ n) with h | h
    · rw [cnt_xor n P z h]
      congr 1
      have := cnt_xor n (fun k => P (2 ^ n + k)) z h
      rw [← this]
      refine cnt_congr _ fun k hk => ?_
      show P ((2 ^ n + k) ^^^ z) = P (2 ^ n + (k ^^^ z))
      rw [low_add hk, low_add (Nat.xor_lt_two_pow hk h), Nat.xor_assoc]
    · obtain ⟨y, rfl⟩ : ∃ y, z = 2 ^ n + y := ⟨z - 2 ^ n, by omega⟩
      have hy : y < 2 ^ n := by rw [Nat.pow_succ] at hz; omega
      rw [low_add hy, Nat.add_comm]
      congr 1
      · have := cnt_xor n P y hy
        rw [← this]
        refine cnt_congr _ fun k hk => ?_
        show P ((2 ^ n + k) ^^^ (2 ^ n ^^^ y)) = P (k ^^^ y)
        rw [low_add hk, Nat.xor_comm (2 ^ n) k, Nat.xor_assoc, ← Nat.xor_assoc (2 ^ n), Nat.xor_self, Nat.zero_xor]
      · have := cnt_xor n (fun k => P (2 ^ n + k)) y hy
        rw [← this]
        refine cnt_congr _ fun k hk => ?_
        show P (k ^^^ (2 ^ n ^^^ y)) = P (2 ^ n + (k ^^^ y))
        rw [low_add (Nat.xor_lt_two_pow hk hy), ← Nat.xor_assoc, Nat.xor_comm k, Nat.xor_assoc]
theorem cnt_split (P Q : Nat → Bool) : ∀ n, cnt P n = cnt (fun k => P k && Q k) n + cnt (fun k => P k && !Q k) n
  | 0 => rfl
  | n + 1 => by
    rw [cnt, cnt, cnt, cnt_split P Q n]
    cases P n <;> cases Q n <;> simp <;> omega
theorem cnt_pos {P : Nat → Bool} {k : Nat} (hk : P k = true) : ∀ n, k < n → 0 < cnt P n
  | 0, h => absurd h (Nat.not_lt_zero k)
  | n + 1, h => by
    rw [cnt]
    by_cases e : k = n
    · subst e; rw [hk]; simp
    · have := cnt_pos hk n (by omega); omega
theorem cnt_zero {P : Nat → Bool} : ∀ n, (∀ k, k < n → P k = false) → cnt P n = 0
  | 0, _ => rfl
  | n + 1, h => by rw [cnt, cnt_zero n (fun k hk => h k (by omega)), h n (by omega)]; rfl
theorem cnt_true : ∀ n, cnt (fun _ => true) n = n
  | 0 => rfl
  | n + 1 => by rw [cnt, cnt_true n]; rfl
/-- each choice of parities of independent rows belongs to as many numbers -/
theorem ind_even {b : Nat} (hb : b ≤ 6) : ∀ (s : Nat) (R : List Nat), R.length = s → (∀ r, r ∈ R → r < 2 ^ b) → Ind R → ∀ v, v < 2 ^ s → 2 ^ s * cnt (fun k => code k R == v) (2 ^ b) = 2 ^ b
  | 0, R, hl, _, _, v, hv => by
    rw [List.eq_nil_of_length_eq_zero hl]
    have : v = 0 := by simpa using hv
    subst this
    have e : cnt (fun k => code k [] == 0) (2 ^ b) = 2 ^ b := by
      rw [cnt_congr (Q := fun _ => true) _ (fun k _ => by simp [code_nil]), cnt_true]
    rw [e]; simp
  | s + 1, R, hl, hs, hi, v, hv => by
    obtain ⟨ds, x, rfl⟩ : ∃ ds x, R = ds ++ [x] := ⟨R.dropLast, R.getLast (by intro e; subst e; simp at hl), (List.dropLast_concat_getLast _).symm⟩
    have hdl : ds.length = s := by simpa using hl
    have hi2 := (Ind.snoc (rows := ds ++ [x]) (i := s) (by simp [hdl])).1 (by rw [List.take_of_length_le (by simp [hdl])]; exact hi)
    rw [show (ds ++ [x]).take s = ds by rw [← hdl]; simp, show (ds ++ [x]).getD s 0 = x by rw [← hdl]; simp [List.getD]] at hi2
    have hsd : ∀ r, r ∈ ds → r < 2 ^ b := fun r hr => hs r (List.mem_append_left _ hr)
    have hb6 : 2 ^ b ≤ 64 := Nat.pow_le_pow_right (n := 2) (by decide) hb
    have ih := ind_even hb s ds hdl hsd hi2.1 (v / 2) (by rw [Nat.pow_succ] at hv; omega)
    have hxb : x < 2 ^ b := hs x (by simp)
    obtain ⟨z, z1, z2, z3⟩ := dual hb hsd hxb hi2.2
    have hcode : ∀ k, code (k ^^^ z) ds = code k ds := fun k => by
      have : ∀ (n : Nat) (L : List Nat), L.length = n → (∀ r, r ∈ L → r ∈ ds) → code (k ^^^ z) L = code k L := by
        intro n
        induction n with
        | zero => intro L hL _; rw [List.eq_nil_of_length_eq_zero hL, code_nil, code_nil]
        | succ n ihn =>
          intro L hL hm
          obtain ⟨es, y, rfl⟩ : ∃ ds x, L = ds ++ [x] := ⟨L.dropLast, L.getLast (by intro e; subst e; simp at hL), (List.dropLast_concat_getLast _).symm⟩
          have hy := hm y (by simp)
          rw [code_snoc, code_snoc, ihn es (by simpa using hL) (fun r hr => hm r (List.mem_append_left _ hr)), pr_xor_r (by have := hsd y hy; omega), z2 y hy]
          have := pr_lt y k
          omega
      exact this ds.length ds rfl fun r hr => hr
    have h1 := cnt_split (fun k => code k ds == v / 2) (fun k => pr x k == v % 2) (2 ^ b)
    have h2 : cnt (fun k => (code k ds == v / 2) && !(pr x k == v % 2)) (2 ^ b) = cnt (fun k => (code k ds == v / 2) && (pr x k == v % 2)) (2 ^ b) := by
      rw [← cnt_xor b (fun k => (code k ds == v / 2) && (pr x k == v % 2)) z z1]
      refine cnt_congr _ fun k _ => ?_
      show _ = ((code (k ^^^ z) ds == v / 2) && (pr x (k ^^^ z) == v % 2))
      rw [hcode, pr_xor_r (by omega), z3]
      congr 1
      have g1 := pr_lt x k
      rcases (show pr x k = 0 ∨ pr x k = 1 by omega) with e | e <;> rcases (show v % 2 = 0 ∨ v % 2 = 1 by omega) with e' | e' <;> rw [e, e'] <;> rfl
    have h3 : cnt (fun k => code k (ds ++ [x]) == v) (2 ^ b) = cnt (fun k => (code k ds == v / 2) && (pr x k == v % 2)) (2 ^ b) := by
      refine cnt_congr _ fun k _ => ?_
      rw [code_snoc]
      have g1 := pr_lt x k
      rw [Bool.eq_iff_iff]
      simp only [beq_iff_eq, Bool.and_eq_true]
      omega
    rw [h3]
    rw [h1, h2, ← Nat.two_mul, ← Nat.mul_assoc, ← Nat.pow_succ] at ih
    exact ih
theorem code_take (k : Nat) (R : List Nat) (n : Nat) (h : n ≤ R.length) : code k (R.take n) = code k R / 2 ^ (R.length - n) := by
  have e : code k R = code k (R.take n) * 2 ^ (R.length - n) + code k (R.drop n) := by
    conv => lhs; rw [← List.take_append_drop n R]
    rw [code_append, List.length_drop]
  have h2 := code_lt k _ (R.drop n) rfl
  rw [List.length_drop] at h2
  rw [e, Nat.mul_comm, Nat.mul_add_div (Nat.two_pow_pos _), Nat.div_eq_of_lt h2, Nat.add_zero]
theorem code_zero {k : Nat} : ∀ (n : Nat) (R : List Nat), R.length = n → code k R = 0 → ∀ r, r ∈ R → pr r k = 0
  | 0, R, hl, _, r, hr => by rw [List.eq_nil_of_length_eq_zero hl] at hr; cases hr
  | n + 1, R, hl, h0, r, hr => by
    obtain ⟨ds, x, rfl⟩ : ∃ ds x, R = ds ++ [x] := ⟨R.dropLast, R.getLast (by intro e; subst e; simp at hl), (List.dropLast_concat_getLast _).symm⟩
    rw [code_snoc] at h0
    rcases List.mem_append.1 hr with h | h
    · exact code_zero n ds (by simpa using hl) (by omega) r h
    · rw [List.mem_singleton.1 h]; omega
/-- a choice of parities of dependent rows belongs to no number -/
theorem dep_none {b : Nat} {R : List Nat} (hs : ∀ r, r ∈ R → r < 64) (h : ¬ Ind R) : ∃ v, v < 2 ^ R.length ∧ cnt (fun k => code k R == v) (2 ^ b) = 0 := by
  obtain ⟨i, hi⟩ : ∃ i, i < R.length ∧ Sp (R.take i) (R.getD i 0) := by
    refine Classical.byContradiction fun hn => h fun i hi hsp => hn ⟨i, hi, hsp⟩
  refine ⟨2 ^ (R.length - (i + 1)), Nat.pow_lt_pow_right (by decide) (by omega), cnt_zero _ fun k _ => ?_⟩
  cases hb : code k R == 2 ^ (R.length - (i + 1))
  · rfl
  · exfalso
    have e := beq_iff_eq.1 hb
    have h1 := code_take k R (i + 1) (by omega)
    rw [e, Nat.div_self (Nat.two_pow_pos _)] at h1
    rw [take_snoc hi.1, code_snoc] at h1
    have g1 := pr_lt (R.getD i 0) k
    have h2 := code_zero (k := k) _ (R.take i) rfl (by omega)
    have h3 := (sp_even (fun r hr => hs r (List.mem_of_mem_take hr)) h2 hi.2).2
    omega
theorem code_at_zero (R : List Nat) : code 0 R = 0 := by
  have : ∀ (n : Nat) (L : List Nat), L.length = n → code 0 L = 0 := by
    intro n
    induction n with
    | zero => intro L hL; rw [List.eq_nil_of_length_eq_zero hL, code_nil]
    | succ n ih =>
      intro L hL
      obtain ⟨es, y, rfl⟩ : ∃ ds x, L = ds ++ [x] := ⟨L.dropLast, L.getLast (by intro e; subst e; simp at hL), (List.dropLast_concat_getLast _).symm⟩
      rw [code_snoc, ih es (by simpa using hL), pr_at_zero]
  exact this R.length R rfl
theorem even_iff {b : Nat} (hb : b ≤ 6) {R : List Nat} (hs : ∀ r, r ∈ R → r < 2 ^ b) : (∀ v, v < 2 ^ R.length → cnt (fun k => code k R == v) (2 ^ b) = cnt (fun k => code k R == 0) (2 ^ b)) ↔ Ind R := by
  have hb6 : 2 ^ b ≤ 64 := Nat.pow_le_pow_right (n := 2) (by decide) hb
  constructor
  · intro h
    refine Classical.byContradiction fun hn => ?_
    obtain ⟨v, hv, h0⟩ := dep_none (b := b) (fun r hr => by have := hs r hr; omega) hn
    rw [h v hv] at h0
    have := cnt_pos (P := fun k => code k R == 0) (k := 0) (by simp [code_at_zero]) (2 ^ b) (Nat.two_pow_pos b)
    omega
  · intro h v hv
    have h1 := ind_even hb R.length R rfl hs h v hv
    have h2 := ind_even hb R.length R rfl hs h 0 (Nat.two_pow_pos _)
    exact Nat.eq_of_mul_eq_mul_left (Nat.two_pow_pos R.length) (h1.trans h2.symm)
/-! ### Rows to which rows before them are added -/
structure Tri (rows left : List Nat) : Prop where
  len : left.length = rows.length
  sum : ∀ k, k < rows.length → Sp (rows.take k) (left.getD k 0 ^^^ rows.getD k 0)
theorem Tri.ind {rows left : List Nat} (h : Tri rows left) : Ind rows ↔ Ind left := by
  have hE : Elim rows left 0 := ⟨h.len, h.sum, fun j hj => absurd hj (Nat.not_lt_zero j)⟩
  have hback : ∀ k, k ≤ rows.length → ∀ x, Sp (left.take k) x → Sp (rows.take k) x := by
    intro k
    induction k with
    | zero => intro _ x hx; simpa using hx
    | succ k ih =>
      intro hk x hx
      have e1 := take_snoc (rows := rows) (i := k) hk
      have e2 := take_snoc (rows := left) (i := k) (by rw [h.len]; exact hk)
      refine hx.of fun r hr => ?_
      rw [e2, List.mem_append, List.mem_singleton] at hr
      have hm : ∀ y, Sp (rows.take k) y → Sp (rows.take (k + 1)) y := fun y hy => hy.mono fun r hr => by rw [e1]; exact List.mem_append_left _ hr
      rcases hr with hr | rfl
      · exact hm _ (ih (by omega) r (.mem hr))
      · have h1 := hm _ (h.sum k hk)
        have h2 : Sp (rows.take (k + 1)) (rows.getD k 0) := .mem (by rw [e1]; exact List.mem_append_right _ (List.mem_singleton.2 rfl))
        have := h2.xor h1
        rwa [Nat.xor_comm (left.getD k 0), xx] at this
  constructor
  · intro hi k hk hsp
    rw [h.len] at hk
    refine hi k hk ?_
    have h1 := (hback k (by omega) _ hsp).xor (h.sum k hk)
    rwa [xx] at h1
  · intro hi k hk hsp
    refine hi k (by rw [h.len]; exact hk) (hE.span k (by omega) _ ?_)
    have h1 := hsp.xor (h.sum k hk)
    rwa [Nat.xor_comm (left.getD k 0), xx] at h1
end Go.Proofs.Ytjkcdnfmmfpbjaa.QualM
