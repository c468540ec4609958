/- Plain mathematics of the star distance: boxes at corners, the points in them, the greatest difference. No program in sight. -/
import Derived.Laws.BitsAllLaws
set_option linter.unusedVariables false
namespace Go.Proofs.Ytjkcdnfmmfpbjaa.StarM
/-- how many of the first points lie below a corner -/
def cO (pa pb : Nat → Nat) (x y : Nat) : Nat → Nat
  | 0 => 0
  | k + 1 => cO pa pb x y k + if pa k < x ∧ pb k < y then 1 else 0
def cC (pa pb : Nat → Nat) (x y : Nat) : Nat → Nat
  | 0 => 0
  | k + 1 => cC pa pb x y k + if pa k ≤ x ∧ pb k ≤ y then 1 else 0
theorem cO_le (pa pb : Nat → Nat) (x y : Nat) : ∀ n, cO pa pb x y n ≤ n
  | 0 => Nat.le_refl _
  | n + 1 => by
    have := cO_le pa pb x y n
    unfold cO
    split <;> omega
theorem cC_le (pa pb : Nat → Nat) (x y : Nat) : ∀ n, cC pa pb x y n ≤ n
  | 0 => Nat.le_refl _
  | n + 1 => by
    have := cC_le pa pb x y n
    unfold cC
    split <;> omega
theorem cO_cC (pa pb : Nat → Nat) (x y : Nat) : ∀ n, cO pa pb x y n ≤ cC pa pb x y n
  | 0 => Nat.le_refl _
  | n + 1 => by
    have := cO_cC pa pb x y n
    unfold cO cC
    split
    · rw [if_pos (by omega)]; omega
    · split <;> omega
theorem cO_lt {pa pb : Nat → Nat} {x y : Nat} (hx : pa 0 = x) (hy : pb 0 ≤ y) : ∀ n, 0 < n → cO pa pb x y n + 1 ≤ cC pa pb x y n
  | 1, _ => by
    simp only [cO, cC]
    rw [if_neg (by omega), if_pos (by omega)]
    omega
  | n + 2, _ => by
    have := cO_lt hx hy (n + 1) (by omega)
    rw [cO, cC]
    split
    · rw [if_pos (by omega)]; omega
    · split <;> omega
def stepD (pa pb : Nat → Nat) (n o x y : Nat) (m : Int) : Int :=
  max (max m (((x * y * n : Nat) : Int) - ((cO pa pb x y n * o * o : Nat) : Int))) (((cC pa pb x y n * o * o : Nat) : Int) - ((x * y * n : Nat) : Int))
def rowS (two : Bool) (pa pb : Nat → Nat) (n o x : Nat) (m : Int) : Nat → Int
  | 0 => m
  | y + 1 => if (two || decide (y = o)) = true then stepD pa pb n o x y (rowS two pa pb n o x m y) else rowS two pa pb n o x m y
def allS (two : Bool) (pa pb : Nat → Nat) (n o : Nat) : Nat → Int
  | 0 => 0
  | x + 1 => rowS two pa pb n o x (allS two pa pb n o x) (o + 1)
theorem rowS_succ (two : Bool) (pa pb : Nat → Nat) (n o x : Nat) (m : Int) (y : Nat) (h : (two || decide (y = o)) = true) : rowS two pa pb n o x m (y + 1) = stepD pa pb n o x y (rowS two pa pb n o x m y) := by rw [rowS, if_pos h]
theorem rowS_skip (two : Bool) (pa pb : Nat → Nat) (n o x : Nat) (m : Int) (y : Nat) (h : (two || decide (y = o)) = false) : rowS two pa pb n o x m (y + 1) = rowS two pa pb n o x m y := by rw [rowS, if_neg (by rw [h]; decide)]
def stepI (pa pb : Nat → Nat) (n o x : Nat) (m : Int) : Int :=
  max (max m (((x * n : Nat) : Int) - ((cO pa pb x o n * o : Nat) : Int))) (((cC pa pb x o n * o : Nat) : Int) - ((x * n : Nat) : Int))
def allI (pa pb : Nat → Nat) (n o : Nat) : Nat → Int
  | 0 => 0
  | x + 1 => stepI pa pb n o x (allI pa pb n o x)
theorem max_mul {o : Nat} (a b : Int) : max ((o : Int) * a) ((o : Int) * b) = (o : Int) * max a b := by
  rcases Int.le_total a b with h | h
  · rw [Int.max_eq_right h, Int.max_eq_right (Int.mul_le_mul_of_nonneg_left h (by omega))]
  · rw [Int.max_eq_left h, Int.max_eq_left (Int.mul_le_mul_of_nonneg_left h (by omega))]
theorem rowS_false (pa pb : Nat → Nat) (n o x : Nat) (m : Int) : ∀ y, y ≤ o → rowS false pa pb n o x m y = m
  | 0, _ => rfl
  | y + 1, h => by
    rw [rowS_skip _ _ _ _ _ _ _ _ (by simp; omega)]
    exact rowS_false pa pb n o x m y (by omega)
theorem allS_false (pa pb : Nat → Nat) (n o : Nat) : ∀ x, allS false pa pb n o x = o * allI pa pb n o x
  | 0 => by simp [allS, allI]
  | x + 1 => by
    rw [allS, rowS_succ _ _ _ _ _ _ _ _ (by simp), rowS_false _ _ _ _ _ _ _ (Nat.le_refl _), allS_false pa pb n o x, allI]
    unfold stepD stepI
    rw [← max_mul, ← max_mul]
    have e1 : (((x * o * n : Nat) : Int) - ((cO pa pb x o n * o * o : Nat) : Int)) = o * (((x * n : Nat) : Int) - ((cO pa pb x o n * o : Nat) : Int)) := by push_cast; grind
    have e2 : (((cC pa pb x o n * o * o : Nat) : Int) - ((x * o * n : Nat) : Int)) = o * (((cC pa pb x o n * o : Nat) : Int) - ((x * n : Nat) : Int)) := by push_cast; grind
    rw [e1, e2]
theorem xyn_le {o n x y : Nat} (hx : x ≤ o) (hy : y ≤ o) : x * y * n ≤ n * o * o := by
  have := Nat.mul_le_mul_right n (Nat.mul_le_mul hx hy)
  have e : o * o * n = n * o * o := by rw [Nat.mul_comm (o * o) n, Nat.mul_assoc]
  omega
theorem coo_le {c n o : Nat} (h : c ≤ n) : c * o * o ≤ n * o * o := Nat.mul_le_mul_right o (Nat.mul_le_mul_right o h)
theorem stepD_bd {pa pb : Nat → Nat} {n o x y : Nat} {m : Int} (hx : x ≤ o) (hy : y ≤ o) (h0 : 0 ≤ m) (h1 : m ≤ ((n * o * o : Nat) : Int)) : 0 ≤ stepD pa pb n o x y m ∧ stepD pa pb n o x y m ≤ ((n * o * o : Nat) : Int) ∧ m ≤ stepD pa pb n o x y m := by
  have a1 := xyn_le (n := n) hx hy
  have a2 := coo_le (o := o) (cC_le pa pb x y n)
  unfold stepD
  generalize x * y * n = P at *
  generalize cC pa pb x y n * o * o = R at *
  generalize cO pa pb x y n * o * o = Q at *
  generalize n * o * o = U at *
  omega
theorem rowS_bd {two : Bool} {pa pb : Nat → Nat} {n o x : Nat} {m : Int} (hx : x ≤ o) (h0 : 0 ≤ m) (h1 : m ≤ ((n * o * o : Nat) : Int)) : ∀ y, y ≤ o + 1 → 0 ≤ rowS two pa pb n o x m y ∧ rowS two pa pb n o x m y ≤ ((n * o * o : Nat) : Int) ∧ m ≤ rowS two pa pb n o x m y
  | 0, _ => ⟨h0, h1, Int.le_refl _⟩
  | y + 1, hy => by
    obtain ⟨g0, g1, g2⟩ := rowS_bd (two := two) (pa := pa) (pb := pb) hx h0 h1 y (by omega)
    by_cases h : (two || decide (y = o)) = true
    · rw [rowS_succ _ _ _ _ _ _ _ _ h]
      obtain ⟨k0, k1, k2⟩ := stepD_bd (pa := pa) (pb := pb) hx (show y ≤ o by omega) g0 g1
      exact ⟨k0, k1, Int.le_trans g2 k2⟩
    · rw [rowS_skip _ _ _ _ _ _ _ _ (by simpa using h)]
      exact ⟨g0, g1, g2⟩
theorem allS_bd {two : Bool} {pa pb : Nat → Nat} {n o : Nat} : ∀ x, x ≤ o + 1 → 0 ≤ allS two pa pb n o x ∧ allS two pa pb n o x ≤ ((n * o * o : Nat) : Int)
  | 0, _ => ⟨Int.le_refl _, Int.natCast_nonneg _⟩
  | x + 1, hx => by
    obtain ⟨g0, g1⟩ := allS_bd (two := two) (pa := pa) (pb := pb) (n := n) (o := o) x (by omega)
    obtain ⟨k0, k1, _⟩ := rowS_bd (two := two) (pa := pa) (pb := pb) (show x ≤ o by omega) g0 g1 (o + 1) (Nat.le_refl _)
    exact ⟨k0, k1⟩
theorem stepI_bd {pa pb : Nat → Nat} {n o x : Nat} {m : Int} (hx : x ≤ o) (h0 : 0 ≤ m) (h1 : m ≤ ((n * o : Nat) : Int)) : 0 ≤ stepI pa pb n o x m ∧ stepI pa pb n o x m ≤ ((n * o : Nat) : Int) := by
  have a1 : x * n ≤ n * o := by rw [Nat.mul_comm n o]; exact Nat.mul_le_mul_right n hx
  have a2 : cC pa pb x o n * o ≤ n * o := Nat.mul_le_mul_right o (cC_le pa pb x o n)
  unfold stepI
  generalize x * n = P at *
  generalize cC pa pb x o n * o = R at *
  generalize cO pa pb x o n * o = Q at *
  generalize n * o = U at *
  omega
theorem allI_bd {pa pb : Nat → Nat} {n o : Nat} : ∀ x, x ≤ o + 1 → 0 ≤ allI pa pb n o x ∧ allI pa pb n o x ≤ ((n * o : Nat) : Int)
  | 0, _ => ⟨Int.le_refl _, Int.natCast_nonneg _⟩
  | x + 1, hx => by
    obtain ⟨g0, g1⟩ := allI_bd (pa := pa) (pb := pb) (n := n) (o := o) x (by omega)
    exact stepI_bd (show x ≤ o by omega) g0 g1
/-- no corner has a greater difference -/
theorem row_ge {two : Bool} {pa pb : Nat → Nat} {n o x y : Nat} {m : Int} (hx : x ≤ o) (h0 : 0 ≤ m) (h1 : m ≤ ((n * o * o : Nat) : Int)) (h : (two || decide (y = o)) = true) : ∀ z, y < z → z ≤ o + 1 → ((x * y * n : Nat) : Int) - ((cO pa pb x y n * o * o : Nat) : Int) ≤ rowS two pa pb n o x m z ∧ ((cC pa pb x y n * o * o : Nat) : Int) - ((x * y * n : Nat) : Int) ≤ rowS two pa pb n o x m z
  | 0, hz, _ => absurd hz (Nat.not_lt_zero _)
  | z + 1, hz, hzo => by
    by_cases e : y = z
    · subst e
      rw [rowS_succ _ _ _ _ _ _ _ _ h]
      unfold stepD
      omega
    · have ih := row_ge (pa := pa) (pb := pb) hx h0 h1 h z (by omega) (by omega)
      obtain ⟨g0, g1, _⟩ := rowS_bd (two := two) (pa := pa) (pb := pb) hx h0 h1 z (by omega)
      by_cases h2 : (two || decide (z = o)) = true
      · rw [rowS_succ _ _ _ _ _ _ _ _ h2]
        have := (stepD_bd (pa := pa) (pb := pb) hx (show z ≤ o by omega) g0 g1).2.2
        omega
      · rw [rowS_skip _ _ _ _ _ _ _ _ (by simpa using h2)]
        exact ih
theorem all_ge {two : Bool} {pa pb : Nat → Nat} {n o x y : Nat} (hy : y ≤ o) (h : (two || decide (y = o)) = true) : ∀ z, x < z → z ≤ o + 1 → ((x * y * n : Nat) : Int) - ((cO pa pb x y n * o * o : Nat) : Int) ≤ allS two pa pb n o z ∧ ((cC pa pb x y n * o * o : Nat) : Int) - ((x * y * n : Nat) : Int) ≤ allS two pa pb n o z
  | 0, hz, _ => absurd hz (Nat.not_lt_zero _)
  | z + 1, hz, hzo => by
    obtain ⟨g0, g1⟩ := allS_bd (two := two) (pa := pa) (pb := pb) (n := n) (o := o) z (by omega)
    by_cases e : x = z
    · subst e
      exact row_ge (by omega) g0 g1 h (o + 1) (by omega) (Nat.le_refl _)
    · have ih := all_ge (pa := pa) (pb := pb) (n := n) (x := x) hy h z (by omega) (by omega)
      have := (rowS_bd (two := two) (pa := pa) (pb := pb) (n := n) (o := o) (show z ≤ o by omega) g0 g1 (o + 1) (Nat.le_refl _)).2.2
      rw [allS]
      omega
theorem half {two : Bool} {pa pb : Nat → Nat} {n o : Nat} (hn : 0 < n) (ha : pa 0 ≤ o) (hb : pb 0 ≤ o) : ((o * o : Nat) : Int) ≤ 2 * allS two pa pb n o (o + 1) := by
  obtain ⟨y, hy, hyo, hw⟩ : ∃ y, pb 0 ≤ y ∧ y ≤ o ∧ (two || decide (y = o)) = true := ⟨o, hb, Nat.le_refl _, by simp⟩
  have h1 := all_ge (two := two) (pa := pa) (pb := pb) (n := n) (x := pa 0) hyo hw (o + 1) (by omega) (Nat.le_refl _)
  have h2 := cO_lt (pa := pa) (pb := pb) rfl hy n hn
  have h3 : (cO pa pb (pa 0) y n + 1) * o * o ≤ cC pa pb (pa 0) y n * o * o := coo_le h2
  have h4 : (cO pa pb (pa 0) y n + 1) * o * o = cO pa pb (pa 0) y n * o * o + o * o := by rw [Nat.add_mul, Nat.add_mul, Nat.one_mul]
  generalize pa 0 * y * n = P at *
  generalize cC pa pb (pa 0) y n * o * o = R at *
  generalize cO pa pb (pa 0) y n * o * o = Q at *
  generalize o * o = U at *
  omega
theorem gcd_scale {o v u : Nat} (ho : 0 < o) : (o * v) / Nat.gcd (o * v) (o * u) = v / Nat.gcd v u ∧ (o * u) / Nat.gcd (o * v) (o * u) = u / Nat.gcd v u := by
  rw [Nat.gcd_mul_left]
  exact ⟨Nat.mul_div_mul_left _ _ ho, Nat.mul_div_mul_left _ _ ho⟩
end Go.Proofs.Ytjkcdnfmmfpbjaa.StarM
