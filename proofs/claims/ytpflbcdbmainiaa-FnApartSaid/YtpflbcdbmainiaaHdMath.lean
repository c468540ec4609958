/- Plain mathematics of the period of x -> (f x + a) mod m (Hull, Dobell). No program in sight. -/
import Derived.Test.YtpflbcdbmainiaaCycMath
set_option linter.unusedVariables false
namespace Go.Proofs.Ytpflbcdbmainiaa.Hd
open Go.Proofs.Ytpflbcdbmainiaa.CycM

def S (f : Nat) : Nat → Nat
  | 0 => 0
  | n + 1 => f * S f n + 1
theorem iter_S (m f a n : Nat) : iter (fun x => (f * x + a) % m) 0 n = (a * S f n) % m := by
  induction n with
  | zero => simp [iter, S]
  | succ n ih =>
    show (f * iter _ 0 n + a) % m = _
    rw [ih, S, Nat.add_mod, Nat.mul_mod, Nat.mod_mod, ← Nat.mul_mod, ← Nat.add_mod]
    congr 1
    grind
theorem S_add (f n k : Nat) : S f (n + k) = f ^ k * S f n + S f k := by
  induction k with
  | zero => simp [S]
  | succ k ih => rw [← Nat.add_assoc, S, ih, S, Nat.pow_succ]; grind
theorem S_mul (f p n : Nat) : S f (p * n) = S f p * S (f ^ p) n := by
  induction n with
  | zero => simp [S]
  | succ n ih => rw [Nat.mul_succ, S_add, ih, S]; grind
theorem S_one {f q t : Nat} (h : f = 1 + q * t) (n : Nat) : ∃ k, S f n = n + q * k := by
  induction n with
  | zero => exact ⟨0, by simp [S]⟩
  | succ n ih =>
    obtain ⟨k, hk⟩ := ih
    refine ⟨k + t * (n + q * k), ?_⟩
    rw [S, hk, h]; grind
theorem S_two {f p t : Nat} (h : f = 1 + p * t) (n : Nat) : ∃ z : Int, 2 * (S f n : Int) = 2 * n + p * t * (n * n - n) + p * p * z := by
  induction n with
  | zero => exact ⟨0, by simp [S]⟩
  | succ n ih =>
    obtain ⟨z, hz⟩ := ih
    refine ⟨z + t * t * (n * n - n) + p * t * z, ?_⟩
    have e : ((S f (n + 1) : Nat) : Int) = (1 + p * t) * (S f n : Int) + 1 := by rw [S, h]; simp
    rw [e]
    have e2 : ((n + 1 : Nat) : Int) = (n : Int) + 1 := by simp
    rw [e2]
    grind

/-! ### Primes -/
def Pr (p : Nat) : Prop := 2 ≤ p ∧ ∀ d, d ∣ p → d = 1 ∨ d = p
theorem Pr.exists : ∀ (m : Nat), 2 ≤ m → ∃ p, Pr p ∧ p ∣ m := by
  intro m
  induction m using Nat.strongRecOn with
  | _ m ih =>
    intro hm
    by_cases h : ∀ d, d ∣ m → d = 1 ∨ d = m
    · exact ⟨m, ⟨hm, h⟩, Nat.dvd_refl m⟩
    · have ⟨d, hd⟩ : ∃ d, ¬ (d ∣ m → d = 1 ∨ d = m) := Classical.not_forall.1 h
      have hdm : d ∣ m := Classical.not_not.1 fun h2 => hd fun h3 => absurd h3 h2
      have hd2 : d ≠ 1 ∧ d ≠ m := ⟨fun e => hd fun _ => .inl e, fun e => hd fun _ => .inr e⟩
      have hle := Nat.le_of_dvd (by omega) hdm
      have h0 : d ≠ 0 := fun e => by subst e; have := Nat.eq_zero_of_zero_dvd hdm; omega
      obtain ⟨p, hp, hpd⟩ := ih d (by omega) (by omega)
      exact ⟨p, hp, Nat.dvd_trans hpd hdm⟩
theorem Pr.cop {p a : Nat} (hp : Pr p) (h : ¬ p ∣ a) : Nat.Coprime p a := by
  rcases hp.2 _ (Nat.gcd_dvd_left p a) with h1 | h1
  · exact h1
  · exact absurd (h1 ▸ Nat.gcd_dvd_right p a) h
theorem Pr.mul {p a b : Nat} (hp : Pr p) (h : p ∣ a * b) : p ∣ a ∨ p ∣ b := by
  by_cases ha : p ∣ a
  · exact .inl ha
  · exact .inr ((hp.cop ha).dvd_of_dvd_mul_left h)
theorem Pr.pow {p a n : Nat} (hp : Pr p) (h : p ∣ a ^ n) : p ∣ a := by
  induction n with
  | zero =>
    have := Nat.le_of_dvd (by simp) h
    have := hp.1
    simp at *; omega
  | succ n ih =>
    rw [Nat.pow_succ] at h
    rcases hp.mul h with h1 | h1
    · exact ih h1
    · exact h1
theorem cop_of {m u : Nat} (hm : 1 ≤ m) (h : ∀ q, Pr q → q ∣ m → ¬ q ∣ u) : Nat.Coprime m u := by
  have hg : 0 < Nat.gcd m u := Nat.gcd_pos_of_pos_left _ hm
  rcases Nat.lt_or_ge (Nat.gcd m u) 2 with h2 | h2
  · show Nat.gcd m u = 1; omega
  · obtain ⟨q, hq, hqd⟩ := Pr.exists _ h2
    exact absurd (Nat.dvd_trans hqd (Nat.gcd_dvd_right m u)) (h q hq (Nat.dvd_trans hqd (Nat.gcd_dvd_left m u)))
theorem mod_one {f p : Nat} (h : f % p = 1) : ∃ t, f = 1 + p * t := ⟨f / p, by have := Nat.mod_add_div f p; omega⟩

/-! ### Conditions: the way to them, and from them -/
def Cond (m f : Nat) : Prop := (∀ p, Pr p → p ∣ m → f % p = 1) ∧ (4 ∣ m → f % 4 = 1)
theorem pow_mod_one {f p : Nat} (h : f % p = 1) (n : Nat) (hp : 2 ≤ p) : f ^ n % p = 1 := by
  rw [Nat.pow_mod, h, Nat.one_pow, Nat.mod_eq_of_lt (by omega)]
theorem unit_of {m p f u m' : Nat} (hp : Pr p) (hm : m = p * m') (hm0 : 1 ≤ m) (hc : Cond m f) (hu : S f p = p * u) : Nat.Coprime m' u := by
  have hp2 := hp.1
  have hm1 : 1 ≤ m' := by
    rcases Nat.eq_zero_or_pos m' with h | h
    · subst h; simp at hm; omega
    · exact h
  refine cop_of hm1 fun q hq hqm hqu => ?_
  have hq2 := hq.1
  have hqm' : q ∣ m := hm ▸ Nat.dvd_trans hqm (Nat.dvd_mul_left m' p)
  by_cases e : q = p
  · subst e
    obtain ⟨t, ht⟩ := mod_one (hc.1 q hq hqm')
    by_cases h2 : q = 2
    · subst h2
      have h4 : 4 ∣ m := by
        obtain ⟨k, hk⟩ := hqm
        exact ⟨k, by rw [hm, hk]; omega⟩
      have h41 := hc.2 h4
      have e2 : S f 2 = f + 1 := by simp [S]
      rw [e2] at hu
      obtain ⟨k, hk⟩ := hqu
      omega
    · obtain ⟨z, hz⟩ := S_two ht q
      rw [hu] at hz
      obtain ⟨k, hk⟩ := hqu
      -- 2 q u = 2 q + q t (q q - q) + q q z, u = q k : 2 = q (2 k - t (q - 1) - z)
      have hz' : (q : Int) * (2 * (q * k)) = q * (2 + q * (t * ((q : Int) - 1) + z)) := by
        rw [hk] at hz
        have e1 : ((q * (q * k) : Nat) : Int) = (q : Int) * (q * k) := by simp
        rw [e1] at hz
        grind
      have h3 : (2 * ((q : Int) * k)) = 2 + q * (t * ((q : Int) - 1) + z) := Int.eq_of_mul_eq_mul_left (by omega) hz'
      have h4 : (q : Int) ∣ 2 := ⟨2 * k - (t * ((q : Int) - 1) + z), by grind⟩
      have h5 : q ∣ 2 := by exact_mod_cast h4
      have := Nat.le_of_dvd (by omega) h5
      omega
  · obtain ⟨t, ht⟩ := mod_one (hc.1 q hq hqm')
    obtain ⟨k, hk⟩ := S_one ht p
    have : q ∣ p := by
      have h1 : q ∣ p + q * k := by rw [← hk, hu]; exact Nat.dvd_trans hqu (Nat.dvd_mul_left u p)
      exact (Nat.dvd_add_left (Nat.dvd_mul_right q k)).1 h1
    rcases hp.2 q this with h1 | h1
    · omega
    · exact e h1
theorem main : ∀ (m : Nat), 1 ≤ m → ∀ f n, Cond m f → m ∣ S f n → m ∣ n := by
  intro m
  induction m using Nat.strongRecOn with
  | _ m ih =>
    intro hm0 f n hc hS
    rcases Nat.lt_or_ge m 2 with h2 | h2
    · obtain rfl : m = 1 := by omega
      exact Nat.one_dvd n
    obtain ⟨p, hp, m', hm⟩ := Pr.exists m h2
    have hp2 := hp.1
    have hpm : p ∣ m := ⟨m', hm⟩
    obtain ⟨t, ht⟩ := mod_one (hc.1 p hp hpm)
    obtain ⟨k, hk⟩ := S_one ht n
    have hpn : p ∣ n := by
      have h1 : p ∣ n + p * k := by rw [← hk]; exact Nat.dvd_trans hpm hS
      exact (Nat.dvd_add_left (Nat.dvd_mul_right p k)).1 h1
    obtain ⟨n', rfl⟩ := hpn
    obtain ⟨k2, hk2⟩ := S_one ht p
    have hu : S f p = p * (1 + k2) := by rw [hk2]; grind
    have hcop := unit_of hp hm hm0 hc hu
    have hm1 : 1 ≤ m' := by
      rcases Nat.eq_zero_or_pos m' with h | h
      · subst h; simp at hm; omega
      · exact h
    have hlt : m' < m := by
      rw [hm]
      exact Nat.lt_of_lt_of_le (by omega) (Nat.mul_le_mul_right m' hp2)
    rw [S_mul, hu, hm, Nat.mul_assoc] at hS
    have h3 : m' ∣ (1 + k2) * S (f ^ p) n' := Nat.dvd_of_mul_dvd_mul_left (by omega) hS
    have h4 := hcop.dvd_of_dvd_mul_left h3
    have hc' : Cond m' (f ^ p) := ⟨fun q hq hqm => pow_mod_one (hc.1 q hq (hm ▸ Nat.dvd_trans hqm (Nat.dvd_mul_left m' p))) p hq.1,
      fun h => pow_mod_one (hc.2 (hm ▸ Nat.dvd_trans h (Nat.dvd_mul_left m' p))) p (by omega)⟩
    have h5 := ih m' hlt hm1 (f ^ p) n' hc' h4
    rw [hm]
    exact Nat.mul_dvd_mul_left p h5

def Full (m f a : Nat) : Prop := (∀ p, Pr p → p ∣ m → ¬ p ∣ a ∧ f % p = 1) ∧ (4 ∣ m → f % 4 = 1)
theorem full_to {m f a j n : Nat} (hm : 2 ≤ m) (h : IsCyc (fun x => (f * x + a) % m) 0 j n) (hF : Full m f a) : n - j = m := by
  have hle := h.le (M := m) (fun s _ => Nat.mod_lt _ (by omega)) (by omega)
  obtain ⟨h1, h2, h3⟩ := h
  rw [iter_S, iter_S] at h2
  have hc : Cond m f := ⟨fun p hp hd => (hF.1 p hp hd).2, hF.2⟩
  have hdiv : m ∣ a * (f ^ j * S f (n - j)) := by
    have e : S f n = f ^ j * S f (n - j) + S f j := by
      have := S_add f (n - j) j
      rwa [Nat.sub_add_cancel (by omega)] at this
    rw [e, Nat.mul_add] at h2
    have h4 := Nat.sub_mod_eq_zero_of_mod_eq h2.symm
    rw [Nat.add_sub_cancel] at h4
    exact Nat.dvd_of_mod_eq_zero h4
  have c1 : Nat.Coprime m a := cop_of (by omega) fun q hq hqm => (hF.1 q hq hqm).1
  have c2 : Nat.Coprime m (f ^ j) := cop_of (by omega) fun q hq hqm hqf => by
    have h4 := hq.pow hqf
    have h5 := (hF.1 q hq hqm).2
    have := Nat.mod_eq_zero_of_dvd h4
    omega
  have h6 := main m (by omega) f (n - j) hc (c2.dvd_of_dvd_mul_left (c1.dvd_of_dvd_mul_left hdiv))
  have := Nat.le_of_dvd (by omega) h6
  omega

theorem bezout (a b : Nat) : ∃ x y : Int, (Nat.gcd a b : Int) = a * x + b * y := by
  induction a, b using Nat.gcd.induction with
  | H0 n => exact ⟨0, 1, by simp⟩
  | H1 m n hm ih =>
    obtain ⟨x, y, h⟩ := ih
    refine ⟨y - (n / m : Nat) * x, x, ?_⟩
    rw [Nat.gcd_rec, h]
    have e : ((n % m : Nat) : Int) = n - m * (n / m : Nat) := by
      have := Nat.mod_add_div n m
      have h2 : ((n % m + m * (n / m) : Nat) : Int) = n := by rw [this]
      simp only [Int.natCast_add, Int.natCast_mul] at h2
      omega
    rw [e]
    grind
/-- all states are reached -/
theorem reach {m j n : Nat} {T : Nat → Nat} (hm : 2 ≤ m) (hT : ∀ s, T s < m) (h : IsCyc T 0 j n) (hf : n - j = m) (y : Nat) (hy : y < m) : ∃ k, 1 ≤ k ∧ iter T 0 k = y := by
  have hle := h.le (M := m) (fun s _ => hT s) (by omega)
  obtain ⟨h1, h2, h3⟩ := h
  obtain rfl : j = 0 := by omega
  obtain rfl : n = m := by omega
  rcases Classical.em (∃ k, k < n ∧ iter T 0 k = y) with ⟨k, hk, e⟩ | hno
  · rcases Nat.eq_zero_or_pos k with h0 | h0
    · subst h0
      exact ⟨n, by omega, h2.symm.trans e⟩
    · exact ⟨k, h0, e⟩
  · have hlt : ∀ k, iter T 0 k < n := iter_lt (fun s _ => hT s) (by omega)
    have := pigeon n (n + 1) (fun i => if i < n then iter T 0 i else y) (fun i hi => by
      show (if i < n then iter T 0 i else y) < n
      split
      · exact hlt i
      · exact hy) (fun a b hab hb => by
      show (if a < n then iter T 0 a else y) ≠ (if b < n then iter T 0 b else y)
      rw [if_pos (by omega)]
      split
      · exact h3 a b hab (by assumption)
      · exact fun e => hno ⟨a, by omega, e⟩)
    omega
theorem full_of {m f a j n : Nat} (hm : 2 ≤ m) (h : IsCyc (fun x => (f * x + a) % m) 0 j n) (hf : n - j = m) : Full m f a := by
  have hR : ∀ y, y < m → ∃ k, 1 ≤ k ∧ (a * S f k) % m = y := fun y hy => by
    obtain ⟨k, h1, h2⟩ := reach hm (fun s => Nat.mod_lt _ (by omega)) h hf y hy
    exact ⟨k, h1, by rw [← iter_S]; exact h2⟩
  -- mod a divisor
  have hRd : ∀ d, d ∣ m → 0 < d → ∀ y, y < d → ∃ k, 1 ≤ k ∧ (a * S f k) % d = y := fun d hd h0 y hy => by
    have := Nat.le_of_dvd (by omega) hd
    obtain ⟨k, h1, h2⟩ := hR y (by omega)
    refine ⟨k, h1, ?_⟩
    rw [← Nat.mod_mod_of_dvd _ hd, h2, Nat.mod_eq_of_lt hy]
  have ha : ∀ p, Pr p → p ∣ m → ¬ p ∣ a := fun p hp hd hpa => by
    have hp2 := hp.1
    obtain ⟨k, _, h2⟩ := hRd p hd (by omega) 1 (by omega)
    have := Nat.mod_eq_zero_of_dvd (Nat.dvd_trans hpa (Nat.dvd_mul_right a (S f k)))
    omega
  have hf1 : ∀ p, Pr p → p ∣ m → f % p = 1 := fun p hp hd => by
    have hp2 := hp.1
    refine Classical.byContradiction fun hne => ?_
    by_cases hpf : p ∣ f
    · -- constant
      obtain ⟨k, hk, h2⟩ := hRd p hd (by omega) 0 (by omega)
      obtain ⟨k', rfl⟩ : ∃ k', k = k' + 1 := ⟨k - 1, by omega⟩
      rw [S, Nat.mul_add] at h2
      have h3 : p ∣ a * (f * S f k') + a * 1 := Nat.dvd_of_mod_eq_zero h2
      have h4 : p ∣ a * (f * S f k') := Nat.dvd_trans (Nat.dvd_trans hpf (Nat.dvd_mul_right f _)) (Nat.dvd_mul_left _ a)
      have h5 := (Nat.dvd_add_right h4).1 h3
      rw [Nat.mul_one] at h5
      exact ha p hp hd h5
    · -- (f - 1) S k + 1 = f ^ k is never 0 mod p
      have hg : ¬ (p : Int) ∣ (f : Int) - 1 := fun hdv => by
        apply hne
        obtain ⟨c, hc⟩ := hdv
        have h6 : (f : Int) % p = 1 := by
          have : (f : Int) = 1 + p * c := by omega
          rw [this, Int.add_mul_emod_self_left]
          exact Int.emod_eq_of_lt (by omega) (by omega)
        exact_mod_cast h6
      have hS : ∀ k, ((f : Int) - 1) * (S f k : Int) + 1 = (f : Int) ^ k := fun k => by
        induction k with
        | zero => simp [S]
        | succ k ih =>
          have e : ((S f (k + 1) : Nat) : Int) = f * (S f k : Int) + 1 := by rw [S]; simp
          rw [e, Int.pow_succ, ← ih]
          grind
      -- y with (f - 1) y = -a mod p
      obtain ⟨g, hgp⟩ : ∃ g : Nat, (g : Int) = ((f : Int) - 1) % p := ⟨(((f : Int) - 1) % p).toNat, by
        have := Int.emod_nonneg ((f : Int) - 1) (show (p : Int) ≠ 0 by omega)
        omega⟩
      have hgn : ¬ p ∣ g := fun h7 => hg (by
        have h8 : (p : Int) ∣ ((f : Int) - 1) % p := by rw [← hgp]; exact_mod_cast h7
        exact Int.dvd_of_emod_eq_zero (by
          have := Int.emod_eq_zero_of_dvd h8
          rwa [Int.emod_emod_of_dvd _ (Int.dvd_refl _)] at this))
      have hcop := hp.cop hgn
      obtain ⟨x, y, hxy⟩ := bezout p g
      rw [show Nat.gcd p g = 1 from hcop] at hxy
      -- target residue
      obtain ⟨r, hr⟩ : ∃ r : Nat, (r : Int) = (-(a : Int) * y) % p := ⟨((-(a : Int) * y) % p).toNat, by
        have := Int.emod_nonneg (-(a : Int) * y) (show (p : Int) ≠ 0 by omega)
        omega⟩
      have hrp : r < p := by
        have := Int.emod_lt_of_pos (-(a : Int) * y) (show (0 : Int) < p by omega)
        omega
      obtain ⟨k, hk, h2⟩ := hRd p hd (by omega) r hrp
      -- p divides (f-1) a S k + a = a f^k
      have h9 : (p : Int) ∣ (a : Int) * (f : Int) ^ k := by
        obtain ⟨c1, hc1⟩ : ∃ c, ((f : Int) - 1) = g + p * c := ⟨((f : Int) - 1) / p, by
          have := Int.emod_add_mul_ediv ((f : Int) - 1) p
          omega⟩
        obtain ⟨c2, hc2⟩ : ∃ c, -(a : Int) * y = r + p * c := ⟨(-(a : Int) * y) / p, by
          have := Int.emod_add_mul_ediv (-(a : Int) * y) p
          omega⟩
        obtain ⟨c3, hc3⟩ : ∃ c : Nat, a * S f k = r + p * c := ⟨(a * S f k) / p, by
          have := Nat.mod_add_div (a * S f k) p
          omega⟩
        have hc3' : (a : Int) * (S f k : Int) = r + p * (c3 : Int) := by exact_mod_cast hc3
        rw [← hS k]
        refine ⟨c1 * r + g * c3 + p * c1 * c3 + a * x - g * c2, ?_⟩
        have hxy' : (1 : Int) = p * x + g * y := by simpa using hxy
        have : (r : Int) = -(a : Int) * y - p * c2 := by omega
        calc (a : Int) * (((f : Int) - 1) * (S f k : Int) + 1) = ((f : Int) - 1) * ((a : Int) * (S f k : Int)) + a := by grind
          _ = (g + p * c1) * (r + p * c3) + a * (p * x + g * y) := by rw [hc1, hc3', ← hxy', Int.mul_one]
          _ = _ := by grind
      have h10 : p ∣ a * f ^ k := by exact_mod_cast h9
      rcases hp.mul h10 with h11 | h11
      · exact ha p hp hd h11
      · exact hpf (hp.pow h11)
  refine ⟨fun p hp hd => ⟨ha p hp hd, hf1 p hp hd⟩, fun h4 => ?_⟩
  have hp2 : Pr 2 := ⟨by omega, fun d hd => by
    have := Nat.le_of_dvd (by omega) hd
    have h0 : d ≠ 0 := fun e => by subst e; have := Nat.eq_zero_of_zero_dvd hd; omega
    omega⟩
  have hd2 : 2 ∣ m := Nat.dvd_trans ⟨2, rfl⟩ h4
  have hfo := hf1 2 hp2 hd2
  have hao := ha 2 hp2 hd2
  refine Classical.byContradiction fun hne => ?_
  have hf3 : f % 4 = 3 := by omega
  obtain ⟨t, ht⟩ : ∃ t, f = 3 + 4 * t := ⟨f / 4, by omega⟩
  have hS4 : ∀ k, S f k % 4 = 0 ∨ S f k % 4 = 1 := fun k => by
    induction k with
    | zero => exact .inl rfl
    | succ k ih =>
      have e : S f (k + 1) = 3 * S f k + 1 + 4 * (t * S f k) := by rw [S, ht]; grind
      omega
  obtain ⟨k, _, h2⟩ := hRd 4 h4 (by omega) 2 (by omega)
  rw [Nat.mul_mod] at h2
  have ha4 : a % 4 = 1 ∨ a % 4 = 3 := by omega
  rcases hS4 k with h5 | h5 <;> rcases ha4 with h6 | h6 <;> rw [h5, h6] at h2 <;> simp at h2

/-! ### The search for prime divisors -/
structure Sieve (M f a p mc : Nat) (full : Bool) : Prop where
  pos : 1 ≤ mc
  dvd : mc ∣ M
  no : ∀ d, 2 ≤ d → d < p → ¬ d ∣ mc
  all : ∀ q, Pr q → q ∣ M → p ≤ q → q ∣ mc
  is : full = true ↔ ∀ q, Pr q → q ∣ M → q < p → (¬ q ∣ a ∧ f % q = 1)
theorem Sieve.start {M f a : Nat} (hM : 1 ≤ M) : Sieve M f a 2 M true :=
  ⟨hM, Nat.dvd_refl M, fun d h1 h2 => by omega, fun q _ h _ => h, ⟨fun _ q hq _ h => by have := hq.1; omega, fun _ => rfl⟩⟩
theorem Sieve.skip {M f a p mc : Nat} {full : Bool} (h : Sieve M f a p mc full) (hp : ¬ p ∣ mc) : Sieve M f a (p + 1) mc full := by
  refine ⟨h.pos, h.dvd, fun d h1 h2 => ?_, fun q hq hd hle => h.all q hq hd (by omega), ?_⟩
  · by_cases e : d = p
    · subst e; exact hp
    · exact h.no d h1 (by omega)
  · rw [h.is]
    refine ⟨fun h1 q hq hd hlt => ?_, fun h1 q hq hd hlt => h1 q hq hd (by omega)⟩
    by_cases e : q = p
    · subst e; exact absurd (h.all q hq hd (Nat.le_refl _)) hp
    · exact h1 q hq hd (by omega)
theorem Sieve.prime {M f a p mc : Nat} {full : Bool} (h : Sieve M f a p mc full) (hp : p ∣ mc) (h2 : 2 ≤ p) : Pr p := by
  refine ⟨h2, fun d hd => ?_⟩
  have hle := Nat.le_of_dvd (by omega) hd
  have h0 : d ≠ 0 := fun e => by subst e; have := Nat.eq_zero_of_zero_dvd hd; omega
  by_cases e1 : d = 1
  · exact .inl e1
  · by_cases e2 : d = p
    · exact .inr e2
    · exact absurd (Nat.dvd_trans hd hp) (h.no d (by omega) (by omega))
/-- while p is divided out -/
structure Div (M p mc : Nat) : Prop where
  pos : 1 ≤ mc
  dvd : mc ∣ M
  no : ∀ d, 2 ≤ d → d < p → ¬ d ∣ mc
  all : ∀ q, Pr q → q ∣ M → p < q → q ∣ mc
theorem Sieve.div {M f a p mc : Nat} {full : Bool} (h : Sieve M f a p mc full) : Div M p mc := ⟨h.pos, h.dvd, h.no, fun q hq hd hlt => h.all q hq hd (by omega)⟩
theorem Div.next {M p mc : Nat} (h : Div M p mc) (hp : Pr p) (hd : p ∣ mc) : Div M p (mc / p) := by
  have hp2 := hp.1
  obtain ⟨k, rfl⟩ := hd
  rw [Nat.mul_div_cancel_left k (by omega)]
  refine ⟨?_, Nat.dvd_trans (Nat.dvd_mul_left k p) h.dvd, fun d h1 h2 h3 => h.no d h1 h2 (Nat.dvd_trans h3 (Nat.dvd_mul_left k p)), fun q hq hqM hlt => ?_⟩
  · rcases Nat.eq_zero_or_pos k with h0 | h0
    · subst h0; have := h.pos; simp at this
    · exact h0
  · rcases hq.mul (h.all q hq hqM hlt) with h1 | h1
    · rcases hp.2 q h1 with h3 | h3
      · have := hq.1; omega
      · omega
    · exact h1
theorem Sieve.next {M f a p mc mc' : Nat} {full full' : Bool} (h : Sieve M f a p mc full) (hp : p ∣ mc) (h2 : 2 ≤ p) (hd : Div M p mc') (hno : ¬ p ∣ mc') (hf : full' = true ↔ (full = true ∧ (¬ p ∣ a ∧ f % p = 1))) : Sieve M f a (p + 1) mc' full' := by
  have hpr := h.prime hp h2
  refine ⟨hd.pos, hd.dvd, fun d h1 h3 => ?_, fun q hq hqM hle => hd.all q hq hqM (by omega), ?_⟩
  · by_cases e : d = p
    · subst e; exact hno
    · exact hd.no d h1 (by omega)
  · rw [hf, h.is]
    constructor
    · rintro ⟨h4, h5⟩ q hq hqM hlt
      by_cases e : q = p
      · subst e; exact h5
      · exact h4 q hq hqM (by omega)
    · intro h4
      exact ⟨fun q hq hqM hlt => h4 q hq hqM (by omega), h4 p hpr (Nat.dvd_trans hp h.dvd) (by omega)⟩
theorem Sieve.done {M f a p mc : Nat} {full : Bool} (h : Sieve M f a p mc full) (hp : mc < p) : full = true ↔ ∀ q, Pr q → q ∣ M → (¬ q ∣ a ∧ f % q = 1) := by
  rw [h.is]
  refine ⟨fun h1 q hq hqM => h1 q hq hqM ?_, fun h1 q hq hqM _ => h1 q hq hqM⟩
  rcases Nat.lt_or_ge q p with h2 | h2
  · exact h2
  · have h3 := h.all q hq hqM h2
    have := Nat.le_of_dvd h.pos h3
    omega
end Go.Proofs.Ytpflbcdbmainiaa.Hd
