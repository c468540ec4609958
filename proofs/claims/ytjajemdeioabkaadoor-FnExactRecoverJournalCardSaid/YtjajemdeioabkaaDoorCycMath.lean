/- Plain mathematics of a sequence of states below a bound: where it first comes again. No program in sight. -/
set_option linter.unusedVariables false
namespace Go.Proofs.YtjajemdeioabkaaDoor.CycM

theorem pigeon : ∀ (M n : Nat) (g : Nat → Nat), (∀ i, i < n → g i < M) → (∀ a b, a < b → b < n → g a ≠ g b) → n ≤ M
  | 0, n, g, h, _ => by
    rcases Nat.eq_zero_or_pos n with h0 | h0
    · omega
    · have := h 0 h0; omega
  | M + 1, n, g, h, hd => by
    by_cases hex : ∃ i, i < n ∧ g i = M
    · obtain ⟨i0, hi0, he⟩ := hex
      have ih := pigeon M (n - 1) (fun i => g (if i < i0 then i else i + 1)) (fun i hi => by
        show g (if i < i0 then i else i + 1) < M
        by_cases hlt : i < i0
        · rw [if_pos hlt]
          have h1 := h i (by omega)
          have h2 := hd i i0 hlt hi0
          omega
        · rw [if_neg hlt]
          have h1 := h (i + 1) (by omega)
          have h2 := hd i0 (i + 1) (by omega) (by omega)
          omega) (fun a b hab hb => by
        show g (if a < i0 then a else a + 1) ≠ g (if b < i0 then b else b + 1)
        by_cases ha : a < i0 <;> by_cases hb' : b < i0
        · rw [if_pos ha, if_pos hb']; exact hd a b hab (by omega)
        · rw [if_pos ha, if_neg hb']; exact hd a (b + 1) (by omega) (by omega)
        · omega
        · rw [if_neg ha, if_neg hb']; exact hd (a + 1) (b + 1) (by omega) (by omega))
      omega
    · have ih := pigeon M n g (fun i hi => by
        have h1 := h i hi
        have h2 : g i ≠ M := fun e => hex ⟨i, hi, e⟩
        omega) hd
      omega

def iter (T : Nat → Nat) (x : Nat) : Nat → Nat
  | 0 => x
  | k + 1 => T (iter T x k)
theorem iter_succ (T : Nat → Nat) (x k : Nat) : iter T x (k + 1) = T (iter T x k) := rfl
theorem iter_lt {T : Nat → Nat} {M x : Nat} (hT : ∀ s, s < M → T s < M) (hx : x < M) (k : Nat) : iter T x k < M := by
  induction k with
  | zero => exact hx
  | succ k ih => exact hT _ ih
theorem iter_add (T : Nat → Nat) (x j k : Nat) : iter T x (j + k) = iter T (iter T x j) k := by
  induction k with
  | zero => rfl
  | succ k ih => rw [← Nat.add_assoc, iter_succ, iter_succ, ih]
theorem iter_congr {T U : Nat → Nat} {M x : Nat} (hT : ∀ s, s < M → T s < M) (hx : x < M) (h : ∀ s, s < M → T s = U s) (k : Nat) : iter T x k = iter U x k := by
  induction k with
  | zero => rfl
  | succ k ih => rw [iter_succ, iter_succ, ← ih, h _ (iter_lt hT hx k)]

/-- n is the first step whose state was there before, and it was there at step j -/
def IsCyc (T : Nat → Nat) (x j n : Nat) : Prop :=
  j < n ∧ iter T x j = iter T x n ∧ ∀ a b, a < b → b < n → iter T x a ≠ iter T x b
theorem IsCyc.uniq {T : Nat → Nat} {x j n j' n' : Nat} (h : IsCyc T x j n) (h' : IsCyc T x j' n') : j = j' ∧ n = n' := by
  obtain ⟨h1, h2, h3⟩ := h
  obtain ⟨g1, g2, g3⟩ := h'
  have e : n = n' := by
    rcases Nat.lt_trichotomy n n' with hlt | he | hgt
    · exact absurd h2 (g3 j n h1 hlt)
    · exact he
    · exact absurd g2 (h3 j' n' g1 hgt)
  subst e
  rcases Nat.lt_trichotomy j j' with hlt | he | hgt
  · exact absurd (h2.trans g2.symm) (h3 j j' hlt g1)
  · exact ⟨he, rfl⟩
  · exact absurd (g2.trans h2.symm) (h3 j' j hgt h1)
theorem IsCyc.le {T : Nat → Nat} {M x j n : Nat} (hT : ∀ s, s < M → T s < M) (hx : x < M) (h : IsCyc T x j n) : n ≤ M :=
  pigeon M n (iter T x) (fun i _ => iter_lt hT hx i) h.2.2
theorem IsCyc.congr {T U : Nat → Nat} {M x j n : Nat} (hT : ∀ s, s < M → T s < M) (hx : x < M) (hTU : ∀ s, s < M → T s = U s) (h : IsCyc T x j n) : IsCyc U x j n := by
  obtain ⟨h1, h2, h3⟩ := h
  refine ⟨h1, ?_, fun a b hab hb => ?_⟩
  · rw [← iter_congr hT hx hTU, ← iter_congr hT hx hTU]; exact h2
  · rw [← iter_congr hT hx hTU, ← iter_congr hT hx hTU]; exact h3 a b hab hb

/-- the step at which the first state that comes again came first, and the step at which it comes again -/
noncomputable def cyc (T : Nat → Nat) (x : Nat) : Nat × Nat := Classical.epsilon fun p : Nat × Nat => IsCyc T x p.1 p.2
theorem cyc_of {T : Nat → Nat} {x j n : Nat} (h : IsCyc T x j n) : cyc T x = (j, n) := by
  have hs : IsCyc T x (cyc T x).1 (cyc T x).2 := Classical.epsilon_spec (p := fun p : Nat × Nat => IsCyc T x p.1 p.2) ⟨(j, n), h⟩
  obtain ⟨h1, h2⟩ := hs.uniq h
  exact Prod.ext h1 h2
noncomputable def preOf (T : Nat → Nat) (x : Nat) : Int := ((cyc T x).1 : Int)
noncomputable def perOf (T : Nat → Nat) (x : Nat) : Int := ((cyc T x).2 : Int) - ((cyc T x).1 : Int)
theorem preOf_of {T : Nat → Nat} {x j n : Nat} (h : IsCyc T x j n) : preOf T x = j := by unfold preOf; rw [cyc_of h]
theorem perOf_of {T : Nat → Nat} {x j n : Nat} (h : IsCyc T x j n) : perOf T x = (n : Int) - j := by unfold perOf; rw [cyc_of h]

/-- what the list of first visits holds behind n steps: one more than the step at which a state came, 0 where it did not come -/
structure Seen (T : Nat → Nat) (x M n : Nat) (f : Nat → Nat) : Prop where
  zero : ∀ s, s < M → f s = 0 → ∀ i, i < n → iter T x i ≠ s
  pos : ∀ s, s < M → f s ≠ 0 → f s ≤ n ∧ iter T x (f s - 1) = s
  dist : ∀ a b, a < b → b < n → iter T x a ≠ iter T x b
theorem Seen.start (T : Nat → Nat) (x M : Nat) : Seen T x M 0 (fun _ => 0) :=
  ⟨fun _ _ _ i hi => absurd hi (Nat.not_lt_zero i), fun _ _ h => absurd rfl h, fun a b _ hb => absurd hb (Nat.not_lt_zero b)⟩
theorem Seen.step {T : Nat → Nat} {x M n : Nat} {f : Nat → Nat} (hT : ∀ s, s < M → T s < M) (hx : x < M) (h : Seen T x M n f) (h0 : f (iter T x n) = 0) :
    Seen T x M (n + 1) (fun s => if s = iter T x n then n + 1 else f s) := by
  have hn := h.zero _ (iter_lt hT hx n) h0
  refine ⟨fun s hs hf i hi => ?_, fun s hs hf => ?_, fun a b hab hb => ?_⟩
  · by_cases e : s = iter T x n
    · simp [e] at hf
    · simp only [if_neg e] at hf
      rcases Nat.lt_or_ge i n with h1 | h1
      · exact h.zero s hs hf i h1
      · obtain rfl : i = n := by omega
        exact fun h2 => e h2.symm
  · by_cases e : s = iter T x n
    · simp only [if_pos e]
      exact ⟨Nat.le_refl _, by simpa using e.symm⟩
    · simp only [if_neg e] at hf ⊢
      have := h.pos s hs hf
      exact ⟨by omega, this.2⟩
  · rcases Nat.lt_or_ge b n with h1 | h1
    · exact h.dist a b hab h1
    · obtain rfl : b = n := by omega
      exact hn a hab
theorem Seen.le {T : Nat → Nat} {x M n : Nat} {f : Nat → Nat} (hT : ∀ s, s < M → T s < M) (hx : x < M) (h : Seen T x M n f) : n ≤ M :=
  pigeon M n (iter T x) (fun i _ => iter_lt hT hx i) h.dist
theorem Seen.done {T : Nat → Nat} {x M n : Nat} {f : Nat → Nat} (hT : ∀ s, s < M → T s < M) (hx : x < M) (h : Seen T x M n f) (h0 : f (iter T x n) ≠ 0) :
    IsCyc T x (f (iter T x n) - 1) n := by
  have := h.pos _ (iter_lt hT hx n) h0
  exact ⟨by omega, this.2, h.dist⟩
end Go.Proofs.YtjajemdeioabkaaDoor.CycM
