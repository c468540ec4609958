/- The powers of x modulo a polynomial, one after another; cycles of a map that comes back; plain mathematics. -/
import Derived.Test.YtogadldnkhdjbaaPoly
namespace Go.Proofs.Ytogadldnkhdjbaa.PerP
open Go.Proofs.Ytogadldnkhdjbaa Go.Proofs.Ytogadldnkhdjbaa.Poly Go.Proofs.Ytogadldnkhdjbaa.CycM
set_option linter.unusedVariables false
theorem cycEx {T : Nat → Nat} {M x : Nat} (hT : ∀ s, s < M → T s < M) (hx : x < M) : ∃ j n, IsCyc T x j n := by
  have key : ∀ k, (∃ j n, IsCyc T x j n) ∨ ∀ a b, a < b → b < k → iter T x a ≠ iter T x b := fun k => by
    induction k with
    | zero => exact .inr fun a b _ h => absurd h (Nat.not_lt_zero _)
    | succ k ih =>
      rcases ih with h | h
      · exact .inl h
      · by_cases hex : ∃ a, a < k ∧ iter T x a = iter T x k
        · obtain ⟨a, ha, e⟩ := hex
          exact .inl ⟨a, k, ha, e, h⟩
        · refine .inr fun a b hab hb => ?_
          rcases Nat.lt_or_ge b k with h1 | h1
          · exact h a b hab h1
          · obtain rfl : b = k := by omega
            exact fun e => hex ⟨a, hab, e⟩
  rcases key (M + 1) with h | h
  · exact h
  · have := pigeon M (M + 1) (iter T x) (fun i _ => iter_lt hT hx i) h
    omega
/-- a map that is one to one below M comes back to where it began -/
theorem cycPure {T : Nat → Nat} {M x j n : Nat} (hT : ∀ s, s < M → T s < M) (hx : x < M) (hi : ∀ a b, a < M → b < M → T a = T b → a = b) (h : IsCyc T x j n) : j = 0 := by
  obtain ⟨h1, h2, h3⟩ := h
  rcases Nat.eq_zero_or_pos j with e | e
  · exact e
  · exfalso
    refine h3 (j - 1) (n - 1) (by omega) (by omega) (hi _ _ (iter_lt hT hx _) (iter_lt hT hx _) ?_)
    rw [← iter_succ T x (j - 1), ← iter_succ T x (n - 1), show j - 1 + 1 = j by omega, show n - 1 + 1 = n by omega]
    exact h2
theorem iterMul {T : Nat → Nat} {x n : Nat} (h : iter T x n = x) : ∀ q, iter T x (n * q) = x
  | 0 => rfl
  | q + 1 => by rw [Nat.mul_succ, iter_add, iterMul h q, h]
theorem iterMod {T : Nat → Nat} {x n : Nat} (h : iter T x n = x) (N : Nat) : iter T x N = iter T x (N % n) := by
  conv => lhs; rw [← Nat.div_add_mod N n]
  rw [iter_add, iterMul h]
theorem cycDvd {T : Nat → Nat} {x n N : Nat} (h : IsCyc T x 0 n) (hN : iter T x N = x) : N % n = 0 := by
  obtain ⟨h1, h2, h3⟩ := h
  have e := iterMod (T := T) (x := x) (n := n) h2.symm N
  rw [hN] at e
  rcases Nat.eq_zero_or_pos (N % n) with e0 | e0
  · exact e0
  · exact absurd e (h3 0 (N % n) e0 (Nat.mod_lt _ (by omega)))
/-- all that is below M is met by M different ones -/
theorem onto : ∀ (M : Nat) (g : Nat → Nat), (∀ i, i < M → g i < M) → (∀ a b, a < b → b < M → g a ≠ g b) → ∀ y, y < M → ∃ i, i < M ∧ g i = y := fun M g h hd y hy => by
  by_cases hex : ∃ i, i < M ∧ g i = y
  · exact hex
  · exfalso
    have := pigeon M (M + 1) (fun i => if i < M then g i else y) (fun i hi => by
      show (if i < M then g i else y) < M
      split
      · exact h i (by assumption)
      · exact hy) (fun a b hab hb => by
      show (if a < M then g a else y) ≠ (if b < M then g b else y)
      rw [if_pos (show a < M by omega)]
      split
      · exact hd a b hab (by assumption)
      · exact fun e => hex ⟨a, by omega, e⟩)
    omega
/-- a polynomial times x, modulo p -/
def polyG (p W r : Nat) : Nat := if r.testBit (W - 1) then (2 * r) ^^^ p else 2 * r
theorem bit_ge {W T i : Nat} (hT : T < 2 ^ W) (hi : W ≤ i) : (2 ^ W ||| T).testBit i = decide (i = W) := by
  rw [Nat.testBit_or, Nat.testBit_two_pow, Nat.testBit_lt_two_pow (Nat.lt_of_lt_of_le hT (Nat.pow_le_pow_right (by decide) hi))]
  simp only [Bool.or_false, eq_comm]
theorem polyG_lt {W T r : Nat} (hW : 1 ≤ W) (hT : T < 2 ^ W) (hr : r < 2 ^ W) : polyG (2 ^ W ||| T) W r < 2 ^ W := by
  unfold polyG
  have h2 : 2 * r = r <<< 1 := by rw [Nat.shiftLeft_eq]; omega
  by_cases hb : r.testBit (W - 1) = true
  · rw [if_pos hb]
    refine Nat.lt_pow_two_of_testBit _ fun i hi => ?_
    rw [Nat.testBit_xor, bit_ge hT hi, h2, Nat.testBit_shiftLeft]
    by_cases e : i = W
    · subst e; simp [hb, hW]
    · have : r.testBit (i - 1) = false := Nat.testBit_lt_two_pow (Nat.lt_of_lt_of_le hr (Nat.pow_le_pow_right (by decide) (by omega)))
      simp [this, e]
  · rw [if_neg hb]
    refine Nat.lt_pow_two_of_testBit _ fun i hi => ?_
    rw [h2, Nat.testBit_shiftLeft]
    by_cases e : i = W
    · subst e; simp [hb]
    · have : r.testBit (i - 1) = false := Nat.testBit_lt_two_pow (Nat.lt_of_lt_of_le hr (Nat.pow_le_pow_right (by decide) (by omega)))
      simp [this]
theorem polyG_inj {W T r r' : Nat} (hW : 1 ≤ W) (hodd : T % 2 = 1) (h : polyG (2 ^ W ||| T) W r = polyG (2 ^ W ||| T) W r') : r = r' := by
  have p0 : (2 ^ W ||| T).testBit 0 = true := by
    rw [Nat.testBit_or]
    have : T.testBit 0 = true := by rw [Nat.testBit_zero]; simp [hodd]
    simp [this]
  have z0 : ∀ q : Nat, (2 * q).testBit 0 = false := fun q => by rw [Nat.testBit_zero]; simp
  have b0 : ∀ q, (polyG (2 ^ W ||| T) W q).testBit 0 = q.testBit (W - 1) := fun q => by
    unfold polyG
    by_cases hb : q.testBit (W - 1) = true
    · rw [if_pos hb, Nat.testBit_xor, z0, p0, hb]; rfl
    · rw [if_neg hb, z0]; simpa using hb
  have e := b0 r
  rw [h, b0 r'] at e
  unfold polyG at h
  rw [e] at h
  by_cases hb : r.testBit (W - 1) = true
  · rw [if_pos hb, if_pos hb] at h
    have := congrArg (fun x => x ^^^ (2 ^ W ||| T)) h
    simp only [Nat.xor_assoc, Nat.xor_self, Nat.xor_zero] at this
    omega
  · rw [if_neg hb, if_neg hb] at h
    omega
theorem Rep.dbl {p r n W : Nat} (h : Rep p r n) (hr : r < 2 ^ W) (hW : W ≤ 30) : Rep p (2 * r) (n + 1) := fun s hs => by
  have e := h _ (hs.shift 1)
  have h2 : 2 * r = r <<< 1 := by rw [Nat.shiftLeft_eq]; omega
  have hl : r <<< 1 < 2 ^ (1 + W) := by rw [← h2, Nat.pow_add]; omega
  rw [h2, ev_fuel s hl (by omega), ev_shift, ← ev_fuel _ hr (show W ≤ 64 by omega), e, Nat.add_comm]
theorem polyG_rep {W T r n : Nat} (hW : 1 ≤ W) (hW2 : W ≤ 16) (hT : T < 2 ^ W) (hr : r < 2 ^ W) (h : Rep (2 ^ W ||| T) r n) : Rep (2 ^ W ||| T) (polyG (2 ^ W ||| T) W r) (n + 1) := by
  have hd := Rep.dbl h hr (show W ≤ 30 by omega)
  unfold polyG
  by_cases hb : r.testBit (W - 1) = true
  · rw [if_pos hb]
    have hp : 2 ^ W ||| T < 2 ^ 32 := Nat.or_lt_two_pow (Nat.pow_lt_pow_right (by decide) (by omega)) (Nat.lt_of_lt_of_le hT (Nat.pow_le_pow_right (by decide) (by omega)))
    have := Con.step (p := 2 ^ W ||| T) (a := 2 * r) (i := 0) hp (by decide)
    rw [Nat.shiftLeft_zero] at this
    exact hd.con this
  · rw [if_neg hb]; exact hd
theorem iter_rep {W T : Nat} (hW : 1 ≤ W) (hW2 : W ≤ 16) (hT : T < 2 ^ W) : ∀ n, iter (polyG (2 ^ W ||| T) W) 1 n < 2 ^ W ∧ Rep (2 ^ W ||| T) (iter (polyG (2 ^ W ||| T) W) 1 n) n
  | 0 => ⟨Nat.one_lt_two_pow (by omega), Rep.one _⟩
  | n + 1 => by
    obtain ⟨h1, h2⟩ := iter_rep hW hW2 hT n
    exact ⟨polyG_lt hW hT h1, polyG_rep hW hW2 hT h1 h2⟩
/-- the order of x -/
theorem ordEx {W T : Nat} (hW : 1 ≤ W) (hW2 : W ≤ 16) (hT : T < 2 ^ W) (hodd : T % 2 = 1) : ∃ N, IsCyc (polyG (2 ^ W ||| T) W) 1 0 N ∧ N ≤ 2 ^ W := by
  have hx : 1 < 2 ^ W := Nat.one_lt_two_pow (by omega)
  have hg : ∀ s, s < 2 ^ W → polyG (2 ^ W ||| T) W s < 2 ^ W := fun s hs => polyG_lt hW hT hs
  obtain ⟨j, n, h⟩ := cycEx hg hx
  have hj := cycPure hg hx (fun a b _ _ => polyG_inj hW hodd) h
  subst hj
  exact ⟨n, h, h.le hg hx⟩
/-- the powers are not 0 -/
theorem pow_pos {W T : Nat} (hW : 1 ≤ W) (hodd : T % 2 = 1) : ∀ n, iter (polyG (2 ^ W ||| T) W) 1 n ≠ 0
  | 0 => by show (1 : Nat) ≠ 0; decide
  | n + 1 => fun h => by
    rw [iter_succ] at h
    have h0 : polyG (2 ^ W ||| T) W 0 = 0 := by simp [polyG]
    exact pow_pos hW hodd n (polyG_inj hW hodd (h.trans h0.symm))
/-- if the order is as great as can be, each polynomial but 0 is a power -/
theorem all_pow {W T e : Nat} (hW : 1 ≤ W) (hW2 : W ≤ 16) (hT : T < 2 ^ W) (hodd : T % 2 = 1) (h : IsCyc (polyG (2 ^ W ||| T) W) 1 0 (2 ^ W - 1)) (he : e < 2 ^ W) (h0 : e ≠ 0) : ∃ m, iter (polyG (2 ^ W ||| T) W) 1 m = e := by
  obtain ⟨i, _, hi⟩ := onto (2 ^ W - 1) (fun i => iter (polyG (2 ^ W ||| T) W) 1 i - 1) (fun i _ => by
    have := (iter_rep hW hW2 hT i).1
    have := pow_pos (W := W) (T := T) hW hodd i
    show _ - 1 < _
    omega) (fun a b hab hb => by
    have h1 := h.2.2 a b hab hb
    have := pow_pos (W := W) (T := T) hW hodd a
    have := pow_pos (W := W) (T := T) hW hodd b
    show _ - 1 ≠ _ - 1
    omega) (e - 1) (by omega)
  have := pow_pos (W := W) (T := T) hW hodd i
  exact ⟨i, by omega⟩
end Go.Proofs.Ytogadldnkhdjbaa.PerP
