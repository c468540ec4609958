/- Polynomials over two elements as numbers: what they make of a row of bits (ev); rows that a polynomial sends to 0; products, remainders, powers of x. -/
import Derived.Test.YtjajemdeioabkaaDoorPopMath
import Derived.Test.YtjajemdeioabkaaDoorCycMath
namespace Go.Proofs.YtjajemdeioabkaaDoor.Poly
open Go.Proofs.YtjajemdeioabkaaDoor
set_option linter.unusedVariables false

/-- the sum of the elements of s at which q has a bit, among the first k -/
def ev (s : Nat → Bool) : Nat → Nat → Bool
  | 0, _ => false
  | k + 1, q => (ev s k q) ^^ (q.testBit k && s k)
theorem ev_xor (s : Nat → Bool) (a b : Nat) : ∀ k, ev s k (a ^^^ b) = ((ev s k a) ^^ (ev s k b))
  | 0 => rfl
  | k + 1 => by
    simp only [ev, ev_xor s a b k, Nat.testBit_xor]
    cases ev s k a <;> cases ev s k b <;> cases a.testBit k <;> cases b.testBit k <;> cases s k <;> rfl
theorem ev_zero (s : Nat → Bool) : ∀ k, ev s k 0 = false
  | 0 => rfl
  | k + 1 => by simp [ev, ev_zero s k]
theorem ev_low (s : Nat → Bool) (q : Nat) : ∀ k, (∀ i, i < k → q.testBit i = false) → ev s k q = false
  | 0, _ => rfl
  | k + 1, h => by simp [ev, ev_low s q k (fun i hi => h i (by omega)), h k (by omega)]
theorem ev_more (s : Nat → Bool) {q k : Nat} (h : q < 2 ^ k) : ∀ m, ev s (k + m) q = ev s k q
  | 0 => rfl
  | m + 1 => by
    have h1 : q.testBit (k + m) = false := Nat.testBit_lt_two_pow (Nat.lt_of_lt_of_le h (Nat.pow_le_pow_right (by decide) (by omega)))
    rw [← Nat.add_assoc]
    simp only [ev, ev_more s h m, h1]
    simp
theorem ev_fuel (s : Nat → Bool) {q k l : Nat} (h : q < 2 ^ k) (hkl : k ≤ l) : ev s l q = ev s k q := by
  obtain ⟨m, rfl⟩ : ∃ m, l = k + m := ⟨l - k, by omega⟩
  exact ev_more s h m
theorem ev_shift (s : Nat → Bool) (a i : Nat) : ∀ k, ev s (i + k) (a <<< i) = ev (fun j => s (i + j)) k a
  | 0 => ev_low s _ i fun j hj => by rw [Nat.testBit_shiftLeft]; simp; omega
  | k + 1 => by
    rw [← Nat.add_assoc]
    simp only [ev, ev_shift s a i k, Nat.testBit_shiftLeft]
    congr 1
    simp [Nat.le_add_right]
theorem ev_congr {s t : Nat → Bool} (q : Nat) : ∀ k, (∀ i, i < k → s i = t i) → ev s k q = ev t k q
  | 0, _ => rfl
  | k + 1, h => by simp only [ev, ev_congr q k (fun i hi => h i (by omega)), h k (by omega)]
theorem ev_half (s : Nat → Bool) (q : Nat) : ∀ k, ev s (k + 1) q = ((q.testBit 0 && s 0) ^^ (ev (fun i => s (i + 1)) k (q / 2)))
  | 0 => by simp [ev]
  | k + 1 => by
    rw [ev, ev_half s q k]
    simp only [ev, Nat.testBit_succ]
    cases ((q.testBit 0) && s 0) <;> cases ev (fun i => s (i + 1)) k (q / 2) <;> cases ((q / 2).testBit k && s (k + 1)) <;> rfl
/-- parity -/
theorem par_ev : ∀ (k : Nat), k ≤ 63 → ∀ n, n < 2 ^ k → ((PopM.par n == 1) = ev (fun _ => true) k n)
  | 0, _, n, h => by
    obtain rfl : n = 0 := by simpa using h
    simp [PopM.par, PopM.pop_zero, ev]
  | k + 1, hk, n, h => by
    have h2 : n < 18446744073709551616 := Nat.lt_of_lt_of_le h (by have := Nat.pow_le_pow_right (n := 2) (by decide) hk; omega)
    rw [ev_half, ← par_ev k (by omega) (n / 2) (by rw [Nat.pow_succ] at h; omega)]
    have e := PopM.pop_half h2
    have hb : n.testBit 0 = (n % 2 == 1) := by rw [Nat.testBit_zero]; cases h : decide (n % 2 = 1) <;> simp_all
    have h3 : PopM.par (n / 2) = PopM.pop (n / 2) % 2 := rfl
    rw [hb, PopM.par, e, h3]
    rcases Nat.mod_two_eq_zero_or_one n with h4 | h4 <;> rcases Nat.mod_two_eq_zero_or_one (PopM.pop (n / 2)) with h5 | h5
    all_goals
      rw [h4, h5]
      first
        | (rw [show (0 + PopM.pop (n / 2)) % 2 = 0 by omega]; rfl)
        | (rw [show (0 + PopM.pop (n / 2)) % 2 = 1 by omega]; rfl)
        | (rw [show (1 + PopM.pop (n / 2)) % 2 = 1 by omega]; rfl)
        | (rw [show (1 + PopM.pop (n / 2)) % 2 = 0 by omega]; rfl)
theorem ev_and (x q : Nat) : ∀ k, ev (fun _ => true) k (q &&& x) = ev (fun i => x.testBit i) k q
  | 0 => rfl
  | k + 1 => by simp [ev, ev_and x q k]
/-- the parity of a masked number is what the mask makes of the number's bits -/
theorem par_and {k x q : Nat} (hk : k ≤ 63) (hq : q < 2 ^ k) : (PopM.par (q &&& x) == 1) = ev (fun i => x.testBit i) k q := by
  rw [par_ev k hk (q &&& x) (Nat.lt_of_le_of_lt Nat.and_le_left hq), ev_and]

/-- rows on which a polynomial makes 0 wherever it begins -/
def Lrs (p : Nat) (s : Nat → Bool) : Prop := ∀ k, ev (fun i => s (k + i)) 64 p = false
theorem Lrs.shift {p : Nat} {s : Nat → Bool} (h : Lrs p s) (m : Nat) : Lrs p fun i => s (m + i) := fun k => by
  have := h (m + k)
  simpa [Nat.add_assoc] using this
/-- the same modulo p -/
def Con (p a b : Nat) : Prop := ∀ s, Lrs p s → ev s 64 a = ev s 64 b
theorem Con.refl (p a : Nat) : Con p a a := fun _ _ => rfl
theorem Con.trans {p a b c : Nat} (h : Con p a b) (k : Con p b c) : Con p a c := fun s hs => (h s hs).trans (k s hs)
theorem Con.step {p a i : Nat} (hp : p < 2 ^ 32) (hi : i ≤ 32) : Con p (a ^^^ (p <<< i)) a := fun s hs => by
  rw [ev_xor]
  have e : ev s 64 (p <<< i) = ev (fun j => s (i + j)) 32 p := by
    have h1 : p <<< i < 2 ^ (i + 32) := by rw [Nat.shiftLeft_eq, Nat.pow_add, Nat.mul_comm]; exact Nat.mul_lt_mul_of_pos_left hp (Nat.two_pow_pos i)
    rw [ev_fuel s h1 (by omega), ev_shift]
  have e2 := hs i
  rw [ev_fuel _ hp (by omega)] at e2
  rw [e, e2]; simp
/-- a polynomial that is the power N of x modulo p -/
def Rep (p a N : Nat) : Prop := ∀ s, Lrs p s → ev s 64 a = s N
theorem Rep.con {p a b N : Nat} (h : Rep p a N) (c : Con p b a) : Rep p b N := fun s hs => (c s hs).trans (h s hs)
theorem Rep.one (p : Nat) : Rep p 1 0 := fun s _ => by
  rw [ev_fuel s (k := 1) (by decide) (by decide)]; simp [ev]
theorem Rep.two (p : Nat) : Rep p 2 1 := fun s _ => by
  rw [ev_fuel s (k := 2) (by decide) (by decide)]; simp [ev, Nat.testBit]
/-- products, of the first k bits of b -/
def mulTo (a b : Nat) : Nat → Nat
  | 0 => 0
  | k + 1 => if b.testBit k then mulTo a b k ^^^ (a <<< k) else mulTo a b k
theorem mulTo_lt {a b : Nat} {m : Nat} (ha : a < 2 ^ m) : ∀ k, mulTo a b k < 2 ^ (m + k)
  | 0 => by simp [mulTo]; exact Nat.two_pow_pos m
  | k + 1 => by
    have h1 := mulTo_lt (b := b) ha k
    have h2 : 2 ^ (m + k) < 2 ^ (m + (k + 1)) := Nat.pow_lt_pow_right (by decide) (by omega)
    have h3 : a <<< k < 2 ^ (m + k) := by rw [Nat.shiftLeft_eq, Nat.pow_add]; exact Nat.mul_lt_mul_of_pos_right ha (Nat.two_pow_pos k)
    unfold mulTo
    split
    · exact Nat.lt_of_lt_of_le (Nat.xor_lt_two_pow h1 h3) (Nat.le_of_lt h2)
    · omega
theorem mulTo_more {a b m : Nat} (hb : b < 2 ^ m) : ∀ j, mulTo a b (m + j) = mulTo a b m
  | 0 => rfl
  | j + 1 => by
    rw [← Nat.add_assoc, mulTo, Nat.testBit_lt_two_pow (Nat.lt_of_lt_of_le hb (Nat.pow_le_pow_right (by decide) (by omega))), mulTo_more hb j]
    simp
theorem mulTo_16 {a b W : Nat} (hW : W ≤ 16) (ha : a < 2 ^ W) (hb : b < 2 ^ W) : mulTo a b 32 < 2 ^ 32 := by
  have hp : 2 ^ W ≤ 2 ^ 16 := Nat.pow_le_pow_right (by decide) hW
  have := mulTo_more (a := a) (b := b) (m := 16) (by omega) 16
  rw [show 16 + 16 = 32 from rfl] at this
  rw [this]
  exact mulTo_lt (m := 16) (by omega) 16
theorem ev_mulTo {a b m : Nat} (s : Nat → Bool) (ha : a < 2 ^ m) (hm : m ≤ 32) : ∀ k, k ≤ 32 → ev s 64 (mulTo a b k) = ev (fun i => ev (fun j => s (i + j)) 64 a) k b
  | 0, _ => ev_zero s 64
  | k + 1, hk => by
    have ih := ev_mulTo (b := b) s ha hm k (by omega)
    have e : ev s 64 (a <<< k) = ev (fun j => s (k + j)) 64 a := by
      have h3 : a <<< k < 2 ^ (k + m) := by rw [Nat.shiftLeft_eq, Nat.add_comm, Nat.pow_add]; exact Nat.mul_lt_mul_of_pos_right ha (Nat.two_pow_pos k)
      rw [ev_fuel s h3 (by omega), ev_shift, ← ev_fuel (fun j => s (k + j)) ha (show m ≤ 64 by omega)]
    have e3 : ev (fun i => ev (fun j => s (i + j)) 64 a) (k + 1) b = ((ev (fun i => ev (fun j => s (i + j)) 64 a) k b) ^^ (b.testBit k && ev (fun j => s (k + j)) 64 a)) := rfl
    rw [e3, ← ih, ← e]
    cases hb : b.testBit k
    · rw [mulTo, hb]; simp only [Bool.false_eq_true, if_false, Bool.false_and, Bool.xor_false]
    · rw [mulTo, hb, if_pos rfl, ev_xor, Bool.true_and]
theorem ev_lin (s : Nat → Bool) (a : Nat) (p : Nat) : ∀ k, ev (fun i => ev (fun j => s (i + j)) k a) 64 p = ev (fun j => ev (fun i => s (i + j)) 64 p) k a
  | 0 => by
    simp only [ev]
    have : ∀ l q, ev (fun _ => false) l q = false := fun l q => by
      induction l with
      | zero => rfl
      | succ l ih => simp [ev, ih]
    exact this 64 p
  | k + 1 => by
    rw [show ev (fun j => ev (fun i => s (i + j)) 64 p) (k + 1) a = ((ev (fun j => ev (fun i => s (i + j)) 64 p) k a) ^^ (a.testBit k && ev (fun i => s (i + k)) 64 p)) from rfl, ← ev_lin s a p k]
    have : ∀ l (f g : Nat → Bool) (c : Bool) q, ev (fun i => (f i) ^^ (c && g i)) l q = ((ev f l q) ^^ (c && ev g l q)) := fun l f g c q => by
      induction l with
      | zero => cases c <;> rfl
      | succ l ih =>
        simp only [ev, ih]
        cases ev f l q <;> cases ev g l q <;> cases q.testBit l <;> cases f l <;> cases g l <;> cases c <;> rfl
    exact this 64 (fun i => ev (fun j => s (i + j)) k a) (fun i => s (i + k)) (a.testBit k) p
theorem Lrs.sum {p : Nat} {s : Nat → Bool} (hs : Lrs p s) (a : Nat) : Lrs p fun i => ev (fun j => s (i + j)) 64 a := fun k => by
  have h := ev_lin (fun i => s (k + i)) a p 64
  have e : (fun i => ev (fun j => s (k + i + j)) 64 a) = fun i => ev (fun j => s (k + (i + j))) 64 a := by simp only [Nat.add_assoc]
  have h' : ev (fun i => ev (fun j => s (k + (i + j))) 64 a) 64 p = ev (fun j => ev (fun i => s (k + (i + j))) 64 p) 64 a := h
  rw [e, h']
  have : ∀ j, ev (fun i => s (k + (i + j))) 64 p = false := fun j => by
    have e : (fun i => s (k + j + i)) = fun i => s (k + (i + j)) := funext fun i => congrArg s (by omega)
    exact (congrArg (fun f => ev f 64 p) e).symm.trans (hs (k + j))
  rw [ev_congr (t := fun _ => false) a 64 (fun i _ => this i)]
  have h0 : ∀ l q, ev (fun _ => false) l q = false := fun l q => by
    induction l with
    | zero => rfl
    | succ l ih => simp [ev, ih]
  exact h0 64 a
theorem Rep.mul {p a b N M : Nat} (ha : Rep p a N) (hb : Rep p b M) (ha2 : a < 2 ^ 32) (hb2 : b < 2 ^ 32) : Rep p (mulTo a b 32) (N + M) := fun s hs => by
  rw [ev_mulTo s ha2 (by decide) 32 (by decide), ← ev_fuel _ hb2 (show 32 ≤ 64 by decide)]
  have h1 := hb _ (hs.sum a)
  rw [h1]
  have := ha _ (hs.shift M)
  rw [this, Nat.add_comm]

/-! ### Registers -/
/-- bits of x after steps -/
def sq (F : Nat → Nat) (x : Nat) (m : Nat) : Bool := (CycM.iter F x m).testBit 0
end Go.Proofs.YtjajemdeioabkaaDoor.Poly
