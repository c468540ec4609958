/- Plain mathematics of a sequence of states below a bound: where it first comes again. No program in sight. -/
import Derived.Test.YtionognmgcabbaaGreatMgBes00
import Derived.Deep.OwnRows
import Derived.Maps.AppendAt
import Derived.Deep.RegionHeld3
import Derived.Test.YtionognmgcabbaaGreatRows
import Derived.Deep.Matrix
import Derived.ProofKit
import Derived.OpenShut
import Derived.Lib.SmallJoins
import Derived.Deep.RegionWith
import Derived.Deep.AppendLies
set_option linter.unusedVariables false
namespace Go.Proofs.YtionognmgcabbaaGreat.CycM

theorem pigeon : ∀ (M n : Nat) (g : Nat → Nat), (∀ i, i < n → g i < M) → (∀ a b, a < b → b < n → g a ≠ g b) → n ≤ M
  | 0, n, g, h, _ => by
    rcases Nat.eq_zero_or_pos n with h0 | h0
    · omega
    · have := h 0 h0; omega
  | M + 1, n, g, h, hd => by
    by_cases hex : ∃ i, i < n ∧ g i = M
    · obtain ⟨i0, hi0, he⟩ := hex
      have ih := pigeon M (n - 1) (fun i => g (if i < i0 then i else i + 1)) (fun i hi => by
        show g (if i < i0 then i else i + 1) < M
        by_cases hlt : i < i0
        · rw [if_pos hlt]
          have h1 := h i (by omega)
          have h2 := hd i i0 hlt hi0
          omega
        · rw [if_neg hlt]
          have h1 := h (i + 1) (by omega)
          have h2 := hd i0 (i + 1) (by omega) (by omega)
          omega) (fun a b hab hb => by
        show g (if a < i0 then a else a + 1) ≠ g (if b < i0 then b else b + 1)
        by_cases ha : a < i0 <;> by_cases hb' : b < i0
        · rw [if_pos ha, if_pos hb']; exact hd a b hab (by omega)
        · rw [if_pos ha, if_neg hb']; exact hd a (b + 1) (by omega) (by omega)
        · omega
        · rw [if_neg ha, if_neg hb']; exact hd (a + 1) (b + 1) (by omega) (by omega))
      omega
    · have ih := pigeon M n g (fun i hi => by
        have h1 := h i hi
        have h2 : g i ≠ M := fun e => hex ⟨i, hi, e⟩
        omega) hd
      omega

def iter (T : Nat → Nat) (x : Nat) : Nat → Nat
  | 0 => x
  | k + 1 => T (iter T x k)
theorem iter_succ (T : Nat → Nat) (x k : Nat) : iter T x (k + 1) = T (iter T x k) := rfl
theorem iter_lt {T : Nat → Nat} {M x : Nat} (hT : ∀ s, s < M → T s < M) (hx : x < M) (k : Nat) : iter T x k < M := by
  induction k with
  | zero => exact hx
  | succ k ih => exact hT _ ih
theorem iter_add (T : Nat → Nat) (x j k : Nat) : iter T x (j + k) = iter T (iter T x j) k := by
  induction k with
  | zero => rfl
  | succ k ih => rw [← Nat.add_assoc, iter_succ, iter_succ, ih]
theorem iter_congr {T U : Nat → Nat} {M x : Nat} (hT : ∀ s, s < M → T s < M) (hx : x < M) (h : ∀ s, s < M → T s = U s) (k : Nat) : iter T x k = iter U x k := by
  induction k with
  | zero => rfl
  | succ k ih => rw [iter_succ, iter_succ, ← ih, h _ (iter_lt hT hx k)]

/-- n is the first step whose state was there before, and it was there at step j -/
def IsCyc (T : Nat → Nat) (x j n : Nat) : Prop :=
  j < n ∧ iter T x j = iter T x n ∧ ∀ a b, a < b → b < n → iter T x a ≠ iter T x b
theorem IsCyc.uniq {T : Nat → Nat} {x j n j' n' : Nat} (h : IsCyc T x j n) (h' : IsCyc T x j' n') : j = j' ∧ n = n' := by
  obtain ⟨h1, h2, h3⟩ := h
  obtain ⟨g1, g2, g3⟩ := h'
  have e : n = n' := by
    rcases Nat.lt_trichotomy n n' with hlt | he | hgt
    · exact absurd h2 (g3 j n h1 hlt)
    · exact he
    · exact absurd g2 (h3 j' n' g1 hgt)
  subst e
  rcases Nat.lt_trichotomy j j' with hlt | he | hgt
  · exact absurd (h2.trans g2.symm) (h3 j j' hlt g1)
  · exact ⟨he, rfl⟩
  · exact absurd (g2.trans h2.symm) (h3 j' j hgt h1)
theorem IsCyc.le {T : Nat → Nat} {M x j n : Nat} (hT : ∀ s, s < M → T s < M) (hx : x < M) (h : IsCyc T x j n) : n ≤ M :=
  pigeon M n (iter T x) (fun i _ => iter_lt hT hx i) h.2.2
theorem IsCyc.congr {T U : Nat → Nat} {M x j n : Nat} (hT : ∀ s, s < M → T s < M) (hx : x < M) (hTU : ∀ s, s < M → T s = U s) (h : IsCyc T x j n) : IsCyc U x j n := by
  obtain ⟨h1, h2, h3⟩ := h
  refine ⟨h1, ?_, fun a b hab hb => ?_⟩
  · rw [← iter_congr hT hx hTU, ← iter_congr hT hx hTU]; exact h2
  · rw [← iter_congr hT hx hTU, ← iter_congr hT hx hTU]; exact h3 a b hab hb

/-- the step at which the first state that comes again came first, and the step at which it comes again -/
noncomputable def cyc (T : Nat → Nat) (x : Nat) : Nat × Nat := Classical.epsilon fun p : Nat × Nat => IsCyc T x p.1 p.2
theorem cyc_of {T : Nat → Nat} {x j n : Nat} (h : IsCyc T x j n) : cyc T x = (j, n) := by
  have hs : IsCyc T x (cyc T x).1 (cyc T x).2 := Classical.epsilon_spec (p := fun p : Nat × Nat => IsCyc T x p.1 p.2) ⟨(j, n), h⟩
  obtain ⟨h1, h2⟩ := hs.uniq h
  exact Prod.ext h1 h2
noncomputable def preOf (T : Nat → Nat) (x : Nat) : Int := ((cyc T x).1 : Int)
noncomputable def perOf (T : Nat → Nat) (x : Nat) : Int := ((cyc T x).2 : Int) - ((cyc T x).1 : Int)
theorem preOf_of {T : Nat → Nat} {x j n : Nat} (h : IsCyc T x j n) : preOf T x = j := by unfold preOf; rw [cyc_of h]
theorem perOf_of {T : Nat → Nat} {x j n : Nat} (h : IsCyc T x j n) : perOf T x = (n : Int) - j := by unfold perOf; rw [cyc_of h]

/-- what the list of first visits holds behind n steps: one more than the step at which a state came, 0 where it did not come -/
structure Seen (T : Nat → Nat) (x M n : Nat) (f : Nat → Nat) : Prop where
  zero : ∀ s, s < M → f s = 0 → ∀ i, i < n → iter T x i ≠ s
  pos : ∀ s, s < M → f s ≠ 0 → f s ≤ n ∧ iter T x (f s - 1) = s
  dist : ∀ a b, a < b → b < n → iter T x a ≠ iter T x b
theorem Seen.start (T : Nat → Nat) (x M : Nat) : Seen T x M 0 (fun _ => 0) :=
  ⟨fun _ _ _ i hi => absurd hi (Nat.not_lt_zero i), fun _ _ h => absurd rfl h, fun a b _ hb => absurd hb (Nat.not_lt_zero b)⟩
theorem Seen.step {T : Nat → Nat} {x M n : Nat} {f : Nat → Nat} (hT : ∀ s, s < M → T s < M) (hx : x < M) (h : Seen T x M n f) (h0 : f (iter T x n) = 0) :
    Seen T x M (n + 1) (fun s => if s = iter T x n then n + 1 else f s) := by
  have hn := h.zero _ (iter_lt hT hx n) h0
  refine ⟨fun s hs hf i hi => ?_, fun s hs hf => ?_, fun a b hab hb => ?_⟩
  · by_cases e : s = iter T x n
    · simp [e] at hf
    · simp only [if_neg e] at hf
      rcases Nat.lt_or_ge i n with h1 | h1
      · exact h.zero s hs hf i h1
      · obtain rfl : i = n := by omega
        exact fun h2 => e h2.symm
  · by_cases e : s = iter T x n
    · simp only [if_pos e]
      exact ⟨Nat.le_refl _, by simpa using e.symm⟩
    · simp only [if_neg e] at hf ⊢
      have := h.pos s hs hf
      exact ⟨by omega, this.2⟩
  · rcases Nat.lt_or_ge b n with h1 | h1
    · exact h.dist a b hab h1
    · obtain rfl : b = n := by omega
      exact hn a hab
theorem Seen.le {T : Nat → Nat} {x M n : Nat} {f : Nat → Nat} (hT : ∀ s, s < M → T s < M) (hx : x < M) (h : Seen T x M n f) : n ≤ M :=
  pigeon M n (iter T x) (fun i _ => iter_lt hT hx i) h.dist
theorem Seen.done {T : Nat → Nat} {x M n : Nat} {f : Nat → Nat} (hT : ∀ s, s < M → T s < M) (hx : x < M) (h : Seen T x M n f) (h0 : f (iter T x n) ≠ 0) :
    IsCyc T x (f (iter T x n) - 1) n := by
  have := h.pos _ (iter_lt hT hx n) h0
  exact ⟨by omega, this.2, h.dist⟩
end Go.Proofs.YtionognmgcabbaaGreat.CycM
/- The reference's congruence: validity, a step, the cycle of states. -/
namespace Go.Proofs.YtionognmgcabbaaGreat.Cong
open Go.RowKit Go.Proofs.YtionognmgcabbaaGreat Go.Proofs.YtionognmgcabbaaGreat.Base
set_option linter.unusedVariables false

def congB (m f a : Int) : Bool := inR m 2 100000 && (inR f 0 (m - 1) && inR a 0 (m - 1))
theorem congB_true {m f a : Int} (h : congB m f a = true) : 2 ≤ m ∧ m ≤ 100000 ∧ 0 ≤ f ∧ f < m ∧ 0 ≤ a ∧ a < m := by
  simp only [congB, Bool.and_eq_true] at h
  have h1 := inR_true h.1
  have h2 := inR_true h.2.1
  have h3 := inR_true h.2.2
  omega

/-- a step, on numbers that are not negative -/
def stepN (m f a x : Nat) : Nat := (f * x + a) % m
theorem stepN_lt {m f a : Nat} (hm : 0 < m) (x : Nat) : stepN m f a x < m := Nat.mod_lt _ hm
theorem stepN_int (m f a x : Nat) : ((f : Int) * (x : Int) + (a : Int)) % (m : Int) = ((stepN m f a x : Nat) : Int) := by
  unfold stepN; simp
theorem prod_le {f x m : Nat} (h1 : f < m) (h2 : x < m) (h3 : m ≤ 100000) : (f : Int) * (x : Int) ≤ 10000000000 ∧ 0 ≤ (f : Int) * (x : Int) := by
  have h : f * x ≤ 100000 * 100000 := Nat.mul_le_mul (by omega) (by omega)
  have e : ((f * x : Nat) : Int) = (f : Int) * (x : Int) := by simp
  rw [← e]; omega

theorem info64 : (Tryz.prog.info? 2).map (fun i => (i.zero, i.size, i.bytes)) = some (some (.int .i64 0), 1, 8) := by kernel_rfl

/-- what the cycle's functions hand back -/
def CycRet (T : Nat → Nat) (x : Nat) (w : World) (e : Ending) (w' : World) : Prop :=
  ∃ j n : Nat, CycM.IsCyc T x j n ∧ e = .returned (.tuple #[.int .i64 j, .int .i64 ((n : Int) - j)]) ∧ Below w.heap.size w w'

/-- the loop's relation: the list of first visits, the state, the count of steps -/
def CycRel (T : Nat → Nat) (x m : Nat) (t : TypeId) (w : World) (xv nv : Value) (wr : World) : Prop :=
  ∃ (n : Nat) (F : Nat → Nat), n ≤ m ∧ CycM.Seen T x m n F ∧ wr.rowIs w.heap.size t m (fun s => .int .i64 (F s : Nat)) ∧ Below w.heap.size w wr ∧ xv = .int .i64 (CycM.iter T x n : Nat) ∧ nv = .int .i64 ((n : Int) + 1)
theorem CycRel.start (T : Nat → Nat) (x m : Nat) (t : TypeId) (w : World) : CycRel T x m t w (.int .i64 (x : Int)) (.int .i64 1) (w.alloc (.cells (madeCells #[.int .i64 0] m) t)) :=
  ⟨0, fun _ => 0, Nat.zero_le _, CycM.Seen.start T x m, World.rowIs_made w _ m t, (Below.refl _ _).alloc (Nat.le_refl _) _, rfl, rfl⟩
theorem CycRel.next {T : Nat → Nat} {x m n : Nat} {t : TypeId} {w wr : World} {F : Nat → Nat} (hT : ∀ s, s < m → T s < m) (hx : x < m) (hS : CycM.Seen T x m n F)
    (hrow : wr.rowIs w.heap.size t m (fun s => .int .i64 (F s : Nat))) (hb : Below w.heap.size w wr) (h0 : F (CycM.iter T x n) = 0) (k : Nat) :
    CycRel T x m t w (.int .i64 (T (CycM.iter T x n) : Nat)) (.int .i64 ((n : Int) + 1 + 1)) ((wr.setCell ⟨w.heap.size, CycM.iter T x n, none⟩ (.int .i64 ((n : Int) + 1))).drewN k) := by
  refine ⟨n + 1, _, ?_, hS.step hT hx h0, ?_, ?_, rfl, by simp⟩
  · exact (hS.step hT hx h0).le hT hx
  · obtain ⟨c, hc1, hc2, hc3⟩ := hrow.set (CycM.iter T x n) (.int .i64 ((n : Int) + 1))
    refine ⟨c, hc1, hc2, fun i hi => ?_⟩
    rw [hc3 i hi]
    by_cases e : i = CycM.iter T x n
    · simp [e]
    · simp [e]
  · exact below_drewN (hb.setCell (Nat.le_refl _) _) k

theorem CycRel.next2 {T : Nat → Nat} {x m n : Nat} {t : TypeId} {w wr : World} {F : Nat → Nat} (hT : ∀ s, s < m → T s < m) (hx : x < m) (hS : CycM.Seen T x m n F)
    (hrow : wr.rowIs w.heap.size t m (fun s => .int .i64 (F s : Nat))) (hb : Below w.heap.size w wr) (h0 : F (CycM.iter T x n) = 0) (w1 : World)
    (hb1 : Below wr.heap.size (wr.setCell ⟨w.heap.size, CycM.iter T x n, none⟩ (.int .i64 ((n : Int) + 1))) w1) :
    CycRel T x m t w (.int .i64 (T (CycM.iter T x n) : Nat)) (.int .i64 ((n : Int) + 1 + 1)) w1 := by
  obtain ⟨k, G, g1, g2, g3, g4, g5, g6⟩ := CycRel.next (t := t) hT hx hS hrow hb h0 0
  have hlt : w.heap.size < wr.heap.size := hrow.lt
  exact ⟨k, G, g1, g2, g3.of_block (hb1.block _ hlt), g4.trans (hb1.mono (Nat.le_of_lt hlt)), g5, g6⟩
theorem CycRet.mk {T : Nat → Nat} {x n k : Nat} {w w' : World} {u v : Int} (h : CycM.IsCyc T x (k - 1) n) (hk : 1 ≤ k) (hv : v = (n : Int) + 1 - k) (hu : u = (k : Int) - 1) (hb : Below w.heap.size w w') :
    CycRet T x w (.returned (.tuple #[.int .i64 u, .int .i64 v])) w' :=
  ⟨k - 1, n, h, by rw [hv, hu, show ((k : Int) - 1) = ((k - 1 : Nat) : Int) by omega, show ((n : Int) + 1 - k) = (n : Int) - ((k - 1 : Nat) : Int) by omega], hb⟩
theorem setOther {w : World} {B s b o : Nat} {v : Value} (hb : b < B) (h : w.cell? ⟨b, o, none⟩ = some v) (u : Value) : (w.setCell ⟨B, s, none⟩ u).cell? ⟨b, o, none⟩ = some v := by
  rw [World.cell?_setCell_other _ _ _ _ (fun e => by have := congrArg Addr.block e; simp at this; omega)]
  exact h

end Go.Proofs.YtionognmgcabbaaGreat.Cong
/- The reference's register: validity, a step, the cycle of states. -/
namespace Go.Proofs.YtionognmgcabbaaGreat.Reg
open Go.RowKit Go.Proofs.YtionognmgcabbaaGreat Go.Proofs.YtionognmgcabbaaGreat.Base Go.Proofs.YtionognmgcabbaaGreat.Bits
set_option linter.unusedVariables false

theorem pw_bd {W : Nat} (h : W ≤ 16) : 1 ≤ (2 : Int) ^ W ∧ (2 : Int) ^ W ≤ 65536 := by
  have h1 : 2 ^ W ≤ 2 ^ 16 := Nat.pow_le_pow_right (by decide) h
  have h2 : 0 < 2 ^ W := Nat.two_pow_pos W
  have e : ((2 ^ W : Nat) : Int) = (2 : Int) ^ W := by simp
  rw [← e]; omega
def stB (W : Nat) (x : Int) : Bool := inR x 0 ((2 : Int) ^ W - 1)
def regB (W T : Int) : Bool := inR W 0 16 && stB W.toNat T
theorem regB_true {W T : Int} (h : regB W T = true) : 0 ≤ W ∧ W ≤ 16 ∧ 0 ≤ T ∧ T < (2 : Int) ^ W.toNat := by
  simp only [regB, Bool.and_eq_true, stB] at h
  have h1 := inR_true h.1
  have h2 := inR_true h.2
  omega
def bothR (W T x : Int) : Bool := regB W T && stB W.toNat x
theorem bothR_true {W T x : Int} (h : bothR W T x = true) : 0 ≤ W ∧ W ≤ 16 ∧ 0 ≤ T ∧ T < (2 : Int) ^ W.toNat ∧ 0 ≤ x ∧ x < (2 : Int) ^ W.toNat := by
  simp only [bothR, Bool.and_eq_true, stB] at h
  have h1 := regB_true h.1
  have h2 := inR_true h.2
  omega
/-- the next state -/
def nextR (W T x : Nat) : Nat := if W = 0 then 0 else x / 2 ||| PopM.par (x &&& T) * 2 ^ (W - 1)

theorem nextR_lt {W T x : Nat} (hx : x < 2 ^ W) : nextR W T x < 2 ^ W := by
  unfold nextR
  by_cases h : W = 0
  · rw [if_pos h]; exact Nat.two_pow_pos W
  · rw [if_neg h]
    obtain ⟨V, rfl⟩ : ∃ V, W = V + 1 := ⟨W - 1, by omega⟩
    have hp := PopM.par_lt (x &&& T)
    rw [Nat.pow_succ] at hx
    have h1 : PopM.par (x &&& T) * 2 ^ (V + 1 - 1) < 2 ^ (V + 1) := by
      rw [Nat.add_sub_cancel, Nat.pow_succ]
      have : PopM.par (x &&& T) * 2 ^ V ≤ 1 * 2 ^ V := Nat.mul_le_mul_right _ (by omega)
      have := Nat.two_pow_pos V
      omega
    exact Nat.or_lt_two_pow (by rw [Nat.pow_succ]; omega) h1
theorem nextR_int {W T x : Nat} (hW : 1 ≤ W) (hW2 : W ≤ 16) (hx : x < 2 ^ W) : bits .or .i64 ((x : Int) / 2) (wrap64 ((PopM.par (x &&& T) : Int) * (2 : Int) ^ (W - 1))) = ((nextR W T x : Nat) : Int) := by
  have hp := PopM.par_lt (x &&& T)
  have hW3 : 2 ^ W ≤ 65536 := Nat.pow_le_pow_right (by decide) hW2
  have h1 : 2 ^ (W - 1) ≤ 65536 := Nat.le_trans (Nat.pow_le_pow_right (by decide) (by omega)) hW3
  have h2 : PopM.par (x &&& T) * 2 ^ (W - 1) ≤ 1 * 65536 := Nat.mul_le_mul (by omega) h1
  have e : (PopM.par (x &&& T) : Int) * (2 : Int) ^ (W - 1) = ((PopM.par (x &&& T) * 2 ^ (W - 1) : Nat) : Int) := by simp
  have e2 : wrap64 (((PopM.par (x &&& T) * 2 ^ (W - 1) : Nat) : Int)) = ((PopM.par (x &&& T) * 2 ^ (W - 1) : Nat) : Int) := by simp only [wrap64]; omega
  rw [e, e2, show ((x : Int) / 2) = ((x / 2 : Nat) : Int) by omega, i64_or_nat _ _ (by omega) (by omega)]
  unfold nextR
  rw [if_neg (by omega)]

theorem ret_two {k : IntKind} {a b c d : Int} (h : a = b) (h' : c = d) : Ending.returned (.tuple #[.int k a, .int k c]) = .returned (.tuple #[.int k b, .int k d]) := by rw [h, h']
/-- what a step hands back: the next state, and a number -/
def StepRet (W T x : Nat) (w : World) (e : Ending) (w' : World) : Prop := e = .returned (.tuple #[.int .i64 (nextR W T x : Nat), .int .i64 (x % 2 : Nat)]) ∧ ∃ n, w' = w.drewN n
noncomputable def preR (W T x : Int) : Int := if bothR W T x = true then CycM.preOf (nextR W.toNat T.toNat) x.toNat else 0
noncomputable def perR (W T x : Int) : Int := if bothR W T x = true then CycM.perOf (nextR W.toNat T.toNat) x.toNat else 0
theorem preR_eq {m f x : Int} (h : bothR m f x = true) {j n : Nat} (hc : CycM.IsCyc (nextR m.toNat f.toNat) x.toNat j n) : preR m f x = j := by
  rw [preR, if_pos h, CycM.preOf_of hc]
theorem perR_eq {m f x : Int} (h : bothR m f x = true) {j n : Nat} (hc : CycM.IsCyc (nextR m.toNat f.toNat) x.toNat j n) : perR m f x = (n : Int) - j := by
  rw [perR, if_pos h, CycM.perOf_of hc]
theorem preR_no {m f x : Int} (h : bothR m f x = false) : preR m f x = 0 := by rw [preR, if_neg (by simp [h])]
theorem perR_no {m f x : Int} (h : bothR m f x = false) : perR m f x = 0 := by rw [perR, if_neg (by simp [h])]
theorem ret_tup3 {k : IntKind} {a b a' b' : Int} {c d : Bool} (h : a = b) (h' : a' = b') (h'' : c = d) : Ending.returned (.tuple #[.int k a, .int k a', .bool c]) = .returned (.tuple #[.int k b, .int k b', .bool d]) := by rw [h, h', h'']

/-- the reference's loop: the list of first visits, the state, the steps told so far; the box still holds the register -/
def RegRel (W T x : Nat) (t : TypeId) (w : World) (xv nv : Value) (wr : World) : Prop :=
  ∃ (n : Nat) (F : Nat → Nat), n ≤ 2 ^ W ∧ CycM.Seen (nextR W T) x (2 ^ W) n F ∧ wr.rowIs (w.heap.size + 1) t (2 ^ W) (fun s => .int .i64 (F s : Nat)) ∧ Below w.heap.size w wr ∧
    wr.cell? ⟨w.heap.size, 0, none⟩ = some (.int .i64 (W : Int)) ∧ wr.cell? ⟨w.heap.size, 1, none⟩ = some (.int .i64 (T : Int)) ∧ xv = .int .i64 (CycM.iter (nextR W T) x n : Nat) ∧ nv = .int .i64 (n : Int)
theorem RegRel.next {W T x n : Nat} {t : TypeId} {w wr : World} {F : Nat → Nat} (hT : ∀ s, s < 2 ^ W → nextR W T s < 2 ^ W) (hx : x < 2 ^ W) (hS : CycM.Seen (nextR W T) x (2 ^ W) n F)
    (hrow : wr.rowIs (w.heap.size + 1) t (2 ^ W) (fun s => .int .i64 (F s : Nat))) (hb : Below w.heap.size w wr) (e0 : wr.cell? ⟨w.heap.size, 0, none⟩ = some (.int .i64 (W : Int))) (e1 : wr.cell? ⟨w.heap.size, 1, none⟩ = some (.int .i64 (T : Int)))
    (h0 : F (CycM.iter (nextR W T) x n) = 0) (k : Nat) :
    RegRel W T x t w (.int .i64 (nextR W T (CycM.iter (nextR W T) x n) : Nat)) (.int .i64 ((n : Int) + 1)) ((wr.setCell ⟨w.heap.size + 1, CycM.iter (nextR W T) x n, none⟩ (.int .i64 ((n : Int) + 1))).drewN k) := by
  refine ⟨n + 1, _, (hS.step hT hx h0).le hT hx, hS.step hT hx h0, ?_, below_drewN (hb.setCell (by show w.heap.size ≤ w.heap.size + 1; omega) _) k, ?_, ?_, rfl, by simp⟩
  · obtain ⟨c, hc1, hc2, hc3⟩ := hrow.set (CycM.iter (nextR W T) x n) (.int .i64 ((n : Int) + 1))
    refine ⟨c, hc1, hc2, fun i hi => ?_⟩
    rw [hc3 i hi]
    by_cases e : i = CycM.iter (nextR W T) x n
    · simp [e]
    · simp [e]
  · exact Cong.setOther (by omega) e0 _
  · exact Cong.setOther (by omega) e1 _

end Go.Proofs.YtionognmgcabbaaGreat.Reg
/- Whether lists are points with some bits, of the program and of the reference. -/
namespace Go.Proofs.YtionognmgcabbaaGreat.Pts
open Go.RowKit Go.Proofs.YtionognmgcabbaaGreat Go.Proofs.YtionognmgcabbaaGreat.Base Go.Proofs.YtionognmgcabbaaGreat.Mem Go.Proofs.YtionognmgcabbaaGreat.AllIn
set_option linter.unusedVariables false

/-- a row of a point list: as long as the first one, all numbers of so many bits -/
def rowB (L b : Nat) (xs : List Int) : Bool := (xs.length == L) && allInB xs 0 ((2 : Int) ^ b - 1)
def ptsB (xss : List (List Int)) (bits : Int) : Bool :=
  inR bits 0 6 && (inR (xss.length : Int) 1 64 && (inR ((xss.getD 0 []).length : Int) 1 4 && xss.all (rowB (xss.getD 0 []).length bits.toNat)))
theorem all_of {α : Type} {xs : List α} {f : α → Bool} (d : α) (h : ∀ i, i < xs.length → f (xs.getD i d) = true) : xs.all f = true := by
  refine List.all_eq_true.2 fun x hx => ?_
  obtain ⟨i, hi', rfl⟩ := List.getElem_of_mem hx
  have := h i hi'
  simpa [List.getD, hi'] using this
theorem all_no {α : Type} {xs : List α} {f : α → Bool} (d : α) {i : Nat} (h : i < xs.length) (hx : f (xs.getD i d) = false) : xs.all f = false := by
  cases h' : xs.all f
  · rfl
  · have := List.all_eq_true.1 h' (xs.getD i d) (by simp [List.getD, h])
    rw [hx] at this; exact this.symm
theorem all_at {α : Type} {xs : List α} {f : α → Bool} (d : α) {i : Nat} (h : i < xs.length) (ha : xs.all f = true) : f (xs.getD i d) = true :=
  List.all_eq_true.1 ha (xs.getD i d) (by simp [List.getD, h])
theorem ptsB_true {xss : List (List Int)} {bits : Int} (h : ptsB xss bits = true) : 0 ≤ bits ∧ bits ≤ 6 ∧ 1 ≤ xss.length ∧ xss.length ≤ 64 ∧ 1 ≤ (xss.getD 0 []).length ∧ (xss.getD 0 []).length ≤ 4 ∧ xss.all (rowB (xss.getD 0 []).length bits.toNat) = true := by
  simp only [ptsB, Bool.and_eq_true] at h
  have h1 := inR_true h.1
  have h2 := inR_true h.2.1
  have h3 := inR_true h.2.2.1
  exact ⟨h1.1, h1.2, by omega, by omega, by omega, by omega, h.2.2.2⟩
theorem pw_bd6 {b : Nat} (h : b ≤ 6) : 1 ≤ (2 : Int) ^ b ∧ (2 : Int) ^ b ≤ 64 := by
  have h1 : 2 ^ b ≤ 2 ^ 6 := Nat.pow_le_pow_right (by decide) h
  have h2 : 0 < 2 ^ b := Nat.two_pow_pos b
  have e : ((2 ^ b : Nat) : Int) = (2 : Int) ^ b := by simp
  rw [← e]; omega

/-- the reference's answer, where the heads are in order -/
def ListRet (r : Bool) (w : World) (e : Ending) (w' : World) : Prop := e = .returned (.bool r) ∧ Drawn w w'
/-! ### The program's answer -/
def IdxRet2 (b : Bool) (w : World) (e : Ending) (w' : World) : Prop := ∃ r : Int, e = .returned (.int .i64 r) ∧ ((r = -1 ∧ b = true) ∨ (0 ≤ r ∧ b = false)) ∧ Below w.heap.size w w'
end Go.Proofs.YtionognmgcabbaaGreat.Pts
/- The reversed net, of the program and of the reference. -/
namespace Go.Proofs.YtionognmgcabbaaGreat.RevNet
open Go.RowKit Go.Proofs.YtionognmgcabbaaGreat Go.Proofs.YtionognmgcabbaaGreat.Base Go.Proofs.YtionognmgcabbaaGreat.Mem Go.Proofs.YtionognmgcabbaaGreat.Pts
set_option linter.unusedVariables false

def unitL (n : Nat) : List Int := (List.range n).map fun i => (2 : Int) ^ i
theorem unitL_len (n : Nat) : (unitL n).length = n := by simp [unitL]
theorem unitL_succ (n : Nat) : unitL (n + 1) = unitL n ++ [(2 : Int) ^ n] := by simp [unitL, List.range_succ]
/-- a number pushed onto a list of the call's own -/
theorem OwnI_push {wr w2 : World} {B : Nat} {v v' : Value} {xs : List Int} {x : Int} (hO : OwnI wr B v xs) (hB : B ≤ wr.heap.size)
    (hown : w2.ownsRow B 2 1 v' (xs.length + 1) (ints xs ++ [.int .i64 x])) : OwnI w2 B v' (xs ++ [x]) := by
  unfold OwnI
  rw [List.length_append, show ints (xs ++ [x]) = ints xs ++ [.int .i64 x] by simp [ints]]
  exact hown
theorem append_below {wr w2 : World} {B : Nat} {v : Value} {xs : List Int} {o : Obj} (hO : OwnI wr B v xs) (hB : B ≤ wr.heap.size) (hg : (wr.alloc o).grownBy w2 v.ownBlock) : Below B wr w2 :=
  ((Below.refl B wr).alloc hB o).trans (grown_below hg (fun g he => by
    obtain ⟨_, _, h3, _⟩ := ownsRow_block hO he
    exact h3) (by simp; omega))
def UnitRel (n : Nat) (w : World) (out i : Value) (wr : World) : Prop := ∃ k : Nat, k ≤ n ∧ i = .int .i64 (k : Int) ∧ OwnI wr w.heap.size out (unitL k) ∧ Below w.heap.size w wr
theorem UnitRel.next {n k : Nat} {w wr w2 : World} {v v' : Value} (hk : k < n) (hO : OwnI wr w.heap.size v (unitL k)) (hb : Below w.heap.size w wr)
    (hown : w2.ownsRow w.heap.size 2 1 v' (k + 1) (ints (unitL k) ++ [.int .i64 ((2 : Int) ^ k)])) (hg : (wr.alloc (.cells #[.int .i64 ((2 : Int) ^ k)] 2)).grownBy w2 v.ownBlock) :
    UnitRel n w v' (.int .i64 ((k : Int) + 1)) w2 := by
  refine ⟨k + 1, hk, by simp, ?_, hb.trans (append_below hO hb.size hg)⟩
  rw [unitL_succ]
  exact OwnI_push hO hb.size (by rw [unitL_len]; exact hown)
def UnitRet (n : Nat) (w : World) (e : Ending) (w' : World) : Prop := ∃ A c, e = .returned (.slice A n c) ∧ OwnI w' w.heap.size (.slice A n c) (unitL n) ∧ Below w.heap.size w w'
/-- two lists of the call's own in a new list of them -/
theorem OwnII.two {w : World} {B : Nat} {u1 u2 : Value} {ys1 ys2 : List Int} (h1 : OwnI w B u1 ys1) (h2 : OwnI w B u2 ys2) (hB : B ≤ w.heap.size) (ha : ∀ g, u1.ownBlock = some g → u2.ownBlock ≠ some g) :
    OwnII (w.alloc (.cells #[u1, u2] 41)) B (.slice (some ⟨w.heap.size, 0, none⟩) 2 2) [ys1, ys2] [u1, u2] := by
  refine ⟨rfl, ?_, fun i hi => ?_, fun i j g hij hj hg => ?_⟩
  · exact World.ownsRow_lit (e := 41) (size := 1) (base := B) w #[u1, u2] 2 hB (by simp [maxLen]) rfl
  · match i, hi with
    | 0, _ => exact World.ownsRow.alloc h1 _
    | 1, _ => exact World.ownsRow.alloc h2 _
  · have hj' : j < 2 := hj
    obtain rfl : i = 0 := by omega
    obtain rfl : j = 1 := by omega
    exact ha g hg
theorem OwnII.two_set {w : World} {B b : Nat} {u1 u2 x y : Value} {ys1 ys2 : List Int} (h1 : OwnI w B u1 ys1) (h2 : OwnI w B u2 ys2) (hB : B ≤ w.heap.size) (ha : ∀ g, u1.ownBlock = some g → u2.ownBlock ≠ some g) (hb : b < B) :
    OwnII (((w.setCell ⟨b, 0, none⟩ x).setCell ⟨b, 1, none⟩ y).alloc (.cells #[u1, u2] 41)) B (.slice (some ⟨w.heap.size, 0, none⟩) 2 2) [ys1, ys2] [u1, u2] := by
  have hz : ((w.setCell ⟨b, 0, none⟩ x).setCell ⟨b, 1, none⟩ y).heap.size = w.heap.size := by simp
  have := OwnII.two (w := (w.setCell ⟨b, 0, none⟩ x).setCell ⟨b, 1, none⟩ y) (ownsRow_setCell_below (ownsRow_setCell_below h1 (a := ⟨b, 0, none⟩) hb x) (a := ⟨b, 1, none⟩) hb y) (ownsRow_setCell_below (ownsRow_setCell_below h2 (a := ⟨b, 0, none⟩) hb x) (a := ⟨b, 1, none⟩) hb y) (by rw [hz]; exact hB) ha
  rw [hz] at this
  exact this
/-- the rows of the first matrix -/
def revL (n : Nat) : List Int := (List.range n).map fun i => (2 : Int) ^ (n - 1 - i)
theorem unitL_rev (n : Nat) : (unitL n).reverse = revL n := by
  refine getD_ext 0 (by simp [unitL, revL]) fun i hi => ?_
  have hn : i < n := by simpa [unitL] using hi
  have h1 : (unitL n).reverse.getD i 0 = (unitL n).getD (n - 1 - i) 0 := by
    have := List.getElem?_reverse (l := unitL n) (i := i) (by rw [unitL_len]; exact hn)
    rw [List.getD, List.getD, this, unitL_len]
  rw [h1]
  simp [unitL, revL, hn, List.getD, show n - 1 - i < n by omega]
def RevRet (n : Nat) (w : World) (e : Ending) (w' : World) : Prop :=
  ∃ g us, e = .returned (.tuple #[.agg #[.int .i64 (n : Int), .slice (some ⟨g, 0, none⟩) 2 2], .bool true]) ∧ OwnII w' w.heap.size (.slice (some ⟨g, 0, none⟩) 2 2) [revL n, unitL n] us ∧ Below w.heap.size w w'
/-! ### The reference's net -/
def RevRel (n : Nat) (w : World) (b : Nat) (v1 v2 i : Value) (wr : World) : Prop :=
  ∃ k : Nat, k ≤ n ∧ i = .int .i64 (k : Int) ∧ OwnI wr (b + 1) v1 ((revL n).take k) ∧ OwnI wr (b + 1) v2 (unitL k) ∧ (∀ g, v1.ownBlock = some g → v2.ownBlock ≠ some g) ∧ Below (b + 1) w wr
theorem revL_take (n k : Nat) (h : k < n) : (revL n).take (k + 1) = (revL n).take k ++ [(2 : Int) ^ (n - 1 - k)] := by
  have hl : k < (revL n).length := by simp [revL]; exact h
  rw [List.take_succ_eq_append_getElem hl]
  simp [revL]
/-- what an append leaves of a list beside it -/
theorem beside {wr w2 : World} {B : Nat} {v u : Value} {xs ys : List Int} {o : Obj} (hO : OwnI wr B v xs) (hu : OwnI wr B u ys) (ha : ∀ g, v.ownBlock = some g → u.ownBlock ≠ some g) (hg : (wr.alloc o).grownBy w2 v.ownBlock) : OwnI w2 B u ys := by
  refine World.ownsRow.kept (World.ownsRow.alloc hu o) hg ?_
  rcases hv : u.ownBlock with _ | g
  · exact .inl rfl
  · exact .inr fun e => ha g e.symm hv
theorem RevRel.next {n k b : Nat} {w wr w2 w4 : World} {v1 v2 u1 u2 : Value} {o o' : Obj} (hk : k < n) (hB : b + 1 ≤ w.heap.size)
    (h1 : OwnI wr (b + 1) v1 ((revL n).take k)) (h2 : OwnI wr (b + 1) v2 (unitL k)) (ha : ∀ g, v1.ownBlock = some g → v2.ownBlock ≠ some g) (hb : Below (b + 1) w wr)
    (n1 : OwnI w2 (b + 1) u1 ((revL n).take (k + 1))) (g1 : (wr.alloc o).grownBy w2 v1.ownBlock) (e1 : u1.ownBlock = v1.ownBlock ∨ u1.ownBlock = some (wr.heap.size + 1))
    (n2 : OwnI w4 (b + 1) u2 (unitL (k + 1))) (g2 : (w2.alloc o').grownBy w4 v2.ownBlock) (e2 : u2.ownBlock = v2.ownBlock ∨ u2.ownBlock = some (w2.heap.size + 1)) :
    RevRel n w b u1 u2 (.int .i64 ((k : Int) + 1)) w4 := by
  have hb1 : Below (b + 1) wr w2 := append_below h1 (Nat.le_trans hB hb.size) g1
  have hb2 : Below (b + 1) w w2 := hb.trans hb1
  have hv2 : OwnI w2 (b + 1) v2 (unitL k) := beside h1 h2 ha g1
  have hs : wr.heap.size + 1 ≤ w2.heap.size := by
    have := g1.size
    simpa using this
  have hu1 : ∀ g, v2.ownBlock = some g → u1.ownBlock ≠ some g := fun g hg he => by
    rcases e1 with e | e
    · exact ha g (e.symm.trans he) hg
    · obtain ⟨_, _, _, q⟩ := ownsRow_block h2 hg
      rw [e] at he
      injection he with he
      omega
  refine ⟨k + 1, hk, by simp, beside hv2 n1 hu1 g2, n2, fun g he hg => ?_, hb2.trans (append_below hv2 (Nat.le_trans hB hb2.size) g2)⟩
  rcases e2 with e | e
  · exact hu1 g (e.symm.trans hg) he
  · obtain ⟨_, _, _, q⟩ := ownsRow_block n1 he
    rw [e] at hg
    injection hg with hg
    omega
theorem revL_len (n : Nat) : (revL n).length = n := by simp [revL]
end Go.Proofs.YtionognmgcabbaaGreat.RevNet
/- Whether a net is valid, of the program and of the reference. -/
namespace Go.Proofs.YtionognmgcabbaaGreat.NetV
open Go.RowKit Go.Proofs.YtionognmgcabbaaGreat Go.Proofs.YtionognmgcabbaaGreat.Base Go.Proofs.YtionognmgcabbaaGreat.Mem Go.Proofs.YtionognmgcabbaaGreat.AllIn Go.Proofs.YtionognmgcabbaaGreat.Pts
set_option linter.unusedVariables false

def netB (bits : Int) (xss : List (List Int)) : Bool := inR bits 0 6 && (inR (xss.length : Int) 1 4 && xss.all (rowB bits.toNat bits.toNat))
theorem netB_true {bits : Int} {xss : List (List Int)} (h : netB bits xss = true) : 0 ≤ bits ∧ bits ≤ 6 ∧ 1 ≤ xss.length ∧ xss.length ≤ 4 ∧ xss.all (rowB bits.toNat bits.toNat) = true := by
  simp only [netB, Bool.and_eq_true] at h
  have h1 := inR_true h.1
  have h2 := inR_true h.2.1
  exact ⟨h1.1, h1.2, by omega, by omega, h.2.2⟩
/-! ### The program's answer -/
end Go.Proofs.YtionognmgcabbaaGreat.NetV
/- The laws' sizes and copies of lists of int64 and of lists of them. -/
namespace Go.Proofs.YtionognmgcabbaaGreat.Cpy
open Go.RowKit Go.Proofs.YtionognmgcabbaaGreat Go.Proofs.YtionognmgcabbaaGreat.Base Go.Proofs.YtionognmgcabbaaGreat.Mem
set_option linter.unusedVariables false

/-! ### Sizes -/
/-- a number below 0, or all elements and lists counted fit -/
def SzRet (k : Int) (xss : List (List Int)) (w : World) (e : Ending) (w' : World) : Prop := ∃ r : Int, e = .returned (.int .i64 r) ∧ (r = -1 ∨ (0 ≤ r ∧ r = k - xss.length - tot xss)) ∧ w = w'
/-! ### Copies -/
theorem half_set {α : Type} (f : α → Value) (z : Value) (xs : List α) (d : α) (j : Nat) (h : j < xs.length) :
    ((xs.take j).map f ++ List.replicate (xs.length - j) z).set j (f (xs.getD j d)) = (xs.take (j + 1)).map f ++ List.replicate (xs.length - (j + 1)) z := by
  have hl : ((xs.take j).map f).length = j := by simp; omega
  rw [List.set_append_right _ _ (Nat.le_of_eq hl), hl, Nat.sub_self, show xs.length - j = (xs.length - (j + 1)) + 1 by omega, List.replicate_succ, List.set_cons_zero,
    List.take_succ_eq_append_getElem h, List.map_append, List.append_assoc]
  simp [List.getD, h]
theorem half_get {α : Type} (f : α → Value) (z : Value) (xs : List α) (j : Nat) (h : j < xs.length) : ((xs.take j).map f ++ List.replicate (xs.length - j) z)[j]? = some z := by
  have hl : ((xs.take j).map f).length = j := by simp; omega
  rw [List.getElem?_append_right (Nat.le_of_eq hl), hl, Nat.sub_self, List.getElem?_replicate, if_pos (by omega)]
def ToRel (B g : Nat) (xs : List Int) (w : World) (i : Value) (wr : World) : Prop :=
  ∃ j : Nat, j ≤ xs.length ∧ i = .int .i64 (j : Int) ∧ wr.ownsRow B 2 1 (.slice (some ⟨g, 0, none⟩) xs.length xs.length) xs.length ((xs.take j).map (Value.int .i64) ++ List.replicate (xs.length - j) (.int .i64 0)) ∧ Below B w wr
theorem ToRel.next {B g j : Nat} {xs : List Int} {w wr : World} (hj : j < xs.length) (hg : B ≤ g)
    (h : wr.ownsRow B 2 1 (.slice (some ⟨g, 0, none⟩) xs.length xs.length) xs.length ((xs.take j).map (Value.int .i64) ++ List.replicate (xs.length - j) (.int .i64 0))) (hb : Below B w wr) :
    ToRel B g xs w (.int .i64 ((j : Int) + 1)) (wr.setCell ⟨g, j, none⟩ (.int .i64 (xs.getD j 0))) := by
  obtain ⟨h1, _⟩ := h.stored j (.int .i64 (xs.getD j 0))
  rw [half_set (Value.int .i64) _ xs 0 j hj] at h1
  exact ⟨j + 1, hj, by simp, h1, hb.setCell hg _⟩
set_option maxHeartbeats 400000 in
theorem toI_any (A : Option Addr) (c B0 : Nat) (xs : List Int) (w : World) (hx : RdI w B0 A xs) (hB : B0 ≤ w.heap.size) (hn : xs.length ≤ 1048576) :
    Calls Tryz.prog 23 #[.slice A xs.length c] w fun e w' => ∃ g, e = .returned (.slice (some ⟨g, 0, none⟩) xs.length xs.length) ∧ OwnI w' w.heap.size (.slice (some ⟨g, 0, none⟩) xs.length xs.length) xs ∧ Below w.heap.size w w' := by
  have hmk := run_make_row' (P := Tryz.prog) 41 2 (.int .i64 0) 8 Tryz.underlying41 infoI rfl .i64 .i64 xs.length (by omega) (by omega)
  have h0 : ToRel w.heap.size w.heap.size xs w (.int .i64 0) (w.alloc (.cells (madeCells #[.int .i64 0] xs.length) 2)) := by
    refine ⟨0, Nat.zero_le _, rfl, ?_, (Below.refl _ _).alloc (Nat.le_refl _) _⟩
    have := World.ownsRow_lit (e := 2) (size := 1) (base := w.heap.size) w (madeCells #[.int .i64 0] xs.length) xs.length (Nat.le_refl _) (by simp [maxLen]; omega) (by simp [size_madeCells])
    rw [toList_madeCells_one] at this
    simpa using this
  have H0 := Lib.hid h0
  clear h0
  go_enter Tryz.func23, Tryz.ntmps23
  go_wp2
  clear hmk
  go_loopw [4] (fun i wr => ToRel w.heap.size w.heap.size xs w i wr) (fun i _ => xs.length - (intOf i).toNat)
  case atStart => exact H0.out
  case round =>
    obtain ⟨j, hj, rfl, hrow, hb⟩ := hrel
    by_cases hlt : j < xs.length
    · obtain ⟨b, off, rfl, hbB, hc⟩ := (hx.below hb hB) (by omega)
      have g1 := hc j hlt
      have hcell := hrow.cellAt j (by omega)
      have hfz := hrow.frozenAt j
      have hcell' : wr.cell? ⟨w.heap.size, j, none⟩ = some (.int .i64 0) := by
        rw [hcell, half_get _ _ _ _ hlt]
      have HN := Lib.hid (ToRel.next hlt (Nat.le_refl _) hrow hb)
      clear hrow hb hx hc hcell
      generalize xs.getD j 0 = x at *
      go_wp2
      go_roundw
      case rel => exact HN.out
      case measure => simp [intOf]; omega
    · obtain rfl : j = xs.length := by omega
      have HR := Lib.hid hrow
      have HB := Lib.hid hb
      clear hrow hb hx
      go_wp2
      go_ret
      refine ⟨w.heap.size, rfl, ?_, HB.out⟩
      have := HR.out
      simpa [OwnI, ints] using this

/-- lists of the call's own, without the list that holds them -/
structure OwnRows (w : World) (B : Nat) (us : List Value) (xss : List (List Int)) : Prop where
  len : us.length = xss.length
  inner : ∀ i, i < xss.length → OwnI w B (us.getD i undef) (xss.getD i [])
  apart : ∀ i j g, i < j → j < xss.length → (us.getD i undef).ownBlock = some g → (us.getD j undef).ownBlock ≠ some g
theorem OwnRows.nil (w : World) (B : Nat) : OwnRows w B [] [] := ⟨rfl, fun i hi => absurd hi (Nat.not_lt_zero i), fun i j g _ hj => absurd hj (Nat.not_lt_zero j)⟩
theorem OwnRows.push {wr w1 w2 : World} {B n : Nat} {v u : Value} {xss : List (List Int)} {us vs : List Value} {ys : List Int} (h : OwnRows wr B us xss) (h1 : Below wr.heap.size wr w1)
    (hu : w1.ownsRow wr.heap.size 2 1 u ys.length (ints ys)) (ho : w1.ownsRow B 41 1 v n vs) (hg : w1.grownBy w2 v.ownBlock) (hB : B ≤ wr.heap.size) :
    OwnRows w2 B (us ++ [u]) (xss ++ [ys]) := by
  refine ⟨by simp [h.len], fun i hi => ?_, fun i j g hij hj hg1 hg2 => ?_⟩
  · rw [List.length_append] at hi
    rcases Nat.lt_or_ge i xss.length with hlt | hge
    · have hl : i < us.length := by rw [h.len]; exact hlt
      rw [show (us ++ [u]).getD i undef = us.getD i undef by simp [List.getD, List.getElem?_append_left hl],
        show (xss ++ [ys]).getD i [] = xss.getD i [] by simp [List.getD, List.getElem?_append_left hlt]]
      have hi1 := (h.inner i hlt).below h1
      exact World.ownsRow.kept hi1 hg (own_ne hi1 ho (by decide))
    · obtain rfl : i = xss.length := by simp at hi; omega
      rw [show (us ++ [u]).getD xss.length undef = u by simp [List.getD, ← h.len],
        show (xss ++ [ys]).getD xss.length [] = ys by simp [List.getD]]
      exact World.ownsRow.kept (ownsRow_base hu hB) hg (own_ne hu ho (by decide))
  · rw [List.length_append] at hj
    have hlt : i < xss.length := by simp at hj; omega
    have hl : i < us.length := by rw [h.len]; exact hlt
    rw [show (us ++ [u]).getD i undef = us.getD i undef by simp [List.getD, List.getElem?_append_left hl]] at hg1
    rcases Nat.lt_or_ge j xss.length with hj1 | hge
    · have hlj : j < us.length := by rw [h.len]; exact hj1
      rw [show (us ++ [u]).getD j undef = us.getD j undef by simp [List.getD, List.getElem?_append_left hlj]] at hg2
      exact h.apart i j g hij hj1 hg1 hg2
    · obtain rfl : j = xss.length := by simp at hj; omega
      rw [show (us ++ [u]).getD xss.length undef = u by simp [List.getD, ← h.len]] at hg2
      obtain ⟨_, _, _, b1⟩ := ownsRow_block (h.inner i hlt) hg1
      obtain ⟨_, _, b2, _⟩ := ownsRow_block hu hg2
      omega
def ToRel2 (B g : Nat) (xss : List (List Int)) (w : World) (i : Value) (wr : World) : Prop :=
  ∃ (j : Nat) (us : List Value), j ≤ xss.length ∧ i = .int .i64 (j : Int) ∧ us.length = j ∧
    wr.ownsRow B 41 1 (.slice (some ⟨g, 0, none⟩) xss.length xss.length) xss.length (us ++ List.replicate (xss.length - j) (.slice none 0 0)) ∧ OwnRows wr B us (xss.take j) ∧ Below B w wr
theorem us_set {us : List Value} {j n : Nat} (hj : us.length = j) (hn : j < n) (u z : Value) : (us ++ List.replicate (n - j) z).set j u = (us ++ [u]) ++ List.replicate (n - (j + 1)) z := by
  rw [List.set_append_right _ _ (Nat.le_of_eq hj), hj, Nat.sub_self, show n - j = (n - (j + 1)) + 1 by omega, List.replicate_succ, List.set_cons_zero, List.append_assoc]
  rfl
theorem us_get {us : List Value} {j n : Nat} (hj : us.length = j) (hn : j < n) (z : Value) : (us ++ List.replicate (n - j) z)[j]? = some z := by
  rw [List.getElem?_append_right (Nat.le_of_eq hj), hj, Nat.sub_self, List.getElem?_replicate, if_pos (by omega)]
theorem ToRel2.next {B g j : Nat} {xss : List (List Int)} {us : List Value} {w wr w1 : World} {u : Value} (hj : j < xss.length) (hl : us.length = j) (hg : B ≤ g)
    (ho : wr.ownsRow B 41 1 (.slice (some ⟨g, 0, none⟩) xss.length xss.length) xss.length (us ++ List.replicate (xss.length - j) (.slice none 0 0))) (hr : OwnRows wr B us (xss.take j)) (hb : Below B w wr) (hB : B ≤ wr.heap.size)
    (h1 : Below wr.heap.size wr w1) (hu : OwnI w1 wr.heap.size u (xss.getD j [])) :
    ToRel2 B g xss w (.int .i64 ((j : Int) + 1)) (w1.setCell ⟨g, j, none⟩ u) := by
  have ho1 := ownsRow_below ho h1
  obtain ⟨s1, s2⟩ := ho1.stored j u
  rw [us_set hl hj] at s1
  refine ⟨j + 1, us ++ [u], hj, by simp, by simp [hl], s1, ?_, (hb.trans (h1.mono hB)).setCell hg _⟩
  have := hr.push h1 hu ho1 s2 hB
  rw [List.take_succ_eq_append_getElem hj]
  have e : xss[j] = xss.getD j [] := by simp [List.getD, hj]
  rw [e]; exact this
end Go.Proofs.YtionognmgcabbaaGreat.Cpy
/- Openers: what is known of an argument's value. -/
namespace Go.Proofs.YtionognmgcabbaaGreat.Open
open Go.ChangeShapes Go.WideShapes Go.ChangeAt Go.RowKit Go.Joins Go.Proofs.YtionognmgcabbaaGreat
set_option linter.unusedVariables false
set_option maxRecDepth 100000
section
variable {H : Type} {enc : TypeId × Value → H} {w : World} {base b0 : Nat} {spare : Nat → Bool} {held : Bool} {v : Value} {d : DataW H} {p : List MemPlace}
/-- one field of one int64 cell -/
theorem field_int {n : Nat} {fs : Array Field} {cs : List Value} {xs : List (DataW H × List MemPlace)} (hlen : xs.length = fs.size)
    (hg : ∀ (i : Nat) (f : Field), fs[i]? = some f → DataW.trod enc Tryz.prog w base spare held n f.type ((cs.drop f.offset).take (Tryz.prog.cellsOf f.type)) = xs[i]?)
    (i : Nat) (f : Field) (hf : fs[i]? = some f) (ht : f.type = 2) : ∃ a : Int, (cs.drop f.offset).take (Tryz.prog.cellsOf f.type) = [.int .i64 a] := by
  have h := hg i f hf
  have hi : i < xs.length := by rw [hlen]; exact (Array.getElem?_eq_some_iff.1 hf).1
  rw [List.getElem?_eq_getElem hi, ht] at h
  obtain ⟨a, e, _, _⟩ := DataW.trod_int Tryz.underlying2 h
  exact ⟨a, by rw [ht]; exact e⟩
theorem addr_add {a : Addr} (h : a.spot = none) (i : Nat) : a.add i = ⟨a.block, a.off + i, none⟩ := by
  obtain ⟨b, off, spot⟩ := a
  simp at h; subst h
  unfold Addr.add
  split <;> simp_all
theorem spot_of {a : Addr} {u : Value} (h : w.cell? (a.add 0) = some u) : a.spot = none ∧ a.block < w.heap.size := by
  have e : a.add 0 = a := by simp [Addr.add]
  rw [e] at h
  exact ⟨World.cell?_spot h, block_lt_of_cell h⟩
theorem cells8 : Tryz.prog.cellsOf 5 = 1 := by kernel_rfl
/-- an argument of bytes -/
structure IsBytes (w : World) (v : Value) : Prop where
  ex : ∃ (A : Option Addr) (c : Nat) (zs : List Int), v = .slice A zs.length c ∧ zs.length ≤ 9223372036854775807 ∧ (∀ z ∈ zs, 0 ≤ z ∧ z ≤ 255) ∧ Mem.RdB w w.heap.size A zs
theorem bytes (hv : Value.okWide Tryz.prog w .any b0 64 v) (h : DataW.Trod enc Tryz.prog w base (fun _ => true) held 64 v d p) : IsBytes w v := by
  obtain ⟨a, len, cap, rfl⟩ := okWide_slice Tryz.underlying64 hv
  obtain ⟨fuel, hf⟩ := h
  rcases open_ints Tryz.underlying64 Tryz.underlying5 cells8 hf with ⟨hcs, _⟩ | ⟨x, l, c, zs, hcs, _, hl, hm, hz, _, hcell, hwz⟩
  · simp [Value.cells] at hcs
    obtain ⟨rfl, rfl, rfl⟩ := hcs
    exact ⟨none, 0, [], rfl, by decide, by simp, fun h => absurd h (by simp)⟩
  · simp [Value.cells] at hcs
    obtain ⟨rfl, rfl, rfl⟩ := hcs
    simp only [if_true] at hz
    have hlen : (zs.take len).length = len := by rw [List.length_take]; omega
    refine ⟨some x, cap, zs.take len, by rw [hlen], ?_, fun z hzm => ?_, fun h0 => ?_⟩
    · rw [hlen]; unfold maxLen at hm; omega
    · have := hwz z (List.mem_of_mem_take hzm)
      simp [Lit.wf, IntKind.min, IntKind.max, IntKind.signed, IntKind.bits] at this
      omega
    · rw [hlen] at h0
      obtain ⟨hs, hb⟩ := spot_of (hcell 0 (by omega))
      refine ⟨x.block, x.off, by cases x; simp_all, hb, fun i hi => ?_⟩
      rw [hlen] at hi
      rw [← addr_add hs, hcell i (by omega)]
      simp [List.getD, hi]
theorem cellsI1 : Tryz.prog.cellsOf 2 = 1 := by kernel_rfl
/-- an argument of numbers -/
structure IsInts (w : World) (v : Value) : Prop where
  ex : ∃ (A : Option Addr) (c : Nat) (zs : List Int), v = .slice A zs.length c ∧ zs.length ≤ 9223372036854775807 ∧ (∀ z ∈ zs, -9223372036854775808 ≤ z ∧ z ≤ 9223372036854775807) ∧ Mem.RdI w w.heap.size A zs
theorem ints (hv : Value.okWide Tryz.prog w .any b0 41 v) (h : DataW.Trod enc Tryz.prog w base (fun _ => true) held 41 v d p) : IsInts w v := by
  obtain ⟨a, len, cap, rfl⟩ := okWide_slice Tryz.underlying41 hv
  obtain ⟨fuel, hf⟩ := h
  rcases open_ints Tryz.underlying41 Tryz.underlying2 cellsI1 hf with ⟨hcs, _⟩ | ⟨x, l, c, zs, hcs, _, hl, hm, hz, _, hcell, hwz⟩
  · simp [Value.cells] at hcs
    obtain ⟨rfl, rfl, rfl⟩ := hcs
    exact ⟨none, 0, [], rfl, by decide, by simp, fun h => absurd h (by simp)⟩
  · simp [Value.cells] at hcs
    obtain ⟨rfl, rfl, rfl⟩ := hcs
    simp only [if_true] at hz
    have hlen : (zs.take len).length = len := by rw [List.length_take]; omega
    refine ⟨some x, cap, zs.take len, by rw [hlen], ?_, fun z hzm => ?_, fun h0 => ?_⟩
    · rw [hlen]; unfold maxLen at hm; omega
    · have := hwz z (List.mem_of_mem_take hzm)
      simp [Lit.wf, IntKind.min, IntKind.max, IntKind.signed, IntKind.bits] at this
      omega
    · rw [hlen] at h0
      obtain ⟨hs, hb⟩ := spot_of (hcell 0 (by omega))
      refine ⟨x.block, x.off, by cases x; simp_all, hb, fun i hi => ?_⟩
      rw [hlen] at hi
      rw [← addr_add hs, hcell i (by omega)]
      simp [List.getD, hi]
end
end Go.Proofs.YtionognmgcabbaaGreat.Open
/- The laws' copies and comparisons of nets; the law of ValidNet. -/
namespace Go.Proofs.YtionognmgcabbaaGreat.NetV
open Go.RowKit Go.Proofs.YtionognmgcabbaaGreat Go.Proofs.YtionognmgcabbaaGreat.Base Go.Proofs.YtionognmgcabbaaGreat.Mem Go.Proofs.YtionognmgcabbaaGreat.Cpy
set_option linter.unusedVariables false

def ToNetRet (bits : Int) (xss : List (List Int)) (w : World) (e : Ending) (w' : World) : Prop :=
  ∃ g us, e = .returned (.agg #[.int .i64 bits, .slice (some ⟨g, 0, none⟩) xss.length xss.length]) ∧ OwnII w' w.heap.size (.slice (some ⟨g, 0, none⟩) xss.length xss.length) xss us ∧ Below w.heap.size w w'
end Go.Proofs.YtionognmgcabbaaGreat.NetV
/- The law on the reversed net. -/
namespace Go.Proofs.YtionognmgcabbaaGreat.RevNet
open Go.RowKit Go.Proofs.YtionognmgcabbaaGreat Go.Proofs.YtionognmgcabbaaGreat.Base Go.Proofs.YtionognmgcabbaaGreat.Mem Go.Proofs.YtionognmgcabbaaGreat.Pts Go.Proofs.YtionognmgcabbaaGreat.NetV
set_option linter.unusedVariables false

/-- no net: the empty one -/
def NoNet (w : World) (e : Ending) (w' : World) : Prop := e = .returned (.tuple #[.agg #[.int .i64 0, .slice none 0 0], .bool false]) ∧ Below w.heap.size w w'
theorem block_lt {w : World} {g : Nat} {o : Obj} (h : w.heap[g]? = some o) : g < w.heap.size := by
  rcases Nat.lt_or_ge g w.heap.size with hlt | hge
  · exact hlt
  · rw [Array.getElem?_eq_none hge] at h; cases h
theorem notInts_below {w w' : World} (h : Below w.heap.size w w') : NotInts w w' := fun g cur t hg _ => (h.block g (block_lt hg)).trans hg
/-- a net made, of these numbers -/
def GNetRet (bits : Int) (ok : Bool) (xss : List (List Int)) (w : World) (e : Ending) (w' : World) : Prop :=
  ∃ A c us, e = .returned (.tuple #[.agg #[.int .i64 bits, .slice A xss.length c], .bool ok]) ∧ OwnII w' w.heap.size (.slice A xss.length c) xss us ∧ Below w.heap.size w w'
theorem GNetRet.of_no {w : World} {e : Ending} {w' : World} (h : NoNet w e w') : GNetRet 0 false [] w e w' := ⟨none, 0, [], h.1, OwnII.nil _ _, h.2⟩
theorem GNetRet.of_rev {n : Nat} {w : World} {e : Ending} {w' : World} (h : RevRet n w e w') : GNetRet n true [revL n, unitL n] w e w' := by
  obtain ⟨g, us, h1, h2, h3⟩ := h
  exact ⟨some ⟨g, 0, none⟩, 2, us, h1, h2, h3⟩
end Go.Proofs.YtionognmgcabbaaGreat.RevNet
/- Points that are shifted, of the program and of the reference. -/
namespace Go.Proofs.YtionognmgcabbaaGreat.Shift
open Go.RowKit Go.Proofs.YtionognmgcabbaaGreat Go.Proofs.YtionognmgcabbaaGreat.Base Go.Proofs.YtionognmgcabbaaGreat.Mem Go.Proofs.YtionognmgcabbaaGreat.AllIn Go.Proofs.YtionognmgcabbaaGreat.Pts Go.Proofs.YtionognmgcabbaaGreat.RevNet Go.Proofs.YtionognmgcabbaaGreat.Bits
set_option linter.unusedVariables false
def xorI (x y : Int) : Int := ((x.toNat ^^^ y.toNat : Nat) : Int)
/-- a point shifted, of the first coordinates alone -/
def shRow (xs by_ : List Int) : List Int := (List.range by_.length).map fun d => xorI (xs.getD d 0) (by_.getD d 0)
theorem shRow_len (xs ys : List Int) : (shRow xs ys).length = ys.length := by simp [shRow]
theorem shRow_take (xs ys : List Int) (d : Nat) (h : d < ys.length) : (shRow xs ys).take (d + 1) = (shRow xs ys).take d ++ [xorI (xs.getD d 0) (ys.getD d 0)] := by
  have hl : d < (shRow xs ys).length := by rw [shRow_len]; exact h
  rw [List.take_succ_eq_append_getElem hl]
  simp [shRow]
def shL (xss : List (List Int)) (ys : List Int) : List (List Int) := xss.map fun xs => shRow xs ys
theorem shL_len (xss : List (List Int)) (ys : List Int) : (shL xss ys).length = xss.length := by simp [shL]
theorem shL_take (xss : List (List Int)) (ys : List Int) (k : Nat) (h : k < xss.length) : (shL xss ys).take (k + 1) = (shL xss ys).take k ++ [shRow (xss.getD k []) ys] := by
  have hl : k < (shL xss ys).length := by rw [shL_len]; exact h
  rw [List.take_succ_eq_append_getElem hl]
  simp [shL, List.getD, h]
theorem xor_int {x y : Int} (hx : 0 ≤ x ∧ x < 64) (hy : 0 ≤ y ∧ y < 64) : bits .xor .i64 x y = xorI x y := by
  have h := i64_xor_nat x.toNat y.toNat (by omega) (by omega)
  rw [Int.toNat_of_nonneg hx.1, Int.toNat_of_nonneg hy.1] at h
  exact h
/-- lists of lists of the call's own that grow along given ones -/
def GRel (L : List (List Int)) (w : World) (out i : Value) (wr : World) : Prop :=
  ∃ (k : Nat) (us : List Value), k ≤ L.length ∧ i = .int .i64 (k : Int) ∧ OwnII wr w.heap.size out (L.take k) us ∧ Below w.heap.size w wr
/-- the same for one list -/
def IRel (L : List Int) (w : World) (p i : Value) (wr : World) : Prop :=
  ∃ d : Nat, d ≤ L.length ∧ i = .int .i64 (d : Int) ∧ OwnI wr w.heap.size p (L.take d) ∧ Below w.heap.size w wr
theorem GRel.start (L : List (List Int)) (w : World) : GRel L w (.slice (some ⟨w.heap.size, 0, none⟩) 0 0) (.int .i64 0) (w.alloc (.cells #[] 41)) :=
  ⟨0, [], Nat.zero_le _, rfl, OwnII.lit0 w (Nat.le_refl _) _ rfl, (Below.refl _ _).alloc (Nat.le_refl _) _⟩
theorem IRel.start (L : List Int) (w : World) : IRel L w (.slice (some ⟨w.heap.size, 0, none⟩) 0 0) (.int .i64 0) (w.alloc (.cells #[] 2)) :=
  ⟨0, Nat.zero_le _, rfl, own_lit w (Nat.le_refl _) [] (by simp), (Below.refl _ _).alloc (Nat.le_refl _) _⟩
theorem take_snoc {α : Type} (L : List α) (d : Nat) (z : α) (h : d < L.length) : L.take (d + 1) = L.take d ++ [L.getD d z] := by
  rw [List.take_succ_eq_append_getElem h]; simp [List.getD, h]
theorem IRel.next {L : List Int} {d : Nat} {w wr w1 w2 : World} {v v' : Value} (hd : d < L.length) (hO : OwnI wr w.heap.size v (L.take d)) (hb : Below w.heap.size w wr) (h1 : Below wr.heap.size wr w1)
    (hown : w2.ownsRow w.heap.size 2 1 v' (d + 1) (ints (L.take d) ++ [.int .i64 (L.getD d 0)])) (hg : w1.grownBy w2 v.ownBlock) :
    IRel L w v' (.int .i64 ((d : Int) + 1)) w2 := by
  refine ⟨d + 1, hd, by simp, ?_, hb.trans ((h1.mono hb.size).trans (grown_below hg (fun g he => ?_) (Nat.le_trans hb.size h1.size)))⟩
  · rw [take_snoc L d 0 hd]
    have hl : (L.take d).length = d := by rw [List.length_take]; omega
    exact OwnI_push hO hb.size (by rw [hl]; exact hown)
  · obtain ⟨_, _, h3, _⟩ := ownsRow_block hO he
    exact h3
theorem GRel.next {L : List (List Int)} {k : Nat} {us : List Value} {w wo wr w2 : World} {v v' p : Value} (hk : k < L.length) (hO : OwnII wo w.heap.size v (L.take k) us) (hb : Below w.heap.size w wo)
    (hp : OwnI wr wo.heap.size p (L.getD k [])) (hb2 : Below wo.heap.size wo wr) (hown : w2.ownsRow w.heap.size 41 1 v' (k + 1) (us ++ [p])) (hg : (wr.alloc (.cells #[p] 41)).grownBy w2 v.ownBlock) :
    GRel L w v' (.int .i64 ((k : Int) + 1)) w2 := by
  have h1 : Below wo.heap.size wo (wr.alloc (.cells #[p] 41)) := hb2.alloc hb2.size _
  have hu : (wr.alloc (.cells #[p] 41)).ownsRow wo.heap.size 2 1 p (L.getD k []).length (ints (L.getD k [])) := World.ownsRow.alloc hp _
  have hl : (L.take k).length = k := by rw [List.length_take]; omega
  refine ⟨k + 1, us ++ [p], hk, by simp, ?_, hb.trans ((h1.mono hb.size).trans (grown_below hg (fun g he => ?_) (Nat.le_trans hb.size h1.size)))⟩
  · rw [take_snoc L k [] hk]
    exact hO.push h1 hu (by rw [hl]; exact hown) hg hb.size
  · obtain ⟨_, _, h3, _⟩ := ownsRow_block hO.outer he
    exact h3
/-- lists of the call's own, and whether there are some -/
def RowsRet (R : List (List Int)) (ok : Bool) (w : World) (e : Ending) (w' : World) : Prop := ∃ A c us, e = .returned (.tuple #[.slice A R.length c, .bool ok]) ∧ OwnII w' w.heap.size (.slice A R.length c) R us ∧ Below w.heap.size w w'
/-- points and what shifts them -/
def shB (xss : List (List Int)) (bits : Int) (ys : List Int) : Bool := ptsB xss bits && (ys.length == (xss.getD 0 []).length && allInB ys 0 ((2 : Int) ^ bits.toNat - 1))
theorem row_at {L b d : Nat} {xss : List (List Int)} (h : xss.all (rowB L b) = true) (hd : d < xss.length) : (xss.getD d []).length = L ∧ ∀ j, j < L → 0 ≤ (xss.getD d []).getD j 0 ∧ (xss.getD d []).getD j 0 ≤ (2 : Int) ^ b - 1 := by
  have h1 := all_at [] hd h
  simp only [rowB, Bool.and_eq_true, beq_iff_eq] at h1
  exact ⟨h1.1, fun j hj => AllIn.allInB_true h1.2 j (by omega)⟩
end Go.Proofs.YtionognmgcabbaaGreat.Shift
/- Cuts of points: whether they are some, of the program and of the reference; the counts of boxes. -/
namespace Go.Proofs.YtionognmgcabbaaGreat.Cuts
open Go.RowKit Go.Proofs.YtionognmgcabbaaGreat Go.Proofs.YtionognmgcabbaaGreat.Base Go.Proofs.YtionognmgcabbaaGreat.Mem Go.Proofs.YtionognmgcabbaaGreat.AllIn Go.Proofs.YtionognmgcabbaaGreat.Pts Go.Proofs.YtionognmgcabbaaGreat.RevNet Go.Proofs.YtionognmgcabbaaGreat.Bits
set_option linter.unusedVariables false
def sumTo (ys : List Int) : Nat → Int
  | 0 => 0
  | d + 1 => sumTo ys d + ys.getD d 0
theorem sumTo_bd {ys : List Int} {hi : Int} (h : ∀ i, i < ys.length → 0 ≤ ys.getD i 0 ∧ ys.getD i 0 ≤ hi) : ∀ d, d ≤ ys.length → 0 ≤ sumTo ys d ∧ sumTo ys d ≤ d * hi
  | 0, _ => by simp [sumTo]
  | d + 1, hd => by
    have h1 := sumTo_bd h d (by omega)
    have h2 := h d (by omega)
    have e : ((d + 1 : Nat) : Int) * hi = d * hi + hi := by rw [Int.natCast_add, Int.add_mul]; simp
    rw [sumTo, e]; omega
theorem sumTo_mono {ys : List Int} (h : ∀ i, i < ys.length → 0 ≤ ys.getD i 0) : ∀ d e, d ≤ e → e ≤ ys.length → sumTo ys d ≤ sumTo ys e
  | d, 0, h1, _ => by
    obtain rfl : d = 0 := by omega
    exact Int.le_refl _
  | d, e + 1, h1, h2 => by
    rcases Nat.lt_or_ge e d with hlt | hge
    · obtain rfl : d = e + 1 := by omega
      exact Int.le_refl _
    · have := sumTo_mono h d e hge (by omega)
      have := h e (by omega)
      rw [sumTo]; omega
def cutsB (xss : List (List Int)) (bits : Int) (ys : List Int) : Bool := ptsB xss bits && (ys.length == (xss.getD 0 []).length && (allInB ys 0 bits && decide (sumTo ys ys.length ≤ 6)))
theorem cutsB_true {xss : List (List Int)} {bits : Int} {ys : List Int} (h : cutsB xss bits ys = true) : ptsB xss bits = true ∧ ys.length = (xss.getD 0 []).length ∧ allInB ys 0 bits = true ∧ sumTo ys ys.length ≤ 6 := by
  simp only [cutsB, Bool.and_eq_true, beq_iff_eq, decide_eq_true_eq] at h
  exact h
end Go.Proofs.YtionognmgcabbaaGreat.Cuts
/- Numbers inverted at the point: the reference. -/
namespace Go.Proofs.YtionognmgcabbaaGreat.Inv
open Go.RowKit Go.Proofs.YtionognmgcabbaaGreat Go.Proofs.YtionognmgcabbaaGreat.Base Go.Proofs.YtionognmgcabbaaGreat.Mem
set_option linter.unusedVariables false
/-- the digits of a number, the least one first, as a value and a unit -/
def invs (b n v u : Nat) : Nat × Nat := if h : 0 < n ∧ 2 ≤ b then invs b (n / b) (v * b + n % b) (u * b) else (v, u)
termination_by n
decreasing_by exact Nat.div_lt_self h.1 h.2
theorem invs_step {b n v u : Nat} (h : 0 < n) (hb : 2 ≤ b) : invs b (n / b) (v * b + n % b) (u * b) = invs b n v u := by
  conv => rhs; rw [invs]
  rw [dif_pos ⟨h, hb⟩]
theorem invs_done {b v u : Nat} : invs b 0 v u = (v, u) := by rw [invs]; simp
/-- a state on the way -/
def InvSt (b n v u x y : Nat) : Prop := invs b n v u = (x, y) ∧ u * n ≤ 1000000 ∧ u ≤ 36000000 ∧ v < u
theorem InvSt.next {b n v u x y : Nat} (h : InvSt b n v u x y) (hn : 0 < n) (hb : 2 ≤ b) (hb' : b ≤ 36) : InvSt b (n / b) (v * b + n % b) (u * b) x y := by
  obtain ⟨h1, h2, h3, h4⟩ := h
  have hu : u ≤ 1000000 := Nat.le_trans (Nat.le_mul_of_pos_right u hn) h2
  refine ⟨by rw [invs_step hn hb]; exact h1, ?_, ?_, ?_⟩
  · rw [Nat.mul_assoc]
    exact Nat.le_trans (Nat.mul_le_mul_left u (Nat.mul_div_le n b)) h2
  · have := Nat.mul_le_mul hu hb'
    omega
  · have h5 := Nat.mul_le_mul_right b (show v + 1 ≤ u from h4)
    have h6 := Nat.mod_lt n (show b > 0 by omega)
    rw [Nat.add_mul] at h5
    omega
theorem InvSt.small {b n v u x y : Nat} (h : InvSt b n v u x y) (hn : 0 < n) : u ≤ 1000000 := Nat.le_trans (Nat.le_mul_of_pos_right u hn) h.2.1
def invV (n b : Nat) : Nat := (invs b n 0 1).1
def invU (n b : Nat) : Nat := (invs b n 0 1).2
theorem InvSt.start {n b : Nat} (h : n ≤ 1000000) : InvSt b n 0 1 (invV n b) (invU n b) := ⟨rfl, by omega, by omega, by omega⟩
theorem InvSt.done {b v u x y : Nat} (h : InvSt b 0 v u x y) : v = x ∧ u = y ∧ x < y ∧ y ≤ 36000000 := by
  obtain ⟨h1, h2, h3, h4⟩ := h
  rw [invs_done] at h1
  injection h1 with e1 e2
  subst e1 e2
  exact ⟨rfl, rfl, h4, h3⟩
theorem two_cells {w : World} {b : Nat} {v0 v1 u0 u1 : Value} (h0 : w.cell? ⟨b, 0, none⟩ = some u0) (h1 : w.cell? ⟨b, 1, none⟩ = some u1) :
    (w.setCell ⟨b, 0, none⟩ v0).cell? ⟨b, 0, none⟩ = some v0 ∧ ((w.setCell ⟨b, 0, none⟩ v0).setCell ⟨b, 1, none⟩ v1).cell? ⟨b, 0, none⟩ = some v0 ∧ ((w.setCell ⟨b, 0, none⟩ v0).setCell ⟨b, 1, none⟩ v1).cell? ⟨b, 1, none⟩ = some v1 := by
  have e1 := World.cell?_setCell_same _ _ v0 h0
  refine ⟨e1, ?_, ?_⟩
  · rw [World.cell?_setCell_other _ _ _ _ (by simp)]; exact e1
  · exact World.cell?_setCell_same _ _ _ (by rw [World.cell?_setCell_other _ _ _ _ (by simp)]; exact h1)
/-- which arguments are served -/
def invB (n b : Int) : Bool := inR n 0 1000000 && inR b 2 36
theorem invB_true {n b : Int} (h : invB n b = true) : 0 ≤ n ∧ n ≤ 1000000 ∧ 2 ≤ b ∧ b ≤ 36 := by
  simp [invB, inR] at h
  omega
/-- a fraction in its lowest form -/
def fracV (v u : Nat) : Value := .agg #[.int .i64 ((v / Nat.gcd v u : Nat) : Int), .int .i64 ((u / Nat.gcd v u : Nat) : Int)]
def numOf (n b : Int) : Int := if invB n b = true then ((invV n.toNat b.toNat / Nat.gcd (invV n.toNat b.toNat) (invU n.toNat b.toNat) : Nat) : Int) else 0
def denOf (n b : Int) : Int := if invB n b = true then ((invU n.toNat b.toNat / Nat.gcd (invV n.toNat b.toNat) (invU n.toNat b.toNat) : Nat) : Int) else 0
theorem l00Max_any (v : Nat) (hv : v ≤ 36000000) (w : World) : Calls Tryz.prog 133 #[.int .i64 (v : Int), .int .i64 (-(v : Int))] w fun e w' => e = .returned (.int .i64 (v : Int)) ∧ w = w' := by
  by_cases h : 0 < v
  · go_enter Tryz.func133, Tryz.ntmps133
    go_wp2
    go_ret
    exact ⟨rfl, rfl⟩
  · obtain rfl : v = 0 := by omega
    go_enter Tryz.func133, Tryz.ntmps133
    go_wp2
    go_ret
    exact ⟨rfl, rfl⟩
theorem l01Gcd_any (x y : Nat) (hx : x ≤ 36000000) (hy : y ≤ 36000000) (w : World) : Calls Tryz.prog 134 #[.int .i64 (x : Int), .int .i64 (y : Int)] w fun e w' => e = .returned (.int .i64 ((Nat.gcd x y : Nat) : Int)) ∧ w = w' := by
  go_enter Tryz.func134, Tryz.ntmps134
  go_wp2
  go_loop [0, 1] (fun av bv => ∃ p q : Nat, av = .int .i64 (p : Int) ∧ bv = .int .i64 (q : Int) ∧ p ≤ 36000000 ∧ q ≤ 36000000 ∧ Hid (Nat.gcd p q = Nat.gcd x y)) (fun _ bv => (intOf bv).toNat)
  case atStart => exact ⟨x, y, rfl, rfl, hx, hy, Lib.hid rfl⟩
  case round =>
    obtain ⟨p, q, rfl, rfl, hp, hq, hg⟩ := hrel
    by_cases hpos : 0 < q
    · have hlt := Nat.mod_lt p hpos
      have hG : Hid (Nat.gcd q (p % q) = Nat.gcd x y) := Lib.hid (by rw [← hg.out, Nat.gcd_comm q, ← Nat.gcd_rec, Nat.gcd_comm])
      have e1 : (p : Int) % (q : Int) = ((p % q : Nat) : Int) := by simp
      clear hg
      generalize p % q = m at *
      go_wp2
      go_round
      case rel => exact ⟨q, m, rfl, by rw [e1], hq, by omega, hG⟩
      case measure => simp [intOf]; omega
    · obtain rfl : q = 0 := by omega
      have hG := hg.out
      rw [Nat.gcd_zero_right] at hG
      go_wp2
      go_ret
      exact ⟨by rw [← hG]; rfl, rfl⟩
theorem fMake_any (v u : Nat) (hv : v < u) (hu : u ≤ 36000000) (w : World) : Calls Tryz.prog 68 #[.int .i64 (v : Int), .int .i64 (u : Int)] w fun e w' => e = .returned (fracV v u) ∧ Below w.heap.size w w' := by
  have hg0 : 0 < Nat.gcd v u := Nat.gcd_pos_of_pos_right v (by omega)
  have hg1 : Nat.gcd v u ≤ u := Nat.gcd_le_right v (by omega)
  have e1 : (v : Int) / ((Nat.gcd v u : Nat) : Int) = ((v / Nat.gcd v u : Nat) : Int) := by simp
  have e2 : (u : Int) / ((Nat.gcd v u : Nat) : Int) = ((u / Nat.gcd v u : Nat) : Int) := by simp
  have b1 : v / Nat.gcd v u ≤ v := Nat.div_le_self _ _
  have b2 : u / Nat.gcd v u ≤ u := Nat.div_le_self _ _
  have HM := Lib.hid (fun W => l00Max_any v (by omega) W)
  have HG := Lib.hid (fun W => l01Gcd_any v u (by omega) hu W)
  unfold fracV
  generalize v / Nat.gcd v u = N at *
  generalize u / Nat.gcd v u = D at *
  generalize Nat.gcd v u = G at *
  go_enter Tryz.func68, Tryz.ntmps68
  go_wp2_with fail
  refine (HM.out _).mono ?_
  rintro e w1 ⟨rfl, rfl⟩
  go_wp2_with fail
  refine (HG.out _).mono ?_
  rintro e w1 ⟨rfl, rfl⟩
  go_wp2
  go_region
  go_wp2
  refine bodyPost_ret (v := .agg #[.int .i64 (N : Int), .int .i64 (D : Int)]) (by simp [results, Tryz.results68, go_sem]) rfl ⟨rfl, ?_⟩
  exact ((Below.refl _ _).alloc (Nat.le_refl _) _).drew
end Go.Proofs.YtionognmgcabbaaGreat.Inv
/- Naturals by their digits to the base 2^32. -/
namespace Go.Proofs.YtionognmgcabbaaGreat.NatM
set_option linter.unusedVariables false
def B32 : Nat := 4294967296
def val : List Nat → Nat
  | [] => 0
  | x :: xs => x + B32 * val xs
def okN (xs : List Nat) : Prop := ∀ x ∈ xs, x < B32
theorem val_append : ∀ (xs ys : List Nat), val (xs ++ ys) = val xs + B32 ^ xs.length * val ys
  | [], ys => by simp [val]
  | x :: xs, ys => by
    rw [List.cons_append, val, val, val_append xs ys, List.length_cons, Nat.pow_succ, Nat.mul_add, ← Nat.mul_assoc, Nat.mul_comm B32 (B32 ^ xs.length), Nat.add_assoc]
theorem val_lt : ∀ (xs : List Nat), okN xs → val xs < B32 ^ xs.length
  | [], _ => by simp [val]
  | x :: xs, h => by
    have h1 := val_lt xs fun y hy => h y (by simp [hy])
    have h2 := h x (by simp)
    rw [val, List.length_cons, Nat.pow_succ, Nat.mul_comm (B32 ^ xs.length)]
    have h3 : val xs + 1 ≤ B32 ^ xs.length := h1
    have h4 := Nat.mul_le_mul_left B32 h3
    rw [Nat.mul_add] at h4
    omega
/-- the digits of a number, the last one not 0 -/
def natL (x : Nat) : List Nat := if h : x = 0 then [] else x % B32 :: natL (x / B32)
termination_by x
decreasing_by exact Nat.div_lt_self (Nat.pos_of_ne_zero h) (by decide)
theorem natL_zero : natL 0 = [] := by rw [natL]; simp
theorem natL_pos {x : Nat} (h : x ≠ 0) : natL x = x % B32 :: natL (x / B32) := by
  conv => lhs; rw [natL]
  simp [h]
theorem natL_val (x : Nat) : val (natL x) = x := by
  induction x using Nat.strongRecOn with
  | _ x ih =>
    by_cases h : x = 0
    · subst h; rw [natL_zero]; rfl
    · rw [natL_pos h, val, ih (x / B32) (Nat.div_lt_self (Nat.pos_of_ne_zero h) (by decide))]
      exact Nat.mod_add_div x B32
theorem natL_ok (x : Nat) : okN (natL x) := by
  induction x using Nat.strongRecOn with
  | _ x ih =>
    by_cases h : x = 0
    · subst h; rw [natL_zero]; intro y hy; cases hy
    · rw [natL_pos h]
      intro y hy
      rcases List.mem_cons.1 hy with rfl | hy
      · exact Nat.mod_lt _ (by decide)
      · exact ih (x / B32) (Nat.div_lt_self (Nat.pos_of_ne_zero h) (by decide)) y hy
/-- the last digit is not 0 -/
def canon (xs : List Nat) : Prop := okN xs ∧ ∀ n, xs.length = n + 1 → xs.getD n 0 ≠ 0
theorem okN_cons {x : Nat} {xs : List Nat} (h : okN (x :: xs)) : okN xs := fun y hy => h y (by simp [hy])
theorem canon_natL : ∀ {xs : List Nat}, canon xs → natL (val xs) = xs
  | [], _ => natL_zero
  | x :: xs, h => by
    have hx := h.1 x (by simp)
    have hc : canon xs := ⟨okN_cons h.1, fun n hn => by have := h.2 (n + 1) (by simp [hn]); simpa [List.getD] using this⟩
    have hne : val (x :: xs) ≠ 0 := by
      intro h0
      rw [val] at h0
      rcases xs with _ | ⟨y, ys⟩
      · have := h.2 0 rfl
        simp [List.getD] at this
        omega
      · have hy : val (y :: ys) = 0 := by
          have : B32 * val (y :: ys) = 0 := by omega
          rcases Nat.mul_eq_zero.1 this with h1 | h1
          · exact absurd h1 (by decide)
          · exact h1
        have e := canon_natL hc
        rw [hy, natL_zero] at e
        cases e
    rw [natL_pos hne]
    have hm : val (x :: xs) % B32 = x := by rw [val, Nat.add_mul_mod_self_left, Nat.mod_eq_of_lt hx]
    have hd : val (x :: xs) / B32 = val xs := by rw [val, Nat.add_mul_div_left _ _ (by decide : 0 < B32), Nat.div_eq_of_lt hx, Nat.zero_add]
    rw [hm, hd, canon_natL hc]
theorem natL_canon (x : Nat) : canon (natL x) := by
  refine ⟨natL_ok x, ?_⟩
  induction x using Nat.strongRecOn with
  | _ x ih =>
    intro n hn
    by_cases h : x = 0
    · subst h; rw [natL_zero] at hn; cases hn
    · rw [natL_pos h] at hn ⊢
      have hlt := Nat.div_lt_self (Nat.pos_of_ne_zero h) (show 1 < B32 by decide)
      rcases n with _ | n
      · simp only [List.length_cons] at hn
        have h0 : (natL (x / B32)).length = 0 := by omega
        have h1 : natL (x / B32) = [] := List.eq_nil_of_length_eq_zero h0
        have h2 : x / B32 = 0 := by rw [← natL_val (x / B32), h1]; rfl
        have h3 := Nat.mod_add_div x B32
        rw [h2] at h3
        simp [List.getD]
        omega
      · have := ih (x / B32) hlt n (by simp only [List.length_cons] at hn; omega)
        simpa [List.getD] using this
theorem okN_take {xs : List Nat} (h : okN xs) (n : Nat) : okN (xs.take n) := fun y hy => h y (List.mem_of_mem_take hy)
theorem val_snoc (xs : List Nat) (y : Nat) : val (xs ++ [y]) = val xs + B32 ^ xs.length * y := by
  rw [val_append]; simp [val]
theorem val_take_succ (xs : List Nat) (k : Nat) (h : k < xs.length) : val (xs.take (k + 1)) = val (xs.take k) + B32 ^ k * xs.getD k 0 := by
  rw [List.take_succ_eq_append_getElem h, val_snoc, List.length_take, Nat.min_eq_left (Nat.le_of_lt h)]
  simp [List.getD, h]
/-- trimming: the digits behind n are 0 -/
theorem trim_done {xs : List Nat} {n : Nat} (hok : okN xs) (hn : n ≤ xs.length) (hv : val (xs.take n) = val xs) (hl : n = 0 ∨ xs.getD (n - 1) 0 ≠ 0) : xs.take n = natL (val xs) := by
  rw [← hv]
  refine (canon_natL ⟨okN_take hok n, fun m hm => ?_⟩).symm
  rw [List.length_take, Nat.min_eq_left hn] at hm
  rcases hl with h0 | h0
  · omega
  · have e : n - 1 = m := by omega
    rw [e] at h0
    have : (xs.take n).getD m 0 = xs.getD m 0 := by simp [List.getD, show m < n by omega]
    rw [this]; exact h0
theorem trim_step {xs : List Nat} {n : Nat} (hn : n + 1 ≤ xs.length) (hv : val (xs.take (n + 1)) = val xs) (h0 : xs.getD n 0 = 0) : val (xs.take n) = val xs := by
  rw [val_take_succ xs n (by omega), h0] at hv
  omega
/-- numbers of the same length compare as their first digits that differ, from the last one on -/
theorem val_cmp {xs ys : List Nat} (hl : xs.length = ys.length) (hx : okN xs) (hy : okN ys) : ∀ (n : Nat), n ≤ xs.length → (∀ j, n ≤ j → j < xs.length → xs.getD j 0 = ys.getD j 0) → (val xs < val ys ↔ val (xs.take n) < val (ys.take n)) ∧ (val xs = val ys ↔ val (xs.take n) = val (ys.take n)) := by
  intro n hn
  obtain ⟨d, hd⟩ : ∃ d, xs.length = n + d := ⟨xs.length - n, by omega⟩
  induction d generalizing n with
  | zero =>
    intro _
    rw [List.take_of_length_le (by omega), List.take_of_length_le (by omega)]
    exact ⟨Iff.rfl, Iff.rfl⟩
  | succ d ih =>
    intro he
    have h1 := ih (n + 1) (by omega) (by omega) (fun j hj hj2 => he j (by omega) hj2)
    have e := he n (Nat.le_refl _) (by omega)
    rw [val_take_succ xs n (by omega), val_take_succ ys n (by omega), e] at h1
    refine ⟨h1.1.trans ?_, h1.2.trans ?_⟩ <;> omega
theorem cmp_lt {xs ys : List Nat} (hl : xs.length = ys.length) (hx : okN xs) (hy : okN ys) {n : Nat} (hn : n < xs.length) (he : ∀ j, n + 1 ≤ j → j < xs.length → xs.getD j 0 = ys.getD j 0) (h : xs.getD n 0 < ys.getD n 0) : val xs < val ys := by
  refine (val_cmp hl hx hy (n + 1) (by omega) he).1.2 ?_
  rw [val_take_succ xs n hn, val_take_succ ys n (by omega)]
  have h1 := val_lt _ (okN_take hx n)
  rw [List.length_take, Nat.min_eq_left (by omega)] at h1
  have h2 := Nat.mul_le_mul_left (B32 ^ n) (show xs.getD n 0 + 1 ≤ ys.getD n 0 from h)
  rw [Nat.mul_add, Nat.mul_one] at h2
  omega
/-- more digits, a greater number -/
theorem natL_len_lt {x y : Nat} (h : (natL x).length < (natL y).length) : x < y := by
  have h1 := val_lt _ (natL_ok x)
  rw [natL_val] at h1
  obtain ⟨n, hn⟩ : ∃ n, (natL y).length = n + 1 := ⟨(natL y).length - 1, by omega⟩
  have h2 := (natL_canon y).2 n hn
  have h3 := val_take_succ (natL y) n (by omega)
  rw [List.take_of_length_le (by omega), natL_val] at h3
  have h4 : B32 ^ (natL x).length ≤ B32 ^ n := Nat.pow_le_pow_right (by decide) (by omega)
  have h5 : B32 ^ n * 1 ≤ B32 ^ n * (natL y).getD n 0 := Nat.mul_le_mul_left _ (by omega)
  omega
theorem natL_len_le {x k : Nat} (h : x < B32 ^ k) : (natL x).length ≤ k := by
  rcases Nat.lt_or_ge k (natL x).length with hl | hl
  · obtain ⟨n, hn⟩ : ∃ n, (natL x).length = n + 1 := ⟨(natL x).length - 1, by omega⟩
    have h2 := (natL_canon x).2 n hn
    have h3 := val_take_succ (natL x) n (by omega)
    rw [List.take_of_length_le (by omega), natL_val] at h3
    have h4 : B32 ^ k ≤ B32 ^ n := Nat.pow_le_pow_right (by decide) (by omega)
    have h5 : B32 ^ n * 1 ≤ B32 ^ n * (natL x).getD n 0 := Nat.mul_le_mul_left _ (by omega)
    omega
  · exact hl
end Go.Proofs.YtionognmgcabbaaGreat.NatM
