/- The way of a stream's states: where it comes again, and which parts of it are apart. -/
import Derived.Test.YtpflbcdbmainiaaSkip
import Derived.Test.YtpflbcdbmainiaaStrCyc
import Derived.Test.YtpflbcdbmainiaaCycled
namespace Go.Proofs.Ytpflbcdbmainiaa.ApartM
open Go.Proofs.Ytpflbcdbmainiaa Go.Proofs.Ytpflbcdbmainiaa.Base Go.Proofs.Ytpflbcdbmainiaa.Str Go.Proofs.Ytpflbcdbmainiaa.CycM Go.Proofs.Ytpflbcdbmainiaa.Take
set_option linter.unusedVariables false
/-- the way of the states of a stream: by U from X, the first n states are all different, and state n is state j -/
structure Way (K W T m f a s : Int) (U : Nat → Nat) (X j n : Nat) : Prop where
  start : s = (X : Int)
  cyc : IsCyc U X j n
  small : n ≤ 200000
  pre : preS K W T m f a s = (j : Int)
  per : perS K W T m f a s = (n : Int) - j
  valid : ∀ c, streamB K W T m f a ((iter U X c : Nat) : Int) = true
  take : ∀ i c : Nat, takeX K W T m f a ((iter U X i : Nat) : Int) (c : Int) = ((iter U X (i + c) : Nat) : Int)
theorem way {K W T m f a s : Int} (hB : streamB K W T m f a s = true) : ∃ (U : Nat → Nat) (X j n : Nat), Way K W T m f a s U X j n := by
  obtain ⟨X, N, rfl, -, -, ⟨rfl, V, A, rfl, rfl, hV, hA, hX⟩ | ⟨rfl, M, F, A, rfl, rfl, rfl, h1, h2, h3, h4, h5⟩⟩ := Skip.natsN hB (c := 0) (by decide)
  · have hT : ∀ t, t < 2 ^ V → Reg.nextR V A t < 2 ^ V := fun t ht => Reg.nextR_lt ht
    have hp : 2 ^ V ≤ 2 ^ 16 := Nat.pow_le_pow_right (by decide) hV
    obtain ⟨j, n, hc⟩ := Cycled.cyc_ex hT hX
    have hn : n ≤ 2 ^ V := pigeon _ n (iter (Reg.nextR V A) X) (fun i _ => iter_lt hT hX i) hc.2.2
    have hv : ∀ c, streamB 0 V A m f a ((iter (Reg.nextR V A) X c : Nat) : Int) = true := fun c => by
      rcases streamB_true hB with ⟨-, hR⟩ | ⟨h, -⟩
      · have hy := iter_lt hT hX c
        have e : streamB 0 V A m f a ((iter (Reg.nextR V A) X c : Nat) : Int) = streamB 0 V A m f a (X : Int) := by
          unfold streamB
          rw [if_pos rfl, if_pos rfl, Jump.bothR_yes hV hA hy, Jump.bothR_yes hV hA hX]
        rw [e]; exact hB
      · omega
    have hR := Jump.bothR_yes hV hA hX
    refine ⟨_, X, j, n, rfl, hc, by omega, ?_, ?_, hv, fun i c => ?_⟩
    · rw [preS_r hB, Reg.preR_eq hR (j := j) (n := n) (by simpa using hc)]
    · rw [perS_r hB, Reg.perR_eq hR (j := j) (n := n) (by simpa using hc)]
    · rw [Skip.takeX_r, iter_add]
  · have hT : ∀ t, t < M → Cong.stepN M F A t < M := fun t ht => Nat.mod_lt _ (by omega)
    obtain ⟨j, n, hc⟩ := Cycled.cyc_ex hT h5
    have hn : n ≤ M := pigeon _ n (iter (Cong.stepN M F A) X) (fun i _ => iter_lt hT h5 i) hc.2.2
    have hv : ∀ c, streamB 1 W T M F A ((iter (Cong.stepN M F A) X c : Nat) : Int) = true := fun c => by
      have hy := iter_lt hT h5 c
      have e : streamB 1 W T M F A ((iter (Cong.stepN M F A) X c : Nat) : Int) = streamB 1 W T M F A (X : Int) := by
        unfold streamB; rw [if_neg (show ¬ (1 : Int) = 0 by decide), if_neg (show ¬ (1 : Int) = 0 by decide), if_pos rfl, if_pos rfl, Cycled.bothB_yes h1 h2 h3 h4 hy, Cycled.bothB_yes h1 h2 h3 h4 h5]
      rw [e]; exact hB
    have hR := Cycled.bothB_yes h1 h2 h3 h4 h5
    refine ⟨_, X, j, n, rfl, hc, by omega, ?_, ?_, hv, fun i c => ?_⟩
    · rw [preS_c hB, Cong.preB_eq hR (j := j) (n := n) (by simpa using hc)]
    · rw [perS_c hB, Cong.perB_eq hR (j := j) (n := n) (by simpa using hc)]
    · rw [Skip.takeX_c, iter_add]
/-- the first L states are all different -/
def Diff (U : Nat → Nat) (X L : Nat) : Prop := ∀ a b, a < b → b < L → iter U X a ≠ iter U X b
theorem Diff.zero (U : Nat → Nat) (X : Nat) : Diff U X 0 := fun _ _ _ h => absurd h (Nat.not_lt_zero _)
theorem Diff.step {U : Nat → Nat} {X i : Nat} (h : Diff U X i) (hn : ∀ k, k < i → iter U X k ≠ iter U X i) : Diff U X (i + 1) := fun a b hab hb => by
  rcases Nat.lt_or_ge b i with h1 | h1
  · exact h a b hab h1
  · obtain rfl : b = i := by omega
    exact hn a hab
theorem Way.fine {K W T m f a s : Int} {U : Nat → Nat} {X j n L : Nat} (h : Way K W T m f a s U X j n) (hd : Diff U X L) : L ≤ n := by
  rcases Nat.lt_or_ge n L with h1 | h1
  · exact absurd h.cyc.2.1 (hd j n h.cyc.1 h1)
  · exact h1
theorem Way.stop {K W T m f a s : Int} {U : Nat → Nat} {X j n L i k : Nat} (h : Way K W T m f a s U X j n) (hi : i < L) (hk : k < i) (e : iter U X k = iter U X i) : ¬ L ≤ n := fun hL =>
  h.cyc.2.2 k i hk (by omega) e
end Go.Proofs.Ytpflbcdbmainiaa.ApartM
