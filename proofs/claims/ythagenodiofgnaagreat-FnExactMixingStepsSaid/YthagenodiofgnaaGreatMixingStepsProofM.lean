/- 'FnExactMixingSteps' returns true for every input: the law's contract is brought into the row's form. No condition. -/
import Derived.Test.YthagenodiofgnaaGreatMgMix23
import Derived.Test.YthagenodiofgnaaGreatMgMix00
import Derived.ProofKit
import Derived.OpenShut
namespace Go.Proofs.YthagenodiofgnaaGreat.fnExactMixingSteps
open Go.ChangeShapes Go.WideShapes Go.ChangeAt Go.RowKit Go.Joins Go.Proofs.YthagenodiofgnaaGreat
set_option linter.unusedVariables false
set_option maxRecDepth 100000 in
theorem lifted (os : Os) (started : os.Started) (H : Type) (enc : TypeId × Value → H) :
  ReturnsInHanded {} Tryz.checked os 3 .any (Rows.fnExactMixingStepsSpec.pre6 enc Tryz.prog Tryz.f3 Rows.fnExactMixingStepsRow.domain false) (Rows.fnExactMixingStepsSpec.post enc Tryz.prog Tryz.f3 false true false false) := by
 refine returnsInHanded_of_change (C := Tryz.checked) Frame.own started (by kernel_rfl) Tryz.func3
  (ChangeSpec.witness6 (enc := enc) (C := Tryz.checked) false ⟨#[], #[.agg #[.slice none 0 0], .agg #[.int .i64 0, .int .i64 0]], []⟩ 8 (by kernel_rfl) (by kernel_rfl) (by kernel_rfl) (by kernel_rfl)) ?_
 intro W base args ds gs before hval0 hW hcnd _
 have hval : ∀ (j : Nat) t v, Tryz.f3.params[j]? = some t → args[j]? = some v → Value.okWide Tryz.prog W .any base t v := hval0
 have hW' := hW
 obtain ⟨p, q, hA0, hV, rfl, hfz, hnd⟩ := hW
 have hA : DataW.TrodAll enc Tryz.prog W 0 (fun _ => true) true Tryz.f3.params.toList args.toList ds p := hA0
 obtain ⟨rfl, rfl⟩ := trodVars_none hV
 simp only [List.append_nil] at hW'
 have hpost : ∀ W' : World, (Rows.fnExactMixingStepsSpec.fn H (ds ++ [])).args = ds → (Rows.fnExactMixingStepsSpec.fn H (ds ++ [])).vars = [] → (Rows.fnExactMixingStepsSpec.fn H (ds ++ [])).results = [.lit (.bool true)] → Below W.heap.size W W' → Rows.fnExactMixingStepsSpec.post enc Tryz.prog Tryz.f3 false true false false W args (.bool true) W' :=
  fun W' ha hv hr hb => Frame.post_below rfl Frame.laidOut (by kernel_rfl) hW' hA ha hv (fun _ _ _ => by rw [hr]; exact trodAll_cons_mk (shut_bool Tryz.underlying4 _) trodAll_mk0) hb
 rw [Tryz.params3] at hA hval
 obtain ⟨v0, vs0, d0, ds0, p0, q0, hargs, rfl, rfl, h0, r0⟩ := trodAll_cons hA
 obtain ⟨v1, vs1, d1, ds1, p1, q1, rfl, rfl, rfl, h1, r1⟩ := trodAll_cons r0
 obtain ⟨rfl, rfl, rfl⟩ := trodAll_nil r1
 obtain rfl : args = #[v0, v1] := by cases args; simp_all
 replace hpost := fun W' => hpost W' rfl rfl rfl
 have w0 := Open.walk (hval 0 _ v0 rfl rfl) h0
 obtain ⟨a1_0, a1_1, rfl⟩ := Open.s2_frac (hval 1 _ v1 rfl rfl) h1
 clear hA0 hval0 hval
 refine ((fun h a b _ => MixL.exactMix_v h a b) w0 a1_0 a1_1 W).mono fun e W' ⟨he, hg⟩ => ?_
 subst he
 exact ⟨_, rfl, hpost W' hg⟩
theorem over : Rows.fnExactMixingStepsRow.holds Tryz.pinned (OpenSpec.ofChange Rows.fnExactMixingStepsSpec) :=
 OpenClaim.holds_of_wide 3 Tryz.f3 rfl rfl rfl rfl rfl rfl rfl ⟨rfl, rfl, rfl, rfl, rfl⟩ rfl rfl rfl rfl rfl (by kernel_rfl) Tryz.func3 (by kernel_rfl)
  (of_decide_eq_true (by kernel_rfl)) (by unfold Func.isWrapper; first | (rw [if_pos (by decide +kernel)]; kernel_rfl) | (rw [if_neg (by decide +kernel)]; exact ⟨rfl, rfl⟩))
  (fun os started H enc _ => lifted os started H enc)
theorem proved : Rows.FnExactMixingStepsSaid := over
#print axioms proved
end Go.Proofs.YthagenodiofgnaaGreat.fnExactMixingSteps
