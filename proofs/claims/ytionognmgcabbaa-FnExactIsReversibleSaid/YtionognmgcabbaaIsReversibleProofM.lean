/- 'FnExactIsReversible' returns true for every input: the law's contract is brought into the row's form. No condition. -/
import Derived.Test.YtionognmgcabbaaMgIsR23
import Derived.Test.YtionognmgcabbaaMgIsR00
import Derived.ProofKit
import Derived.OpenShut
namespace Go.Proofs.Ytionognmgcabbaa.fnExactIsReversible
open Go.ChangeShapes Go.WideShapes Go.ChangeAt Go.RowKit Go.Joins Go.Proofs.Ytionognmgcabbaa
set_option linter.unusedVariables false

set_option maxRecDepth 100000 in
theorem lifted (os : Os) (started : os.Started) (H : Type) (enc : TypeId × Value → H) :
    ReturnsInHanded {} Try.checked os 4 .any (Rows.fnExactIsReversibleSpec.pre6 enc Try.prog Try.f4 Rows.fnExactIsReversibleRow.domain false) (Rows.fnExactIsReversibleSpec.post enc Try.prog Try.f4 false true false false) := by
  refine returnsInHanded_of_change (C := Try.checked) Frame.own started (by kernel_rfl) Try.func4
    (ChangeSpec.witness6 (enc := enc) (C := Try.checked) false ⟨#[], #[.agg #[.slice none 0 0]], []⟩ 8 (by kernel_rfl) (by kernel_rfl) (by kernel_rfl) (by kernel_rfl)) ?_
  intro W base args ds gs before hval0 hW hcnd _
  have hval : ∀ (j : Nat) t v, Try.f4.params[j]? = some t → args[j]? = some v → Value.okWide Try.prog W .any base t v := hval0
  have hW' := hW
  obtain ⟨p, q, hA0, hV, rfl, hfz, hnd⟩ := hW
  have hA : DataW.TrodAll enc Try.prog W 0 (fun _ => true) true Try.f4.params.toList args.toList ds p := hA0
  obtain ⟨rfl, rfl⟩ := trodVars_none hV
  simp only [List.append_nil] at hW'
  have hpost : ∀ W' : World, (Rows.fnExactIsReversibleSpec.fn H (ds ++ [])).args = ds → (Rows.fnExactIsReversibleSpec.fn H (ds ++ [])).vars = [] → (Rows.fnExactIsReversibleSpec.fn H (ds ++ [])).results = [.lit (.bool true)] → Below W.heap.size W W' → Rows.fnExactIsReversibleSpec.post enc Try.prog Try.f4 false true false false W args (.bool true) W' :=
    fun W' ha hv hr hb => Frame.post_below rfl Frame.laidOut (by kernel_rfl) hW' hA ha hv (fun _ _ _ => by rw [hr]; exact trodAll_cons_mk (shut_bool Try.underlying4 _) trodAll_mk0) hb
  rw [Try.params4] at hA hval
  obtain ⟨v0, vs0, d0, ds0, p0, q0, hargs, rfl, rfl, h0, r0⟩ := trodAll_cons hA
  obtain ⟨rfl, rfl, rfl⟩ := trodAll_nil r0
  obtain rfl : args = #[v0] := by cases args; simp_all
  replace hpost := fun W' => hpost W' rfl rfl rfl
  have w0 := Open.walk (hval 0 _ v0 rfl rfl) h0
  clear hA0 hval0 hval
  refine ((fun h _ => RevW.exactRev_v h) w0 W).mono fun e W' ⟨he, hg⟩ => ?_
  subst he
  exact ⟨_, rfl, hpost W' hg⟩

theorem over : Rows.fnExactIsReversibleRow.holds Try.pinned (OpenSpec.ofChange Rows.fnExactIsReversibleSpec) :=
  OpenClaim.holds_of_wide 4 Try.f4 rfl rfl rfl rfl rfl rfl rfl ⟨rfl, rfl, rfl, rfl, rfl⟩ rfl rfl rfl rfl rfl (by kernel_rfl) Try.func4 (by kernel_rfl)
    (of_decide_eq_true (by kernel_rfl)) (by unfold Func.isWrapper; first | (rw [if_pos (by decide +kernel)]; kernel_rfl) | (rw [if_neg (by decide +kernel)]; exact ⟨rfl, rfl⟩))
    (fun os started H enc _ => lifted os started H enc)

theorem proved : Rows.FnExactIsReversibleSaid := over
#print axioms proved
end Go.Proofs.Ytionognmgcabbaa.fnExactIsReversible
