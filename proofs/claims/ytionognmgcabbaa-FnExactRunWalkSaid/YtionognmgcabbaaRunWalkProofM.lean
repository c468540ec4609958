/- 'FnExactRunWalk' returns true for every input: the law's contract is brought into the row's form. No condition. -/
import Derived.Test.YtionognmgcabbaaMgRun22
import Derived.Test.YtionognmgcabbaaMgRun01
import Derived.ProofKit
import Derived.OpenShut
namespace Go.Proofs.Ytionognmgcabbaa.fnExactRunWalk
open Go.ChangeShapes Go.WideShapes Go.ChangeAt Go.RowKit Go.Joins Go.Proofs.Ytionognmgcabbaa
set_option linter.unusedVariables false

set_option maxRecDepth 100000 in
theorem lifted (os : Os) (started : os.Started) (H : Type) (enc : TypeId × Value → H) :
    ReturnsInHanded {} Try.checked os 3 .any (Rows.fnExactRunWalkSpec.pre6 enc Try.prog Try.f3 Rows.fnExactRunWalkRow.domain false) (Rows.fnExactRunWalkSpec.post enc Try.prog Try.f3 false true false false) := by
  refine returnsInHanded_of_change (C := Try.checked) Frame.own started (by kernel_rfl) Try.func3
    (ChangeSpec.witness6 (enc := enc) (C := Try.checked) false ⟨#[], #[.agg #[.slice none 0 0], .slice none 0 0, .int .i64 0], []⟩ 8 (by kernel_rfl) (by kernel_rfl) (by kernel_rfl) (by kernel_rfl)) ?_
  intro W base args ds gs before hval0 hW hcnd _
  have hval : ∀ (j : Nat) t v, Try.f3.params[j]? = some t → args[j]? = some v → Value.okWide Try.prog W .any base t v := hval0
  have hW' := hW
  obtain ⟨p, q, hA0, hV, rfl, hfz, hnd⟩ := hW
  have hA : DataW.TrodAll enc Try.prog W 0 (fun _ => true) true Try.f3.params.toList args.toList ds p := hA0
  obtain ⟨rfl, rfl⟩ := trodVars_none hV
  simp only [List.append_nil] at hW'
  have hpost : ∀ W' : World, (Rows.fnExactRunWalkSpec.fn H (ds ++ [])).args = ds → (Rows.fnExactRunWalkSpec.fn H (ds ++ [])).vars = [] → (Rows.fnExactRunWalkSpec.fn H (ds ++ [])).results = [.lit (.bool true)] → Below W.heap.size W W' → Rows.fnExactRunWalkSpec.post enc Try.prog Try.f3 false true false false W args (.bool true) W' :=
    fun W' ha hv hr hb => Frame.post_below rfl Frame.laidOut (by kernel_rfl) hW' hA ha hv (fun _ _ _ => by rw [hr]; exact trodAll_cons_mk (shut_bool Try.underlying4 _) trodAll_mk0) hb
  rw [Try.params3] at hA hval
  obtain ⟨v0, vs0, d0, ds0, p0, q0, hargs, rfl, rfl, h0, r0⟩ := trodAll_cons hA
  obtain ⟨v1, vs1, d1, ds1, p1, q1, rfl, rfl, rfl, h1, r1⟩ := trodAll_cons r0
  obtain ⟨v2, vs2, d2, ds2, p2, q2, rfl, rfl, rfl, h2, r2⟩ := trodAll_cons r1
  obtain ⟨rfl, rfl, rfl⟩ := trodAll_nil r2
  obtain rfl : args = #[v0, v1, v2] := by cases args; simp_all
  replace hpost := fun W' => hpost W' rfl rfl rfl
  have w0 := Open.walk (hval 0 _ v0 rfl rfl) h0
  have w1 := Open.fracs (hval 1 _ v1 rfl rfl) h1
  obtain ⟨a2, rfl, _, _, w2⟩ := open_int Try.underlying2 (hval 2 _ v2 rfl rfl) h2
  clear hA0 hval0 hval
  refine ((fun h h2 a _ _ => RunL.exactRun_v h h2 a) w0 w1 a2 w2 W).mono fun e W' ⟨he, hg⟩ => ?_
  subst he
  exact ⟨_, rfl, hpost W' hg⟩

theorem over : Rows.fnExactRunWalkRow.holds Try.pinned (OpenSpec.ofChange Rows.fnExactRunWalkSpec) :=
  OpenClaim.holds_of_wide 3 Try.f3 rfl rfl rfl rfl rfl rfl rfl ⟨rfl, rfl, rfl, rfl, rfl⟩ rfl rfl rfl rfl rfl (by kernel_rfl) Try.func3 (by kernel_rfl)
    (of_decide_eq_true (by kernel_rfl)) (by unfold Func.isWrapper; first | (rw [if_pos (by decide +kernel)]; kernel_rfl) | (rw [if_neg (by decide +kernel)]; exact ⟨rfl, rfl⟩))
    (fun os started H enc _ => lifted os started H enc)

theorem proved : Rows.FnExactRunWalkSaid := over
#print axioms proved
end Go.Proofs.Ytionognmgcabbaa.fnExactRunWalk
