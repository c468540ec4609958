/- 'FnExactBestRows' returns true for every input: the law's contract is brought into the row's form. No condition. -/
import Derived.Test.YtionognmgcabbaaGreatMgBes22
import Derived.Test.YtionognmgcabbaaGreatMgBes01
import Derived.ProofKit
import Derived.OpenShut
namespace Go.Proofs.YtionognmgcabbaaGreat.fnExactBestRows
open Go.ChangeShapes Go.WideShapes Go.ChangeAt Go.RowKit Go.Joins Go.Proofs.YtionognmgcabbaaGreat
set_option linter.unusedVariables false

set_option maxRecDepth 100000 in
theorem lifted (os : Os) (started : os.Started) (H : Type) (enc : TypeId × Value → H) :
    ReturnsInHanded {} Tryz.checked os 6 .any (Rows.fnExactBestRowsSpec.pre6 enc Tryz.prog Tryz.f6 Rows.fnExactBestRowsRow.domain false) (Rows.fnExactBestRowsSpec.post enc Tryz.prog Tryz.f6 false true false false) := by
  refine returnsInHanded_of_change (C := Tryz.checked) Frame.own started (by kernel_rfl) Tryz.func6
    (ChangeSpec.witness6 (enc := enc) (C := Tryz.checked) false ⟨#[], #[.int .i64 0, .slice none 0 0], []⟩ 8 (by kernel_rfl) (by kernel_rfl) (by kernel_rfl) (by kernel_rfl)) ?_
  intro W base args ds gs before hval0 hW hcnd _
  have hval : ∀ (j : Nat) t v, Tryz.f6.params[j]? = some t → args[j]? = some v → Value.okWide Tryz.prog W .any base t v := hval0
  have hW' := hW
  obtain ⟨p, q, hA0, hV, rfl, hfz, hnd⟩ := hW
  have hA : DataW.TrodAll enc Tryz.prog W 0 (fun _ => true) true Tryz.f6.params.toList args.toList ds p := hA0
  obtain ⟨rfl, rfl⟩ := trodVars_none hV
  simp only [List.append_nil] at hW'
  have hpost : ∀ W' : World, (Rows.fnExactBestRowsSpec.fn H (ds ++ [])).args = ds → (Rows.fnExactBestRowsSpec.fn H (ds ++ [])).vars = [] → (Rows.fnExactBestRowsSpec.fn H (ds ++ [])).results = [.lit (.bool true)] → Below W.heap.size W W' → Rows.fnExactBestRowsSpec.post enc Tryz.prog Tryz.f6 false true false false W args (.bool true) W' :=
    fun W' ha hv hr hb => Frame.post_below rfl Frame.laidOut (by kernel_rfl) hW' hA ha hv (fun _ _ _ => by rw [hr]; exact trodAll_cons_mk (shut_bool Tryz.underlying4 _) trodAll_mk0) hb
  rw [Tryz.params6] at hA hval
  obtain ⟨v0, vs0, d0, ds0, p0, q0, hargs, rfl, rfl, h0, r0⟩ := trodAll_cons hA
  obtain ⟨v1, vs1, d1, ds1, p1, q1, rfl, rfl, rfl, h1, r1⟩ := trodAll_cons r0
  obtain ⟨rfl, rfl, rfl⟩ := trodAll_nil r1
  obtain rfl : args = #[v0, v1] := by cases args; simp_all
  replace hpost := fun W' => hpost W' rfl rfl rfl
  obtain ⟨a0, rfl, _, _, w0⟩ := open_int Tryz.underlying2 (hval 0 _ v0 rfl rfl) h0
  have w1 := Open.fracs (hval 1 _ v1 rfl rfl) h1
  clear hA0 hval0 hval
  refine ((fun a _ h _ => BestL.exactBest_v a h) a0 w0 w1 W).mono fun e W' ⟨he, hg⟩ => ?_
  subst he
  exact ⟨_, rfl, hpost W' hg⟩

theorem over : Rows.fnExactBestRowsRow.holds Tryz.pinned (OpenSpec.ofChange Rows.fnExactBestRowsSpec) :=
  OpenClaim.holds_of_wide 6 Tryz.f6 rfl rfl rfl rfl rfl rfl rfl ⟨rfl, rfl, rfl, rfl, rfl⟩ rfl rfl rfl rfl rfl (by kernel_rfl) Tryz.func6 (by kernel_rfl)
    (of_decide_eq_true (by kernel_rfl)) (by unfold Func.isWrapper; first | (rw [if_pos (by decide +kernel)]; kernel_rfl) | (rw [if_neg (by decide +kernel)]; exact ⟨rfl, rfl⟩))
    (fun os started H enc _ => lifted os started H enc)

theorem proved : Rows.FnExactBestRowsSaid := over
#print axioms proved
end Go.Proofs.YtionognmgcabbaaGreat.fnExactBestRows
