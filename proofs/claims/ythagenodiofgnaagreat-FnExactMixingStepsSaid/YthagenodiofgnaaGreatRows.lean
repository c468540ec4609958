/-
  No cell of these rows narrows 'for every input' (looked for: loops, veiled, ifaces, maps, wideKeys, modest, calm, conditions, laid).
  DERIVED. THE GIVEN ROWS OF THIS SEAT. 2 by the template 'for every input the law returns true; each argument reads behind the call as it read before'; 0 by the template 'total and deterministic' (their statements: YthagenodiofgnaaGreatTotals.lean).
  GIVEN WITH THE SEED: the statements are not yours to turn. If you find one false, say at which input.
  Laid BY PROGRAM, IN A SANDBOX (cutbox-rows.mjs): the forced cells as the released guide's own fill.sh prints them over the translation db08bf6b13d5a969… (all of the seat's roots in one cut). By AI agents, Wed Nov 11 2026. No macro, syntax, notation, axiom, sorry.
-/
import Derived.Test.YthagenodiofgnaaGreatChecked
import GoSem.Claim
import GoSem.ClaimJoined
import GoSem.ClaimMapViews
import Derived.JoinedTies
import Derived.KernelRfl
namespace Go.Proofs.YthagenodiofgnaaGreat
/- THE CELL 'sum', in the pinned program and in every row, IS THE sha256 OF THE DUMP (.gsa) THAT YthagenodiofgnaaGreatProg.lean LOADS. Nothing in Lean hashes anything: it is a label: what it is worth is what the hold of that sum in a sandbox is worth. -/
noncomputable def Tryz.pinned : Pinned := { name := "ythagenodiofgnaagreat", sum := "db08bf6b13d5a969cc659f9d6dfa672be5804ff9f93c576ebd2896f2e2178fa9", checked := Tryz.checked }
namespace Rows
def none {H : Type} : Left H := { results := [], args := [] }

/-- 'laws.FnExactMixingSteps': WHATEVER THE INPUT: true; the input reads as it did. -/
def fnExactMixingStepsSpec : ChangeSpec := { name := "fnExactMixingSteps", fn := fun _ => fun
  | [d1, d2] => { results := [.lit (.bool true)], args := [d1, d2] }
  | _ => none }
def fnExactMixingStepsRow : OpenClaim := { program := "ythagenodiofgnaagreat", sum := "db08bf6b13d5a969cc659f9d6dfa672be5804ff9f93c576ebd2896f2e2178fa9", func := "loop.example/g01121/laws.FnExactMixingSteps", spec := "fnExactMixingSteps", unfollowed := true, recurses := true, apart := false }
def FnExactMixingStepsSaid : Prop := fnExactMixingStepsRow.holds Tryz.pinned (OpenSpec.ofChange fnExactMixingStepsSpec)

/-- ITS FALSE NEIGHBOUR: 'it returns false'. Refute it at one input. -/
def fnExactMixingStepsWrong : ChangeSpec := { name := "fnExactMixingSteps", fn := fun _ => fun
  | [d1, d2] => { results := [.lit (.bool false)], args := [d1, d2] }
  | _ => none }
def FnExactMixingStepsWrongFalsely : Prop := fnExactMixingStepsRow.holds Tryz.pinned (OpenSpec.ofChange fnExactMixingStepsWrong)

/-- 'laws.FnSettled': WHATEVER THE INPUT: true; the input reads as it did. -/
def fnSettledSpec : ChangeSpec := { name := "fnSettled", fn := fun _ => fun
  | [d1, d2] => { results := [.lit (.bool true)], args := [d1, d2] }
  | _ => none }
def fnSettledRow : OpenClaim := { program := "ythagenodiofgnaagreat", sum := "db08bf6b13d5a969cc659f9d6dfa672be5804ff9f93c576ebd2896f2e2178fa9", func := "loop.example/g01121/laws.FnSettled", spec := "fnSettled", unfollowed := true, recurses := true, apart := false }
def FnSettledSaid : Prop := fnSettledRow.holds Tryz.pinned (OpenSpec.ofChange fnSettledSpec)

/-- ITS FALSE NEIGHBOUR: 'it returns false'. Refute it at one input. -/
def fnSettledWrong : ChangeSpec := { name := "fnSettled", fn := fun _ => fun
  | [d1, d2] => { results := [.lit (.bool false)], args := [d1, d2] }
  | _ => none }
def FnSettledWrongFalsely : Prop := fnSettledRow.holds Tryz.pinned (OpenSpec.ofChange fnSettledWrong)

/- THE SECOND FORM. 'bulk': how many values and letters a reading holds, each counted each time it is reached (what is shared counts as often as it is met; a slice's spare places count too). A statement '..UptoSaid' is the law's where the arguments, and the package variables that the reading takes, are together of bulk at most 1048576: NARROWER than '..Said'. Prove '..Said' where nothing that the law and all that it calls make is longer than what came in: it says more and counts as full. Else prove '..UptoSaid'. A law counts once. -/
mutual
def uptoBulk {H : Type} : DataW H → Nat
  | .lit (.string bytes) => bytes.length + 1
  | .lit _ => 1
  | .nil => 1
  | .ptr d => uptoBulk d + 1
  | .slice elems spare => uptoBulkAll elems + uptoBulkAll spare + 1
  | .agg parts => uptoBulkAll parts + 1
  | .iface _ d => uptoBulk d + 1
  | .map entries => uptoBulkEntries entries + 1
  | .held _ => 1
def uptoBulkAll {H : Type} : List (DataW H) → Nat
  | [] => 0
  | d :: r => uptoBulk d + uptoBulkAll r
def uptoBulkEntries {H : Type} : List (Lit × DataW H) → Nat
  | [] => 0
  | x :: r => uptoBulkEntry x + uptoBulkEntries r
def uptoBulkEntry {H : Type} : Lit × DataW H → Nat
  | (.string bytes, d) => bytes.length + uptoBulk d + 1
  | (_, d) => uptoBulk d + 1
 end
def uptoSmall : (H : Type) → List (DataW H) → Bool := fun _ ds => decide (uptoBulkAll ds ≤ 1048576)
def OpenSpec.upto (s : _root_.Go.ChangeSpec) : _root_.Go.OpenSpec := { _root_.Go.OpenSpec.ofChange s with cond := some uptoSmall }

/-- 'laws.FnExactMixingSteps', WHERE WHAT IT READS IS OF BULK AT MOST 1048576: true; the input reads as it did. -/
def fnExactMixingStepsUptoRow : OpenClaim := { program := "ythagenodiofgnaagreat", sum := "db08bf6b13d5a969cc659f9d6dfa672be5804ff9f93c576ebd2896f2e2178fa9", func := "loop.example/g01121/laws.FnExactMixingSteps", spec := "fnExactMixingSteps", unfollowed := true, recurses := true, apart := false, narrowed := true }
def FnExactMixingStepsUptoSaid : Prop := fnExactMixingStepsUptoRow.holds Tryz.pinned (OpenSpec.upto fnExactMixingStepsSpec)

/-- 'laws.FnSettled', WHERE WHAT IT READS IS OF BULK AT MOST 1048576: true; the input reads as it did. -/
def fnSettledUptoRow : OpenClaim := { program := "ythagenodiofgnaagreat", sum := "db08bf6b13d5a969cc659f9d6dfa672be5804ff9f93c576ebd2896f2e2178fa9", func := "loop.example/g01121/laws.FnSettled", spec := "fnSettled", unfollowed := true, recurses := true, apart := false, narrowed := true }
def FnSettledUptoSaid : Prop := fnSettledUptoRow.holds Tryz.pinned (OpenSpec.upto fnSettledSpec)

end Rows
end Go.Proofs.YthagenodiofgnaaGreat
