/-
  No cell of these rows narrows 'for every input' (looked for: loops, veiled, ifaces, maps, wideKeys, modest, calm, conditions, laid).
  DERIVED. THE GIVEN ROWS OF THIS SEAT. 8 by the template 'for every input the law returns true; each argument reads behind the call as it read before'; 0 by the template 'total and deterministic' (their statements: YtionognmgcabbaaGreatTotals.lean).
  GIVEN WITH THE SEED: the statements are not yours to turn. If you find one false, say at which input.
  Laid BY PROGRAM, IN A SANDBOX (cutbox-rows.mjs): the forced cells as the released guide's own fill.sh prints them over the translation d3512c6eac53e8ab… (all of the seat's roots in one cut). By AI agents, Wed Nov 11 2026. No macro, syntax, notation, axiom, sorry.
-/
import Derived.Test.YtionognmgcabbaaGreatChecked
import GoSem.Claim
import GoSem.ClaimJoined
import GoSem.ClaimMapViews
import Derived.JoinedTies
import Derived.KernelRfl
namespace Go.Proofs.YtionognmgcabbaaGreat
/- THE CELL 'sum', in the pinned program and in every row, IS THE sha256 OF THE DUMP (.gsa) THAT YtionognmgcabbaaGreatProg.lean LOADS. Nothing in Lean hashes anything: it is a label: what it is worth is what the hold of that sum in a sandbox is worth. -/
noncomputable def Tryz.pinned : Pinned := { name := "ytionognmgcabbaagreat", sum := "d3512c6eac53e8ab823ddd5eea7c2741feebf14d40ad76ee0286becf56d8d8f9", checked := Tryz.checked }
namespace Rows
def none {H : Type} : Left H := { results := [], args := [] }

/-- 'laws.FnExactStepWalk': WHATEVER THE INPUT: true; the input reads as it did. -/
def fnExactStepWalkSpec : ChangeSpec := { name := "fnExactStepWalk", fn := fun _ => fun
  | [d1, d2] => { results := [.lit (.bool true)], args := [d1, d2] }
  | _ => none }
def fnExactStepWalkRow : OpenClaim := { program := "ytionognmgcabbaagreat", sum := "d3512c6eac53e8ab823ddd5eea7c2741feebf14d40ad76ee0286becf56d8d8f9", func := "loop.example/g01121/laws.FnExactStepWalk", spec := "fnExactStepWalk", unfollowed := true, recurses := true, apart := false }
def FnExactStepWalkSaid : Prop := fnExactStepWalkRow.holds Tryz.pinned (OpenSpec.ofChange fnExactStepWalkSpec)

/-- ITS FALSE NEIGHBOUR: 'it returns false'. Refute it at one input. -/
def fnExactStepWalkWrong : ChangeSpec := { name := "fnExactStepWalk", fn := fun _ => fun
  | [d1, d2] => { results := [.lit (.bool false)], args := [d1, d2] }
  | _ => none }
def FnExactStepWalkWrongFalsely : Prop := fnExactStepWalkRow.holds Tryz.pinned (OpenSpec.ofChange fnExactStepWalkWrong)

/-- 'laws.FnExactExtractDistance': WHATEVER THE INPUT: true; the input reads as it did. -/
def fnExactExtractDistanceSpec : ChangeSpec := { name := "fnExactExtractDistance", fn := fun _ => fun
  | [d1, d2] => { results := [.lit (.bool true)], args := [d1, d2] }
  | _ => none }
def fnExactExtractDistanceRow : OpenClaim := { program := "ytionognmgcabbaagreat", sum := "d3512c6eac53e8ab823ddd5eea7c2741feebf14d40ad76ee0286becf56d8d8f9", func := "loop.example/g01121/laws.FnExactExtractDistance", spec := "fnExactExtractDistance", unfollowed := true, recurses := true, apart := false }
def FnExactExtractDistanceSaid : Prop := fnExactExtractDistanceRow.holds Tryz.pinned (OpenSpec.ofChange fnExactExtractDistanceSpec)

/-- ITS FALSE NEIGHBOUR: 'it returns false'. Refute it at one input. -/
def fnExactExtractDistanceWrong : ChangeSpec := { name := "fnExactExtractDistance", fn := fun _ => fun
  | [d1, d2] => { results := [.lit (.bool false)], args := [d1, d2] }
  | _ => none }
def FnExactExtractDistanceWrongFalsely : Prop := fnExactExtractDistanceRow.holds Tryz.pinned (OpenSpec.ofChange fnExactExtractDistanceWrong)

/-- 'laws.FnExactAverageDistance': WHATEVER THE INPUT: true; the input reads as it did. -/
def fnExactAverageDistanceSpec : ChangeSpec := { name := "fnExactAverageDistance", fn := fun _ => fun
  | [d1, d2] => { results := [.lit (.bool true)], args := [d1, d2] }
  | _ => none }
def fnExactAverageDistanceRow : OpenClaim := { program := "ytionognmgcabbaagreat", sum := "d3512c6eac53e8ab823ddd5eea7c2741feebf14d40ad76ee0286becf56d8d8f9", func := "loop.example/g01121/laws.FnExactAverageDistance", spec := "fnExactAverageDistance", unfollowed := true, recurses := true, apart := false }
def FnExactAverageDistanceSaid : Prop := fnExactAverageDistanceRow.holds Tryz.pinned (OpenSpec.ofChange fnExactAverageDistanceSpec)

/-- ITS FALSE NEIGHBOUR: 'it returns false'. Refute it at one input. -/
def fnExactAverageDistanceWrong : ChangeSpec := { name := "fnExactAverageDistance", fn := fun _ => fun
  | [d1, d2] => { results := [.lit (.bool false)], args := [d1, d2] }
  | _ => none }
def FnExactAverageDistanceWrongFalsely : Prop := fnExactAverageDistanceRow.holds Tryz.pinned (OpenSpec.ofChange fnExactAverageDistanceWrong)

/-- 'laws.FnExactBestRows': WHATEVER THE INPUT: true; the input reads as it did. -/
def fnExactBestRowsSpec : ChangeSpec := { name := "fnExactBestRows", fn := fun _ => fun
  | [d1, d2] => { results := [.lit (.bool true)], args := [d1, d2] }
  | _ => none }
def fnExactBestRowsRow : OpenClaim := { program := "ytionognmgcabbaagreat", sum := "d3512c6eac53e8ab823ddd5eea7c2741feebf14d40ad76ee0286becf56d8d8f9", func := "loop.example/g01121/laws.FnExactBestRows", spec := "fnExactBestRows", unfollowed := true, recurses := true, apart := false }
def FnExactBestRowsSaid : Prop := fnExactBestRowsRow.holds Tryz.pinned (OpenSpec.ofChange fnExactBestRowsSpec)

/-- ITS FALSE NEIGHBOUR: 'it returns false'. Refute it at one input. -/
def fnExactBestRowsWrong : ChangeSpec := { name := "fnExactBestRows", fn := fun _ => fun
  | [d1, d2] => { results := [.lit (.bool false)], args := [d1, d2] }
  | _ => none }
def FnExactBestRowsWrongFalsely : Prop := fnExactBestRowsRow.holds Tryz.pinned (OpenSpec.ofChange fnExactBestRowsWrong)

/-- 'laws.FnExactSettledOf': WHATEVER THE INPUT: true; the input reads as it did. -/
def fnExactSettledOfSpec : ChangeSpec := { name := "fnExactSettledOf", fn := fun _ => fun
  | [d] => { results := [.lit (.bool true)], args := [d] }
  | _ => none }
def fnExactSettledOfRow : OpenClaim := { program := "ytionognmgcabbaagreat", sum := "d3512c6eac53e8ab823ddd5eea7c2741feebf14d40ad76ee0286becf56d8d8f9", func := "loop.example/g01121/laws.FnExactSettledOf", spec := "fnExactSettledOf", unfollowed := true, recurses := true, apart := false }
def FnExactSettledOfSaid : Prop := fnExactSettledOfRow.holds Tryz.pinned (OpenSpec.ofChange fnExactSettledOfSpec)

/-- ITS FALSE NEIGHBOUR: 'it returns false'. Refute it at one input. -/
def fnExactSettledOfWrong : ChangeSpec := { name := "fnExactSettledOf", fn := fun _ => fun
  | [d] => { results := [.lit (.bool false)], args := [d] }
  | _ => none }
def FnExactSettledOfWrongFalsely : Prop := fnExactSettledOfRow.holds Tryz.pinned (OpenSpec.ofChange fnExactSettledOfWrong)

/-- 'laws.FnExactHittingTimes': WHATEVER THE INPUT: true; the input reads as it did. -/
def fnExactHittingTimesSpec : ChangeSpec := { name := "fnExactHittingTimes", fn := fun _ => fun
  | [d1, d2] => { results := [.lit (.bool true)], args := [d1, d2] }
  | _ => none }
def fnExactHittingTimesRow : OpenClaim := { program := "ytionognmgcabbaagreat", sum := "d3512c6eac53e8ab823ddd5eea7c2741feebf14d40ad76ee0286becf56d8d8f9", func := "loop.example/g01121/laws.FnExactHittingTimes", spec := "fnExactHittingTimes", unfollowed := true, recurses := true, apart := false }
def FnExactHittingTimesSaid : Prop := fnExactHittingTimesRow.holds Tryz.pinned (OpenSpec.ofChange fnExactHittingTimesSpec)

/-- ITS FALSE NEIGHBOUR: 'it returns false'. Refute it at one input. -/
def fnExactHittingTimesWrong : ChangeSpec := { name := "fnExactHittingTimes", fn := fun _ => fun
  | [d1, d2] => { results := [.lit (.bool false)], args := [d1, d2] }
  | _ => none }
def FnExactHittingTimesWrongFalsely : Prop := fnExactHittingTimesRow.holds Tryz.pinned (OpenSpec.ofChange fnExactHittingTimesWrong)

/-- 'laws.FnExactMixingSteps': WHATEVER THE INPUT: true; the input reads as it did. -/
def fnExactMixingStepsSpec : ChangeSpec := { name := "fnExactMixingSteps", fn := fun _ => fun
  | [d1, d2] => { results := [.lit (.bool true)], args := [d1, d2] }
  | _ => none }
def fnExactMixingStepsRow : OpenClaim := { program := "ytionognmgcabbaagreat", sum := "d3512c6eac53e8ab823ddd5eea7c2741feebf14d40ad76ee0286becf56d8d8f9", func := "loop.example/g01121/laws.FnExactMixingSteps", spec := "fnExactMixingSteps", unfollowed := true, recurses := true, apart := false }
def FnExactMixingStepsSaid : Prop := fnExactMixingStepsRow.holds Tryz.pinned (OpenSpec.ofChange fnExactMixingStepsSpec)

/-- ITS FALSE NEIGHBOUR: 'it returns false'. Refute it at one input. -/
def fnExactMixingStepsWrong : ChangeSpec := { name := "fnExactMixingSteps", fn := fun _ => fun
  | [d1, d2] => { results := [.lit (.bool false)], args := [d1, d2] }
  | _ => none }
def FnExactMixingStepsWrongFalsely : Prop := fnExactMixingStepsRow.holds Tryz.pinned (OpenSpec.ofChange fnExactMixingStepsWrong)

/-- 'laws.FnSettled': WHATEVER THE INPUT: true; the input reads as it did. -/
def fnSettledSpec : ChangeSpec := { name := "fnSettled", fn := fun _ => fun
  | [d1, d2] => { results := [.lit (.bool true)], args := [d1, d2] }
  | _ => none }
def fnSettledRow : OpenClaim := { program := "ytionognmgcabbaagreat", sum := "d3512c6eac53e8ab823ddd5eea7c2741feebf14d40ad76ee0286becf56d8d8f9", func := "loop.example/g01121/laws.FnSettled", spec := "fnSettled", unfollowed := true, recurses := true, apart := false }
def FnSettledSaid : Prop := fnSettledRow.holds Tryz.pinned (OpenSpec.ofChange fnSettledSpec)

/-- ITS FALSE NEIGHBOUR: 'it returns false'. Refute it at one input. -/
def fnSettledWrong : ChangeSpec := { name := "fnSettled", fn := fun _ => fun
  | [d1, d2] => { results := [.lit (.bool false)], args := [d1, d2] }
  | _ => none }
def FnSettledWrongFalsely : Prop := fnSettledRow.holds Tryz.pinned (OpenSpec.ofChange fnSettledWrong)

/- THE SECOND FORM. 'bulk': how many values and letters a reading holds, each counted each time it is reached (what is shared counts as often as it is met; a slice's spare places count too). A statement '..UptoSaid' is the law's where the arguments, and the package variables that the reading takes, are together of bulk at most 1048576: NARROWER than '..Said'. Prove '..Said' where nothing that the law and all that it calls make is longer than what came in: it says more and counts as full. Else prove '..UptoSaid'. A law counts once. -/
mutual
def uptoBulk {H : Type} : DataW H → Nat
  | .lit (.string bytes) => bytes.length + 1
  | .lit _ => 1
  | .nil => 1
  | .ptr d => uptoBulk d + 1
  | .slice elems spare => uptoBulkAll elems + uptoBulkAll spare + 1
  | .agg parts => uptoBulkAll parts + 1
  | .iface _ d => uptoBulk d + 1
  | .map entries => uptoBulkEntries entries + 1
  | .held _ => 1
def uptoBulkAll {H : Type} : List (DataW H) → Nat
  | [] => 0
  | d :: r => uptoBulk d + uptoBulkAll r
def uptoBulkEntries {H : Type} : List (Lit × DataW H) → Nat
  | [] => 0
  | x :: r => uptoBulkEntry x + uptoBulkEntries r
def uptoBulkEntry {H : Type} : Lit × DataW H → Nat
  | (.string bytes, d) => bytes.length + uptoBulk d + 1
  | (_, d) => uptoBulk d + 1
 end
def uptoSmall : (H : Type) → List (DataW H) → Bool := fun _ ds => decide (uptoBulkAll ds ≤ 1048576)
def OpenSpec.upto (s : _root_.Go.ChangeSpec) : _root_.Go.OpenSpec := { _root_.Go.OpenSpec.ofChange s with cond := some uptoSmall }

/-- 'laws.FnExactStepWalk', WHERE WHAT IT READS IS OF BULK AT MOST 1048576: true; the input reads as it did. -/
def fnExactStepWalkUptoRow : OpenClaim := { program := "ytionognmgcabbaagreat", sum := "d3512c6eac53e8ab823ddd5eea7c2741feebf14d40ad76ee0286becf56d8d8f9", func := "loop.example/g01121/laws.FnExactStepWalk", spec := "fnExactStepWalk", unfollowed := true, recurses := true, apart := false, narrowed := true }
def FnExactStepWalkUptoSaid : Prop := fnExactStepWalkUptoRow.holds Tryz.pinned (OpenSpec.upto fnExactStepWalkSpec)

/-- 'laws.FnExactExtractDistance', WHERE WHAT IT READS IS OF BULK AT MOST 1048576: true; the input reads as it did. -/
def fnExactExtractDistanceUptoRow : OpenClaim := { program := "ytionognmgcabbaagreat", sum := "d3512c6eac53e8ab823ddd5eea7c2741feebf14d40ad76ee0286becf56d8d8f9", func := "loop.example/g01121/laws.FnExactExtractDistance", spec := "fnExactExtractDistance", unfollowed := true, recurses := true, apart := false, narrowed := true }
def FnExactExtractDistanceUptoSaid : Prop := fnExactExtractDistanceUptoRow.holds Tryz.pinned (OpenSpec.upto fnExactExtractDistanceSpec)

/-- 'laws.FnExactAverageDistance', WHERE WHAT IT READS IS OF BULK AT MOST 1048576: true; the input reads as it did. -/
def fnExactAverageDistanceUptoRow : OpenClaim := { program := "ytionognmgcabbaagreat", sum := "d3512c6eac53e8ab823ddd5eea7c2741feebf14d40ad76ee0286becf56d8d8f9", func := "loop.example/g01121/laws.FnExactAverageDistance", spec := "fnExactAverageDistance", unfollowed := true, recurses := true, apart := false, narrowed := true }
def FnExactAverageDistanceUptoSaid : Prop := fnExactAverageDistanceUptoRow.holds Tryz.pinned (OpenSpec.upto fnExactAverageDistanceSpec)

/-- 'laws.FnExactBestRows', WHERE WHAT IT READS IS OF BULK AT MOST 1048576: true; the input reads as it did. -/
def fnExactBestRowsUptoRow : OpenClaim := { program := "ytionognmgcabbaagreat", sum := "d3512c6eac53e8ab823ddd5eea7c2741feebf14d40ad76ee0286becf56d8d8f9", func := "loop.example/g01121/laws.FnExactBestRows", spec := "fnExactBestRows", unfollowed := true, recurses := true, apart := false, narrowed := true }
def FnExactBestRowsUptoSaid : Prop := fnExactBestRowsUptoRow.holds Tryz.pinned (OpenSpec.upto fnExactBestRowsSpec)

/-- 'laws.FnExactSettledOf', WHERE WHAT IT READS IS OF BULK AT MOST 1048576: true; the input reads as it did. -/
def fnExactSettledOfUptoRow : OpenClaim := { program := "ytionognmgcabbaagreat", sum := "d3512c6eac53e8ab823ddd5eea7c2741feebf14d40ad76ee0286becf56d8d8f9", func := "loop.example/g01121/laws.FnExactSettledOf", spec := "fnExactSettledOf", unfollowed := true, recurses := true, apart := false, narrowed := true }
def FnExactSettledOfUptoSaid : Prop := fnExactSettledOfUptoRow.holds Tryz.pinned (OpenSpec.upto fnExactSettledOfSpec)

/-- 'laws.FnExactHittingTimes', WHERE WHAT IT READS IS OF BULK AT MOST 1048576: true; the input reads as it did. -/
def fnExactHittingTimesUptoRow : OpenClaim := { program := "ytionognmgcabbaagreat", sum := "d3512c6eac53e8ab823ddd5eea7c2741feebf14d40ad76ee0286becf56d8d8f9", func := "loop.example/g01121/laws.FnExactHittingTimes", spec := "fnExactHittingTimes", unfollowed := true, recurses := true, apart := false, narrowed := true }
def FnExactHittingTimesUptoSaid : Prop := fnExactHittingTimesUptoRow.holds Tryz.pinned (OpenSpec.upto fnExactHittingTimesSpec)

/-- 'laws.FnExactMixingSteps', WHERE WHAT IT READS IS OF BULK AT MOST 1048576: true; the input reads as it did. -/
def fnExactMixingStepsUptoRow : OpenClaim := { program := "ytionognmgcabbaagreat", sum := "d3512c6eac53e8ab823ddd5eea7c2741feebf14d40ad76ee0286becf56d8d8f9", func := "loop.example/g01121/laws.FnExactMixingSteps", spec := "fnExactMixingSteps", unfollowed := true, recurses := true, apart := false, narrowed := true }
def FnExactMixingStepsUptoSaid : Prop := fnExactMixingStepsUptoRow.holds Tryz.pinned (OpenSpec.upto fnExactMixingStepsSpec)

/-- 'laws.FnSettled', WHERE WHAT IT READS IS OF BULK AT MOST 1048576: true; the input reads as it did. -/
def fnSettledUptoRow : OpenClaim := { program := "ytionognmgcabbaagreat", sum := "d3512c6eac53e8ab823ddd5eea7c2741feebf14d40ad76ee0286becf56d8d8f9", func := "loop.example/g01121/laws.FnSettled", spec := "fnSettled", unfollowed := true, recurses := true, apart := false, narrowed := true }
def FnSettledUptoSaid : Prop := fnSettledUptoRow.holds Tryz.pinned (OpenSpec.upto fnSettledSpec)

end Rows
end Go.Proofs.YtionognmgcabbaaGreat
