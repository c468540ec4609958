/-
  No cell of these rows narrows 'for every input' (looked for: loops, veiled, ifaces, maps, wideKeys, modest, calm, conditions, laid).
  DERIVED. THE GIVEN ROWS OF THIS SEAT. 12 by the template 'for every input the law returns true; each argument reads behind the call as it read before'; 0 by the template 'total and deterministic' (their statements: YthaoopgkfhjoiaaTotals.lean).
  GIVEN WITH THE SEED: the statements are not yours to turn. If you find one false, say at which input.
  Laid BY PROGRAM, IN A SANDBOX (cutbox-rows.mjs): the forced cells as the released guide's own fill.sh prints them over the translation a005091880239cb5… (all of the seat's roots in one cut). By AI agents, Wed Nov 11 2026. No macro, syntax, notation, axiom, sorry.
-/
import Derived.Test.YthaoopgkfhjoiaaChecked
import GoSem.Claim
import GoSem.ClaimJoined
import GoSem.ClaimMapViews
import Derived.JoinedTies
import Derived.KernelRfl
namespace Go.Proofs.Ythaoopgkfhjoiaa
/- THE CELL 'sum', in the pinned program and in every row, IS THE sha256 OF THE DUMP (.gsa) THAT YthaoopgkfhjoiaaProg.lean LOADS. Nothing in Lean hashes anything: it is a label: what it is worth is what the hold of that sum in a sandbox is worth. -/
noncomputable def Try.pinned : Pinned := { name := "ythaoopgkfhjoiaa", sum := "a005091880239cb5041993eb0db627ac93e6f4244fcb513747f67a12410dde8b", checked := Try.checked }
namespace Rows
def none {H : Type} : Left H := { results := [], args := [] }

/-- 'laws.FnExactJumpRegister': WHATEVER THE INPUT: true; the input reads as it did. -/
def fnExactJumpRegisterSpec : ChangeSpec := { name := "fnExactJumpRegister", fn := fun _ => fun
  | [d1, d2, d3] => { results := [.lit (.bool true)], args := [d1, d2, d3] }
  | _ => none }
def fnExactJumpRegisterRow : OpenClaim := { program := "ythaoopgkfhjoiaa", sum := "a005091880239cb5041993eb0db627ac93e6f4244fcb513747f67a12410dde8b", func := "loop.example/g01121/laws.FnExactJumpRegister", spec := "fnExactJumpRegister", unfollowed := true, recurses := true, apart := false }
def FnExactJumpRegisterSaid : Prop := fnExactJumpRegisterRow.holds Try.pinned (OpenSpec.ofChange fnExactJumpRegisterSpec)

/-- ITS FALSE NEIGHBOUR: 'it returns false'. Refute it at one input. -/
def fnExactJumpRegisterWrong : ChangeSpec := { name := "fnExactJumpRegister", fn := fun _ => fun
  | [d1, d2, d3] => { results := [.lit (.bool false)], args := [d1, d2, d3] }
  | _ => none }
def FnExactJumpRegisterWrongFalsely : Prop := fnExactJumpRegisterRow.holds Try.pinned (OpenSpec.ofChange fnExactJumpRegisterWrong)

/-- 'laws.FnExactShiftPoints': WHATEVER THE INPUT: true; the input reads as it did. -/
def fnExactShiftPointsSpec : ChangeSpec := { name := "fnExactShiftPoints", fn := fun _ => fun
  | [d1, d2, d3] => { results := [.lit (.bool true)], args := [d1, d2, d3] }
  | _ => none }
def fnExactShiftPointsRow : OpenClaim := { program := "ythaoopgkfhjoiaa", sum := "a005091880239cb5041993eb0db627ac93e6f4244fcb513747f67a12410dde8b", func := "loop.example/g01121/laws.FnExactShiftPoints", spec := "fnExactShiftPoints", unfollowed := true, recurses := true, apart := false }
def FnExactShiftPointsSaid : Prop := fnExactShiftPointsRow.holds Try.pinned (OpenSpec.ofChange fnExactShiftPointsSpec)

/-- ITS FALSE NEIGHBOUR: 'it returns false'. Refute it at one input. -/
def fnExactShiftPointsWrong : ChangeSpec := { name := "fnExactShiftPoints", fn := fun _ => fun
  | [d1, d2, d3] => { results := [.lit (.bool false)], args := [d1, d2, d3] }
  | _ => none }
def FnExactShiftPointsWrongFalsely : Prop := fnExactShiftPointsRow.holds Try.pinned (OpenSpec.ofChange fnExactShiftPointsWrong)

/-- 'laws.FnRegisterSteps': WHATEVER THE INPUT: true; the input reads as it did. -/
def fnRegisterStepsSpec : ChangeSpec := { name := "fnRegisterSteps", fn := fun _ => fun
  | [d1, d2] => { results := [.lit (.bool true)], args := [d1, d2] }
  | _ => none }
def fnRegisterStepsRow : OpenClaim := { program := "ythaoopgkfhjoiaa", sum := "a005091880239cb5041993eb0db627ac93e6f4244fcb513747f67a12410dde8b", func := "loop.example/g01121/laws.FnRegisterSteps", spec := "fnRegisterSteps", inPlace := ["internal/abi.NoEscape"], unfollowed := true, recurses := true, apart := false }
def FnRegisterStepsSaid : Prop := fnRegisterStepsRow.holds Try.pinned (OpenSpec.ofChange fnRegisterStepsSpec)

/-- ITS FALSE NEIGHBOUR: 'it returns false'. Refute it at one input. -/
def fnRegisterStepsWrong : ChangeSpec := { name := "fnRegisterSteps", fn := fun _ => fun
  | [d1, d2] => { results := [.lit (.bool false)], args := [d1, d2] }
  | _ => none }
def FnRegisterStepsWrongFalsely : Prop := fnRegisterStepsRow.holds Try.pinned (OpenSpec.ofChange fnRegisterStepsWrong)

/-- 'laws.FnExactBoxCounts': WHATEVER THE INPUT: true; the input reads as it did. -/
def fnExactBoxCountsSpec : ChangeSpec := { name := "fnExactBoxCounts", fn := fun _ => fun
  | [d1, d2, d3] => { results := [.lit (.bool true)], args := [d1, d2, d3] }
  | _ => none }
def fnExactBoxCountsRow : OpenClaim := { program := "ythaoopgkfhjoiaa", sum := "a005091880239cb5041993eb0db627ac93e6f4244fcb513747f67a12410dde8b", func := "loop.example/g01121/laws.FnExactBoxCounts", spec := "fnExactBoxCounts", unfollowed := true, recurses := true, apart := false }
def FnExactBoxCountsSaid : Prop := fnExactBoxCountsRow.holds Try.pinned (OpenSpec.ofChange fnExactBoxCountsSpec)

/-- ITS FALSE NEIGHBOUR: 'it returns false'. Refute it at one input. -/
def fnExactBoxCountsWrong : ChangeSpec := { name := "fnExactBoxCounts", fn := fun _ => fun
  | [d1, d2, d3] => { results := [.lit (.bool false)], args := [d1, d2, d3] }
  | _ => none }
def FnExactBoxCountsWrongFalsely : Prop := fnExactBoxCountsRow.holds Try.pinned (OpenSpec.ofChange fnExactBoxCountsWrong)

/-- 'laws.FnExactStreamCycle': WHATEVER THE INPUT: true; the input reads as it did. -/
def fnExactStreamCycleSpec : ChangeSpec := { name := "fnExactStreamCycle", fn := fun _ => fun
  | [d] => { results := [.lit (.bool true)], args := [d] }
  | _ => none }
def fnExactStreamCycleRow : OpenClaim := { program := "ythaoopgkfhjoiaa", sum := "a005091880239cb5041993eb0db627ac93e6f4244fcb513747f67a12410dde8b", func := "loop.example/g01121/laws.FnExactStreamCycle", spec := "fnExactStreamCycle", unfollowed := true, recurses := true, apart := false }
def FnExactStreamCycleSaid : Prop := fnExactStreamCycleRow.holds Try.pinned (OpenSpec.ofChange fnExactStreamCycleSpec)

/-- ITS FALSE NEIGHBOUR: 'it returns false'. Refute it at one input. -/
def fnExactStreamCycleWrong : ChangeSpec := { name := "fnExactStreamCycle", fn := fun _ => fun
  | [d] => { results := [.lit (.bool false)], args := [d] }
  | _ => none }
def FnExactStreamCycleWrongFalsely : Prop := fnExactStreamCycleRow.holds Try.pinned (OpenSpec.ofChange fnExactStreamCycleWrong)

/-- 'laws.FnExactIsEven': WHATEVER THE INPUT: true; the input reads as it did. -/
def fnExactIsEvenSpec : ChangeSpec := { name := "fnExactIsEven", fn := fun _ => fun
  | [d1, d2, d3] => { results := [.lit (.bool true)], args := [d1, d2, d3] }
  | _ => none }
def fnExactIsEvenRow : OpenClaim := { program := "ythaoopgkfhjoiaa", sum := "a005091880239cb5041993eb0db627ac93e6f4244fcb513747f67a12410dde8b", func := "loop.example/g01121/laws.FnExactIsEven", spec := "fnExactIsEven", unfollowed := true, recurses := true, apart := false }
def FnExactIsEvenSaid : Prop := fnExactIsEvenRow.holds Try.pinned (OpenSpec.ofChange fnExactIsEvenSpec)

/-- ITS FALSE NEIGHBOUR: 'it returns false'. Refute it at one input. -/
def fnExactIsEvenWrong : ChangeSpec := { name := "fnExactIsEven", fn := fun _ => fun
  | [d1, d2, d3] => { results := [.lit (.bool false)], args := [d1, d2, d3] }
  | _ => none }
def FnExactIsEvenWrongFalsely : Prop := fnExactIsEvenRow.holds Try.pinned (OpenSpec.ofChange fnExactIsEvenWrong)

/-- 'laws.FnExactAreApart': WHATEVER THE INPUT: true; the input reads as it did. -/
def fnExactAreApartSpec : ChangeSpec := { name := "fnExactAreApart", fn := fun _ => fun
  | [d1, d2, d3] => { results := [.lit (.bool true)], args := [d1, d2, d3] }
  | _ => none }
def fnExactAreApartRow : OpenClaim := { program := "ythaoopgkfhjoiaa", sum := "a005091880239cb5041993eb0db627ac93e6f4244fcb513747f67a12410dde8b", func := "loop.example/g01121/laws.FnExactAreApart", spec := "fnExactAreApart", unfollowed := true, recurses := true, apart := false }
def FnExactAreApartSaid : Prop := fnExactAreApartRow.holds Try.pinned (OpenSpec.ofChange fnExactAreApartSpec)

/-- ITS FALSE NEIGHBOUR: 'it returns false'. Refute it at one input. -/
def fnExactAreApartWrong : ChangeSpec := { name := "fnExactAreApart", fn := fun _ => fun
  | [d1, d2, d3] => { results := [.lit (.bool false)], args := [d1, d2, d3] }
  | _ => none }
def FnExactAreApartWrongFalsely : Prop := fnExactAreApartRow.holds Try.pinned (OpenSpec.ofChange fnExactAreApartWrong)

/-- 'laws.FnExactPascalNet': WHATEVER THE INPUT: true; the input reads as it did. -/
def fnExactPascalNetSpec : ChangeSpec := { name := "fnExactPascalNet", fn := fun _ => fun
  | [d] => { results := [.lit (.bool true)], args := [d] }
  | _ => none }
def fnExactPascalNetRow : OpenClaim := { program := "ythaoopgkfhjoiaa", sum := "a005091880239cb5041993eb0db627ac93e6f4244fcb513747f67a12410dde8b", func := "loop.example/g01121/laws.FnExactPascalNet", spec := "fnExactPascalNet", named := ["math/bits.divideError", "math/bits.overflowError"], apart := false }
def FnExactPascalNetSaid : Prop := fnExactPascalNetRow.holds Try.pinned (OpenSpec.ofChange fnExactPascalNetSpec)

/-- ITS FALSE NEIGHBOUR: 'it returns false'. Refute it at one input. -/
def fnExactPascalNetWrong : ChangeSpec := { name := "fnExactPascalNet", fn := fun _ => fun
  | [d] => { results := [.lit (.bool false)], args := [d] }
  | _ => none }
def FnExactPascalNetWrongFalsely : Prop := fnExactPascalNetRow.holds Try.pinned (OpenSpec.ofChange fnExactPascalNetWrong)

/-- 'laws.FnShiftedPoints': WHATEVER THE INPUT: true; the input reads as it did. -/
def fnShiftedPointsSpec : ChangeSpec := { name := "fnShiftedPoints", fn := fun _ => fun
  | [d1, d2] => { results := [.lit (.bool true)], args := [d1, d2] }
  | _ => none }
def fnShiftedPointsRow : OpenClaim := { program := "ythaoopgkfhjoiaa", sum := "a005091880239cb5041993eb0db627ac93e6f4244fcb513747f67a12410dde8b", func := "loop.example/g01121/laws.FnShiftedPoints", spec := "fnShiftedPoints", unfollowed := true, recurses := true, apart := false }
def FnShiftedPointsSaid : Prop := fnShiftedPointsRow.holds Try.pinned (OpenSpec.ofChange fnShiftedPointsSpec)

/-- ITS FALSE NEIGHBOUR: 'it returns false'. Refute it at one input. -/
def fnShiftedPointsWrong : ChangeSpec := { name := "fnShiftedPoints", fn := fun _ => fun
  | [d1, d2] => { results := [.lit (.bool false)], args := [d1, d2] }
  | _ => none }
def FnShiftedPointsWrongFalsely : Prop := fnShiftedPointsRow.holds Try.pinned (OpenSpec.ofChange fnShiftedPointsWrong)

/-- 'laws.FnExactValidLab': WHATEVER THE INPUT: true; the input reads as it did. -/
def fnExactValidLabSpec : ChangeSpec := { name := "fnExactValidLab", fn := fun _ => fun
  | [d] => { results := [.lit (.bool true)], args := [d] }
  | _ => none }
def fnExactValidLabRow : OpenClaim := { program := "ythaoopgkfhjoiaa", sum := "a005091880239cb5041993eb0db627ac93e6f4244fcb513747f67a12410dde8b", func := "loop.example/g01121/laws.FnExactValidLab", spec := "fnExactValidLab", apart := false }
def FnExactValidLabSaid : Prop := fnExactValidLabRow.holds Try.pinned (OpenSpec.ofChange fnExactValidLabSpec)

/-- ITS FALSE NEIGHBOUR: 'it returns false'. Refute it at one input. -/
def fnExactValidLabWrong : ChangeSpec := { name := "fnExactValidLab", fn := fun _ => fun
  | [d] => { results := [.lit (.bool false)], args := [d] }
  | _ => none }
def FnExactValidLabWrongFalsely : Prop := fnExactValidLabRow.holds Try.pinned (OpenSpec.ofChange fnExactValidLabWrong)

/-- 'laws.FnExactNetPoints': WHATEVER THE INPUT: true; the input reads as it did. -/
def fnExactNetPointsSpec : ChangeSpec := { name := "fnExactNetPoints", fn := fun _ => fun
  | [d] => { results := [.lit (.bool true)], args := [d] }
  | _ => none }
def fnExactNetPointsRow : OpenClaim := { program := "ythaoopgkfhjoiaa", sum := "a005091880239cb5041993eb0db627ac93e6f4244fcb513747f67a12410dde8b", func := "loop.example/g01121/laws.FnExactNetPoints", spec := "fnExactNetPoints", unfollowed := true, recurses := true, apart := false }
def FnExactNetPointsSaid : Prop := fnExactNetPointsRow.holds Try.pinned (OpenSpec.ofChange fnExactNetPointsSpec)

/-- ITS FALSE NEIGHBOUR: 'it returns false'. Refute it at one input. -/
def fnExactNetPointsWrong : ChangeSpec := { name := "fnExactNetPoints", fn := fun _ => fun
  | [d] => { results := [.lit (.bool false)], args := [d] }
  | _ => none }
def FnExactNetPointsWrongFalsely : Prop := fnExactNetPointsRow.holds Try.pinned (OpenSpec.ofChange fnExactNetPointsWrong)

/-- 'laws.FnExactTakeBits': WHATEVER THE INPUT: true; the input reads as it did. -/
def fnExactTakeBitsSpec : ChangeSpec := { name := "fnExactTakeBits", fn := fun _ => fun
  | [d1, d2] => { results := [.lit (.bool true)], args := [d1, d2] }
  | _ => none }
def fnExactTakeBitsRow : OpenClaim := { program := "ythaoopgkfhjoiaa", sum := "a005091880239cb5041993eb0db627ac93e6f4244fcb513747f67a12410dde8b", func := "loop.example/g01121/laws.FnExactTakeBits", spec := "fnExactTakeBits", inPlace := ["internal/abi.NoEscape"], apart := false }
def FnExactTakeBitsSaid : Prop := fnExactTakeBitsRow.holds Try.pinned (OpenSpec.ofChange fnExactTakeBitsSpec)

/-- ITS FALSE NEIGHBOUR: 'it returns false'. Refute it at one input. -/
def fnExactTakeBitsWrong : ChangeSpec := { name := "fnExactTakeBits", fn := fun _ => fun
  | [d1, d2] => { results := [.lit (.bool false)], args := [d1, d2] }
  | _ => none }
def FnExactTakeBitsWrongFalsely : Prop := fnExactTakeBitsRow.holds Try.pinned (OpenSpec.ofChange fnExactTakeBitsWrong)

/- THE SECOND FORM. 'bulk': how many values and letters a reading holds, each counted each time it is reached (what is shared counts as often as it is met; a slice's spare places count too). A statement '..UptoSaid' is the law's where the arguments, and the package variables that the reading takes, are together of bulk at most 1048576: NARROWER than '..Said'. Prove '..Said' where nothing that the law and all that it calls make is longer than what came in: it says more and counts as full. Else prove '..UptoSaid'. A law counts once. -/
mutual
def uptoBulk {H : Type} : DataW H → Nat
  | .lit (.string bytes) => bytes.length + 1
  | .lit _ => 1
  | .nil => 1
  | .ptr d => uptoBulk d + 1
  | .slice elems spare => uptoBulkAll elems + uptoBulkAll spare + 1
  | .agg parts => uptoBulkAll parts + 1
  | .iface _ d => uptoBulk d + 1
  | .map entries => uptoBulkEntries entries + 1
  | .held _ => 1
def uptoBulkAll {H : Type} : List (DataW H) → Nat
  | [] => 0
  | d :: r => uptoBulk d + uptoBulkAll r
def uptoBulkEntries {H : Type} : List (Lit × DataW H) → Nat
  | [] => 0
  | x :: r => uptoBulkEntry x + uptoBulkEntries r
def uptoBulkEntry {H : Type} : Lit × DataW H → Nat
  | (.string bytes, d) => bytes.length + uptoBulk d + 1
  | (_, d) => uptoBulk d + 1
 end
def uptoSmall : (H : Type) → List (DataW H) → Bool := fun _ ds => decide (uptoBulkAll ds ≤ 1048576)
def OpenSpec.upto (s : _root_.Go.ChangeSpec) : _root_.Go.OpenSpec := { _root_.Go.OpenSpec.ofChange s with cond := some uptoSmall }

/-- 'laws.FnExactJumpRegister', WHERE WHAT IT READS IS OF BULK AT MOST 1048576: true; the input reads as it did. -/
def fnExactJumpRegisterUptoRow : OpenClaim := { program := "ythaoopgkfhjoiaa", sum := "a005091880239cb5041993eb0db627ac93e6f4244fcb513747f67a12410dde8b", func := "loop.example/g01121/laws.FnExactJumpRegister", spec := "fnExactJumpRegister", unfollowed := true, recurses := true, apart := false, narrowed := true }
def FnExactJumpRegisterUptoSaid : Prop := fnExactJumpRegisterUptoRow.holds Try.pinned (OpenSpec.upto fnExactJumpRegisterSpec)

/-- 'laws.FnExactShiftPoints', WHERE WHAT IT READS IS OF BULK AT MOST 1048576: true; the input reads as it did. -/
def fnExactShiftPointsUptoRow : OpenClaim := { program := "ythaoopgkfhjoiaa", sum := "a005091880239cb5041993eb0db627ac93e6f4244fcb513747f67a12410dde8b", func := "loop.example/g01121/laws.FnExactShiftPoints", spec := "fnExactShiftPoints", unfollowed := true, recurses := true, apart := false, narrowed := true }
def FnExactShiftPointsUptoSaid : Prop := fnExactShiftPointsUptoRow.holds Try.pinned (OpenSpec.upto fnExactShiftPointsSpec)

/-- 'laws.FnRegisterSteps', WHERE WHAT IT READS IS OF BULK AT MOST 1048576: true; the input reads as it did. -/
def fnRegisterStepsUptoRow : OpenClaim := { program := "ythaoopgkfhjoiaa", sum := "a005091880239cb5041993eb0db627ac93e6f4244fcb513747f67a12410dde8b", func := "loop.example/g01121/laws.FnRegisterSteps", spec := "fnRegisterSteps", inPlace := ["internal/abi.NoEscape"], unfollowed := true, recurses := true, apart := false, narrowed := true }
def FnRegisterStepsUptoSaid : Prop := fnRegisterStepsUptoRow.holds Try.pinned (OpenSpec.upto fnRegisterStepsSpec)

/-- 'laws.FnExactBoxCounts', WHERE WHAT IT READS IS OF BULK AT MOST 1048576: true; the input reads as it did. -/
def fnExactBoxCountsUptoRow : OpenClaim := { program := "ythaoopgkfhjoiaa", sum := "a005091880239cb5041993eb0db627ac93e6f4244fcb513747f67a12410dde8b", func := "loop.example/g01121/laws.FnExactBoxCounts", spec := "fnExactBoxCounts", unfollowed := true, recurses := true, apart := false, narrowed := true }
def FnExactBoxCountsUptoSaid : Prop := fnExactBoxCountsUptoRow.holds Try.pinned (OpenSpec.upto fnExactBoxCountsSpec)

/-- 'laws.FnExactStreamCycle', WHERE WHAT IT READS IS OF BULK AT MOST 1048576: true; the input reads as it did. -/
def fnExactStreamCycleUptoRow : OpenClaim := { program := "ythaoopgkfhjoiaa", sum := "a005091880239cb5041993eb0db627ac93e6f4244fcb513747f67a12410dde8b", func := "loop.example/g01121/laws.FnExactStreamCycle", spec := "fnExactStreamCycle", unfollowed := true, recurses := true, apart := false, narrowed := true }
def FnExactStreamCycleUptoSaid : Prop := fnExactStreamCycleUptoRow.holds Try.pinned (OpenSpec.upto fnExactStreamCycleSpec)

/-- 'laws.FnExactIsEven', WHERE WHAT IT READS IS OF BULK AT MOST 1048576: true; the input reads as it did. -/
def fnExactIsEvenUptoRow : OpenClaim := { program := "ythaoopgkfhjoiaa", sum := "a005091880239cb5041993eb0db627ac93e6f4244fcb513747f67a12410dde8b", func := "loop.example/g01121/laws.FnExactIsEven", spec := "fnExactIsEven", unfollowed := true, recurses := true, apart := false, narrowed := true }
def FnExactIsEvenUptoSaid : Prop := fnExactIsEvenUptoRow.holds Try.pinned (OpenSpec.upto fnExactIsEvenSpec)

/-- 'laws.FnExactAreApart', WHERE WHAT IT READS IS OF BULK AT MOST 1048576: true; the input reads as it did. -/
def fnExactAreApartUptoRow : OpenClaim := { program := "ythaoopgkfhjoiaa", sum := "a005091880239cb5041993eb0db627ac93e6f4244fcb513747f67a12410dde8b", func := "loop.example/g01121/laws.FnExactAreApart", spec := "fnExactAreApart", unfollowed := true, recurses := true, apart := false, narrowed := true }
def FnExactAreApartUptoSaid : Prop := fnExactAreApartUptoRow.holds Try.pinned (OpenSpec.upto fnExactAreApartSpec)

/-- 'laws.FnExactPascalNet', WHERE WHAT IT READS IS OF BULK AT MOST 1048576: true; the input reads as it did. -/
def fnExactPascalNetUptoRow : OpenClaim := { program := "ythaoopgkfhjoiaa", sum := "a005091880239cb5041993eb0db627ac93e6f4244fcb513747f67a12410dde8b", func := "loop.example/g01121/laws.FnExactPascalNet", spec := "fnExactPascalNet", named := ["math/bits.divideError", "math/bits.overflowError"], apart := false, narrowed := true }
def FnExactPascalNetUptoSaid : Prop := fnExactPascalNetUptoRow.holds Try.pinned (OpenSpec.upto fnExactPascalNetSpec)

/-- 'laws.FnShiftedPoints', WHERE WHAT IT READS IS OF BULK AT MOST 1048576: true; the input reads as it did. -/
def fnShiftedPointsUptoRow : OpenClaim := { program := "ythaoopgkfhjoiaa", sum := "a005091880239cb5041993eb0db627ac93e6f4244fcb513747f67a12410dde8b", func := "loop.example/g01121/laws.FnShiftedPoints", spec := "fnShiftedPoints", unfollowed := true, recurses := true, apart := false, narrowed := true }
def FnShiftedPointsUptoSaid : Prop := fnShiftedPointsUptoRow.holds Try.pinned (OpenSpec.upto fnShiftedPointsSpec)

/-- 'laws.FnExactValidLab', WHERE WHAT IT READS IS OF BULK AT MOST 1048576: true; the input reads as it did. -/
def fnExactValidLabUptoRow : OpenClaim := { program := "ythaoopgkfhjoiaa", sum := "a005091880239cb5041993eb0db627ac93e6f4244fcb513747f67a12410dde8b", func := "loop.example/g01121/laws.FnExactValidLab", spec := "fnExactValidLab", apart := false, narrowed := true }
def FnExactValidLabUptoSaid : Prop := fnExactValidLabUptoRow.holds Try.pinned (OpenSpec.upto fnExactValidLabSpec)

/-- 'laws.FnExactNetPoints', WHERE WHAT IT READS IS OF BULK AT MOST 1048576: true; the input reads as it did. -/
def fnExactNetPointsUptoRow : OpenClaim := { program := "ythaoopgkfhjoiaa", sum := "a005091880239cb5041993eb0db627ac93e6f4244fcb513747f67a12410dde8b", func := "loop.example/g01121/laws.FnExactNetPoints", spec := "fnExactNetPoints", unfollowed := true, recurses := true, apart := false, narrowed := true }
def FnExactNetPointsUptoSaid : Prop := fnExactNetPointsUptoRow.holds Try.pinned (OpenSpec.upto fnExactNetPointsSpec)

/-- 'laws.FnExactTakeBits', WHERE WHAT IT READS IS OF BULK AT MOST 1048576: true; the input reads as it did. -/
def fnExactTakeBitsUptoRow : OpenClaim := { program := "ythaoopgkfhjoiaa", sum := "a005091880239cb5041993eb0db627ac93e6f4244fcb513747f67a12410dde8b", func := "loop.example/g01121/laws.FnExactTakeBits", spec := "fnExactTakeBits", inPlace := ["internal/abi.NoEscape"], apart := false, narrowed := true }
def FnExactTakeBitsUptoSaid : Prop := fnExactTakeBitsUptoRow.holds Try.pinned (OpenSpec.upto fnExactTakeBitsSpec)

end Rows
end Go.Proofs.Ythaoopgkfhjoiaa
