/-
  No cell of these rows narrows 'for every input' (looked for: loops, veiled, ifaces, maps, wideKeys, modest, calm, conditions, laid).
  DERIVED. THE GIVEN ROWS OF THIS SEAT. 12 by the template 'for every input the law returns true; each argument reads behind the call as it read before'; 0 by the template 'total and deterministic' (their statements: YtnbeibofmikihaaTotals.lean).
  GIVEN WITH THE SEED: the statements are not yours to turn. If you find one false, say at which input.
  Laid BY PROGRAM, IN A SANDBOX (cutbox-rows.mjs): the forced cells as the released guide's own fill.sh prints them over the translation cb4095964b6446b5… (all of the seat's roots in one cut). By AI agents, Wed Nov 11 2026. No macro, syntax, notation, axiom, sorry.
-/
import Derived.Test.YtnbeibofmikihaaChecked
import GoSem.Claim
import GoSem.ClaimJoined
import GoSem.ClaimMapViews
import Derived.JoinedTies
import Derived.KernelRfl
namespace Go.Proofs.Ytnbeibofmikihaa
/- THE CELL 'sum', in the pinned program and in every row, IS THE sha256 OF THE DUMP (.gsa) THAT YtnbeibofmikihaaProg.lean LOADS. Nothing in Lean hashes anything: it is a label: what it is worth is what the hold of that sum in a sandbox is worth. -/
noncomputable def Try.pinned : Pinned := { name := "ytnbeibofmikihaa", sum := "cb4095964b6446b56f88d0c1c4a5e981b2d718d1b95f7a8e39d406f849a12648", checked := Try.checked }
namespace Rows
def none {H : Type} : Left H := { results := [], args := [] }

/-- 'laws.FnExactGridFigure': WHATEVER THE INPUT: true; the input reads as it did. -/
def fnExactGridFigureSpec : ChangeSpec := { name := "fnExactGridFigure", fn := fun _ => fun
  | [d1, d2] => { results := [.lit (.bool true)], args := [d1, d2] }
  | _ => none }
def fnExactGridFigureRow : OpenClaim := { program := "ytnbeibofmikihaa", sum := "cb4095964b6446b56f88d0c1c4a5e981b2d718d1b95f7a8e39d406f849a12648", func := "loop.example/g01121/laws.FnExactGridFigure", spec := "fnExactGridFigure", apart := false }
def FnExactGridFigureSaid : Prop := fnExactGridFigureRow.holds Try.pinned (OpenSpec.ofChange fnExactGridFigureSpec)

/-- ITS FALSE NEIGHBOUR: 'it returns false'. Refute it at one input. -/
def fnExactGridFigureWrong : ChangeSpec := { name := "fnExactGridFigure", fn := fun _ => fun
  | [d1, d2] => { results := [.lit (.bool false)], args := [d1, d2] }
  | _ => none }
def FnExactGridFigureWrongFalsely : Prop := fnExactGridFigureRow.holds Try.pinned (OpenSpec.ofChange fnExactGridFigureWrong)

/-- 'laws.FnGrids': WHATEVER THE INPUT: true; the input reads as it did. -/
def fnGridsSpec : ChangeSpec := { name := "fnGrids", fn := fun _ => fun
  | [d1, d2] => { results := [.lit (.bool true)], args := [d1, d2] }
  | _ => none }
def fnGridsRow : OpenClaim := { program := "ytnbeibofmikihaa", sum := "cb4095964b6446b56f88d0c1c4a5e981b2d718d1b95f7a8e39d406f849a12648", func := "loop.example/g01121/laws.FnGrids", spec := "fnGrids", apart := false }
def FnGridsSaid : Prop := fnGridsRow.holds Try.pinned (OpenSpec.ofChange fnGridsSpec)

/-- ITS FALSE NEIGHBOUR: 'it returns false'. Refute it at one input. -/
def fnGridsWrong : ChangeSpec := { name := "fnGrids", fn := fun _ => fun
  | [d1, d2] => { results := [.lit (.bool false)], args := [d1, d2] }
  | _ => none }
def FnGridsWrongFalsely : Prop := fnGridsRow.holds Try.pinned (OpenSpec.ofChange fnGridsWrong)

/-- 'laws.FnExactIsFull': WHATEVER THE INPUT: true; the input reads as it did. -/
def fnExactIsFullSpec : ChangeSpec := { name := "fnExactIsFull", fn := fun _ => fun
  | [d] => { results := [.lit (.bool true)], args := [d] }
  | _ => none }
def fnExactIsFullRow : OpenClaim := { program := "ytnbeibofmikihaa", sum := "cb4095964b6446b56f88d0c1c4a5e981b2d718d1b95f7a8e39d406f849a12648", func := "loop.example/g01121/laws.FnExactIsFull", spec := "fnExactIsFull", unfollowed := true, recurses := true, apart := false }
def FnExactIsFullSaid : Prop := fnExactIsFullRow.holds Try.pinned (OpenSpec.ofChange fnExactIsFullSpec)

/-- ITS FALSE NEIGHBOUR: 'it returns false'. Refute it at one input. -/
def fnExactIsFullWrong : ChangeSpec := { name := "fnExactIsFull", fn := fun _ => fun
  | [d] => { results := [.lit (.bool false)], args := [d] }
  | _ => none }
def FnExactIsFullWrongFalsely : Prop := fnExactIsFullRow.holds Try.pinned (OpenSpec.ofChange fnExactIsFullWrong)

/-- 'laws.FnExactStateCycle': WHATEVER THE INPUT: true; the input reads as it did. -/
def fnExactStateCycleSpec : ChangeSpec := { name := "fnExactStateCycle", fn := fun _ => fun
  | [d1, d2] => { results := [.lit (.bool true)], args := [d1, d2] }
  | _ => none }
def fnExactStateCycleRow : OpenClaim := { program := "ytnbeibofmikihaa", sum := "cb4095964b6446b56f88d0c1c4a5e981b2d718d1b95f7a8e39d406f849a12648", func := "loop.example/g01121/laws.FnExactStateCycle", spec := "fnExactStateCycle", unfollowed := true, recurses := true, apart := false }
def FnExactStateCycleSaid : Prop := fnExactStateCycleRow.holds Try.pinned (OpenSpec.ofChange fnExactStateCycleSpec)

/-- ITS FALSE NEIGHBOUR: 'it returns false'. Refute it at one input. -/
def fnExactStateCycleWrong : ChangeSpec := { name := "fnExactStateCycle", fn := fun _ => fun
  | [d1, d2] => { results := [.lit (.bool false)], args := [d1, d2] }
  | _ => none }
def FnExactStateCycleWrongFalsely : Prop := fnExactStateCycleRow.holds Try.pinned (OpenSpec.ofChange fnExactStateCycleWrong)

/-- 'laws.FnExactBestGrid': WHATEVER THE INPUT: true; the input reads as it did. -/
def fnExactBestGridSpec : ChangeSpec := { name := "fnExactBestGrid", fn := fun _ => fun
  | [d] => { results := [.lit (.bool true)], args := [d] }
  | _ => none }
def fnExactBestGridRow : OpenClaim := { program := "ytnbeibofmikihaa", sum := "cb4095964b6446b56f88d0c1c4a5e981b2d718d1b95f7a8e39d406f849a12648", func := "loop.example/g01121/laws.FnExactBestGrid", spec := "fnExactBestGrid", apart := false }
def FnExactBestGridSaid : Prop := fnExactBestGridRow.holds Try.pinned (OpenSpec.ofChange fnExactBestGridSpec)

/-- ITS FALSE NEIGHBOUR: 'it returns false'. Refute it at one input. -/
def fnExactBestGridWrong : ChangeSpec := { name := "fnExactBestGrid", fn := fun _ => fun
  | [d] => { results := [.lit (.bool false)], args := [d] }
  | _ => none }
def FnExactBestGridWrongFalsely : Prop := fnExactBestGridRow.holds Try.pinned (OpenSpec.ofChange fnExactBestGridWrong)

/-- 'laws.FnExactValidStream': WHATEVER THE INPUT: true; the input reads as it did. -/
def fnExactValidStreamSpec : ChangeSpec := { name := "fnExactValidStream", fn := fun _ => fun
  | [d] => { results := [.lit (.bool true)], args := [d] }
  | _ => none }
def fnExactValidStreamRow : OpenClaim := { program := "ytnbeibofmikihaa", sum := "cb4095964b6446b56f88d0c1c4a5e981b2d718d1b95f7a8e39d406f849a12648", func := "loop.example/g01121/laws.FnExactValidStream", spec := "fnExactValidStream", apart := false }
def FnExactValidStreamSaid : Prop := fnExactValidStreamRow.holds Try.pinned (OpenSpec.ofChange fnExactValidStreamSpec)

/-- ITS FALSE NEIGHBOUR: 'it returns false'. Refute it at one input. -/
def fnExactValidStreamWrong : ChangeSpec := { name := "fnExactValidStream", fn := fun _ => fun
  | [d] => { results := [.lit (.bool false)], args := [d] }
  | _ => none }
def FnExactValidStreamWrongFalsely : Prop := fnExactValidStreamRow.holds Try.pinned (OpenSpec.ofChange fnExactValidStreamWrong)

/-- 'laws.FnExactGridPoints': WHATEVER THE INPUT: true; the input reads as it did. -/
def fnExactGridPointsSpec : ChangeSpec := { name := "fnExactGridPoints", fn := fun _ => fun
  | [d1, d2] => { results := [.lit (.bool true)], args := [d1, d2] }
  | _ => none }
def fnExactGridPointsRow : OpenClaim := { program := "ytnbeibofmikihaa", sum := "cb4095964b6446b56f88d0c1c4a5e981b2d718d1b95f7a8e39d406f849a12648", func := "loop.example/g01121/laws.FnExactGridPoints", spec := "fnExactGridPoints", apart := false }
def FnExactGridPointsSaid : Prop := fnExactGridPointsRow.holds Try.pinned (OpenSpec.ofChange fnExactGridPointsSpec)

/-- ITS FALSE NEIGHBOUR: 'it returns false'. Refute it at one input. -/
def fnExactGridPointsWrong : ChangeSpec := { name := "fnExactGridPoints", fn := fun _ => fun
  | [d1, d2] => { results := [.lit (.bool false)], args := [d1, d2] }
  | _ => none }
def FnExactGridPointsWrongFalsely : Prop := fnExactGridPointsRow.holds Try.pinned (OpenSpec.ofChange fnExactGridPointsWrong)

/-- 'laws.FnExactIsPoints': WHATEVER THE INPUT: true; the input reads as it did. -/
def fnExactIsPointsSpec : ChangeSpec := { name := "fnExactIsPoints", fn := fun _ => fun
  | [d1, d2] => { results := [.lit (.bool true)], args := [d1, d2] }
  | _ => none }
def fnExactIsPointsRow : OpenClaim := { program := "ytnbeibofmikihaa", sum := "cb4095964b6446b56f88d0c1c4a5e981b2d718d1b95f7a8e39d406f849a12648", func := "loop.example/g01121/laws.FnExactIsPoints", spec := "fnExactIsPoints", unfollowed := true, recurses := true, apart := false }
def FnExactIsPointsSaid : Prop := fnExactIsPointsRow.holds Try.pinned (OpenSpec.ofChange fnExactIsPointsSpec)

/-- ITS FALSE NEIGHBOUR: 'it returns false'. Refute it at one input. -/
def fnExactIsPointsWrong : ChangeSpec := { name := "fnExactIsPoints", fn := fun _ => fun
  | [d1, d2] => { results := [.lit (.bool false)], args := [d1, d2] }
  | _ => none }
def FnExactIsPointsWrongFalsely : Prop := fnExactIsPointsRow.holds Try.pinned (OpenSpec.ofChange fnExactIsPointsWrong)

/-- 'laws.FnExactRegisterCycle': WHATEVER THE INPUT: true; the input reads as it did. -/
def fnExactRegisterCycleSpec : ChangeSpec := { name := "fnExactRegisterCycle", fn := fun _ => fun
  | [d1, d2] => { results := [.lit (.bool true)], args := [d1, d2] }
  | _ => none }
def fnExactRegisterCycleRow : OpenClaim := { program := "ytnbeibofmikihaa", sum := "cb4095964b6446b56f88d0c1c4a5e981b2d718d1b95f7a8e39d406f849a12648", func := "loop.example/g01121/laws.FnExactRegisterCycle", spec := "fnExactRegisterCycle", unfollowed := true, recurses := true, apart := false }
def FnExactRegisterCycleSaid : Prop := fnExactRegisterCycleRow.holds Try.pinned (OpenSpec.ofChange fnExactRegisterCycleSpec)

/-- ITS FALSE NEIGHBOUR: 'it returns false'. Refute it at one input. -/
def fnExactRegisterCycleWrong : ChangeSpec := { name := "fnExactRegisterCycle", fn := fun _ => fun
  | [d1, d2] => { results := [.lit (.bool false)], args := [d1, d2] }
  | _ => none }
def FnExactRegisterCycleWrongFalsely : Prop := fnExactRegisterCycleRow.holds Try.pinned (OpenSpec.ofChange fnExactRegisterCycleWrong)

/-- 'laws.FnExactReversedNet': WHATEVER THE INPUT: true; the input reads as it did. -/
def fnExactReversedNetSpec : ChangeSpec := { name := "fnExactReversedNet", fn := fun _ => fun
  | [d] => { results := [.lit (.bool true)], args := [d] }
  | _ => none }
def fnExactReversedNetRow : OpenClaim := { program := "ytnbeibofmikihaa", sum := "cb4095964b6446b56f88d0c1c4a5e981b2d718d1b95f7a8e39d406f849a12648", func := "loop.example/g01121/laws.FnExactReversedNet", spec := "fnExactReversedNet", apart := false }
def FnExactReversedNetSaid : Prop := fnExactReversedNetRow.holds Try.pinned (OpenSpec.ofChange fnExactReversedNetSpec)

/-- ITS FALSE NEIGHBOUR: 'it returns false'. Refute it at one input. -/
def fnExactReversedNetWrong : ChangeSpec := { name := "fnExactReversedNet", fn := fun _ => fun
  | [d] => { results := [.lit (.bool false)], args := [d] }
  | _ => none }
def FnExactReversedNetWrongFalsely : Prop := fnExactReversedNetRow.holds Try.pinned (OpenSpec.ofChange fnExactReversedNetWrong)

/-- 'laws.FnCycled': WHATEVER THE INPUT: true; the input reads as it did. -/
def fnCycledSpec : ChangeSpec := { name := "fnCycled", fn := fun _ => fun
  | [d1, d2] => { results := [.lit (.bool true)], args := [d1, d2] }
  | _ => none }
def fnCycledRow : OpenClaim := { program := "ytnbeibofmikihaa", sum := "cb4095964b6446b56f88d0c1c4a5e981b2d718d1b95f7a8e39d406f849a12648", func := "loop.example/g01121/laws.FnCycled", spec := "fnCycled", unfollowed := true, recurses := true, apart := false }
def FnCycledSaid : Prop := fnCycledRow.holds Try.pinned (OpenSpec.ofChange fnCycledSpec)

/-- ITS FALSE NEIGHBOUR: 'it returns false'. Refute it at one input. -/
def fnCycledWrong : ChangeSpec := { name := "fnCycled", fn := fun _ => fun
  | [d1, d2] => { results := [.lit (.bool false)], args := [d1, d2] }
  | _ => none }
def FnCycledWrongFalsely : Prop := fnCycledRow.holds Try.pinned (OpenSpec.ofChange fnCycledWrong)

/-- 'laws.FnExactValidNet': WHATEVER THE INPUT: true; the input reads as it did. -/
def fnExactValidNetSpec : ChangeSpec := { name := "fnExactValidNet", fn := fun _ => fun
  | [d] => { results := [.lit (.bool true)], args := [d] }
  | _ => none }
def fnExactValidNetRow : OpenClaim := { program := "ytnbeibofmikihaa", sum := "cb4095964b6446b56f88d0c1c4a5e981b2d718d1b95f7a8e39d406f849a12648", func := "loop.example/g01121/laws.FnExactValidNet", spec := "fnExactValidNet", unfollowed := true, recurses := true, apart := false }
def FnExactValidNetSaid : Prop := fnExactValidNetRow.holds Try.pinned (OpenSpec.ofChange fnExactValidNetSpec)

/-- ITS FALSE NEIGHBOUR: 'it returns false'. Refute it at one input. -/
def fnExactValidNetWrong : ChangeSpec := { name := "fnExactValidNet", fn := fun _ => fun
  | [d] => { results := [.lit (.bool false)], args := [d] }
  | _ => none }
def FnExactValidNetWrongFalsely : Prop := fnExactValidNetRow.holds Try.pinned (OpenSpec.ofChange fnExactValidNetWrong)

/- THE SECOND FORM. 'bulk': how many values and letters a reading holds, each counted each time it is reached (what is shared counts as often as it is met; a slice's spare places count too). A statement '..UptoSaid' is the law's where the arguments, and the package variables that the reading takes, are together of bulk at most 1048576: NARROWER than '..Said'. Prove '..Said' where nothing that the law and all that it calls make is longer than what came in: it says more and counts as full. Else prove '..UptoSaid'. A law counts once. -/
mutual
def uptoBulk {H : Type} : DataW H → Nat
  | .lit (.string bytes) => bytes.length + 1
  | .lit _ => 1
  | .nil => 1
  | .ptr d => uptoBulk d + 1
  | .slice elems spare => uptoBulkAll elems + uptoBulkAll spare + 1
  | .agg parts => uptoBulkAll parts + 1
  | .iface _ d => uptoBulk d + 1
  | .map entries => uptoBulkEntries entries + 1
  | .held _ => 1
def uptoBulkAll {H : Type} : List (DataW H) → Nat
  | [] => 0
  | d :: r => uptoBulk d + uptoBulkAll r
def uptoBulkEntries {H : Type} : List (Lit × DataW H) → Nat
  | [] => 0
  | x :: r => uptoBulkEntry x + uptoBulkEntries r
def uptoBulkEntry {H : Type} : Lit × DataW H → Nat
  | (.string bytes, d) => bytes.length + uptoBulk d + 1
  | (_, d) => uptoBulk d + 1
 end
def uptoSmall : (H : Type) → List (DataW H) → Bool := fun _ ds => decide (uptoBulkAll ds ≤ 1048576)
def OpenSpec.upto (s : _root_.Go.ChangeSpec) : _root_.Go.OpenSpec := { _root_.Go.OpenSpec.ofChange s with cond := some uptoSmall }

/-- 'laws.FnExactGridFigure', WHERE WHAT IT READS IS OF BULK AT MOST 1048576: true; the input reads as it did. -/
def fnExactGridFigureUptoRow : OpenClaim := { program := "ytnbeibofmikihaa", sum := "cb4095964b6446b56f88d0c1c4a5e981b2d718d1b95f7a8e39d406f849a12648", func := "loop.example/g01121/laws.FnExactGridFigure", spec := "fnExactGridFigure", apart := false, narrowed := true }
def FnExactGridFigureUptoSaid : Prop := fnExactGridFigureUptoRow.holds Try.pinned (OpenSpec.upto fnExactGridFigureSpec)

/-- 'laws.FnGrids', WHERE WHAT IT READS IS OF BULK AT MOST 1048576: true; the input reads as it did. -/
def fnGridsUptoRow : OpenClaim := { program := "ytnbeibofmikihaa", sum := "cb4095964b6446b56f88d0c1c4a5e981b2d718d1b95f7a8e39d406f849a12648", func := "loop.example/g01121/laws.FnGrids", spec := "fnGrids", apart := false, narrowed := true }
def FnGridsUptoSaid : Prop := fnGridsUptoRow.holds Try.pinned (OpenSpec.upto fnGridsSpec)

/-- 'laws.FnExactIsFull', WHERE WHAT IT READS IS OF BULK AT MOST 1048576: true; the input reads as it did. -/
def fnExactIsFullUptoRow : OpenClaim := { program := "ytnbeibofmikihaa", sum := "cb4095964b6446b56f88d0c1c4a5e981b2d718d1b95f7a8e39d406f849a12648", func := "loop.example/g01121/laws.FnExactIsFull", spec := "fnExactIsFull", unfollowed := true, recurses := true, apart := false, narrowed := true }
def FnExactIsFullUptoSaid : Prop := fnExactIsFullUptoRow.holds Try.pinned (OpenSpec.upto fnExactIsFullSpec)

/-- 'laws.FnExactStateCycle', WHERE WHAT IT READS IS OF BULK AT MOST 1048576: true; the input reads as it did. -/
def fnExactStateCycleUptoRow : OpenClaim := { program := "ytnbeibofmikihaa", sum := "cb4095964b6446b56f88d0c1c4a5e981b2d718d1b95f7a8e39d406f849a12648", func := "loop.example/g01121/laws.FnExactStateCycle", spec := "fnExactStateCycle", unfollowed := true, recurses := true, apart := false, narrowed := true }
def FnExactStateCycleUptoSaid : Prop := fnExactStateCycleUptoRow.holds Try.pinned (OpenSpec.upto fnExactStateCycleSpec)

/-- 'laws.FnExactBestGrid', WHERE WHAT IT READS IS OF BULK AT MOST 1048576: true; the input reads as it did. -/
def fnExactBestGridUptoRow : OpenClaim := { program := "ytnbeibofmikihaa", sum := "cb4095964b6446b56f88d0c1c4a5e981b2d718d1b95f7a8e39d406f849a12648", func := "loop.example/g01121/laws.FnExactBestGrid", spec := "fnExactBestGrid", apart := false, narrowed := true }
def FnExactBestGridUptoSaid : Prop := fnExactBestGridUptoRow.holds Try.pinned (OpenSpec.upto fnExactBestGridSpec)

/-- 'laws.FnExactValidStream', WHERE WHAT IT READS IS OF BULK AT MOST 1048576: true; the input reads as it did. -/
def fnExactValidStreamUptoRow : OpenClaim := { program := "ytnbeibofmikihaa", sum := "cb4095964b6446b56f88d0c1c4a5e981b2d718d1b95f7a8e39d406f849a12648", func := "loop.example/g01121/laws.FnExactValidStream", spec := "fnExactValidStream", apart := false, narrowed := true }
def FnExactValidStreamUptoSaid : Prop := fnExactValidStreamUptoRow.holds Try.pinned (OpenSpec.upto fnExactValidStreamSpec)

/-- 'laws.FnExactGridPoints', WHERE WHAT IT READS IS OF BULK AT MOST 1048576: true; the input reads as it did. -/
def fnExactGridPointsUptoRow : OpenClaim := { program := "ytnbeibofmikihaa", sum := "cb4095964b6446b56f88d0c1c4a5e981b2d718d1b95f7a8e39d406f849a12648", func := "loop.example/g01121/laws.FnExactGridPoints", spec := "fnExactGridPoints", apart := false, narrowed := true }
def FnExactGridPointsUptoSaid : Prop := fnExactGridPointsUptoRow.holds Try.pinned (OpenSpec.upto fnExactGridPointsSpec)

/-- 'laws.FnExactIsPoints', WHERE WHAT IT READS IS OF BULK AT MOST 1048576: true; the input reads as it did. -/
def fnExactIsPointsUptoRow : OpenClaim := { program := "ytnbeibofmikihaa", sum := "cb4095964b6446b56f88d0c1c4a5e981b2d718d1b95f7a8e39d406f849a12648", func := "loop.example/g01121/laws.FnExactIsPoints", spec := "fnExactIsPoints", unfollowed := true, recurses := true, apart := false, narrowed := true }
def FnExactIsPointsUptoSaid : Prop := fnExactIsPointsUptoRow.holds Try.pinned (OpenSpec.upto fnExactIsPointsSpec)

/-- 'laws.FnExactRegisterCycle', WHERE WHAT IT READS IS OF BULK AT MOST 1048576: true; the input reads as it did. -/
def fnExactRegisterCycleUptoRow : OpenClaim := { program := "ytnbeibofmikihaa", sum := "cb4095964b6446b56f88d0c1c4a5e981b2d718d1b95f7a8e39d406f849a12648", func := "loop.example/g01121/laws.FnExactRegisterCycle", spec := "fnExactRegisterCycle", unfollowed := true, recurses := true, apart := false, narrowed := true }
def FnExactRegisterCycleUptoSaid : Prop := fnExactRegisterCycleUptoRow.holds Try.pinned (OpenSpec.upto fnExactRegisterCycleSpec)

/-- 'laws.FnExactReversedNet', WHERE WHAT IT READS IS OF BULK AT MOST 1048576: true; the input reads as it did. -/
def fnExactReversedNetUptoRow : OpenClaim := { program := "ytnbeibofmikihaa", sum := "cb4095964b6446b56f88d0c1c4a5e981b2d718d1b95f7a8e39d406f849a12648", func := "loop.example/g01121/laws.FnExactReversedNet", spec := "fnExactReversedNet", apart := false, narrowed := true }
def FnExactReversedNetUptoSaid : Prop := fnExactReversedNetUptoRow.holds Try.pinned (OpenSpec.upto fnExactReversedNetSpec)

/-- 'laws.FnCycled', WHERE WHAT IT READS IS OF BULK AT MOST 1048576: true; the input reads as it did. -/
def fnCycledUptoRow : OpenClaim := { program := "ytnbeibofmikihaa", sum := "cb4095964b6446b56f88d0c1c4a5e981b2d718d1b95f7a8e39d406f849a12648", func := "loop.example/g01121/laws.FnCycled", spec := "fnCycled", unfollowed := true, recurses := true, apart := false, narrowed := true }
def FnCycledUptoSaid : Prop := fnCycledUptoRow.holds Try.pinned (OpenSpec.upto fnCycledSpec)

/-- 'laws.FnExactValidNet', WHERE WHAT IT READS IS OF BULK AT MOST 1048576: true; the input reads as it did. -/
def fnExactValidNetUptoRow : OpenClaim := { program := "ytnbeibofmikihaa", sum := "cb4095964b6446b56f88d0c1c4a5e981b2d718d1b95f7a8e39d406f849a12648", func := "loop.example/g01121/laws.FnExactValidNet", spec := "fnExactValidNet", unfollowed := true, recurses := true, apart := false, narrowed := true }
def FnExactValidNetUptoSaid : Prop := fnExactValidNetUptoRow.holds Try.pinned (OpenSpec.upto fnExactValidNetSpec)

end Rows
end Go.Proofs.Ytnbeibofmikihaa
