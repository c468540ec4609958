/-
  No cell of these rows narrows 'for every input' (looked for: loops, veiled, ifaces, maps, wideKeys, modest, calm, conditions, laid).
  DERIVED. THE GIVEN ROWS OF THIS SEAT. 11 by the template 'for every input the law returns true; each argument reads behind the call as it read before'; 0 by the template 'total and deterministic' (their statements: YtpflbcdbmainiaaTotals.lean).
  GIVEN WITH THE SEED: the statements are not yours to turn. If you find one false, say at which input.
  Laid BY PROGRAM, IN A SANDBOX (cutbox-rows.mjs): the forced cells as the released guide's own fill.sh prints them over the translation cbce8ab19debbe93… (all of the seat's roots in one cut). By AI agents, Wed Nov 11 2026. No macro, syntax, notation, axiom, sorry.
-/
import Derived.Test.YtpflbcdbmainiaaChecked
import GoSem.Claim
import GoSem.ClaimJoined
import GoSem.ClaimMapViews
import Derived.JoinedTies
import Derived.KernelRfl
namespace Go.Proofs.Ytpflbcdbmainiaa
/- THE CELL 'sum', in the pinned program and in every row, IS THE sha256 OF THE DUMP (.gsa) THAT YtpflbcdbmainiaaProg.lean LOADS. Nothing in Lean hashes anything: it is a label: what it is worth is what the hold of that sum in a sandbox is worth. -/
noncomputable def Try.pinned : Pinned := { name := "ytpflbcdbmainiaa", sum := "cbce8ab19debbe93bb798426ce5f71c8492274b41092c0243c9450ab4bff3abc", checked := Try.checked }
namespace Rows
def none {H : Type} : Left H := { results := [], args := [] }

/-- 'laws.FnCycled': WHATEVER THE INPUT: true; the input reads as it did. -/
def fnCycledSpec : ChangeSpec := { name := "fnCycled", fn := fun _ => fun
  | [d1, d2] => { results := [.lit (.bool true)], args := [d1, d2] }
  | _ => none }
def fnCycledRow : OpenClaim := { program := "ytpflbcdbmainiaa", sum := "cbce8ab19debbe93bb798426ce5f71c8492274b41092c0243c9450ab4bff3abc", func := "loop.example/g01121/laws.FnCycled", spec := "fnCycled", unfollowed := true, recurses := true, apart := false }
def FnCycledSaid : Prop := fnCycledRow.holds Try.pinned (OpenSpec.ofChange fnCycledSpec)

/-- ITS FALSE NEIGHBOUR: 'it returns false'. Refute it at one input. -/
def fnCycledWrong : ChangeSpec := { name := "fnCycled", fn := fun _ => fun
  | [d1, d2] => { results := [.lit (.bool false)], args := [d1, d2] }
  | _ => none }
def FnCycledWrongFalsely : Prop := fnCycledRow.holds Try.pinned (OpenSpec.ofChange fnCycledWrong)

/-- 'laws.FnExactValidLab': WHATEVER THE INPUT: true; the input reads as it did. -/
def fnExactValidLabSpec : ChangeSpec := { name := "fnExactValidLab", fn := fun _ => fun
  | [d] => { results := [.lit (.bool true)], args := [d] }
  | _ => none }
def fnExactValidLabRow : OpenClaim := { program := "ytpflbcdbmainiaa", sum := "cbce8ab19debbe93bb798426ce5f71c8492274b41092c0243c9450ab4bff3abc", func := "loop.example/g01121/laws.FnExactValidLab", spec := "fnExactValidLab", apart := false }
def FnExactValidLabSaid : Prop := fnExactValidLabRow.holds Try.pinned (OpenSpec.ofChange fnExactValidLabSpec)

/-- ITS FALSE NEIGHBOUR: 'it returns false'. Refute it at one input. -/
def fnExactValidLabWrong : ChangeSpec := { name := "fnExactValidLab", fn := fun _ => fun
  | [d] => { results := [.lit (.bool false)], args := [d] }
  | _ => none }
def FnExactValidLabWrongFalsely : Prop := fnExactValidLabRow.holds Try.pinned (OpenSpec.ofChange fnExactValidLabWrong)

/-- 'laws.FnExactRadicalInverse': WHATEVER THE INPUT: true; the input reads as it did. -/
def fnExactRadicalInverseSpec : ChangeSpec := { name := "fnExactRadicalInverse", fn := fun _ => fun
  | [d1, d2] => { results := [.lit (.bool true)], args := [d1, d2] }
  | _ => none }
def fnExactRadicalInverseRow : OpenClaim := { program := "ytpflbcdbmainiaa", sum := "cbce8ab19debbe93bb798426ce5f71c8492274b41092c0243c9450ab4bff3abc", func := "loop.example/g01121/laws.FnExactRadicalInverse", spec := "fnExactRadicalInverse", apart := false }
def FnExactRadicalInverseSaid : Prop := fnExactRadicalInverseRow.holds Try.pinned (OpenSpec.ofChange fnExactRadicalInverseSpec)

/-- ITS FALSE NEIGHBOUR: 'it returns false'. Refute it at one input. -/
def fnExactRadicalInverseWrong : ChangeSpec := { name := "fnExactRadicalInverse", fn := fun _ => fun
  | [d1, d2] => { results := [.lit (.bool false)], args := [d1, d2] }
  | _ => none }
def FnExactRadicalInverseWrongFalsely : Prop := fnExactRadicalInverseRow.holds Try.pinned (OpenSpec.ofChange fnExactRadicalInverseWrong)

/-- 'laws.FnExactScrambleNet': WHATEVER THE INPUT: true; the input reads as it did. -/
def fnExactScrambleNetSpec : ChangeSpec := { name := "fnExactScrambleNet", fn := fun _ => fun
  | [d1, d2, d3] => { results := [.lit (.bool true)], args := [d1, d2, d3] }
  | _ => none }
def fnExactScrambleNetRow : OpenClaim := { program := "ytpflbcdbmainiaa", sum := "cbce8ab19debbe93bb798426ce5f71c8492274b41092c0243c9450ab4bff3abc", func := "loop.example/g01121/laws.FnExactScrambleNet", spec := "fnExactScrambleNet", unfollowed := true, recurses := true, apart := false }
def FnExactScrambleNetSaid : Prop := fnExactScrambleNetRow.holds Try.pinned (OpenSpec.ofChange fnExactScrambleNetSpec)

/-- ITS FALSE NEIGHBOUR: 'it returns false'. Refute it at one input. -/
def fnExactScrambleNetWrong : ChangeSpec := { name := "fnExactScrambleNet", fn := fun _ => fun
  | [d1, d2, d3] => { results := [.lit (.bool false)], args := [d1, d2, d3] }
  | _ => none }
def FnExactScrambleNetWrongFalsely : Prop := fnExactScrambleNetRow.holds Try.pinned (OpenSpec.ofChange fnExactScrambleNetWrong)

/-- 'laws.FnExactQualityOf': WHATEVER THE INPUT: true; the input reads as it did. -/
def fnExactQualityOfSpec : ChangeSpec := { name := "fnExactQualityOf", fn := fun _ => fun
  | [d] => { results := [.lit (.bool true)], args := [d] }
  | _ => none }
def fnExactQualityOfRow : OpenClaim := { program := "ytpflbcdbmainiaa", sum := "cbce8ab19debbe93bb798426ce5f71c8492274b41092c0243c9450ab4bff3abc", func := "loop.example/g01121/laws.FnExactQualityOf", spec := "fnExactQualityOf", unfollowed := true, recurses := true, apart := false }
def FnExactQualityOfSaid : Prop := fnExactQualityOfRow.holds Try.pinned (OpenSpec.ofChange fnExactQualityOfSpec)

/-- ITS FALSE NEIGHBOUR: 'it returns false'. Refute it at one input. -/
def fnExactQualityOfWrong : ChangeSpec := { name := "fnExactQualityOf", fn := fun _ => fun
  | [d] => { results := [.lit (.bool false)], args := [d] }
  | _ => none }
def FnExactQualityOfWrongFalsely : Prop := fnExactQualityOfRow.holds Try.pinned (OpenSpec.ofChange fnExactQualityOfWrong)

/-- 'laws.FnExactSkipStream': WHATEVER THE INPUT: true; the input reads as it did. -/
def fnExactSkipStreamSpec : ChangeSpec := { name := "fnExactSkipStream", fn := fun _ => fun
  | [d1, d2] => { results := [.lit (.bool true)], args := [d1, d2] }
  | _ => none }
def fnExactSkipStreamRow : OpenClaim := { program := "ytpflbcdbmainiaa", sum := "cbce8ab19debbe93bb798426ce5f71c8492274b41092c0243c9450ab4bff3abc", func := "loop.example/g01121/laws.FnExactSkipStream", spec := "fnExactSkipStream", unfollowed := true, recurses := true, apart := false }
def FnExactSkipStreamSaid : Prop := fnExactSkipStreamRow.holds Try.pinned (OpenSpec.ofChange fnExactSkipStreamSpec)

/-- ITS FALSE NEIGHBOUR: 'it returns false'. Refute it at one input. -/
def fnExactSkipStreamWrong : ChangeSpec := { name := "fnExactSkipStream", fn := fun _ => fun
  | [d1, d2] => { results := [.lit (.bool false)], args := [d1, d2] }
  | _ => none }
def FnExactSkipStreamWrongFalsely : Prop := fnExactSkipStreamRow.holds Try.pinned (OpenSpec.ofChange fnExactSkipStreamWrong)

/-- 'laws.FnApart': WHATEVER THE INPUT: true; the input reads as it did. -/
def fnApartSpec : ChangeSpec := { name := "fnApart", fn := fun _ => fun
  | [d1, d2] => { results := [.lit (.bool true)], args := [d1, d2] }
  | _ => none }
def fnApartRow : OpenClaim := { program := "ytpflbcdbmainiaa", sum := "cbce8ab19debbe93bb798426ce5f71c8492274b41092c0243c9450ab4bff3abc", func := "loop.example/g01121/laws.FnApart", spec := "fnApart", unfollowed := true, recurses := true, apart := false }
def FnApartSaid : Prop := fnApartRow.holds Try.pinned (OpenSpec.ofChange fnApartSpec)

/-- ITS FALSE NEIGHBOUR: 'it returns false'. Refute it at one input. -/
def fnApartWrong : ChangeSpec := { name := "fnApart", fn := fun _ => fun
  | [d1, d2] => { results := [.lit (.bool false)], args := [d1, d2] }
  | _ => none }
def FnApartWrongFalsely : Prop := fnApartRow.holds Try.pinned (OpenSpec.ofChange fnApartWrong)

/-- 'laws.FnExactHaltonPoint': WHATEVER THE INPUT: true; the input reads as it did. -/
def fnExactHaltonPointSpec : ChangeSpec := { name := "fnExactHaltonPoint", fn := fun _ => fun
  | [d1, d2] => { results := [.lit (.bool true)], args := [d1, d2] }
  | _ => none }
def fnExactHaltonPointRow : OpenClaim := { program := "ytpflbcdbmainiaa", sum := "cbce8ab19debbe93bb798426ce5f71c8492274b41092c0243c9450ab4bff3abc", func := "loop.example/g01121/laws.FnExactHaltonPoint", spec := "fnExactHaltonPoint", apart := false }
def FnExactHaltonPointSaid : Prop := fnExactHaltonPointRow.holds Try.pinned (OpenSpec.ofChange fnExactHaltonPointSpec)

/-- ITS FALSE NEIGHBOUR: 'it returns false'. Refute it at one input. -/
def fnExactHaltonPointWrong : ChangeSpec := { name := "fnExactHaltonPoint", fn := fun _ => fun
  | [d1, d2] => { results := [.lit (.bool false)], args := [d1, d2] }
  | _ => none }
def FnExactHaltonPointWrongFalsely : Prop := fnExactHaltonPointRow.holds Try.pinned (OpenSpec.ofChange fnExactHaltonPointWrong)

/-- 'laws.FnExactSplitStream': WHATEVER THE INPUT: true; the input reads as it did. -/
def fnExactSplitStreamSpec : ChangeSpec := { name := "fnExactSplitStream", fn := fun _ => fun
  | [d1, d2, d3] => { results := [.lit (.bool true)], args := [d1, d2, d3] }
  | _ => none }
def fnExactSplitStreamRow : OpenClaim := { program := "ytpflbcdbmainiaa", sum := "cbce8ab19debbe93bb798426ce5f71c8492274b41092c0243c9450ab4bff3abc", func := "loop.example/g01121/laws.FnExactSplitStream", spec := "fnExactSplitStream", unfollowed := true, recurses := true, apart := false }
def FnExactSplitStreamSaid : Prop := fnExactSplitStreamRow.holds Try.pinned (OpenSpec.ofChange fnExactSplitStreamSpec)

/-- ITS FALSE NEIGHBOUR: 'it returns false'. Refute it at one input. -/
def fnExactSplitStreamWrong : ChangeSpec := { name := "fnExactSplitStream", fn := fun _ => fun
  | [d1, d2, d3] => { results := [.lit (.bool false)], args := [d1, d2, d3] }
  | _ => none }
def FnExactSplitStreamWrongFalsely : Prop := fnExactSplitStreamRow.holds Try.pinned (OpenSpec.ofChange fnExactSplitStreamWrong)

/-- 'laws.FnExactFacesOf': WHATEVER THE INPUT: true; the input reads as it did. -/
def fnExactFacesOfSpec : ChangeSpec := { name := "fnExactFacesOf", fn := fun _ => fun
  | [d1, d2, d3] => { results := [.lit (.bool true)], args := [d1, d2, d3] }
  | _ => none }
def fnExactFacesOfRow : OpenClaim := { program := "ytpflbcdbmainiaa", sum := "cbce8ab19debbe93bb798426ce5f71c8492274b41092c0243c9450ab4bff3abc", func := "loop.example/g01121/laws.FnExactFacesOf", spec := "fnExactFacesOf", inPlace := ["internal/abi.NoEscape"], apart := false }
def FnExactFacesOfSaid : Prop := fnExactFacesOfRow.holds Try.pinned (OpenSpec.ofChange fnExactFacesOfSpec)

/-- ITS FALSE NEIGHBOUR: 'it returns false'. Refute it at one input. -/
def fnExactFacesOfWrong : ChangeSpec := { name := "fnExactFacesOf", fn := fun _ => fun
  | [d1, d2, d3] => { results := [.lit (.bool false)], args := [d1, d2, d3] }
  | _ => none }
def FnExactFacesOfWrongFalsely : Prop := fnExactFacesOfRow.holds Try.pinned (OpenSpec.ofChange fnExactFacesOfWrong)

/-- 'laws.FnExactOrderOf': WHATEVER THE INPUT: true; the input reads as it did. -/
def fnExactOrderOfSpec : ChangeSpec := { name := "fnExactOrderOf", fn := fun _ => fun
  | [d1, d2] => { results := [.lit (.bool true)], args := [d1, d2] }
  | _ => none }
def fnExactOrderOfRow : OpenClaim := { program := "ytpflbcdbmainiaa", sum := "cbce8ab19debbe93bb798426ce5f71c8492274b41092c0243c9450ab4bff3abc", func := "loop.example/g01121/laws.FnExactOrderOf", spec := "fnExactOrderOf", inPlace := ["internal/abi.NoEscape"], apart := false }
def FnExactOrderOfSaid : Prop := fnExactOrderOfRow.holds Try.pinned (OpenSpec.ofChange fnExactOrderOfSpec)

/-- ITS FALSE NEIGHBOUR: 'it returns false'. Refute it at one input. -/
def fnExactOrderOfWrong : ChangeSpec := { name := "fnExactOrderOf", fn := fun _ => fun
  | [d1, d2] => { results := [.lit (.bool false)], args := [d1, d2] }
  | _ => none }
def FnExactOrderOfWrongFalsely : Prop := fnExactOrderOfRow.holds Try.pinned (OpenSpec.ofChange fnExactOrderOfWrong)

/- THE SECOND FORM. 'bulk': how many values and letters a reading holds, each counted each time it is reached (what is shared counts as often as it is met; a slice's spare places count too). A statement '..UptoSaid' is the law's where the arguments, and the package variables that the reading takes, are together of bulk at most 1048576: NARROWER than '..Said'. Prove '..Said' where nothing that the law and all that it calls make is longer than what came in: it says more and counts as full. Else prove '..UptoSaid'. A law counts once. -/
mutual
def uptoBulk {H : Type} : DataW H → Nat
  | .lit (.string bytes) => bytes.length + 1
  | .lit _ => 1
  | .nil => 1
  | .ptr d => uptoBulk d + 1
  | .slice elems spare => uptoBulkAll elems + uptoBulkAll spare + 1
  | .agg parts => uptoBulkAll parts + 1
  | .iface _ d => uptoBulk d + 1
  | .map entries => uptoBulkEntries entries + 1
  | .held _ => 1
def uptoBulkAll {H : Type} : List (DataW H) → Nat
  | [] => 0
  | d :: r => uptoBulk d + uptoBulkAll r
def uptoBulkEntries {H : Type} : List (Lit × DataW H) → Nat
  | [] => 0
  | x :: r => uptoBulkEntry x + uptoBulkEntries r
def uptoBulkEntry {H : Type} : Lit × DataW H → Nat
  | (.string bytes, d) => bytes.length + uptoBulk d + 1
  | (_, d) => uptoBulk d + 1
 end
def uptoSmall : (H : Type) → List (DataW H) → Bool := fun _ ds => decide (uptoBulkAll ds ≤ 1048576)
def OpenSpec.upto (s : _root_.Go.ChangeSpec) : _root_.Go.OpenSpec := { _root_.Go.OpenSpec.ofChange s with cond := some uptoSmall }

/-- 'laws.FnCycled', WHERE WHAT IT READS IS OF BULK AT MOST 1048576: true; the input reads as it did. -/
def fnCycledUptoRow : OpenClaim := { program := "ytpflbcdbmainiaa", sum := "cbce8ab19debbe93bb798426ce5f71c8492274b41092c0243c9450ab4bff3abc", func := "loop.example/g01121/laws.FnCycled", spec := "fnCycled", unfollowed := true, recurses := true, apart := false, narrowed := true }
def FnCycledUptoSaid : Prop := fnCycledUptoRow.holds Try.pinned (OpenSpec.upto fnCycledSpec)

/-- 'laws.FnExactValidLab', WHERE WHAT IT READS IS OF BULK AT MOST 1048576: true; the input reads as it did. -/
def fnExactValidLabUptoRow : OpenClaim := { program := "ytpflbcdbmainiaa", sum := "cbce8ab19debbe93bb798426ce5f71c8492274b41092c0243c9450ab4bff3abc", func := "loop.example/g01121/laws.FnExactValidLab", spec := "fnExactValidLab", apart := false, narrowed := true }
def FnExactValidLabUptoSaid : Prop := fnExactValidLabUptoRow.holds Try.pinned (OpenSpec.upto fnExactValidLabSpec)

/-- 'laws.FnExactRadicalInverse', WHERE WHAT IT READS IS OF BULK AT MOST 1048576: true; the input reads as it did. -/
def fnExactRadicalInverseUptoRow : OpenClaim := { program := "ytpflbcdbmainiaa", sum := "cbce8ab19debbe93bb798426ce5f71c8492274b41092c0243c9450ab4bff3abc", func := "loop.example/g01121/laws.FnExactRadicalInverse", spec := "fnExactRadicalInverse", apart := false, narrowed := true }
def FnExactRadicalInverseUptoSaid : Prop := fnExactRadicalInverseUptoRow.holds Try.pinned (OpenSpec.upto fnExactRadicalInverseSpec)

/-- 'laws.FnExactScrambleNet', WHERE WHAT IT READS IS OF BULK AT MOST 1048576: true; the input reads as it did. -/
def fnExactScrambleNetUptoRow : OpenClaim := { program := "ytpflbcdbmainiaa", sum := "cbce8ab19debbe93bb798426ce5f71c8492274b41092c0243c9450ab4bff3abc", func := "loop.example/g01121/laws.FnExactScrambleNet", spec := "fnExactScrambleNet", unfollowed := true, recurses := true, apart := false, narrowed := true }
def FnExactScrambleNetUptoSaid : Prop := fnExactScrambleNetUptoRow.holds Try.pinned (OpenSpec.upto fnExactScrambleNetSpec)

/-- 'laws.FnExactQualityOf', WHERE WHAT IT READS IS OF BULK AT MOST 1048576: true; the input reads as it did. -/
def fnExactQualityOfUptoRow : OpenClaim := { program := "ytpflbcdbmainiaa", sum := "cbce8ab19debbe93bb798426ce5f71c8492274b41092c0243c9450ab4bff3abc", func := "loop.example/g01121/laws.FnExactQualityOf", spec := "fnExactQualityOf", unfollowed := true, recurses := true, apart := false, narrowed := true }
def FnExactQualityOfUptoSaid : Prop := fnExactQualityOfUptoRow.holds Try.pinned (OpenSpec.upto fnExactQualityOfSpec)

/-- 'laws.FnExactSkipStream', WHERE WHAT IT READS IS OF BULK AT MOST 1048576: true; the input reads as it did. -/
def fnExactSkipStreamUptoRow : OpenClaim := { program := "ytpflbcdbmainiaa", sum := "cbce8ab19debbe93bb798426ce5f71c8492274b41092c0243c9450ab4bff3abc", func := "loop.example/g01121/laws.FnExactSkipStream", spec := "fnExactSkipStream", unfollowed := true, recurses := true, apart := false, narrowed := true }
def FnExactSkipStreamUptoSaid : Prop := fnExactSkipStreamUptoRow.holds Try.pinned (OpenSpec.upto fnExactSkipStreamSpec)

/-- 'laws.FnApart', WHERE WHAT IT READS IS OF BULK AT MOST 1048576: true; the input reads as it did. -/
def fnApartUptoRow : OpenClaim := { program := "ytpflbcdbmainiaa", sum := "cbce8ab19debbe93bb798426ce5f71c8492274b41092c0243c9450ab4bff3abc", func := "loop.example/g01121/laws.FnApart", spec := "fnApart", unfollowed := true, recurses := true, apart := false, narrowed := true }
def FnApartUptoSaid : Prop := fnApartUptoRow.holds Try.pinned (OpenSpec.upto fnApartSpec)

/-- 'laws.FnExactHaltonPoint', WHERE WHAT IT READS IS OF BULK AT MOST 1048576: true; the input reads as it did. -/
def fnExactHaltonPointUptoRow : OpenClaim := { program := "ytpflbcdbmainiaa", sum := "cbce8ab19debbe93bb798426ce5f71c8492274b41092c0243c9450ab4bff3abc", func := "loop.example/g01121/laws.FnExactHaltonPoint", spec := "fnExactHaltonPoint", apart := false, narrowed := true }
def FnExactHaltonPointUptoSaid : Prop := fnExactHaltonPointUptoRow.holds Try.pinned (OpenSpec.upto fnExactHaltonPointSpec)

/-- 'laws.FnExactSplitStream', WHERE WHAT IT READS IS OF BULK AT MOST 1048576: true; the input reads as it did. -/
def fnExactSplitStreamUptoRow : OpenClaim := { program := "ytpflbcdbmainiaa", sum := "cbce8ab19debbe93bb798426ce5f71c8492274b41092c0243c9450ab4bff3abc", func := "loop.example/g01121/laws.FnExactSplitStream", spec := "fnExactSplitStream", unfollowed := true, recurses := true, apart := false, narrowed := true }
def FnExactSplitStreamUptoSaid : Prop := fnExactSplitStreamUptoRow.holds Try.pinned (OpenSpec.upto fnExactSplitStreamSpec)

/-- 'laws.FnExactFacesOf', WHERE WHAT IT READS IS OF BULK AT MOST 1048576: true; the input reads as it did. -/
def fnExactFacesOfUptoRow : OpenClaim := { program := "ytpflbcdbmainiaa", sum := "cbce8ab19debbe93bb798426ce5f71c8492274b41092c0243c9450ab4bff3abc", func := "loop.example/g01121/laws.FnExactFacesOf", spec := "fnExactFacesOf", inPlace := ["internal/abi.NoEscape"], apart := false, narrowed := true }
def FnExactFacesOfUptoSaid : Prop := fnExactFacesOfUptoRow.holds Try.pinned (OpenSpec.upto fnExactFacesOfSpec)

/-- 'laws.FnExactOrderOf', WHERE WHAT IT READS IS OF BULK AT MOST 1048576: true; the input reads as it did. -/
def fnExactOrderOfUptoRow : OpenClaim := { program := "ytpflbcdbmainiaa", sum := "cbce8ab19debbe93bb798426ce5f71c8492274b41092c0243c9450ab4bff3abc", func := "loop.example/g01121/laws.FnExactOrderOf", spec := "fnExactOrderOf", inPlace := ["internal/abi.NoEscape"], apart := false, narrowed := true }
def FnExactOrderOfUptoSaid : Prop := fnExactOrderOfUptoRow.holds Try.pinned (OpenSpec.upto fnExactOrderOfSpec)

end Rows
end Go.Proofs.Ytpflbcdbmainiaa
