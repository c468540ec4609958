/-
  No cell of these rows narrows 'for every input' (looked for: loops, veiled, ifaces, maps, wideKeys, modest, calm, conditions, laid).
  DERIVED. THE GIVEN ROWS OF THIS SEAT. 7 by the template 'for every input the law returns true; each argument reads behind the call as it read before'; 0 by the template 'total and deterministic' (their statements: YtjkcdnfmmfpbjaaTotals.lean).
  GIVEN WITH THE SEED: the statements are not yours to turn. If you find one false, say at which input.
  Laid BY PROGRAM, IN A SANDBOX (cutbox-rows.mjs): the forced cells as the released guide's own fill.sh prints them over the translation 510635ba3c8e4dbf… (all of the seat's roots in one cut). By AI agents, Wed Nov 11 2026. No macro, syntax, notation, axiom, sorry.
-/
import Derived.Test.YtjkcdnfmmfpbjaaChecked
import GoSem.Claim
import GoSem.ClaimJoined
import GoSem.ClaimMapViews
import Derived.JoinedTies
import Derived.KernelRfl
namespace Go.Proofs.Ytjkcdnfmmfpbjaa
/- THE CELL 'sum', in the pinned program and in every row, IS THE sha256 OF THE DUMP (.gsa) THAT YtjkcdnfmmfpbjaaProg.lean LOADS. Nothing in Lean hashes anything: it is a label: what it is worth is what the hold of that sum in a sandbox is worth. -/
noncomputable def Try.pinned : Pinned := { name := "ytjkcdnfmmfpbjaa", sum := "510635ba3c8e4dbfec69703fa0a9529461bc6dfed01d579c2628339e1006778f", checked := Try.checked }
namespace Rows
def none {H : Type} : Left H := { results := [], args := [] }

/-- 'laws.FnExactRadicalInverse': WHATEVER THE INPUT: true; the input reads as it did. -/
def fnExactRadicalInverseSpec : ChangeSpec := { name := "fnExactRadicalInverse", fn := fun _ => fun
  | [d1, d2] => { results := [.lit (.bool true)], args := [d1, d2] }
  | _ => none }
def fnExactRadicalInverseRow : OpenClaim := { program := "ytjkcdnfmmfpbjaa", sum := "510635ba3c8e4dbfec69703fa0a9529461bc6dfed01d579c2628339e1006778f", func := "loop.example/g01121/laws.FnExactRadicalInverse", spec := "fnExactRadicalInverse", apart := false }
def FnExactRadicalInverseSaid : Prop := fnExactRadicalInverseRow.holds Try.pinned (OpenSpec.ofChange fnExactRadicalInverseSpec)

/-- ITS FALSE NEIGHBOUR: 'it returns false'. Refute it at one input. -/
def fnExactRadicalInverseWrong : ChangeSpec := { name := "fnExactRadicalInverse", fn := fun _ => fun
  | [d1, d2] => { results := [.lit (.bool false)], args := [d1, d2] }
  | _ => none }
def FnExactRadicalInverseWrongFalsely : Prop := fnExactRadicalInverseRow.holds Try.pinned (OpenSpec.ofChange fnExactRadicalInverseWrong)

/-- 'laws.FnExactHaltonPoint': WHATEVER THE INPUT: true; the input reads as it did. -/
def fnExactHaltonPointSpec : ChangeSpec := { name := "fnExactHaltonPoint", fn := fun _ => fun
  | [d1, d2] => { results := [.lit (.bool true)], args := [d1, d2] }
  | _ => none }
def fnExactHaltonPointRow : OpenClaim := { program := "ytjkcdnfmmfpbjaa", sum := "510635ba3c8e4dbfec69703fa0a9529461bc6dfed01d579c2628339e1006778f", func := "loop.example/g01121/laws.FnExactHaltonPoint", spec := "fnExactHaltonPoint", apart := false }
def FnExactHaltonPointSaid : Prop := fnExactHaltonPointRow.holds Try.pinned (OpenSpec.ofChange fnExactHaltonPointSpec)

/-- ITS FALSE NEIGHBOUR: 'it returns false'. Refute it at one input. -/
def fnExactHaltonPointWrong : ChangeSpec := { name := "fnExactHaltonPoint", fn := fun _ => fun
  | [d1, d2] => { results := [.lit (.bool false)], args := [d1, d2] }
  | _ => none }
def FnExactHaltonPointWrongFalsely : Prop := fnExactHaltonPointRow.holds Try.pinned (OpenSpec.ofChange fnExactHaltonPointWrong)

/-- 'laws.FnInverses': WHATEVER THE INPUT: true; the input reads as it did. -/
def fnInversesSpec : ChangeSpec := { name := "fnInverses", fn := fun _ => fun
  | [d1, d2] => { results := [.lit (.bool true)], args := [d1, d2] }
  | _ => none }
def fnInversesRow : OpenClaim := { program := "ytjkcdnfmmfpbjaa", sum := "510635ba3c8e4dbfec69703fa0a9529461bc6dfed01d579c2628339e1006778f", func := "loop.example/g01121/laws.FnInverses", spec := "fnInverses", apart := false }
def FnInversesSaid : Prop := fnInversesRow.holds Try.pinned (OpenSpec.ofChange fnInversesSpec)

/-- ITS FALSE NEIGHBOUR: 'it returns false'. Refute it at one input. -/
def fnInversesWrong : ChangeSpec := { name := "fnInverses", fn := fun _ => fun
  | [d1, d2] => { results := [.lit (.bool false)], args := [d1, d2] }
  | _ => none }
def FnInversesWrongFalsely : Prop := fnInversesRow.holds Try.pinned (OpenSpec.ofChange fnInversesWrong)

/-- 'laws.FnExactStarDistance': WHATEVER THE INPUT: true; the input reads as it did. -/
def fnExactStarDistanceSpec : ChangeSpec := { name := "fnExactStarDistance", fn := fun _ => fun
  | [d1, d2] => { results := [.lit (.bool true)], args := [d1, d2] }
  | _ => none }
def fnExactStarDistanceRow : OpenClaim := { program := "ytjkcdnfmmfpbjaa", sum := "510635ba3c8e4dbfec69703fa0a9529461bc6dfed01d579c2628339e1006778f", func := "loop.example/g01121/laws.FnExactStarDistance", spec := "fnExactStarDistance", unfollowed := true, recurses := true, apart := false }
def FnExactStarDistanceSaid : Prop := fnExactStarDistanceRow.holds Try.pinned (OpenSpec.ofChange fnExactStarDistanceSpec)

/-- ITS FALSE NEIGHBOUR: 'it returns false'. Refute it at one input. -/
def fnExactStarDistanceWrong : ChangeSpec := { name := "fnExactStarDistance", fn := fun _ => fun
  | [d1, d2] => { results := [.lit (.bool false)], args := [d1, d2] }
  | _ => none }
def FnExactStarDistanceWrongFalsely : Prop := fnExactStarDistanceRow.holds Try.pinned (OpenSpec.ofChange fnExactStarDistanceWrong)

/-- 'laws.FnStarBound': WHATEVER THE INPUT: true; the input reads as it did. -/
def fnStarBoundSpec : ChangeSpec := { name := "fnStarBound", fn := fun _ => fun
  | [d1, d2] => { results := [.lit (.bool true)], args := [d1, d2] }
  | _ => none }
def fnStarBoundRow : OpenClaim := { program := "ytjkcdnfmmfpbjaa", sum := "510635ba3c8e4dbfec69703fa0a9529461bc6dfed01d579c2628339e1006778f", func := "loop.example/g01121/laws.FnStarBound", spec := "fnStarBound", unfollowed := true, recurses := true, apart := false }
def FnStarBoundSaid : Prop := fnStarBoundRow.holds Try.pinned (OpenSpec.ofChange fnStarBoundSpec)

/-- ITS FALSE NEIGHBOUR: 'it returns false'. Refute it at one input. -/
def fnStarBoundWrong : ChangeSpec := { name := "fnStarBound", fn := fun _ => fun
  | [d1, d2] => { results := [.lit (.bool false)], args := [d1, d2] }
  | _ => none }
def FnStarBoundWrongFalsely : Prop := fnStarBoundRow.holds Try.pinned (OpenSpec.ofChange fnStarBoundWrong)

/-- 'laws.FnExactQualityOf': WHATEVER THE INPUT: true; the input reads as it did. -/
def fnExactQualityOfSpec : ChangeSpec := { name := "fnExactQualityOf", fn := fun _ => fun
  | [d] => { results := [.lit (.bool true)], args := [d] }
  | _ => none }
def fnExactQualityOfRow : OpenClaim := { program := "ytjkcdnfmmfpbjaa", sum := "510635ba3c8e4dbfec69703fa0a9529461bc6dfed01d579c2628339e1006778f", func := "loop.example/g01121/laws.FnExactQualityOf", spec := "fnExactQualityOf", unfollowed := true, recurses := true, apart := false }
def FnExactQualityOfSaid : Prop := fnExactQualityOfRow.holds Try.pinned (OpenSpec.ofChange fnExactQualityOfSpec)

/-- ITS FALSE NEIGHBOUR: 'it returns false'. Refute it at one input. -/
def fnExactQualityOfWrong : ChangeSpec := { name := "fnExactQualityOf", fn := fun _ => fun
  | [d] => { results := [.lit (.bool false)], args := [d] }
  | _ => none }
def FnExactQualityOfWrongFalsely : Prop := fnExactQualityOfRow.holds Try.pinned (OpenSpec.ofChange fnExactQualityOfWrong)

/-- 'laws.FnNetQuality': WHATEVER THE INPUT: true; the input reads as it did. -/
def fnNetQualitySpec : ChangeSpec := { name := "fnNetQuality", fn := fun _ => fun
  | [d1, d2] => { results := [.lit (.bool true)], args := [d1, d2] }
  | _ => none }
def fnNetQualityRow : OpenClaim := { program := "ytjkcdnfmmfpbjaa", sum := "510635ba3c8e4dbfec69703fa0a9529461bc6dfed01d579c2628339e1006778f", func := "loop.example/g01121/laws.FnNetQuality", spec := "fnNetQuality", unfollowed := true, recurses := true, apart := false }
def FnNetQualitySaid : Prop := fnNetQualityRow.holds Try.pinned (OpenSpec.ofChange fnNetQualitySpec)

/-- ITS FALSE NEIGHBOUR: 'it returns false'. Refute it at one input. -/
def fnNetQualityWrong : ChangeSpec := { name := "fnNetQuality", fn := fun _ => fun
  | [d1, d2] => { results := [.lit (.bool false)], args := [d1, d2] }
  | _ => none }
def FnNetQualityWrongFalsely : Prop := fnNetQualityRow.holds Try.pinned (OpenSpec.ofChange fnNetQualityWrong)

/- THE SECOND FORM. 'bulk': how many values and letters a reading holds, each counted each time it is reached (what is shared counts as often as it is met; a slice's spare places count too). A statement '..UptoSaid' is the law's where the arguments, and the package variables that the reading takes, are together of bulk at most 1048576: NARROWER than '..Said'. Prove '..Said' where nothing that the law and all that it calls make is longer than what came in: it says more and counts as full. Else prove '..UptoSaid'. A law counts once. -/
mutual
def uptoBulk {H : Type} : DataW H → Nat
  | .lit (.string bytes) => bytes.length + 1
  | .lit _ => 1
  | .nil => 1
  | .ptr d => uptoBulk d + 1
  | .slice elems spare => uptoBulkAll elems + uptoBulkAll spare + 1
  | .agg parts => uptoBulkAll parts + 1
  | .iface _ d => uptoBulk d + 1
  | .map entries => uptoBulkEntries entries + 1
  | .held _ => 1
def uptoBulkAll {H : Type} : List (DataW H) → Nat
  | [] => 0
  | d :: r => uptoBulk d + uptoBulkAll r
def uptoBulkEntries {H : Type} : List (Lit × DataW H) → Nat
  | [] => 0
  | x :: r => uptoBulkEntry x + uptoBulkEntries r
def uptoBulkEntry {H : Type} : Lit × DataW H → Nat
  | (.string bytes, d) => bytes.length + uptoBulk d + 1
  | (_, d) => uptoBulk d + 1
 end
def uptoSmall : (H : Type) → List (DataW H) → Bool := fun _ ds => decide (uptoBulkAll ds ≤ 1048576)
def OpenSpec.upto (s : _root_.Go.ChangeSpec) : _root_.Go.OpenSpec := { _root_.Go.OpenSpec.ofChange s with cond := some uptoSmall }

/-- 'laws.FnExactRadicalInverse', WHERE WHAT IT READS IS OF BULK AT MOST 1048576: true; the input reads as it did. -/
def fnExactRadicalInverseUptoRow : OpenClaim := { program := "ytjkcdnfmmfpbjaa", sum := "510635ba3c8e4dbfec69703fa0a9529461bc6dfed01d579c2628339e1006778f", func := "loop.example/g01121/laws.FnExactRadicalInverse", spec := "fnExactRadicalInverse", apart := false, narrowed := true }
def FnExactRadicalInverseUptoSaid : Prop := fnExactRadicalInverseUptoRow.holds Try.pinned (OpenSpec.upto fnExactRadicalInverseSpec)

/-- 'laws.FnExactHaltonPoint', WHERE WHAT IT READS IS OF BULK AT MOST 1048576: true; the input reads as it did. -/
def fnExactHaltonPointUptoRow : OpenClaim := { program := "ytjkcdnfmmfpbjaa", sum := "510635ba3c8e4dbfec69703fa0a9529461bc6dfed01d579c2628339e1006778f", func := "loop.example/g01121/laws.FnExactHaltonPoint", spec := "fnExactHaltonPoint", apart := false, narrowed := true }
def FnExactHaltonPointUptoSaid : Prop := fnExactHaltonPointUptoRow.holds Try.pinned (OpenSpec.upto fnExactHaltonPointSpec)

/-- 'laws.FnInverses', WHERE WHAT IT READS IS OF BULK AT MOST 1048576: true; the input reads as it did. -/
def fnInversesUptoRow : OpenClaim := { program := "ytjkcdnfmmfpbjaa", sum := "510635ba3c8e4dbfec69703fa0a9529461bc6dfed01d579c2628339e1006778f", func := "loop.example/g01121/laws.FnInverses", spec := "fnInverses", apart := false, narrowed := true }
def FnInversesUptoSaid : Prop := fnInversesUptoRow.holds Try.pinned (OpenSpec.upto fnInversesSpec)

/-- 'laws.FnExactStarDistance', WHERE WHAT IT READS IS OF BULK AT MOST 1048576: true; the input reads as it did. -/
def fnExactStarDistanceUptoRow : OpenClaim := { program := "ytjkcdnfmmfpbjaa", sum := "510635ba3c8e4dbfec69703fa0a9529461bc6dfed01d579c2628339e1006778f", func := "loop.example/g01121/laws.FnExactStarDistance", spec := "fnExactStarDistance", unfollowed := true, recurses := true, apart := false, narrowed := true }
def FnExactStarDistanceUptoSaid : Prop := fnExactStarDistanceUptoRow.holds Try.pinned (OpenSpec.upto fnExactStarDistanceSpec)

/-- 'laws.FnStarBound', WHERE WHAT IT READS IS OF BULK AT MOST 1048576: true; the input reads as it did. -/
def fnStarBoundUptoRow : OpenClaim := { program := "ytjkcdnfmmfpbjaa", sum := "510635ba3c8e4dbfec69703fa0a9529461bc6dfed01d579c2628339e1006778f", func := "loop.example/g01121/laws.FnStarBound", spec := "fnStarBound", unfollowed := true, recurses := true, apart := false, narrowed := true }
def FnStarBoundUptoSaid : Prop := fnStarBoundUptoRow.holds Try.pinned (OpenSpec.upto fnStarBoundSpec)

/-- 'laws.FnExactQualityOf', WHERE WHAT IT READS IS OF BULK AT MOST 1048576: true; the input reads as it did. -/
def fnExactQualityOfUptoRow : OpenClaim := { program := "ytjkcdnfmmfpbjaa", sum := "510635ba3c8e4dbfec69703fa0a9529461bc6dfed01d579c2628339e1006778f", func := "loop.example/g01121/laws.FnExactQualityOf", spec := "fnExactQualityOf", unfollowed := true, recurses := true, apart := false, narrowed := true }
def FnExactQualityOfUptoSaid : Prop := fnExactQualityOfUptoRow.holds Try.pinned (OpenSpec.upto fnExactQualityOfSpec)

/-- 'laws.FnNetQuality', WHERE WHAT IT READS IS OF BULK AT MOST 1048576: true; the input reads as it did. -/
def fnNetQualityUptoRow : OpenClaim := { program := "ytjkcdnfmmfpbjaa", sum := "510635ba3c8e4dbfec69703fa0a9529461bc6dfed01d579c2628339e1006778f", func := "loop.example/g01121/laws.FnNetQuality", spec := "fnNetQuality", unfollowed := true, recurses := true, apart := false, narrowed := true }
def FnNetQualityUptoSaid : Prop := fnNetQualityUptoRow.holds Try.pinned (OpenSpec.upto fnNetQualitySpec)

end Rows
end Go.Proofs.Ytjkcdnfmmfpbjaa
