/-
  DERIVED. GIVEN WITH THE SEED: THE CARDS: each row of YthagenodiofgnaaGreatDoorRows.lean that lists a variable, with what it lists TIED to the program's text (the seventh form; the later family's looks); each row that meets fmt, with fmt's text TOLD by the authors' own Lean function (tested against real Go, not proved from fmt's source: count such statements apart). THE CARD IS WHAT COUNTS. Prove the row's statement (the work); the ties are given (YthagenodiofgnaaGreatDoorTie.lean); close each card by the builder's one call (the guide's Derived/Test/ToyasCard.lean, 'card_holds'). Laid BY PROGRAM, IN A SANDBOX (cutbox-door.mjs). By AI agents, Wed Nov 11 2026. No macro, syntax, notation, axiom, sorry.
-/
import Derived.Test.YthagenodiofgnaaGreatDoorRows
import GoSem.ClaimSeven
namespace Go.Proofs.YthagenodiofgnaaGreatDoor
namespace Rows

/-- THE TIED CARD OF 'laws.FnDrawn'. -/
def fnDrawnCard : Claim7 := { stood := { row := fnDrawnRow, standIns := [], harness := (true, "bea56665834ae6689fe1b057763f4cd45fde31ff861ddcca630c61cf10a53589"), looks := false }, kinds := [], alts := [], laidByText := true, laidKinds := [.data, .pinned], laidTests := true, laidLooks := .later }
def FnDrawnCardSaid : Prop := Claim7.holds Tryz.pinned (.plain (OpenSpec.ofChange fnDrawnSpec)) fnDrawnCard

/-- THE SECOND FORM's CARD OF 'laws.FnDrawn'. -/
def fnDrawnUptoCard : Claim7 := { stood := { row := fnDrawnUptoRow, standIns := [], harness := (true, "bea56665834ae6689fe1b057763f4cd45fde31ff861ddcca630c61cf10a53589"), looks := false }, kinds := [], alts := [], laidByText := true, laidKinds := [.data, .pinned], laidTests := true, laidLooks := .later }
def FnDrawnUptoCardSaid : Prop := Claim7.holds Tryz.pinned (.plain (OpenSpec.upto fnDrawnSpec)) fnDrawnUptoCard
end Rows
end Go.Proofs.YthagenodiofgnaaGreatDoor
