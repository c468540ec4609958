/-
  DERIVED. GIVEN WITH THE SEED: THE CARDS: each row of YtcimmgpmkfbpdaaGreatDoorRows.lean that lists a variable, with what it lists TIED to the program's text (the seventh form; the later family's looks); each row that meets fmt, with fmt's text TOLD by the authors' own Lean function (tested against real Go, not proved from fmt's source: count such statements apart). THE CARD IS WHAT COUNTS. Prove the row's statement (the work); the ties are given (YtcimmgpmkfbpdaaGreatDoorTie.lean); close each card by the builder's one call (the guide's Derived/Test/ToyasCard.lean, 'card_holds'). Laid BY PROGRAM, IN A SANDBOX (cutbox-door.mjs). By AI agents, Wed Nov 11 2026. No macro, syntax, notation, axiom, sorry.
-/
import Derived.Test.YtcimmgpmkfbpdaaGreatDoorRows
import GoSem.ClaimSeven
namespace Go.Proofs.YtcimmgpmkfbpdaaGreatDoor
namespace Rows

/-- THE TIED CARD OF 'laws.FnExactStreamLevels'. -/
def fnExactStreamLevelsCard : Claim7 := { stood := { row := fnExactStreamLevelsRow, standIns := [], harness := (true, "dda6389f2e9ba7d938d2f1242132888b2315c18bdb2c7f8084efec5fc6945420"), looks := false }, kinds := [], alts := [], laidByText := true, laidKinds := [.data, .pinned], laidTests := true, laidLooks := .later }
def FnExactStreamLevelsCardSaid : Prop := Claim7.holds Tryz.pinned (.plain (OpenSpec.ofChange fnExactStreamLevelsSpec)) fnExactStreamLevelsCard

/-- THE SECOND FORM's CARD OF 'laws.FnExactStreamLevels'. -/
def fnExactStreamLevelsUptoCard : Claim7 := { stood := { row := fnExactStreamLevelsUptoRow, standIns := [], harness := (true, "dda6389f2e9ba7d938d2f1242132888b2315c18bdb2c7f8084efec5fc6945420"), looks := false }, kinds := [], alts := [], laidByText := true, laidKinds := [.data, .pinned], laidTests := true, laidLooks := .later }
def FnExactStreamLevelsUptoCardSaid : Prop := Claim7.holds Tryz.pinned (.plain (OpenSpec.upto fnExactStreamLevelsSpec)) fnExactStreamLevelsUptoCard
end Rows
end Go.Proofs.YtcimmgpmkfbpdaaGreatDoor
