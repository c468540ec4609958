/-
  DERIVED. GIVEN WITH THE SEED: THE CARDS: each row of YtogadldnkhdjbaaDoorRows.lean that lists a variable, with what it lists TIED to the program's text (the seventh form; the later family's looks); each row that meets fmt, with fmt's text TOLD by the authors' own Lean function (tested against real Go, not proved from fmt's source: count such statements apart). THE CARD IS WHAT COUNTS. Prove the row's statement (the work); the ties are given (YtogadldnkhdjbaaDoorTie.lean); close each card by the builder's one call (the guide's Derived/Test/ToyasCard.lean, 'card_holds'). Laid BY PROGRAM, IN A SANDBOX (cutbox-door.mjs). By AI agents, Wed Nov 11 2026. No macro, syntax, notation, axiom, sorry.
-/
import Derived.Test.YtogadldnkhdjbaaDoorRows
import GoSem.ClaimSeven
namespace Go.Proofs.YtogadldnkhdjbaaDoor
namespace Rows

/-- THE TIED CARD OF 'laws.FnJournal'. -/
def fnJournalCard : Claim7 := { stood := { row := fnJournalRow, standIns := [], harness := (true, "f8ef42e7cb8b90732339da05b88b6129112137b57cf5f96737e0c52d76ccaead"), looks := true }, kinds := [], alts := [], laidByText := true, laidKinds := [.data, .data, .data], laidTests := true, laidLooks := .later }
def FnJournalCardSaid : Prop := Claim7.holds Tryd.pinned (.plain (OpenSpec.ofChange fnJournalSpec)) fnJournalCard

/-- THE TIED CARD OF 'laws.FnExactReadStream'. -/
def fnExactReadStreamCard : Claim7 := { stood := { row := fnExactReadStreamRow, standIns := [], harness := (true, "f8ef42e7cb8b90732339da05b88b6129112137b57cf5f96737e0c52d76ccaead"), looks := true }, kinds := [], alts := [], laidByText := true, laidKinds := [.data, .data, .data, .data, .sentinel, .sentinel, .pinned], laidTests := true, laidLooks := .later }
def FnExactReadStreamCardSaid : Prop := Claim7.holds Tryd.pinned (.plain (OpenSpec.ofChange fnExactReadStreamSpec)) fnExactReadStreamCard

/-- THE TIED CARD OF 'laws.FnStreams'. -/
def fnStreamsCard : Claim7 := { stood := { row := fnStreamsRow, standIns := [], harness := (true, "f8ef42e7cb8b90732339da05b88b6129112137b57cf5f96737e0c52d76ccaead"), looks := true }, kinds := [], alts := [], laidByText := true, laidKinds := [.data, .data, .data, .data, .sentinel, .sentinel, .pinned], laidTests := true, laidLooks := .later }
def FnStreamsCardSaid : Prop := Claim7.holds Tryd.pinned (.plain (OpenSpec.ofChange fnStreamsSpec)) fnStreamsCard

/-- THE SECOND FORM's CARD OF 'laws.FnJournal'. -/
def fnJournalUptoCard : Claim7 := { stood := { row := fnJournalUptoRow, standIns := [], harness := (true, "f8ef42e7cb8b90732339da05b88b6129112137b57cf5f96737e0c52d76ccaead"), looks := true }, kinds := [], alts := [], laidByText := true, laidKinds := [.data, .data, .data], laidTests := true, laidLooks := .later }
def FnJournalUptoCardSaid : Prop := Claim7.holds Tryd.pinned (.plain (OpenSpec.upto fnJournalSpec)) fnJournalUptoCard

/-- THE SECOND FORM's CARD OF 'laws.FnExactReadStream'. -/
def fnExactReadStreamUptoCard : Claim7 := { stood := { row := fnExactReadStreamUptoRow, standIns := [], harness := (true, "f8ef42e7cb8b90732339da05b88b6129112137b57cf5f96737e0c52d76ccaead"), looks := true }, kinds := [], alts := [], laidByText := true, laidKinds := [.data, .data, .data, .data, .sentinel, .sentinel, .pinned], laidTests := true, laidLooks := .later }
def FnExactReadStreamUptoCardSaid : Prop := Claim7.holds Tryd.pinned (.plain (OpenSpec.upto fnExactReadStreamSpec)) fnExactReadStreamUptoCard

/-- THE SECOND FORM's CARD OF 'laws.FnStreams'. -/
def fnStreamsUptoCard : Claim7 := { stood := { row := fnStreamsUptoRow, standIns := [], harness := (true, "f8ef42e7cb8b90732339da05b88b6129112137b57cf5f96737e0c52d76ccaead"), looks := true }, kinds := [], alts := [], laidByText := true, laidKinds := [.data, .data, .data, .data, .sentinel, .sentinel, .pinned], laidTests := true, laidLooks := .later }
def FnStreamsUptoCardSaid : Prop := Claim7.holds Tryd.pinned (.plain (OpenSpec.upto fnStreamsSpec)) fnStreamsUptoCard
end Rows
end Go.Proofs.YtogadldnkhdjbaaDoor
