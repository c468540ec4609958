/-
  DERIVED. GIVEN WITH THE SEED: THE CARDS: each row of YtdejohmhdfcjeaaDoorRows.lean that lists a variable, with what it lists TIED to the program's text (the seventh form; the later family's looks); each row that meets fmt, with fmt's text TOLD by the authors' own Lean function (tested against real Go, not proved from fmt's source: count such statements apart). THE CARD IS WHAT COUNTS. Prove the row's statement (the work); the ties are given (YtdejohmhdfcjeaaDoorTie.lean); close each card by the builder's one call (the guide's Derived/Test/ToyasCard.lean, 'card_holds'). Laid BY PROGRAM, IN A SANDBOX (cutbox-door.mjs). By AI agents, Wed Nov 11 2026. No macro, syntax, notation, axiom, sorry.
-/
import Derived.Test.YtdejohmhdfcjeaaDoorRows
import GoSem.ClaimSeven
namespace Go.Proofs.YtdejohmhdfcjeaaDoor
namespace Rows

/-- THE TIED CARD OF 'laws.FnExactStreamText'. -/
def fnExactStreamTextCard : Claim7 := { stood := { row := fnExactStreamTextRow, standIns := [], harness := (true, "b7f6eac77fa0ffa4057dfe32e2bafc256494ef277297c5074556ba8723cdc01b"), looks := true }, kinds := [], alts := [], laidByText := true, laidKinds := [.data, .data, .data], laidTests := true, laidLooks := .later }
def FnExactStreamTextCardSaid : Prop := Claim7.holds Tryd.pinned (.plain (OpenSpec.ofChange fnExactStreamTextSpec)) fnExactStreamTextCard

/-- THE TIED CARD OF 'laws.FnJournal'. -/
def fnJournalCard : Claim7 := { stood := { row := fnJournalRow, standIns := [], harness := (true, "b7f6eac77fa0ffa4057dfe32e2bafc256494ef277297c5074556ba8723cdc01b"), looks := true }, kinds := [], alts := [], laidByText := true, laidKinds := [.data, .data, .data], laidTests := true, laidLooks := .later }
def FnJournalCardSaid : Prop := Claim7.holds Tryd.pinned (.plain (OpenSpec.ofChange fnJournalSpec)) fnJournalCard

/-- THE TIED CARD OF 'laws.FnExactReadStream'. -/
def fnExactReadStreamCard : Claim7 := { stood := { row := fnExactReadStreamRow, standIns := [], harness := (true, "b7f6eac77fa0ffa4057dfe32e2bafc256494ef277297c5074556ba8723cdc01b"), looks := true }, kinds := [], alts := [], laidByText := true, laidKinds := [.data, .data, .data, .data, .sentinel, .sentinel, .pinned], laidTests := true, laidLooks := .later }
def FnExactReadStreamCardSaid : Prop := Claim7.holds Tryd.pinned (.plain (OpenSpec.ofChange fnExactReadStreamSpec)) fnExactReadStreamCard

/-- THE SECOND FORM's CARD OF 'laws.FnExactStreamText'. -/
def fnExactStreamTextUptoCard : Claim7 := { stood := { row := fnExactStreamTextUptoRow, standIns := [], harness := (true, "b7f6eac77fa0ffa4057dfe32e2bafc256494ef277297c5074556ba8723cdc01b"), looks := true }, kinds := [], alts := [], laidByText := true, laidKinds := [.data, .data, .data], laidTests := true, laidLooks := .later }
def FnExactStreamTextUptoCardSaid : Prop := Claim7.holds Tryd.pinned (.plain (OpenSpec.upto fnExactStreamTextSpec)) fnExactStreamTextUptoCard

/-- THE SECOND FORM's CARD OF 'laws.FnJournal'. -/
def fnJournalUptoCard : Claim7 := { stood := { row := fnJournalUptoRow, standIns := [], harness := (true, "b7f6eac77fa0ffa4057dfe32e2bafc256494ef277297c5074556ba8723cdc01b"), looks := true }, kinds := [], alts := [], laidByText := true, laidKinds := [.data, .data, .data], laidTests := true, laidLooks := .later }
def FnJournalUptoCardSaid : Prop := Claim7.holds Tryd.pinned (.plain (OpenSpec.upto fnJournalSpec)) fnJournalUptoCard

/-- THE SECOND FORM's CARD OF 'laws.FnExactReadStream'. -/
def fnExactReadStreamUptoCard : Claim7 := { stood := { row := fnExactReadStreamUptoRow, standIns := [], harness := (true, "b7f6eac77fa0ffa4057dfe32e2bafc256494ef277297c5074556ba8723cdc01b"), looks := true }, kinds := [], alts := [], laidByText := true, laidKinds := [.data, .data, .data, .data, .sentinel, .sentinel, .pinned], laidTests := true, laidLooks := .later }
def FnExactReadStreamUptoCardSaid : Prop := Claim7.holds Tryd.pinned (.plain (OpenSpec.upto fnExactReadStreamSpec)) fnExactReadStreamUptoCard
end Rows
end Go.Proofs.YtdejohmhdfcjeaaDoor
