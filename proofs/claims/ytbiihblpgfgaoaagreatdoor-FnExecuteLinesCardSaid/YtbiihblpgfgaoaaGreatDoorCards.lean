/-
  DERIVED. GIVEN WITH THE SEED: THE CARDS: each row of YtbiihblpgfgaoaaGreatDoorRows.lean that lists a variable, with what it lists TIED to the program's text (the seventh form; the later family's looks); each row that meets fmt, with fmt's text TOLD by the authors' own Lean function (tested against real Go, not proved from fmt's source: count such statements apart). THE CARD IS WHAT COUNTS. Prove the row's statement (the work); the ties are given (YtbiihblpgfgaoaaGreatDoorTie.lean); close each card by the builder's one call (the guide's Derived/Test/ToyasCard.lean, 'card_holds'). Laid BY PROGRAM, IN A SANDBOX (cutbox-door.mjs). By AI agents, Wed Nov 11 2026. No macro, syntax, notation, axiom, sorry.
-/
import Derived.Test.YtbiihblpgfgaoaaGreatDoorRows
import GoSem.ClaimSeven
namespace Go.Proofs.YtbiihblpgfgaoaaGreatDoor
namespace Rows

/-- THE TIED CARD OF 'laws.FnExecuteLines'. -/
def fnExecuteLinesCard : Claim7 := { stood := { row := fnExecuteLinesRow, standIns := [], harness := (true, "1e3e3e8240d62ef133e758f46697942f27935340c1fbb0f07ef91266194e7832"), looks := true }, kinds := [], alts := [], laidByText := true, laidKinds := [.data, .data, .data, .data, .sentinel, .sentinel, .pinned], laidTests := true, laidLooks := .later }
def FnExecuteLinesCardSaid : Prop := Claim7.holds Tryz.pinned (.plain (OpenSpec.ofChange fnExecuteLinesSpec)) fnExecuteLinesCard

/-- THE TIED CARD OF 'laws.FnExecuteQueries'. -/
def fnExecuteQueriesCard : Claim7 := { stood := { row := fnExecuteQueriesRow, standIns := [], harness := (true, "1e3e3e8240d62ef133e758f46697942f27935340c1fbb0f07ef91266194e7832"), looks := true }, kinds := [], alts := [], laidByText := true, laidKinds := [.data, .data, .data, .data, .sentinel, .sentinel, .pinned], laidTests := true, laidLooks := .later }
def FnExecuteQueriesCardSaid : Prop := Claim7.holds Tryz.pinned (.plain (OpenSpec.ofChange fnExecuteQueriesSpec)) fnExecuteQueriesCard

/-- THE TIED CARD OF 'laws.FnExecuteUnknown'. -/
def fnExecuteUnknownCard : Claim7 := { stood := { row := fnExecuteUnknownRow, standIns := [], harness := (true, "1e3e3e8240d62ef133e758f46697942f27935340c1fbb0f07ef91266194e7832"), looks := true }, kinds := [], alts := [], laidByText := true, laidKinds := [.data, .data, .data, .data, .sentinel, .sentinel, .pinned], laidTests := true, laidLooks := .later }
def FnExecuteUnknownCardSaid : Prop := Claim7.holds Tryz.pinned (.plain (OpenSpec.ofChange fnExecuteUnknownSpec)) fnExecuteUnknownCard

/-- THE TIED CARD OF 'laws.FnExactExecute'. -/
def fnExactExecuteCard : Claim7 := { stood := { row := fnExactExecuteRow, standIns := [], harness := (true, "1e3e3e8240d62ef133e758f46697942f27935340c1fbb0f07ef91266194e7832"), looks := true }, kinds := [], alts := [], laidByText := true, laidKinds := [.data, .data, .data, .data, .sentinel, .sentinel, .pinned], laidTests := true, laidLooks := .later }
def FnExactExecuteCardSaid : Prop := Claim7.holds Tryz.pinned (.plain (OpenSpec.ofChange fnExactExecuteSpec)) fnExactExecuteCard

/-- THE TIED CARD OF 'laws.FnExecuteCalm'. -/
def fnExecuteCalmCard : Claim7 := { stood := { row := fnExecuteCalmRow, standIns := [], harness := (true, "1e3e3e8240d62ef133e758f46697942f27935340c1fbb0f07ef91266194e7832"), looks := true }, kinds := [], alts := [], laidByText := true, laidKinds := [.data, .data, .data, .data, .sentinel, .sentinel, .pinned], laidTests := true, laidLooks := .later }
def FnExecuteCalmCardSaid : Prop := Claim7.holds Tryz.pinned (.plain (OpenSpec.ofChange fnExecuteCalmSpec)) fnExecuteCalmCard

/-- THE TIED CARD OF 'laws.FnExecuteEmpty'. -/
def fnExecuteEmptyCard : Claim7 := { stood := { row := fnExecuteEmptyRow, standIns := [], harness := (true, "1e3e3e8240d62ef133e758f46697942f27935340c1fbb0f07ef91266194e7832"), looks := true }, kinds := [], alts := [], laidByText := true, laidKinds := [.data, .data, .data, .data, .sentinel, .sentinel, .pinned], laidTests := true, laidLooks := .later }
def FnExecuteEmptyCardSaid : Prop := Claim7.holds Tryz.pinned (.plain (OpenSpec.ofChange fnExecuteEmptySpec)) fnExecuteEmptyCard

/-- THE SECOND FORM's CARD OF 'laws.FnExecuteLines'. -/
def fnExecuteLinesUptoCard : Claim7 := { stood := { row := fnExecuteLinesUptoRow, standIns := [], harness := (true, "1e3e3e8240d62ef133e758f46697942f27935340c1fbb0f07ef91266194e7832"), looks := true }, kinds := [], alts := [], laidByText := true, laidKinds := [.data, .data, .data, .data, .sentinel, .sentinel, .pinned], laidTests := true, laidLooks := .later }
def FnExecuteLinesUptoCardSaid : Prop := Claim7.holds Tryz.pinned (.plain (OpenSpec.upto fnExecuteLinesSpec)) fnExecuteLinesUptoCard

/-- THE SECOND FORM's CARD OF 'laws.FnExecuteQueries'. -/
def fnExecuteQueriesUptoCard : Claim7 := { stood := { row := fnExecuteQueriesUptoRow, standIns := [], harness := (true, "1e3e3e8240d62ef133e758f46697942f27935340c1fbb0f07ef91266194e7832"), looks := true }, kinds := [], alts := [], laidByText := true, laidKinds := [.data, .data, .data, .data, .sentinel, .sentinel, .pinned], laidTests := true, laidLooks := .later }
def FnExecuteQueriesUptoCardSaid : Prop := Claim7.holds Tryz.pinned (.plain (OpenSpec.upto fnExecuteQueriesSpec)) fnExecuteQueriesUptoCard

/-- THE SECOND FORM's CARD OF 'laws.FnExecuteUnknown'. -/
def fnExecuteUnknownUptoCard : Claim7 := { stood := { row := fnExecuteUnknownUptoRow, standIns := [], harness := (true, "1e3e3e8240d62ef133e758f46697942f27935340c1fbb0f07ef91266194e7832"), looks := true }, kinds := [], alts := [], laidByText := true, laidKinds := [.data, .data, .data, .data, .sentinel, .sentinel, .pinned], laidTests := true, laidLooks := .later }
def FnExecuteUnknownUptoCardSaid : Prop := Claim7.holds Tryz.pinned (.plain (OpenSpec.upto fnExecuteUnknownSpec)) fnExecuteUnknownUptoCard

/-- THE SECOND FORM's CARD OF 'laws.FnExactExecute'. -/
def fnExactExecuteUptoCard : Claim7 := { stood := { row := fnExactExecuteUptoRow, standIns := [], harness := (true, "1e3e3e8240d62ef133e758f46697942f27935340c1fbb0f07ef91266194e7832"), looks := true }, kinds := [], alts := [], laidByText := true, laidKinds := [.data, .data, .data, .data, .sentinel, .sentinel, .pinned], laidTests := true, laidLooks := .later }
def FnExactExecuteUptoCardSaid : Prop := Claim7.holds Tryz.pinned (.plain (OpenSpec.upto fnExactExecuteSpec)) fnExactExecuteUptoCard

/-- THE SECOND FORM's CARD OF 'laws.FnExecuteCalm'. -/
def fnExecuteCalmUptoCard : Claim7 := { stood := { row := fnExecuteCalmUptoRow, standIns := [], harness := (true, "1e3e3e8240d62ef133e758f46697942f27935340c1fbb0f07ef91266194e7832"), looks := true }, kinds := [], alts := [], laidByText := true, laidKinds := [.data, .data, .data, .data, .sentinel, .sentinel, .pinned], laidTests := true, laidLooks := .later }
def FnExecuteCalmUptoCardSaid : Prop := Claim7.holds Tryz.pinned (.plain (OpenSpec.upto fnExecuteCalmSpec)) fnExecuteCalmUptoCard

/-- THE SECOND FORM's CARD OF 'laws.FnExecuteEmpty'. -/
def fnExecuteEmptyUptoCard : Claim7 := { stood := { row := fnExecuteEmptyUptoRow, standIns := [], harness := (true, "1e3e3e8240d62ef133e758f46697942f27935340c1fbb0f07ef91266194e7832"), looks := true }, kinds := [], alts := [], laidByText := true, laidKinds := [.data, .data, .data, .data, .sentinel, .sentinel, .pinned], laidTests := true, laidLooks := .later }
def FnExecuteEmptyUptoCardSaid : Prop := Claim7.holds Tryz.pinned (.plain (OpenSpec.upto fnExecuteEmptySpec)) fnExecuteEmptyUptoCard
end Rows
end Go.Proofs.YtbiihblpgfgaoaaGreatDoor
