/-
  DERIVED. GIVEN WITH THE SEED: THE CARDS: each row of YtbiihblpgfgaoabGreatDoorRows.lean that lists a variable, with what it lists TIED to the program's text (the seventh form; the later family's looks); each row that meets fmt, with fmt's text TOLD by the authors' own Lean function (tested against real Go, not proved from fmt's source: count such statements apart). THE CARD IS WHAT COUNTS. Prove the row's statement (the work); the ties are given (YtbiihblpgfgaoabGreatDoorTie.lean); close each card by the builder's one call (the guide's Derived/Test/ToyasCard.lean, 'card_holds'). Laid BY PROGRAM, IN A SANDBOX (cutbox-door.mjs). By AI agents, Wed Nov 11 2026. No macro, syntax, notation, axiom, sorry.
-/
import Derived.Test.YtbiihblpgfgaoabGreatDoorRows
import GoSem.ClaimSeven
namespace Go.Proofs.YtbiihblpgfgaoabGreatDoor
namespace Rows

/-- THE TIED CARD OF 'laws.FnExecutePut'. -/
def fnExecutePutCard : Claim7 := { stood := { row := fnExecutePutRow, standIns := [], harness := (true, "8d4e8d0568de09f7f232be9b5bb8fa5ec065213439620daf9528cb1ebd7becec"), looks := true }, kinds := [], alts := [], laidByText := true, laidKinds := [.data, .data, .data, .data, .sentinel, .sentinel, .pinned], laidTests := true, laidLooks := .later }
def FnExecutePutCardSaid : Prop := Claim7.holds Tryz.pinned (.plain (OpenSpec.ofChange fnExecutePutSpec)) fnExecutePutCard

/-- THE TIED CARD OF 'laws.FnExecuteRing'. -/
def fnExecuteRingCard : Claim7 := { stood := { row := fnExecuteRingRow, standIns := [], harness := (true, "8d4e8d0568de09f7f232be9b5bb8fa5ec065213439620daf9528cb1ebd7becec"), looks := true }, kinds := [], alts := [], laidByText := true, laidKinds := [.data, .data, .data, .data, .sentinel, .sentinel, .pinned], laidTests := true, laidLooks := .later }
def FnExecuteRingCardSaid : Prop := Claim7.holds Tryz.pinned (.plain (OpenSpec.ofChange fnExecuteRingSpec)) fnExecuteRingCard

/-- THE TIED CARD OF 'laws.FnExecuteScan'. -/
def fnExecuteScanCard : Claim7 := { stood := { row := fnExecuteScanRow, standIns := [], harness := (true, "8d4e8d0568de09f7f232be9b5bb8fa5ec065213439620daf9528cb1ebd7becec"), looks := true }, kinds := [], alts := [], laidByText := true, laidKinds := [.data, .data, .data, .data, .sentinel, .sentinel, .pinned], laidTests := true, laidLooks := .later }
def FnExecuteScanCardSaid : Prop := Claim7.holds Tryz.pinned (.plain (OpenSpec.ofChange fnExecuteScanSpec)) fnExecuteScanCard

/-- THE TIED CARD OF 'laws.FnExecuteIncomplete'. -/
def fnExecuteIncompleteCard : Claim7 := { stood := { row := fnExecuteIncompleteRow, standIns := [], harness := (true, "8d4e8d0568de09f7f232be9b5bb8fa5ec065213439620daf9528cb1ebd7becec"), looks := true }, kinds := [], alts := [], laidByText := true, laidKinds := [.data, .data, .data, .data, .sentinel, .sentinel, .pinned], laidTests := true, laidLooks := .later }
def FnExecuteIncompleteCardSaid : Prop := Claim7.holds Tryz.pinned (.plain (OpenSpec.ofChange fnExecuteIncompleteSpec)) fnExecuteIncompleteCard

/-- THE SECOND FORM's CARD OF 'laws.FnExecutePut'. -/
def fnExecutePutUptoCard : Claim7 := { stood := { row := fnExecutePutUptoRow, standIns := [], harness := (true, "8d4e8d0568de09f7f232be9b5bb8fa5ec065213439620daf9528cb1ebd7becec"), looks := true }, kinds := [], alts := [], laidByText := true, laidKinds := [.data, .data, .data, .data, .sentinel, .sentinel, .pinned], laidTests := true, laidLooks := .later }
def FnExecutePutUptoCardSaid : Prop := Claim7.holds Tryz.pinned (.plain (OpenSpec.upto fnExecutePutSpec)) fnExecutePutUptoCard

/-- THE SECOND FORM's CARD OF 'laws.FnExecuteRing'. -/
def fnExecuteRingUptoCard : Claim7 := { stood := { row := fnExecuteRingUptoRow, standIns := [], harness := (true, "8d4e8d0568de09f7f232be9b5bb8fa5ec065213439620daf9528cb1ebd7becec"), looks := true }, kinds := [], alts := [], laidByText := true, laidKinds := [.data, .data, .data, .data, .sentinel, .sentinel, .pinned], laidTests := true, laidLooks := .later }
def FnExecuteRingUptoCardSaid : Prop := Claim7.holds Tryz.pinned (.plain (OpenSpec.upto fnExecuteRingSpec)) fnExecuteRingUptoCard

/-- THE SECOND FORM's CARD OF 'laws.FnExecuteScan'. -/
def fnExecuteScanUptoCard : Claim7 := { stood := { row := fnExecuteScanUptoRow, standIns := [], harness := (true, "8d4e8d0568de09f7f232be9b5bb8fa5ec065213439620daf9528cb1ebd7becec"), looks := true }, kinds := [], alts := [], laidByText := true, laidKinds := [.data, .data, .data, .data, .sentinel, .sentinel, .pinned], laidTests := true, laidLooks := .later }
def FnExecuteScanUptoCardSaid : Prop := Claim7.holds Tryz.pinned (.plain (OpenSpec.upto fnExecuteScanSpec)) fnExecuteScanUptoCard

/-- THE SECOND FORM's CARD OF 'laws.FnExecuteIncomplete'. -/
def fnExecuteIncompleteUptoCard : Claim7 := { stood := { row := fnExecuteIncompleteUptoRow, standIns := [], harness := (true, "8d4e8d0568de09f7f232be9b5bb8fa5ec065213439620daf9528cb1ebd7becec"), looks := true }, kinds := [], alts := [], laidByText := true, laidKinds := [.data, .data, .data, .data, .sentinel, .sentinel, .pinned], laidTests := true, laidLooks := .later }
def FnExecuteIncompleteUptoCardSaid : Prop := Claim7.holds Tryz.pinned (.plain (OpenSpec.upto fnExecuteIncompleteSpec)) fnExecuteIncompleteUptoCard
end Rows
end Go.Proofs.YtbiihblpgfgaoabGreatDoor
