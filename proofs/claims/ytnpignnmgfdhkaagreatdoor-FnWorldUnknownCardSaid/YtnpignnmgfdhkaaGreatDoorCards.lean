/-
  DERIVED. GIVEN WITH THE SEED: THE CARDS: each row of YtnpignnmgfdhkaaGreatDoorRows.lean that lists a variable, with what it lists TIED to the program's text (the seventh form; the later family's looks); each row that meets fmt, with fmt's text TOLD by the authors' own Lean function (tested against real Go, not proved from fmt's source: count such statements apart). THE CARD IS WHAT COUNTS. Prove the row's statement (the work); the ties are given (YtnpignnmgfdhkaaGreatDoorTie.lean); close each card by the builder's one call (the guide's Derived/Test/ToyasCard.lean, 'card_holds'). Laid BY PROGRAM, IN A SANDBOX (cutbox-door.mjs). By AI agents, Wed Nov 11 2026. No macro, syntax, notation, axiom, sorry.
-/
import Derived.Test.YtnpignnmgfdhkaaGreatDoorRows
import GoSem.ClaimSeven
namespace Go.Proofs.YtnpignnmgfdhkaaGreatDoor
namespace Rows

/-- THE TIED CARD OF 'laws.FnWorldKeeps'. -/
def fnWorldKeepsCard : Claim7 := { stood := { row := fnWorldKeepsRow, standIns := [], harness := (true, "28bdd7a1431d0e70ecf0f8846246e28335f52da541b5fde5cdc25e8fa63a5818"), looks := true }, kinds := [], alts := [], laidByText := true, laidKinds := [.sentinel, .sentinel], laidTests := true, laidLooks := .later }
def FnWorldKeepsCardSaid : Prop := Claim7.holds Tryz.pinned (.plain (OpenSpec.ofChange fnWorldKeepsSpec)) fnWorldKeepsCard

/-- THE TIED CARD OF 'laws.FnWorldTick'. -/
def fnWorldTickCard : Claim7 := { stood := { row := fnWorldTickRow, standIns := [], harness := (true, "28bdd7a1431d0e70ecf0f8846246e28335f52da541b5fde5cdc25e8fa63a5818"), looks := true }, kinds := [], alts := [], laidByText := true, laidKinds := [.sentinel, .sentinel], laidTests := true, laidLooks := .later }
def FnWorldTickCardSaid : Prop := Claim7.holds Tryz.pinned (.plain (OpenSpec.ofChange fnWorldTickSpec)) fnWorldTickCard

/-- THE TIED CARD OF 'laws.FnWorldRing'. -/
def fnWorldRingCard : Claim7 := { stood := { row := fnWorldRingRow, standIns := [], harness := (true, "28bdd7a1431d0e70ecf0f8846246e28335f52da541b5fde5cdc25e8fa63a5818"), looks := true }, kinds := [], alts := [], laidByText := true, laidKinds := [.sentinel, .sentinel], laidTests := true, laidLooks := .later }
def FnWorldRingCardSaid : Prop := Claim7.holds Tryz.pinned (.plain (OpenSpec.ofChange fnWorldRingSpec)) fnWorldRingCard

/-- THE TIED CARD OF 'laws.FnWorldUnknown'. -/
def fnWorldUnknownCard : Claim7 := { stood := { row := fnWorldUnknownRow, standIns := [], harness := (true, "28bdd7a1431d0e70ecf0f8846246e28335f52da541b5fde5cdc25e8fa63a5818"), looks := true }, kinds := [], alts := [], laidByText := true, laidKinds := [.sentinel, .sentinel], laidTests := true, laidLooks := .later }
def FnWorldUnknownCardSaid : Prop := Claim7.holds Tryz.pinned (.plain (OpenSpec.ofChange fnWorldUnknownSpec)) fnWorldUnknownCard

/-- THE TIED CARD OF 'laws.FnWorldScan'. -/
def fnWorldScanCard : Claim7 := { stood := { row := fnWorldScanRow, standIns := [], harness := (true, "28bdd7a1431d0e70ecf0f8846246e28335f52da541b5fde5cdc25e8fa63a5818"), looks := true }, kinds := [], alts := [], laidByText := true, laidKinds := [.sentinel, .sentinel], laidTests := true, laidLooks := .later }
def FnWorldScanCardSaid : Prop := Claim7.holds Tryz.pinned (.plain (OpenSpec.ofChange fnWorldScanSpec)) fnWorldScanCard

/-- THE TIED CARD OF 'laws.FnWorldTake'. -/
def fnWorldTakeCard : Claim7 := { stood := { row := fnWorldTakeRow, standIns := [], harness := (true, "28bdd7a1431d0e70ecf0f8846246e28335f52da541b5fde5cdc25e8fa63a5818"), looks := true }, kinds := [], alts := [], laidByText := true, laidKinds := [.sentinel, .sentinel], laidTests := true, laidLooks := .later }
def FnWorldTakeCardSaid : Prop := Claim7.holds Tryz.pinned (.plain (OpenSpec.ofChange fnWorldTakeSpec)) fnWorldTakeCard

/-- THE SECOND FORM's CARD OF 'laws.FnWorldKeeps'. -/
def fnWorldKeepsUptoCard : Claim7 := { stood := { row := fnWorldKeepsUptoRow, standIns := [], harness := (true, "28bdd7a1431d0e70ecf0f8846246e28335f52da541b5fde5cdc25e8fa63a5818"), looks := true }, kinds := [], alts := [], laidByText := true, laidKinds := [.sentinel, .sentinel], laidTests := true, laidLooks := .later }
def FnWorldKeepsUptoCardSaid : Prop := Claim7.holds Tryz.pinned (.plain (OpenSpec.upto fnWorldKeepsSpec)) fnWorldKeepsUptoCard

/-- THE SECOND FORM's CARD OF 'laws.FnWorldTick'. -/
def fnWorldTickUptoCard : Claim7 := { stood := { row := fnWorldTickUptoRow, standIns := [], harness := (true, "28bdd7a1431d0e70ecf0f8846246e28335f52da541b5fde5cdc25e8fa63a5818"), looks := true }, kinds := [], alts := [], laidByText := true, laidKinds := [.sentinel, .sentinel], laidTests := true, laidLooks := .later }
def FnWorldTickUptoCardSaid : Prop := Claim7.holds Tryz.pinned (.plain (OpenSpec.upto fnWorldTickSpec)) fnWorldTickUptoCard

/-- THE SECOND FORM's CARD OF 'laws.FnWorldRing'. -/
def fnWorldRingUptoCard : Claim7 := { stood := { row := fnWorldRingUptoRow, standIns := [], harness := (true, "28bdd7a1431d0e70ecf0f8846246e28335f52da541b5fde5cdc25e8fa63a5818"), looks := true }, kinds := [], alts := [], laidByText := true, laidKinds := [.sentinel, .sentinel], laidTests := true, laidLooks := .later }
def FnWorldRingUptoCardSaid : Prop := Claim7.holds Tryz.pinned (.plain (OpenSpec.upto fnWorldRingSpec)) fnWorldRingUptoCard

/-- THE SECOND FORM's CARD OF 'laws.FnWorldUnknown'. -/
def fnWorldUnknownUptoCard : Claim7 := { stood := { row := fnWorldUnknownUptoRow, standIns := [], harness := (true, "28bdd7a1431d0e70ecf0f8846246e28335f52da541b5fde5cdc25e8fa63a5818"), looks := true }, kinds := [], alts := [], laidByText := true, laidKinds := [.sentinel, .sentinel], laidTests := true, laidLooks := .later }
def FnWorldUnknownUptoCardSaid : Prop := Claim7.holds Tryz.pinned (.plain (OpenSpec.upto fnWorldUnknownSpec)) fnWorldUnknownUptoCard

/-- THE SECOND FORM's CARD OF 'laws.FnWorldScan'. -/
def fnWorldScanUptoCard : Claim7 := { stood := { row := fnWorldScanUptoRow, standIns := [], harness := (true, "28bdd7a1431d0e70ecf0f8846246e28335f52da541b5fde5cdc25e8fa63a5818"), looks := true }, kinds := [], alts := [], laidByText := true, laidKinds := [.sentinel, .sentinel], laidTests := true, laidLooks := .later }
def FnWorldScanUptoCardSaid : Prop := Claim7.holds Tryz.pinned (.plain (OpenSpec.upto fnWorldScanSpec)) fnWorldScanUptoCard

/-- THE SECOND FORM's CARD OF 'laws.FnWorldTake'. -/
def fnWorldTakeUptoCard : Claim7 := { stood := { row := fnWorldTakeUptoRow, standIns := [], harness := (true, "28bdd7a1431d0e70ecf0f8846246e28335f52da541b5fde5cdc25e8fa63a5818"), looks := true }, kinds := [], alts := [], laidByText := true, laidKinds := [.sentinel, .sentinel], laidTests := true, laidLooks := .later }
def FnWorldTakeUptoCardSaid : Prop := Claim7.holds Tryz.pinned (.plain (OpenSpec.upto fnWorldTakeSpec)) fnWorldTakeUptoCard
end Rows
end Go.Proofs.YtnpignnmgfdhkaaGreatDoor
