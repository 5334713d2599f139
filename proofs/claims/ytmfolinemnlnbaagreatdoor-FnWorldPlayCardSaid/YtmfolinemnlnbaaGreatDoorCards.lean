/-
  DERIVED. GIVEN WITH THE SEED: THE CARDS: each row of YtmfolinemnlnbaaGreatDoorRows.lean that lists a variable, with what it lists TIED to the program's text (the seventh form; the later family's looks); each row that meets fmt, with fmt's text TOLD by the authors' own Lean function (tested against real Go, not proved from fmt's source: count such statements apart). THE CARD IS WHAT COUNTS. Prove the row's statement (the work); the ties are given (YtmfolinemnlnbaaGreatDoorTie.lean); close each card by the builder's one call (the guide's Derived/Test/ToyasCard.lean, 'card_holds'). Laid BY PROGRAM, IN A SANDBOX (cutbox-door.mjs). By AI agents, Wed Nov 11 2026. No macro, syntax, notation, axiom, sorry.
-/
import Derived.Test.YtmfolinemnlnbaaGreatDoorRows
import GoSem.ClaimSeven
namespace Go.Proofs.YtmfolinemnlnbaaGreatDoor
namespace Rows

/-- THE TIED CARD OF 'laws.FnWorldPut'. -/
def fnWorldPutCard : Claim7 := { stood := { row := fnWorldPutRow, standIns := [], harness := (true, "5a09d8c7954a80144053fe87de9079f684b887cd96e3528f244f631545830a59"), looks := true }, kinds := [], alts := [], laidByText := true, laidKinds := [.sentinel, .sentinel], laidTests := true, laidLooks := .later }
def FnWorldPutCardSaid : Prop := Claim7.holds Tryz.pinned (.plain (OpenSpec.ofChange fnWorldPutSpec)) fnWorldPutCard

/-- THE TIED CARD OF 'laws.FnWorldMissed'. -/
def fnWorldMissedCard : Claim7 := { stood := { row := fnWorldMissedRow, standIns := [], harness := (true, "5a09d8c7954a80144053fe87de9079f684b887cd96e3528f244f631545830a59"), looks := true }, kinds := [], alts := [], laidByText := true, laidKinds := [.sentinel, .sentinel], laidTests := true, laidLooks := .later }
def FnWorldMissedCardSaid : Prop := Claim7.holds Tryz.pinned (.plain (OpenSpec.ofChange fnWorldMissedSpec)) fnWorldMissedCard

/-- THE TIED CARD OF 'laws.FnWorldPlay'. -/
def fnWorldPlayCard : Claim7 := { stood := { row := fnWorldPlayRow, standIns := [], harness := (true, "5a09d8c7954a80144053fe87de9079f684b887cd96e3528f244f631545830a59"), looks := true }, kinds := [], alts := [], laidByText := true, laidKinds := [.sentinel, .sentinel], laidTests := true, laidLooks := .later }
def FnWorldPlayCardSaid : Prop := Claim7.holds Tryz.pinned (.plain (OpenSpec.ofChange fnWorldPlaySpec)) fnWorldPlayCard

/-- THE TIED CARD OF 'laws.FnWorldInvalid'. -/
def fnWorldInvalidCard : Claim7 := { stood := { row := fnWorldInvalidRow, standIns := [], harness := (true, "5a09d8c7954a80144053fe87de9079f684b887cd96e3528f244f631545830a59"), looks := true }, kinds := [], alts := [], laidByText := true, laidKinds := [.sentinel, .sentinel], laidTests := true, laidLooks := .later }
def FnWorldInvalidCardSaid : Prop := Claim7.holds Tryz.pinned (.plain (OpenSpec.ofChange fnWorldInvalidSpec)) fnWorldInvalidCard

/-- THE TIED CARD OF 'laws.FnWorldCalmScan'. -/
def fnWorldCalmScanCard : Claim7 := { stood := { row := fnWorldCalmScanRow, standIns := [], harness := (true, "5a09d8c7954a80144053fe87de9079f684b887cd96e3528f244f631545830a59"), looks := true }, kinds := [], alts := [], laidByText := true, laidKinds := [.sentinel, .sentinel], laidTests := true, laidLooks := .later }
def FnWorldCalmScanCardSaid : Prop := Claim7.holds Tryz.pinned (.plain (OpenSpec.ofChange fnWorldCalmScanSpec)) fnWorldCalmScanCard

/-- THE TIED CARD OF 'laws.FnWorldCalm'. -/
def fnWorldCalmCard : Claim7 := { stood := { row := fnWorldCalmRow, standIns := [], harness := (true, "5a09d8c7954a80144053fe87de9079f684b887cd96e3528f244f631545830a59"), looks := true }, kinds := [], alts := [], laidByText := true, laidKinds := [.sentinel, .sentinel], laidTests := true, laidLooks := .later }
def FnWorldCalmCardSaid : Prop := Claim7.holds Tryz.pinned (.plain (OpenSpec.ofChange fnWorldCalmSpec)) fnWorldCalmCard

/-- THE SECOND FORM's CARD OF 'laws.FnWorldPut'. -/
def fnWorldPutUptoCard : Claim7 := { stood := { row := fnWorldPutUptoRow, standIns := [], harness := (true, "5a09d8c7954a80144053fe87de9079f684b887cd96e3528f244f631545830a59"), looks := true }, kinds := [], alts := [], laidByText := true, laidKinds := [.sentinel, .sentinel], laidTests := true, laidLooks := .later }
def FnWorldPutUptoCardSaid : Prop := Claim7.holds Tryz.pinned (.plain (OpenSpec.upto fnWorldPutSpec)) fnWorldPutUptoCard

/-- THE SECOND FORM's CARD OF 'laws.FnWorldMissed'. -/
def fnWorldMissedUptoCard : Claim7 := { stood := { row := fnWorldMissedUptoRow, standIns := [], harness := (true, "5a09d8c7954a80144053fe87de9079f684b887cd96e3528f244f631545830a59"), looks := true }, kinds := [], alts := [], laidByText := true, laidKinds := [.sentinel, .sentinel], laidTests := true, laidLooks := .later }
def FnWorldMissedUptoCardSaid : Prop := Claim7.holds Tryz.pinned (.plain (OpenSpec.upto fnWorldMissedSpec)) fnWorldMissedUptoCard

/-- THE SECOND FORM's CARD OF 'laws.FnWorldPlay'. -/
def fnWorldPlayUptoCard : Claim7 := { stood := { row := fnWorldPlayUptoRow, standIns := [], harness := (true, "5a09d8c7954a80144053fe87de9079f684b887cd96e3528f244f631545830a59"), looks := true }, kinds := [], alts := [], laidByText := true, laidKinds := [.sentinel, .sentinel], laidTests := true, laidLooks := .later }
def FnWorldPlayUptoCardSaid : Prop := Claim7.holds Tryz.pinned (.plain (OpenSpec.upto fnWorldPlaySpec)) fnWorldPlayUptoCard

/-- THE SECOND FORM's CARD OF 'laws.FnWorldInvalid'. -/
def fnWorldInvalidUptoCard : Claim7 := { stood := { row := fnWorldInvalidUptoRow, standIns := [], harness := (true, "5a09d8c7954a80144053fe87de9079f684b887cd96e3528f244f631545830a59"), looks := true }, kinds := [], alts := [], laidByText := true, laidKinds := [.sentinel, .sentinel], laidTests := true, laidLooks := .later }
def FnWorldInvalidUptoCardSaid : Prop := Claim7.holds Tryz.pinned (.plain (OpenSpec.upto fnWorldInvalidSpec)) fnWorldInvalidUptoCard

/-- THE SECOND FORM's CARD OF 'laws.FnWorldCalmScan'. -/
def fnWorldCalmScanUptoCard : Claim7 := { stood := { row := fnWorldCalmScanUptoRow, standIns := [], harness := (true, "5a09d8c7954a80144053fe87de9079f684b887cd96e3528f244f631545830a59"), looks := true }, kinds := [], alts := [], laidByText := true, laidKinds := [.sentinel, .sentinel], laidTests := true, laidLooks := .later }
def FnWorldCalmScanUptoCardSaid : Prop := Claim7.holds Tryz.pinned (.plain (OpenSpec.upto fnWorldCalmScanSpec)) fnWorldCalmScanUptoCard

/-- THE SECOND FORM's CARD OF 'laws.FnWorldCalm'. -/
def fnWorldCalmUptoCard : Claim7 := { stood := { row := fnWorldCalmUptoRow, standIns := [], harness := (true, "5a09d8c7954a80144053fe87de9079f684b887cd96e3528f244f631545830a59"), looks := true }, kinds := [], alts := [], laidByText := true, laidKinds := [.sentinel, .sentinel], laidTests := true, laidLooks := .later }
def FnWorldCalmUptoCardSaid : Prop := Claim7.holds Tryz.pinned (.plain (OpenSpec.upto fnWorldCalmSpec)) fnWorldCalmUptoCard
end Rows
end Go.Proofs.YtmfolinemnlnbaaGreatDoor
