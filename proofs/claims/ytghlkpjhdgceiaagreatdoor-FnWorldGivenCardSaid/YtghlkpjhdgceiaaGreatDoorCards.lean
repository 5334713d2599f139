/-
  DERIVED. GIVEN WITH THE SEED: THE CARDS: each row of YtghlkpjhdgceiaaGreatDoorRows.lean that lists a variable, with what it lists TIED to the program's text (the seventh form; the later family's looks); each row that meets fmt, with fmt's text TOLD by the authors' own Lean function (tested against real Go, not proved from fmt's source: count such statements apart). THE CARD IS WHAT COUNTS. Prove the row's statement (the work); the ties are given (YtghlkpjhdgceiaaGreatDoorTie.lean); close each card by the builder's one call (the guide's Derived/Test/ToyasCard.lean, 'card_holds'). Laid BY PROGRAM, IN A SANDBOX (cutbox-door.mjs). By AI agents, Wed Nov 11 2026. No macro, syntax, notation, axiom, sorry.
-/
import Derived.Test.YtghlkpjhdgceiaaGreatDoorRows
import GoSem.ClaimSeven
namespace Go.Proofs.YtghlkpjhdgceiaaGreatDoor
namespace Rows

/-- THE TIED CARD OF 'laws.FnWorldHandover'. -/
def fnWorldHandoverCard : Claim7 := { stood := { row := fnWorldHandoverRow, standIns := [], harness := (true, "f5534851c825464140d48b64d3c6382a679695f9f47102b8b10e6d898191388f"), looks := true }, kinds := [], alts := [], laidByText := true, laidKinds := [.sentinel, .sentinel], laidTests := true, laidLooks := .later }
def FnWorldHandoverCardSaid : Prop := Claim7.holds Tryz.pinned (.plain (OpenSpec.ofChange fnWorldHandoverSpec)) fnWorldHandoverCard

/-- THE TIED CARD OF 'laws.FnWorldFail'. -/
def fnWorldFailCard : Claim7 := { stood := { row := fnWorldFailRow, standIns := [], harness := (true, "f5534851c825464140d48b64d3c6382a679695f9f47102b8b10e6d898191388f"), looks := true }, kinds := [], alts := [], laidByText := true, laidKinds := [.sentinel, .sentinel], laidTests := true, laidLooks := .later }
def FnWorldFailCardSaid : Prop := Claim7.holds Tryz.pinned (.plain (OpenSpec.ofChange fnWorldFailSpec)) fnWorldFailCard

/-- THE TIED CARD OF 'laws.FnWorldHand'. -/
def fnWorldHandCard : Claim7 := { stood := { row := fnWorldHandRow, standIns := [], harness := (true, "f5534851c825464140d48b64d3c6382a679695f9f47102b8b10e6d898191388f"), looks := true }, kinds := [], alts := [], laidByText := true, laidKinds := [.sentinel, .sentinel], laidTests := true, laidLooks := .later }
def FnWorldHandCardSaid : Prop := Claim7.holds Tryz.pinned (.plain (OpenSpec.ofChange fnWorldHandSpec)) fnWorldHandCard

/-- THE TIED CARD OF 'laws.FnWorldGiven'. -/
def fnWorldGivenCard : Claim7 := { stood := { row := fnWorldGivenRow, standIns := [], harness := (true, "f5534851c825464140d48b64d3c6382a679695f9f47102b8b10e6d898191388f"), looks := true }, kinds := [], alts := [], laidByText := true, laidKinds := [.sentinel, .sentinel], laidTests := true, laidLooks := .later }
def FnWorldGivenCardSaid : Prop := Claim7.holds Tryz.pinned (.plain (OpenSpec.ofChange fnWorldGivenSpec)) fnWorldGivenCard

/-- THE TIED CARD OF 'laws.FnWorldChange'. -/
def fnWorldChangeCard : Claim7 := { stood := { row := fnWorldChangeRow, standIns := [], harness := (true, "f5534851c825464140d48b64d3c6382a679695f9f47102b8b10e6d898191388f"), looks := true }, kinds := [], alts := [], laidByText := true, laidKinds := [.sentinel, .sentinel], laidTests := true, laidLooks := .later }
def FnWorldChangeCardSaid : Prop := Claim7.holds Tryz.pinned (.plain (OpenSpec.ofChange fnWorldChangeSpec)) fnWorldChangeCard

/-- THE TIED CARD OF 'laws.FnWorldSince'. -/
def fnWorldSinceCard : Claim7 := { stood := { row := fnWorldSinceRow, standIns := [], harness := (true, "f5534851c825464140d48b64d3c6382a679695f9f47102b8b10e6d898191388f"), looks := true }, kinds := [], alts := [], laidByText := true, laidKinds := [.sentinel, .sentinel], laidTests := true, laidLooks := .later }
def FnWorldSinceCardSaid : Prop := Claim7.holds Tryz.pinned (.plain (OpenSpec.ofChange fnWorldSinceSpec)) fnWorldSinceCard

/-- THE SECOND FORM's CARD OF 'laws.FnWorldHandover'. -/
def fnWorldHandoverUptoCard : Claim7 := { stood := { row := fnWorldHandoverUptoRow, standIns := [], harness := (true, "f5534851c825464140d48b64d3c6382a679695f9f47102b8b10e6d898191388f"), looks := true }, kinds := [], alts := [], laidByText := true, laidKinds := [.sentinel, .sentinel], laidTests := true, laidLooks := .later }
def FnWorldHandoverUptoCardSaid : Prop := Claim7.holds Tryz.pinned (.plain (OpenSpec.upto fnWorldHandoverSpec)) fnWorldHandoverUptoCard

/-- THE SECOND FORM's CARD OF 'laws.FnWorldFail'. -/
def fnWorldFailUptoCard : Claim7 := { stood := { row := fnWorldFailUptoRow, standIns := [], harness := (true, "f5534851c825464140d48b64d3c6382a679695f9f47102b8b10e6d898191388f"), looks := true }, kinds := [], alts := [], laidByText := true, laidKinds := [.sentinel, .sentinel], laidTests := true, laidLooks := .later }
def FnWorldFailUptoCardSaid : Prop := Claim7.holds Tryz.pinned (.plain (OpenSpec.upto fnWorldFailSpec)) fnWorldFailUptoCard

/-- THE SECOND FORM's CARD OF 'laws.FnWorldHand'. -/
def fnWorldHandUptoCard : Claim7 := { stood := { row := fnWorldHandUptoRow, standIns := [], harness := (true, "f5534851c825464140d48b64d3c6382a679695f9f47102b8b10e6d898191388f"), looks := true }, kinds := [], alts := [], laidByText := true, laidKinds := [.sentinel, .sentinel], laidTests := true, laidLooks := .later }
def FnWorldHandUptoCardSaid : Prop := Claim7.holds Tryz.pinned (.plain (OpenSpec.upto fnWorldHandSpec)) fnWorldHandUptoCard

/-- THE SECOND FORM's CARD OF 'laws.FnWorldGiven'. -/
def fnWorldGivenUptoCard : Claim7 := { stood := { row := fnWorldGivenUptoRow, standIns := [], harness := (true, "f5534851c825464140d48b64d3c6382a679695f9f47102b8b10e6d898191388f"), looks := true }, kinds := [], alts := [], laidByText := true, laidKinds := [.sentinel, .sentinel], laidTests := true, laidLooks := .later }
def FnWorldGivenUptoCardSaid : Prop := Claim7.holds Tryz.pinned (.plain (OpenSpec.upto fnWorldGivenSpec)) fnWorldGivenUptoCard

/-- THE SECOND FORM's CARD OF 'laws.FnWorldChange'. -/
def fnWorldChangeUptoCard : Claim7 := { stood := { row := fnWorldChangeUptoRow, standIns := [], harness := (true, "f5534851c825464140d48b64d3c6382a679695f9f47102b8b10e6d898191388f"), looks := true }, kinds := [], alts := [], laidByText := true, laidKinds := [.sentinel, .sentinel], laidTests := true, laidLooks := .later }
def FnWorldChangeUptoCardSaid : Prop := Claim7.holds Tryz.pinned (.plain (OpenSpec.upto fnWorldChangeSpec)) fnWorldChangeUptoCard

/-- THE SECOND FORM's CARD OF 'laws.FnWorldSince'. -/
def fnWorldSinceUptoCard : Claim7 := { stood := { row := fnWorldSinceUptoRow, standIns := [], harness := (true, "f5534851c825464140d48b64d3c6382a679695f9f47102b8b10e6d898191388f"), looks := true }, kinds := [], alts := [], laidByText := true, laidKinds := [.sentinel, .sentinel], laidTests := true, laidLooks := .later }
def FnWorldSinceUptoCardSaid : Prop := Claim7.holds Tryz.pinned (.plain (OpenSpec.upto fnWorldSinceSpec)) fnWorldSinceUptoCard
end Rows
end Go.Proofs.YtghlkpjhdgceiaaGreatDoor
