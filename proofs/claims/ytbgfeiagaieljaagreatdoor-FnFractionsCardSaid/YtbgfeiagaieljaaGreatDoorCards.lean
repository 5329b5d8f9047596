/-
  DERIVED. GIVEN WITH THE SEED: THE CARDS: each row of YtbgfeiagaieljaaGreatDoorRows.lean that lists a variable, with what it lists TIED to the program's text (the seventh form; the later family's looks); each row that meets fmt, with fmt's text TOLD by the authors' own Lean function (tested against real Go, not proved from fmt's source: count such statements apart). THE CARD IS WHAT COUNTS. Prove the row's statement (the work); the ties are given (YtbgfeiagaieljaaGreatDoorTie.lean); close each card by the builder's one call (the guide's Derived/Test/ToyasCard.lean, 'card_holds'). Laid BY PROGRAM, IN A SANDBOX (cutbox-door.mjs). By AI agents, Wed Nov 11 2026. No macro, syntax, notation, axiom, sorry.
-/
import Derived.Test.YtbgfeiagaieljaaGreatDoorRows
import GoSem.ClaimSeven
namespace Go.Proofs.YtbgfeiagaieljaaGreatDoor
namespace Rows

/-- THE TIED CARD OF 'laws.FnExactMeanWait'. -/
def fnExactMeanWaitCard : Claim7 := { stood := { row := fnExactMeanWaitRow, standIns := [], harness := (true, "6754f4af7f7e3e0b60c56bd4b125d34bc08ba48986f0ff89ed86e4fd9224a6f9"), looks := true }, kinds := [], alts := [], laidByText := true, laidKinds := [.data, .data, .data], laidTests := true, laidLooks := .later }
def FnExactMeanWaitCardSaid : Prop := Claim7.holds Tryz.pinned (.plain (OpenSpec.ofChange fnExactMeanWaitSpec)) fnExactMeanWaitCard

/-- THE TIED CARD OF 'laws.FnExactSharedLeaves'. -/
def fnExactSharedLeavesCard : Claim7 := { stood := { row := fnExactSharedLeavesRow, standIns := [], harness := (true, "6754f4af7f7e3e0b60c56bd4b125d34bc08ba48986f0ff89ed86e4fd9224a6f9"), looks := true }, kinds := [], alts := [], laidByText := true, laidKinds := [.data, .data, .data], laidTests := true, laidLooks := .later }
def FnExactSharedLeavesCardSaid : Prop := Claim7.holds Tryz.pinned (.plain (OpenSpec.ofChange fnExactSharedLeavesSpec)) fnExactSharedLeavesCard

/-- THE TIED CARD OF 'laws.FnLittle'. -/
def fnLittleCard : Claim7 := { stood := { row := fnLittleRow, standIns := [], harness := (true, "6754f4af7f7e3e0b60c56bd4b125d34bc08ba48986f0ff89ed86e4fd9224a6f9"), looks := true }, kinds := [], alts := [], laidByText := true, laidKinds := [.data, .data, .data], laidTests := true, laidLooks := .later }
def FnLittleCardSaid : Prop := Claim7.holds Tryz.pinned (.plain (OpenSpec.ofChange fnLittleSpec)) fnLittleCard

/-- THE TIED CARD OF 'laws.FnWork'. -/
def fnWorkCard : Claim7 := { stood := { row := fnWorkRow, standIns := [], harness := (true, "6754f4af7f7e3e0b60c56bd4b125d34bc08ba48986f0ff89ed86e4fd9224a6f9"), looks := true }, kinds := [], alts := [], laidByText := true, laidKinds := [.data, .data, .data], laidTests := true, laidLooks := .later }
def FnWorkCardSaid : Prop := Claim7.holds Tryz.pinned (.plain (OpenSpec.ofChange fnWorkSpec)) fnWorkCard

/-- THE TIED CARD OF 'laws.FnFractions'. -/
def fnFractionsCard : Claim7 := { stood := { row := fnFractionsRow, standIns := [], harness := (true, "6754f4af7f7e3e0b60c56bd4b125d34bc08ba48986f0ff89ed86e4fd9224a6f9"), looks := true }, kinds := [], alts := [], laidByText := true, laidKinds := [.data, .data, .data, .sentinel, .sentinel], laidTests := true, laidLooks := .later }
def FnFractionsCardSaid : Prop := Claim7.holds Tryz.pinned (.plain (OpenSpec.ofChange fnFractionsSpec)) fnFractionsCard

/-- THE SECOND FORM's CARD OF 'laws.FnExactMeanWait'. -/
def fnExactMeanWaitUptoCard : Claim7 := { stood := { row := fnExactMeanWaitUptoRow, standIns := [], harness := (true, "6754f4af7f7e3e0b60c56bd4b125d34bc08ba48986f0ff89ed86e4fd9224a6f9"), looks := true }, kinds := [], alts := [], laidByText := true, laidKinds := [.data, .data, .data], laidTests := true, laidLooks := .later }
def FnExactMeanWaitUptoCardSaid : Prop := Claim7.holds Tryz.pinned (.plain (OpenSpec.upto fnExactMeanWaitSpec)) fnExactMeanWaitUptoCard

/-- THE SECOND FORM's CARD OF 'laws.FnExactSharedLeaves'. -/
def fnExactSharedLeavesUptoCard : Claim7 := { stood := { row := fnExactSharedLeavesUptoRow, standIns := [], harness := (true, "6754f4af7f7e3e0b60c56bd4b125d34bc08ba48986f0ff89ed86e4fd9224a6f9"), looks := true }, kinds := [], alts := [], laidByText := true, laidKinds := [.data, .data, .data], laidTests := true, laidLooks := .later }
def FnExactSharedLeavesUptoCardSaid : Prop := Claim7.holds Tryz.pinned (.plain (OpenSpec.upto fnExactSharedLeavesSpec)) fnExactSharedLeavesUptoCard

/-- THE SECOND FORM's CARD OF 'laws.FnLittle'. -/
def fnLittleUptoCard : Claim7 := { stood := { row := fnLittleUptoRow, standIns := [], harness := (true, "6754f4af7f7e3e0b60c56bd4b125d34bc08ba48986f0ff89ed86e4fd9224a6f9"), looks := true }, kinds := [], alts := [], laidByText := true, laidKinds := [.data, .data, .data], laidTests := true, laidLooks := .later }
def FnLittleUptoCardSaid : Prop := Claim7.holds Tryz.pinned (.plain (OpenSpec.upto fnLittleSpec)) fnLittleUptoCard

/-- THE SECOND FORM's CARD OF 'laws.FnWork'. -/
def fnWorkUptoCard : Claim7 := { stood := { row := fnWorkUptoRow, standIns := [], harness := (true, "6754f4af7f7e3e0b60c56bd4b125d34bc08ba48986f0ff89ed86e4fd9224a6f9"), looks := true }, kinds := [], alts := [], laidByText := true, laidKinds := [.data, .data, .data], laidTests := true, laidLooks := .later }
def FnWorkUptoCardSaid : Prop := Claim7.holds Tryz.pinned (.plain (OpenSpec.upto fnWorkSpec)) fnWorkUptoCard

/-- THE SECOND FORM's CARD OF 'laws.FnFractions'. -/
def fnFractionsUptoCard : Claim7 := { stood := { row := fnFractionsUptoRow, standIns := [], harness := (true, "6754f4af7f7e3e0b60c56bd4b125d34bc08ba48986f0ff89ed86e4fd9224a6f9"), looks := true }, kinds := [], alts := [], laidByText := true, laidKinds := [.data, .data, .data, .sentinel, .sentinel], laidTests := true, laidLooks := .later }
def FnFractionsUptoCardSaid : Prop := Claim7.holds Tryz.pinned (.plain (OpenSpec.upto fnFractionsSpec)) fnFractionsUptoCard
end Rows
end Go.Proofs.YtbgfeiagaieljaaGreatDoor
