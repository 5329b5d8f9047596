/-
  DERIVED. GIVEN WITH THE SEED: THE CARDS: each row of YtinhiblbgejbdaaGreatDoorRows.lean that lists a variable, with what it lists TIED to the program's text (the seventh form; the later family's looks); each row that meets fmt, with fmt's text TOLD by the authors' own Lean function (tested against real Go, not proved from fmt's source: count such statements apart). THE CARD IS WHAT COUNTS. Prove the row's statement (the work); the ties are given (YtinhiblbgejbdaaGreatDoorTie.lean); close each card by the builder's one call (the guide's Derived/Test/ToyasCard.lean, 'card_holds'). Laid BY PROGRAM, IN A SANDBOX (cutbox-door.mjs). By AI agents, Wed Nov 11 2026. No macro, syntax, notation, axiom, sorry.
-/
import Derived.Test.YtinhiblbgejbdaaGreatDoorRows
import GoSem.ClaimSeven
namespace Go.Proofs.YtinhiblbgejbdaaGreatDoor
namespace Rows

/-- THE TIED CARD OF 'laws.FnWork'. -/
def fnWorkCard : Claim7 := { stood := { row := fnWorkRow, standIns := [], harness := (true, "054032c46230a5041ac99f6b67451ba9e363ff9a1b8aedf28fd2134decda22ef"), looks := false }, kinds := [], alts := [], laidByText := true, laidKinds := [.data, .data, .data], laidTests := true, laidLooks := .later }
def FnWorkCardSaid : Prop := Claim7.holds Tryz.pinned (.plain (OpenSpec.ofChange fnWorkSpec)) fnWorkCard

/-- THE TIED CARD OF 'laws.FnLittle'. -/
def fnLittleCard : Claim7 := { stood := { row := fnLittleRow, standIns := [], harness := (true, "054032c46230a5041ac99f6b67451ba9e363ff9a1b8aedf28fd2134decda22ef"), looks := false }, kinds := [], alts := [], laidByText := true, laidKinds := [.data, .data, .data], laidTests := true, laidLooks := .later }
def FnLittleCardSaid : Prop := Claim7.holds Tryz.pinned (.plain (OpenSpec.ofChange fnLittleSpec)) fnLittleCard

/-- THE TIED CARD OF 'laws.FnExactSharedLeaves'. -/
def fnExactSharedLeavesCard : Claim7 := { stood := { row := fnExactSharedLeavesRow, standIns := [], harness := (true, "054032c46230a5041ac99f6b67451ba9e363ff9a1b8aedf28fd2134decda22ef"), looks := false }, kinds := [], alts := [], laidByText := true, laidKinds := [.data, .data, .data], laidTests := true, laidLooks := .later }
def FnExactSharedLeavesCardSaid : Prop := Claim7.holds Tryz.pinned (.plain (OpenSpec.ofChange fnExactSharedLeavesSpec)) fnExactSharedLeavesCard

/-- THE SECOND FORM's CARD OF 'laws.FnWork'. -/
def fnWorkUptoCard : Claim7 := { stood := { row := fnWorkUptoRow, standIns := [], harness := (true, "054032c46230a5041ac99f6b67451ba9e363ff9a1b8aedf28fd2134decda22ef"), looks := false }, kinds := [], alts := [], laidByText := true, laidKinds := [.data, .data, .data], laidTests := true, laidLooks := .later }
def FnWorkUptoCardSaid : Prop := Claim7.holds Tryz.pinned (.plain (OpenSpec.upto fnWorkSpec)) fnWorkUptoCard

/-- THE SECOND FORM's CARD OF 'laws.FnLittle'. -/
def fnLittleUptoCard : Claim7 := { stood := { row := fnLittleUptoRow, standIns := [], harness := (true, "054032c46230a5041ac99f6b67451ba9e363ff9a1b8aedf28fd2134decda22ef"), looks := false }, kinds := [], alts := [], laidByText := true, laidKinds := [.data, .data, .data], laidTests := true, laidLooks := .later }
def FnLittleUptoCardSaid : Prop := Claim7.holds Tryz.pinned (.plain (OpenSpec.upto fnLittleSpec)) fnLittleUptoCard

/-- THE SECOND FORM's CARD OF 'laws.FnExactSharedLeaves'. -/
def fnExactSharedLeavesUptoCard : Claim7 := { stood := { row := fnExactSharedLeavesUptoRow, standIns := [], harness := (true, "054032c46230a5041ac99f6b67451ba9e363ff9a1b8aedf28fd2134decda22ef"), looks := false }, kinds := [], alts := [], laidByText := true, laidKinds := [.data, .data, .data], laidTests := true, laidLooks := .later }
def FnExactSharedLeavesUptoCardSaid : Prop := Claim7.holds Tryz.pinned (.plain (OpenSpec.upto fnExactSharedLeavesSpec)) fnExactSharedLeavesUptoCard
end Rows
end Go.Proofs.YtinhiblbgejbdaaGreatDoor
