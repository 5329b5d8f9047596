/-
  DERIVED. GIVEN WITH THE SEED: THE CARDS: each row of YtodamlihdkalfaaGreatDoorRows.lean that lists a variable, with what it lists TIED to the program's text (the seventh form; the later family's looks); each row that meets fmt, with fmt's text TOLD by the authors' own Lean function (tested against real Go, not proved from fmt's source: count such statements apart). THE CARD IS WHAT COUNTS. Prove the row's statement (the work); the ties are given (YtodamlihdkalfaaGreatDoorTie.lean); close each card by the builder's one call (the guide's Derived/Test/ToyasCard.lean, 'card_holds'). Laid BY PROGRAM, IN A SANDBOX (cutbox-door.mjs). By AI agents, Wed Nov 11 2026. No macro, syntax, notation, axiom, sorry.
-/
import Derived.Test.YtodamlihdkalfaaGreatDoorRows
import GoSem.ClaimSeven
namespace Go.Proofs.YtodamlihdkalfaaGreatDoor
namespace Rows

/-- THE TIED CARD OF 'laws.FnExactValidService'. -/
def fnExactValidServiceCard : Claim7 := { stood := { row := fnExactValidServiceRow, standIns := [], harness := (true, "8f2c5268c1f8534d4b4ff7524992ec49174648fc25e797cc8d617673f0cc135b"), looks := true }, kinds := [], alts := [], laidByText := true, laidKinds := [.data, .data, .data, .sentinel, .sentinel], laidTests := true, laidLooks := .later }
def FnExactValidServiceCardSaid : Prop := Claim7.holds Tryz.pinned (.plain (OpenSpec.ofChange fnExactValidServiceSpec)) fnExactValidServiceCard

/-- THE TIED CARD OF 'laws.FnExactOneService'. -/
def fnExactOneServiceCard : Claim7 := { stood := { row := fnExactOneServiceRow, standIns := [], harness := (true, "8f2c5268c1f8534d4b4ff7524992ec49174648fc25e797cc8d617673f0cc135b"), looks := true }, kinds := [], alts := [], laidByText := true, laidKinds := [.data, .data, .data, .sentinel, .sentinel], laidTests := true, laidLooks := .later }
def FnExactOneServiceCardSaid : Prop := Claim7.holds Tryz.pinned (.plain (OpenSpec.ofChange fnExactOneServiceSpec)) fnExactOneServiceCard

/-- THE TIED CARD OF 'laws.FnPlaces'. -/
def fnPlacesCard : Claim7 := { stood := { row := fnPlacesRow, standIns := [], harness := (true, "8f2c5268c1f8534d4b4ff7524992ec49174648fc25e797cc8d617673f0cc135b"), looks := true }, kinds := [], alts := [], laidByText := true, laidKinds := [.data, .data, .data, .sentinel, .sentinel], laidTests := true, laidLooks := .later }
def FnPlacesCardSaid : Prop := Claim7.holds Tryz.pinned (.plain (OpenSpec.ofChange fnPlacesSpec)) fnPlacesCard

/-- THE TIED CARD OF 'laws.FnSteps'. -/
def fnStepsCard : Claim7 := { stood := { row := fnStepsRow, standIns := [], harness := (true, "8f2c5268c1f8534d4b4ff7524992ec49174648fc25e797cc8d617673f0cc135b"), looks := true }, kinds := [], alts := [], laidByText := true, laidKinds := [.data, .data, .data, .sentinel, .sentinel], laidTests := true, laidLooks := .later }
def FnStepsCardSaid : Prop := Claim7.holds Tryz.pinned (.plain (OpenSpec.ofChange fnStepsSpec)) fnStepsCard

/-- THE TIED CARD OF 'laws.FnExactMeanOf'. -/
def fnExactMeanOfCard : Claim7 := { stood := { row := fnExactMeanOfRow, standIns := [], harness := (true, "8f2c5268c1f8534d4b4ff7524992ec49174648fc25e797cc8d617673f0cc135b"), looks := true }, kinds := [], alts := [], laidByText := true, laidKinds := [.data, .data, .data, .sentinel, .sentinel], laidTests := true, laidLooks := .later }
def FnExactMeanOfCardSaid : Prop := Claim7.holds Tryz.pinned (.plain (OpenSpec.ofChange fnExactMeanOfSpec)) fnExactMeanOfCard

/-- THE TIED CARD OF 'laws.FnExactMomentOf'. -/
def fnExactMomentOfCard : Claim7 := { stood := { row := fnExactMomentOfRow, standIns := [], harness := (true, "8f2c5268c1f8534d4b4ff7524992ec49174648fc25e797cc8d617673f0cc135b"), looks := true }, kinds := [], alts := [], laidByText := true, laidKinds := [.data, .data, .data, .sentinel, .sentinel], laidTests := true, laidLooks := .later }
def FnExactMomentOfCardSaid : Prop := Claim7.holds Tryz.pinned (.plain (OpenSpec.ofChange fnExactMomentOfSpec)) fnExactMomentOfCard

/-- THE TIED CARD OF 'laws.FnExactRowService'. -/
def fnExactRowServiceCard : Claim7 := { stood := { row := fnExactRowServiceRow, standIns := [], harness := (true, "8f2c5268c1f8534d4b4ff7524992ec49174648fc25e797cc8d617673f0cc135b"), looks := true }, kinds := [], alts := [], laidByText := true, laidKinds := [.data, .data, .data, .sentinel, .sentinel], laidTests := true, laidLooks := .later }
def FnExactRowServiceCardSaid : Prop := Claim7.holds Tryz.pinned (.plain (OpenSpec.ofChange fnExactRowServiceSpec)) fnExactRowServiceCard

/-- THE TIED CARD OF 'laws.FnExactSumParts'. -/
def fnExactSumPartsCard : Claim7 := { stood := { row := fnExactSumPartsRow, standIns := [], harness := (true, "8f2c5268c1f8534d4b4ff7524992ec49174648fc25e797cc8d617673f0cc135b"), looks := true }, kinds := [], alts := [], laidByText := true, laidKinds := [.data, .data, .data, .sentinel, .sentinel], laidTests := true, laidLooks := .later }
def FnExactSumPartsCardSaid : Prop := Claim7.holds Tryz.pinned (.plain (OpenSpec.ofChange fnExactSumPartsSpec)) fnExactSumPartsCard

/-- THE TIED CARD OF 'laws.FnExactFlowInto'. -/
def fnExactFlowIntoCard : Claim7 := { stood := { row := fnExactFlowIntoRow, standIns := [], harness := (true, "8f2c5268c1f8534d4b4ff7524992ec49174648fc25e797cc8d617673f0cc135b"), looks := true }, kinds := [], alts := [], laidByText := true, laidKinds := [.data, .data, .data, .sentinel, .sentinel], laidTests := true, laidLooks := .later }
def FnExactFlowIntoCardSaid : Prop := Claim7.holds Tryz.pinned (.plain (OpenSpec.ofChange fnExactFlowIntoSpec)) fnExactFlowIntoCard

/-- THE TIED CARD OF 'laws.FnExactMixService'. -/
def fnExactMixServiceCard : Claim7 := { stood := { row := fnExactMixServiceRow, standIns := [], harness := (true, "8f2c5268c1f8534d4b4ff7524992ec49174648fc25e797cc8d617673f0cc135b"), looks := true }, kinds := [], alts := [], laidByText := true, laidKinds := [.data, .data, .data, .sentinel, .sentinel], laidTests := true, laidLooks := .later }
def FnExactMixServiceCardSaid : Prop := Claim7.holds Tryz.pinned (.plain (OpenSpec.ofChange fnExactMixServiceSpec)) fnExactMixServiceCard

/-- THE TIED CARD OF 'laws.FnExactEvenRates'. -/
def fnExactEvenRatesCard : Claim7 := { stood := { row := fnExactEvenRatesRow, standIns := [], harness := (true, "8f2c5268c1f8534d4b4ff7524992ec49174648fc25e797cc8d617673f0cc135b"), looks := true }, kinds := [], alts := [], laidByText := true, laidKinds := [.data, .data, .data, .sentinel, .sentinel], laidTests := true, laidLooks := .later }
def FnExactEvenRatesCardSaid : Prop := Claim7.holds Tryz.pinned (.plain (OpenSpec.ofChange fnExactEvenRatesSpec)) fnExactEvenRatesCard

/-- THE TIED CARD OF 'laws.FnExactEvenChain'. -/
def fnExactEvenChainCard : Claim7 := { stood := { row := fnExactEvenChainRow, standIns := [], harness := (true, "8f2c5268c1f8534d4b4ff7524992ec49174648fc25e797cc8d617673f0cc135b"), looks := true }, kinds := [], alts := [], laidByText := true, laidKinds := [.data, .data, .data, .sentinel, .sentinel], laidTests := true, laidLooks := .later }
def FnExactEvenChainCardSaid : Prop := Claim7.holds Tryz.pinned (.plain (OpenSpec.ofChange fnExactEvenChainSpec)) fnExactEvenChainCard

/-- THE SECOND FORM's CARD OF 'laws.FnExactValidService'. -/
def fnExactValidServiceUptoCard : Claim7 := { stood := { row := fnExactValidServiceUptoRow, standIns := [], harness := (true, "8f2c5268c1f8534d4b4ff7524992ec49174648fc25e797cc8d617673f0cc135b"), looks := true }, kinds := [], alts := [], laidByText := true, laidKinds := [.data, .data, .data, .sentinel, .sentinel], laidTests := true, laidLooks := .later }
def FnExactValidServiceUptoCardSaid : Prop := Claim7.holds Tryz.pinned (.plain (OpenSpec.upto fnExactValidServiceSpec)) fnExactValidServiceUptoCard

/-- THE SECOND FORM's CARD OF 'laws.FnExactOneService'. -/
def fnExactOneServiceUptoCard : Claim7 := { stood := { row := fnExactOneServiceUptoRow, standIns := [], harness := (true, "8f2c5268c1f8534d4b4ff7524992ec49174648fc25e797cc8d617673f0cc135b"), looks := true }, kinds := [], alts := [], laidByText := true, laidKinds := [.data, .data, .data, .sentinel, .sentinel], laidTests := true, laidLooks := .later }
def FnExactOneServiceUptoCardSaid : Prop := Claim7.holds Tryz.pinned (.plain (OpenSpec.upto fnExactOneServiceSpec)) fnExactOneServiceUptoCard

/-- THE SECOND FORM's CARD OF 'laws.FnPlaces'. -/
def fnPlacesUptoCard : Claim7 := { stood := { row := fnPlacesUptoRow, standIns := [], harness := (true, "8f2c5268c1f8534d4b4ff7524992ec49174648fc25e797cc8d617673f0cc135b"), looks := true }, kinds := [], alts := [], laidByText := true, laidKinds := [.data, .data, .data, .sentinel, .sentinel], laidTests := true, laidLooks := .later }
def FnPlacesUptoCardSaid : Prop := Claim7.holds Tryz.pinned (.plain (OpenSpec.upto fnPlacesSpec)) fnPlacesUptoCard

/-- THE SECOND FORM's CARD OF 'laws.FnSteps'. -/
def fnStepsUptoCard : Claim7 := { stood := { row := fnStepsUptoRow, standIns := [], harness := (true, "8f2c5268c1f8534d4b4ff7524992ec49174648fc25e797cc8d617673f0cc135b"), looks := true }, kinds := [], alts := [], laidByText := true, laidKinds := [.data, .data, .data, .sentinel, .sentinel], laidTests := true, laidLooks := .later }
def FnStepsUptoCardSaid : Prop := Claim7.holds Tryz.pinned (.plain (OpenSpec.upto fnStepsSpec)) fnStepsUptoCard

/-- THE SECOND FORM's CARD OF 'laws.FnExactMeanOf'. -/
def fnExactMeanOfUptoCard : Claim7 := { stood := { row := fnExactMeanOfUptoRow, standIns := [], harness := (true, "8f2c5268c1f8534d4b4ff7524992ec49174648fc25e797cc8d617673f0cc135b"), looks := true }, kinds := [], alts := [], laidByText := true, laidKinds := [.data, .data, .data, .sentinel, .sentinel], laidTests := true, laidLooks := .later }
def FnExactMeanOfUptoCardSaid : Prop := Claim7.holds Tryz.pinned (.plain (OpenSpec.upto fnExactMeanOfSpec)) fnExactMeanOfUptoCard

/-- THE SECOND FORM's CARD OF 'laws.FnExactMomentOf'. -/
def fnExactMomentOfUptoCard : Claim7 := { stood := { row := fnExactMomentOfUptoRow, standIns := [], harness := (true, "8f2c5268c1f8534d4b4ff7524992ec49174648fc25e797cc8d617673f0cc135b"), looks := true }, kinds := [], alts := [], laidByText := true, laidKinds := [.data, .data, .data, .sentinel, .sentinel], laidTests := true, laidLooks := .later }
def FnExactMomentOfUptoCardSaid : Prop := Claim7.holds Tryz.pinned (.plain (OpenSpec.upto fnExactMomentOfSpec)) fnExactMomentOfUptoCard

/-- THE SECOND FORM's CARD OF 'laws.FnExactRowService'. -/
def fnExactRowServiceUptoCard : Claim7 := { stood := { row := fnExactRowServiceUptoRow, standIns := [], harness := (true, "8f2c5268c1f8534d4b4ff7524992ec49174648fc25e797cc8d617673f0cc135b"), looks := true }, kinds := [], alts := [], laidByText := true, laidKinds := [.data, .data, .data, .sentinel, .sentinel], laidTests := true, laidLooks := .later }
def FnExactRowServiceUptoCardSaid : Prop := Claim7.holds Tryz.pinned (.plain (OpenSpec.upto fnExactRowServiceSpec)) fnExactRowServiceUptoCard

/-- THE SECOND FORM's CARD OF 'laws.FnExactSumParts'. -/
def fnExactSumPartsUptoCard : Claim7 := { stood := { row := fnExactSumPartsUptoRow, standIns := [], harness := (true, "8f2c5268c1f8534d4b4ff7524992ec49174648fc25e797cc8d617673f0cc135b"), looks := true }, kinds := [], alts := [], laidByText := true, laidKinds := [.data, .data, .data, .sentinel, .sentinel], laidTests := true, laidLooks := .later }
def FnExactSumPartsUptoCardSaid : Prop := Claim7.holds Tryz.pinned (.plain (OpenSpec.upto fnExactSumPartsSpec)) fnExactSumPartsUptoCard

/-- THE SECOND FORM's CARD OF 'laws.FnExactFlowInto'. -/
def fnExactFlowIntoUptoCard : Claim7 := { stood := { row := fnExactFlowIntoUptoRow, standIns := [], harness := (true, "8f2c5268c1f8534d4b4ff7524992ec49174648fc25e797cc8d617673f0cc135b"), looks := true }, kinds := [], alts := [], laidByText := true, laidKinds := [.data, .data, .data, .sentinel, .sentinel], laidTests := true, laidLooks := .later }
def FnExactFlowIntoUptoCardSaid : Prop := Claim7.holds Tryz.pinned (.plain (OpenSpec.upto fnExactFlowIntoSpec)) fnExactFlowIntoUptoCard

/-- THE SECOND FORM's CARD OF 'laws.FnExactMixService'. -/
def fnExactMixServiceUptoCard : Claim7 := { stood := { row := fnExactMixServiceUptoRow, standIns := [], harness := (true, "8f2c5268c1f8534d4b4ff7524992ec49174648fc25e797cc8d617673f0cc135b"), looks := true }, kinds := [], alts := [], laidByText := true, laidKinds := [.data, .data, .data, .sentinel, .sentinel], laidTests := true, laidLooks := .later }
def FnExactMixServiceUptoCardSaid : Prop := Claim7.holds Tryz.pinned (.plain (OpenSpec.upto fnExactMixServiceSpec)) fnExactMixServiceUptoCard

/-- THE SECOND FORM's CARD OF 'laws.FnExactEvenRates'. -/
def fnExactEvenRatesUptoCard : Claim7 := { stood := { row := fnExactEvenRatesUptoRow, standIns := [], harness := (true, "8f2c5268c1f8534d4b4ff7524992ec49174648fc25e797cc8d617673f0cc135b"), looks := true }, kinds := [], alts := [], laidByText := true, laidKinds := [.data, .data, .data, .sentinel, .sentinel], laidTests := true, laidLooks := .later }
def FnExactEvenRatesUptoCardSaid : Prop := Claim7.holds Tryz.pinned (.plain (OpenSpec.upto fnExactEvenRatesSpec)) fnExactEvenRatesUptoCard

/-- THE SECOND FORM's CARD OF 'laws.FnExactEvenChain'. -/
def fnExactEvenChainUptoCard : Claim7 := { stood := { row := fnExactEvenChainUptoRow, standIns := [], harness := (true, "8f2c5268c1f8534d4b4ff7524992ec49174648fc25e797cc8d617673f0cc135b"), looks := true }, kinds := [], alts := [], laidByText := true, laidKinds := [.data, .data, .data, .sentinel, .sentinel], laidTests := true, laidLooks := .later }
def FnExactEvenChainUptoCardSaid : Prop := Claim7.holds Tryz.pinned (.plain (OpenSpec.upto fnExactEvenChainSpec)) fnExactEvenChainUptoCard
end Rows
end Go.Proofs.YtodamlihdkalfaaGreatDoor
