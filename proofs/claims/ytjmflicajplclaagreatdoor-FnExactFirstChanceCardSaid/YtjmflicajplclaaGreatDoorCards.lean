/-
  DERIVED. GIVEN WITH THE SEED: THE CARDS: each row of YtjmflicajplclaaGreatDoorRows.lean that lists a variable, with what it lists TIED to the program's text (the seventh form; the later family's looks); each row that meets fmt, with fmt's text TOLD by the authors' own Lean function (tested against real Go, not proved from fmt's source: count such statements apart). THE CARD IS WHAT COUNTS. Prove the row's statement (the work); the ties are given (YtjmflicajplclaaGreatDoorTie.lean); close each card by the builder's one call (the guide's Derived/Test/ToyasCard.lean, 'card_holds'). Laid BY PROGRAM, IN A SANDBOX (cutbox-door.mjs). By AI agents, Wed Nov 11 2026. No macro, syntax, notation, axiom, sorry.
-/
import Derived.Test.YtjmflicajplclaaGreatDoorRows
import GoSem.ClaimSeven
namespace Go.Proofs.YtjmflicajplclaaGreatDoor
namespace Rows

/-- THE TIED CARD OF 'laws.FnExactEvenRates'. -/
def fnExactEvenRatesCard : Claim7 := { stood := { row := fnExactEvenRatesRow, standIns := [], harness := (true, "223ce2faabbe5b09c37d121fbbac50268bbfd726051e74fd872cadf067eb7027"), looks := true }, kinds := [], alts := [], laidByText := true, laidKinds := [.data, .data, .data, .sentinel, .sentinel], laidTests := true, laidLooks := .later }
def FnExactEvenRatesCardSaid : Prop := Claim7.holds Tryz.pinned (.plain (OpenSpec.ofChange fnExactEvenRatesSpec)) fnExactEvenRatesCard

/-- THE TIED CARD OF 'laws.FnExactEvenChain'. -/
def fnExactEvenChainCard : Claim7 := { stood := { row := fnExactEvenChainRow, standIns := [], harness := (true, "223ce2faabbe5b09c37d121fbbac50268bbfd726051e74fd872cadf067eb7027"), looks := true }, kinds := [], alts := [], laidByText := true, laidKinds := [.data, .data, .data, .sentinel, .sentinel], laidTests := true, laidLooks := .later }
def FnExactEvenChainCardSaid : Prop := Claim7.holds Tryz.pinned (.plain (OpenSpec.ofChange fnExactEvenChainSpec)) fnExactEvenChainCard

/-- THE TIED CARD OF 'laws.FnExactGroupQueue'. -/
def fnExactGroupQueueCard : Claim7 := { stood := { row := fnExactGroupQueueRow, standIns := [], harness := (true, "223ce2faabbe5b09c37d121fbbac50268bbfd726051e74fd872cadf067eb7027"), looks := true }, kinds := [], alts := [], laidByText := true, laidKinds := [.data, .data, .data, .sentinel, .sentinel], laidTests := true, laidLooks := .later }
def FnExactGroupQueueCardSaid : Prop := Claim7.holds Tryz.pinned (.plain (OpenSpec.ofChange fnExactGroupQueueSpec)) fnExactGroupQueueCard

/-- THE TIED CARD OF 'laws.FnExactGapQueue'. -/
def fnExactGapQueueCard : Claim7 := { stood := { row := fnExactGapQueueRow, standIns := [], harness := (true, "223ce2faabbe5b09c37d121fbbac50268bbfd726051e74fd872cadf067eb7027"), looks := true }, kinds := [], alts := [], laidByText := true, laidKinds := [.data, .data, .data, .sentinel, .sentinel], laidTests := true, laidLooks := .later }
def FnExactGapQueueCardSaid : Prop := Claim7.holds Tryz.pinned (.plain (OpenSpec.ofChange fnExactGapQueueSpec)) fnExactGapQueueCard

/-- THE TIED CARD OF 'laws.FnExactBreakQueue'. -/
def fnExactBreakQueueCard : Claim7 := { stood := { row := fnExactBreakQueueRow, standIns := [], harness := (true, "223ce2faabbe5b09c37d121fbbac50268bbfd726051e74fd872cadf067eb7027"), looks := true }, kinds := [], alts := [], laidByText := true, laidKinds := [.data, .data, .data, .sentinel, .sentinel], laidTests := true, laidLooks := .later }
def FnExactBreakQueueCardSaid : Prop := Claim7.holds Tryz.pinned (.plain (OpenSpec.ofChange fnExactBreakQueueSpec)) fnExactBreakQueueCard

/-- THE TIED CARD OF 'laws.FnExactTwoClasses'. -/
def fnExactTwoClassesCard : Claim7 := { stood := { row := fnExactTwoClassesRow, standIns := [], harness := (true, "223ce2faabbe5b09c37d121fbbac50268bbfd726051e74fd872cadf067eb7027"), looks := true }, kinds := [], alts := [], laidByText := true, laidKinds := [.data, .data, .data, .sentinel, .sentinel], laidTests := true, laidLooks := .later }
def FnExactTwoClassesCardSaid : Prop := Claim7.holds Tryz.pinned (.plain (OpenSpec.ofChange fnExactTwoClassesSpec)) fnExactTwoClassesCard

/-- THE TIED CARD OF 'laws.FnExactBatchQueue'. -/
def fnExactBatchQueueCard : Claim7 := { stood := { row := fnExactBatchQueueRow, standIns := [], harness := (true, "223ce2faabbe5b09c37d121fbbac50268bbfd726051e74fd872cadf067eb7027"), looks := true }, kinds := [], alts := [], laidByText := true, laidKinds := [.data, .data, .data, .sentinel, .sentinel], laidTests := true, laidLooks := .later }
def FnExactBatchQueueCardSaid : Prop := Claim7.holds Tryz.pinned (.plain (OpenSpec.ofChange fnExactBatchQueueSpec)) fnExactBatchQueueCard

/-- THE TIED CARD OF 'laws.FnExactTransformAt'. -/
def fnExactTransformAtCard : Claim7 := { stood := { row := fnExactTransformAtRow, standIns := [], harness := (true, "223ce2faabbe5b09c37d121fbbac50268bbfd726051e74fd872cadf067eb7027"), looks := true }, kinds := [], alts := [], laidByText := true, laidKinds := [.data, .data, .data, .sentinel, .sentinel], laidTests := true, laidLooks := .later }
def FnExactTransformAtCardSaid : Prop := Claim7.holds Tryz.pinned (.plain (OpenSpec.ofChange fnExactTransformAtSpec)) fnExactTransformAtCard

/-- THE TIED CARD OF 'laws.FnExactMomentOfService'. -/
def fnExactMomentOfServiceCard : Claim7 := { stood := { row := fnExactMomentOfServiceRow, standIns := [], harness := (true, "223ce2faabbe5b09c37d121fbbac50268bbfd726051e74fd872cadf067eb7027"), looks := true }, kinds := [], alts := [], laidByText := true, laidKinds := [.data, .data, .data, .sentinel, .sentinel], laidTests := true, laidLooks := .later }
def FnExactMomentOfServiceCardSaid : Prop := Claim7.holds Tryz.pinned (.plain (OpenSpec.ofChange fnExactMomentOfServiceSpec)) fnExactMomentOfServiceCard

/-- THE TIED CARD OF 'laws.FnExactSpreadOf'. -/
def fnExactSpreadOfCard : Claim7 := { stood := { row := fnExactSpreadOfRow, standIns := [], harness := (true, "223ce2faabbe5b09c37d121fbbac50268bbfd726051e74fd872cadf067eb7027"), looks := true }, kinds := [], alts := [], laidByText := true, laidKinds := [.data, .data, .data, .sentinel, .sentinel], laidTests := true, laidLooks := .later }
def FnExactSpreadOfCardSaid : Prop := Claim7.holds Tryz.pinned (.plain (OpenSpec.ofChange fnExactSpreadOfSpec)) fnExactSpreadOfCard

/-- THE TIED CARD OF 'laws.FnExactRestMean'. -/
def fnExactRestMeanCard : Claim7 := { stood := { row := fnExactRestMeanRow, standIns := [], harness := (true, "223ce2faabbe5b09c37d121fbbac50268bbfd726051e74fd872cadf067eb7027"), looks := true }, kinds := [], alts := [], laidByText := true, laidKinds := [.data, .data, .data, .sentinel, .sentinel], laidTests := true, laidLooks := .later }
def FnExactRestMeanCardSaid : Prop := Claim7.holds Tryz.pinned (.plain (OpenSpec.ofChange fnExactRestMeanSpec)) fnExactRestMeanCard

/-- THE TIED CARD OF 'laws.FnExactFirstChance'. -/
def fnExactFirstChanceCard : Claim7 := { stood := { row := fnExactFirstChanceRow, standIns := [], harness := (true, "223ce2faabbe5b09c37d121fbbac50268bbfd726051e74fd872cadf067eb7027"), looks := true }, kinds := [], alts := [], laidByText := true, laidKinds := [.data, .data, .data, .sentinel, .sentinel], laidTests := true, laidLooks := .later }
def FnExactFirstChanceCardSaid : Prop := Claim7.holds Tryz.pinned (.plain (OpenSpec.ofChange fnExactFirstChanceSpec)) fnExactFirstChanceCard

/-- THE SECOND FORM's CARD OF 'laws.FnExactEvenRates'. -/
def fnExactEvenRatesUptoCard : Claim7 := { stood := { row := fnExactEvenRatesUptoRow, standIns := [], harness := (true, "223ce2faabbe5b09c37d121fbbac50268bbfd726051e74fd872cadf067eb7027"), looks := true }, kinds := [], alts := [], laidByText := true, laidKinds := [.data, .data, .data, .sentinel, .sentinel], laidTests := true, laidLooks := .later }
def FnExactEvenRatesUptoCardSaid : Prop := Claim7.holds Tryz.pinned (.plain (OpenSpec.upto fnExactEvenRatesSpec)) fnExactEvenRatesUptoCard

/-- THE SECOND FORM's CARD OF 'laws.FnExactEvenChain'. -/
def fnExactEvenChainUptoCard : Claim7 := { stood := { row := fnExactEvenChainUptoRow, standIns := [], harness := (true, "223ce2faabbe5b09c37d121fbbac50268bbfd726051e74fd872cadf067eb7027"), looks := true }, kinds := [], alts := [], laidByText := true, laidKinds := [.data, .data, .data, .sentinel, .sentinel], laidTests := true, laidLooks := .later }
def FnExactEvenChainUptoCardSaid : Prop := Claim7.holds Tryz.pinned (.plain (OpenSpec.upto fnExactEvenChainSpec)) fnExactEvenChainUptoCard

/-- THE SECOND FORM's CARD OF 'laws.FnExactGroupQueue'. -/
def fnExactGroupQueueUptoCard : Claim7 := { stood := { row := fnExactGroupQueueUptoRow, standIns := [], harness := (true, "223ce2faabbe5b09c37d121fbbac50268bbfd726051e74fd872cadf067eb7027"), looks := true }, kinds := [], alts := [], laidByText := true, laidKinds := [.data, .data, .data, .sentinel, .sentinel], laidTests := true, laidLooks := .later }
def FnExactGroupQueueUptoCardSaid : Prop := Claim7.holds Tryz.pinned (.plain (OpenSpec.upto fnExactGroupQueueSpec)) fnExactGroupQueueUptoCard

/-- THE SECOND FORM's CARD OF 'laws.FnExactGapQueue'. -/
def fnExactGapQueueUptoCard : Claim7 := { stood := { row := fnExactGapQueueUptoRow, standIns := [], harness := (true, "223ce2faabbe5b09c37d121fbbac50268bbfd726051e74fd872cadf067eb7027"), looks := true }, kinds := [], alts := [], laidByText := true, laidKinds := [.data, .data, .data, .sentinel, .sentinel], laidTests := true, laidLooks := .later }
def FnExactGapQueueUptoCardSaid : Prop := Claim7.holds Tryz.pinned (.plain (OpenSpec.upto fnExactGapQueueSpec)) fnExactGapQueueUptoCard

/-- THE SECOND FORM's CARD OF 'laws.FnExactBreakQueue'. -/
def fnExactBreakQueueUptoCard : Claim7 := { stood := { row := fnExactBreakQueueUptoRow, standIns := [], harness := (true, "223ce2faabbe5b09c37d121fbbac50268bbfd726051e74fd872cadf067eb7027"), looks := true }, kinds := [], alts := [], laidByText := true, laidKinds := [.data, .data, .data, .sentinel, .sentinel], laidTests := true, laidLooks := .later }
def FnExactBreakQueueUptoCardSaid : Prop := Claim7.holds Tryz.pinned (.plain (OpenSpec.upto fnExactBreakQueueSpec)) fnExactBreakQueueUptoCard

/-- THE SECOND FORM's CARD OF 'laws.FnExactTwoClasses'. -/
def fnExactTwoClassesUptoCard : Claim7 := { stood := { row := fnExactTwoClassesUptoRow, standIns := [], harness := (true, "223ce2faabbe5b09c37d121fbbac50268bbfd726051e74fd872cadf067eb7027"), looks := true }, kinds := [], alts := [], laidByText := true, laidKinds := [.data, .data, .data, .sentinel, .sentinel], laidTests := true, laidLooks := .later }
def FnExactTwoClassesUptoCardSaid : Prop := Claim7.holds Tryz.pinned (.plain (OpenSpec.upto fnExactTwoClassesSpec)) fnExactTwoClassesUptoCard

/-- THE SECOND FORM's CARD OF 'laws.FnExactBatchQueue'. -/
def fnExactBatchQueueUptoCard : Claim7 := { stood := { row := fnExactBatchQueueUptoRow, standIns := [], harness := (true, "223ce2faabbe5b09c37d121fbbac50268bbfd726051e74fd872cadf067eb7027"), looks := true }, kinds := [], alts := [], laidByText := true, laidKinds := [.data, .data, .data, .sentinel, .sentinel], laidTests := true, laidLooks := .later }
def FnExactBatchQueueUptoCardSaid : Prop := Claim7.holds Tryz.pinned (.plain (OpenSpec.upto fnExactBatchQueueSpec)) fnExactBatchQueueUptoCard

/-- THE SECOND FORM's CARD OF 'laws.FnExactTransformAt'. -/
def fnExactTransformAtUptoCard : Claim7 := { stood := { row := fnExactTransformAtUptoRow, standIns := [], harness := (true, "223ce2faabbe5b09c37d121fbbac50268bbfd726051e74fd872cadf067eb7027"), looks := true }, kinds := [], alts := [], laidByText := true, laidKinds := [.data, .data, .data, .sentinel, .sentinel], laidTests := true, laidLooks := .later }
def FnExactTransformAtUptoCardSaid : Prop := Claim7.holds Tryz.pinned (.plain (OpenSpec.upto fnExactTransformAtSpec)) fnExactTransformAtUptoCard

/-- THE SECOND FORM's CARD OF 'laws.FnExactMomentOfService'. -/
def fnExactMomentOfServiceUptoCard : Claim7 := { stood := { row := fnExactMomentOfServiceUptoRow, standIns := [], harness := (true, "223ce2faabbe5b09c37d121fbbac50268bbfd726051e74fd872cadf067eb7027"), looks := true }, kinds := [], alts := [], laidByText := true, laidKinds := [.data, .data, .data, .sentinel, .sentinel], laidTests := true, laidLooks := .later }
def FnExactMomentOfServiceUptoCardSaid : Prop := Claim7.holds Tryz.pinned (.plain (OpenSpec.upto fnExactMomentOfServiceSpec)) fnExactMomentOfServiceUptoCard

/-- THE SECOND FORM's CARD OF 'laws.FnExactSpreadOf'. -/
def fnExactSpreadOfUptoCard : Claim7 := { stood := { row := fnExactSpreadOfUptoRow, standIns := [], harness := (true, "223ce2faabbe5b09c37d121fbbac50268bbfd726051e74fd872cadf067eb7027"), looks := true }, kinds := [], alts := [], laidByText := true, laidKinds := [.data, .data, .data, .sentinel, .sentinel], laidTests := true, laidLooks := .later }
def FnExactSpreadOfUptoCardSaid : Prop := Claim7.holds Tryz.pinned (.plain (OpenSpec.upto fnExactSpreadOfSpec)) fnExactSpreadOfUptoCard

/-- THE SECOND FORM's CARD OF 'laws.FnExactRestMean'. -/
def fnExactRestMeanUptoCard : Claim7 := { stood := { row := fnExactRestMeanUptoRow, standIns := [], harness := (true, "223ce2faabbe5b09c37d121fbbac50268bbfd726051e74fd872cadf067eb7027"), looks := true }, kinds := [], alts := [], laidByText := true, laidKinds := [.data, .data, .data, .sentinel, .sentinel], laidTests := true, laidLooks := .later }
def FnExactRestMeanUptoCardSaid : Prop := Claim7.holds Tryz.pinned (.plain (OpenSpec.upto fnExactRestMeanSpec)) fnExactRestMeanUptoCard

/-- THE SECOND FORM's CARD OF 'laws.FnExactFirstChance'. -/
def fnExactFirstChanceUptoCard : Claim7 := { stood := { row := fnExactFirstChanceUptoRow, standIns := [], harness := (true, "223ce2faabbe5b09c37d121fbbac50268bbfd726051e74fd872cadf067eb7027"), looks := true }, kinds := [], alts := [], laidByText := true, laidKinds := [.data, .data, .data, .sentinel, .sentinel], laidTests := true, laidLooks := .later }
def FnExactFirstChanceUptoCardSaid : Prop := Claim7.holds Tryz.pinned (.plain (OpenSpec.upto fnExactFirstChanceSpec)) fnExactFirstChanceUptoCard
end Rows
end Go.Proofs.YtjmflicajplclaaGreatDoor
