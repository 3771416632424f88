/-
  DERIVED. GIVEN WITH THE SEED: THE CARDS: each row of YthdeaenleimbeaaDoorRows.lean that lists a variable, with what it lists TIED to the program's text (the seventh form; the later family's looks); each row that meets fmt, with fmt's text TOLD by the authors' own Lean function (tested against real Go, not proved from fmt's source: count such statements apart). THE CARD IS WHAT COUNTS. Prove the row's statement (the work); the ties are given (YthdeaenleimbeaaDoorTie.lean); close each card by the builder's one call (the guide's Derived/Test/ToyasCard.lean, 'card_holds'). Laid BY PROGRAM, IN A SANDBOX (cutbox-door.mjs). By AI agents, Wed Nov 11 2026. No macro, syntax, notation, axiom, sorry.
-/
import Derived.Test.YthdeaenleimbeaaDoorRows
import GoSem.ClaimSeven
namespace Go.Proofs.YthdeaenleimbeaaDoor
namespace Rows

/-- THE TIED CARD OF 'laws.FnExactComplementsOf'. -/
def fnExactComplementsOfCard : Claim7 := { stood := { row := fnExactComplementsOfRow, standIns := [], harness := (true, "a60f607ac9c9e1515cf47570067a1de2d27f00fa85ca7c308c544318b928c77f"), looks := false }, kinds := [], alts := [], laidByText := true, laidKinds := [.data, .data], laidTests := true, laidLooks := .later }
def FnExactComplementsOfCardSaid : Prop := Claim7.holds Tryd.pinned (.plain (OpenSpec.ofChange fnExactComplementsOfSpec)) fnExactComplementsOfCard

/-- THE TIED CARD OF 'laws.FnExactJoinIrreducibles'. -/
def fnExactJoinIrreduciblesCard : Claim7 := { stood := { row := fnExactJoinIrreduciblesRow, standIns := [], harness := (true, "a60f607ac9c9e1515cf47570067a1de2d27f00fa85ca7c308c544318b928c77f"), looks := false }, kinds := [], alts := [], laidByText := true, laidKinds := [.data, .data], laidTests := true, laidLooks := .later }
def FnExactJoinIrreduciblesCardSaid : Prop := Claim7.holds Tryd.pinned (.plain (OpenSpec.ofChange fnExactJoinIrreduciblesSpec)) fnExactJoinIrreduciblesCard

/-- THE TIED CARD OF 'laws.FnExactMeetIrreducibles'. -/
def fnExactMeetIrreduciblesCard : Claim7 := { stood := { row := fnExactMeetIrreduciblesRow, standIns := [], harness := (true, "a60f607ac9c9e1515cf47570067a1de2d27f00fa85ca7c308c544318b928c77f"), looks := false }, kinds := [], alts := [], laidByText := true, laidKinds := [.data, .data], laidTests := true, laidLooks := .later }
def FnExactMeetIrreduciblesCardSaid : Prop := Claim7.holds Tryd.pinned (.plain (OpenSpec.ofChange fnExactMeetIrreduciblesSpec)) fnExactMeetIrreduciblesCard

/-- THE TIED CARD OF 'laws.FnExactPathConfidence'. -/
def fnExactPathConfidenceCard : Claim7 := { stood := { row := fnExactPathConfidenceRow, standIns := [], harness := (true, "a60f607ac9c9e1515cf47570067a1de2d27f00fa85ca7c308c544318b928c77f"), looks := false }, kinds := [], alts := [], laidByText := true, laidKinds := [.data, .data], laidTests := true, laidLooks := .later }
def FnExactPathConfidenceCardSaid : Prop := Claim7.holds Tryd.pinned (.plain (OpenSpec.ofChange fnExactPathConfidenceSpec)) fnExactPathConfidenceCard

/-- THE TIED CARD OF 'laws.FnExactFrequentIntents'. -/
def fnExactFrequentIntentsCard : Claim7 := { stood := { row := fnExactFrequentIntentsRow, standIns := [], harness := (true, "a60f607ac9c9e1515cf47570067a1de2d27f00fa85ca7c308c544318b928c77f"), looks := false }, kinds := [], alts := [], laidByText := true, laidKinds := [.data, .data], laidTests := true, laidLooks := .later }
def FnExactFrequentIntentsCardSaid : Prop := Claim7.holds Tryd.pinned (.plain (OpenSpec.ofChange fnExactFrequentIntentsSpec)) fnExactFrequentIntentsCard

/-- THE TIED CARD OF 'laws.FnExactStrongRules'. -/
def fnExactStrongRulesCard : Claim7 := { stood := { row := fnExactStrongRulesRow, standIns := [], harness := (true, "a60f607ac9c9e1515cf47570067a1de2d27f00fa85ca7c308c544318b928c77f"), looks := false }, kinds := [], alts := [], laidByText := true, laidKinds := [.data, .data], laidTests := true, laidLooks := .later }
def FnExactStrongRulesCardSaid : Prop := Claim7.holds Tryd.pinned (.plain (OpenSpec.ofChange fnExactStrongRulesSpec)) fnExactStrongRulesCard

/-- THE TIED CARD OF 'laws.FnExactLuxenburgerBase'. -/
def fnExactLuxenburgerBaseCard : Claim7 := { stood := { row := fnExactLuxenburgerBaseRow, standIns := [], harness := (true, "a60f607ac9c9e1515cf47570067a1de2d27f00fa85ca7c308c544318b928c77f"), looks := false }, kinds := [], alts := [], laidByText := true, laidKinds := [.data, .data], laidTests := true, laidLooks := .later }
def FnExactLuxenburgerBaseCardSaid : Prop := Claim7.holds Tryd.pinned (.plain (OpenSpec.ofChange fnExactLuxenburgerBaseSpec)) fnExactLuxenburgerBaseCard

/-- THE TIED CARD OF 'laws.FnExactIsCompatible'. -/
def fnExactIsCompatibleCard : Claim7 := { stood := { row := fnExactIsCompatibleRow, standIns := [], harness := (true, "a60f607ac9c9e1515cf47570067a1de2d27f00fa85ca7c308c544318b928c77f"), looks := false }, kinds := [], alts := [], laidByText := true, laidKinds := [.data, .data], laidTests := true, laidLooks := .later }
def FnExactIsCompatibleCardSaid : Prop := Claim7.holds Tryd.pinned (.plain (OpenSpec.ofChange fnExactIsCompatibleSpec)) fnExactIsCompatibleCard

/-- THE TIED CARD OF 'laws.FnExactCountCompatible'. -/
def fnExactCountCompatibleCard : Claim7 := { stood := { row := fnExactCountCompatibleRow, standIns := [], harness := (true, "a60f607ac9c9e1515cf47570067a1de2d27f00fa85ca7c308c544318b928c77f"), looks := false }, kinds := [], alts := [], laidByText := true, laidKinds := [.data, .data], laidTests := true, laidLooks := .later }
def FnExactCountCompatibleCardSaid : Prop := Claim7.holds Tryd.pinned (.plain (OpenSpec.ofChange fnExactCountCompatibleSpec)) fnExactCountCompatibleCard

/-- THE TIED CARD OF 'laws.FnExactIsComplemented'. -/
def fnExactIsComplementedCard : Claim7 := { stood := { row := fnExactIsComplementedRow, standIns := [], harness := (true, "a60f607ac9c9e1515cf47570067a1de2d27f00fa85ca7c308c544318b928c77f"), looks := false }, kinds := [], alts := [], laidByText := true, laidKinds := [.data, .data], laidTests := true, laidLooks := .later }
def FnExactIsComplementedCardSaid : Prop := Claim7.holds Tryd.pinned (.plain (OpenSpec.ofChange fnExactIsComplementedSpec)) fnExactIsComplementedCard

/-- THE TIED CARD OF 'laws.FnExactNextModel'. -/
def fnExactNextModelCard : Claim7 := { stood := { row := fnExactNextModelRow, standIns := [], harness := (true, "a60f607ac9c9e1515cf47570067a1de2d27f00fa85ca7c308c544318b928c77f"), looks := false }, kinds := [], alts := [], laidByText := true, laidKinds := [.data, .data], laidTests := true, laidLooks := .later }
def FnExactNextModelCardSaid : Prop := Claim7.holds Tryd.pinned (.plain (OpenSpec.ofChange fnExactNextModelSpec)) fnExactNextModelCard

/-- THE TIED CARD OF 'laws.FnExactGreedyFactors'. -/
def fnExactGreedyFactorsCard : Claim7 := { stood := { row := fnExactGreedyFactorsRow, standIns := [], harness := (true, "a60f607ac9c9e1515cf47570067a1de2d27f00fa85ca7c308c544318b928c77f"), looks := false }, kinds := [], alts := [], laidByText := true, laidKinds := [.data, .data], laidTests := true, laidLooks := .later }
def FnExactGreedyFactorsCardSaid : Prop := Claim7.holds Tryd.pinned (.plain (OpenSpec.ofChange fnExactGreedyFactorsSpec)) fnExactGreedyFactorsCard

/-- THE SECOND FORM's CARD OF 'laws.FnExactComplementsOf'. -/
def fnExactComplementsOfUptoCard : Claim7 := { stood := { row := fnExactComplementsOfUptoRow, standIns := [], harness := (true, "a60f607ac9c9e1515cf47570067a1de2d27f00fa85ca7c308c544318b928c77f"), looks := false }, kinds := [], alts := [], laidByText := true, laidKinds := [.data, .data], laidTests := true, laidLooks := .later }
def FnExactComplementsOfUptoCardSaid : Prop := Claim7.holds Tryd.pinned (.plain (OpenSpec.upto fnExactComplementsOfSpec)) fnExactComplementsOfUptoCard

/-- THE SECOND FORM's CARD OF 'laws.FnExactJoinIrreducibles'. -/
def fnExactJoinIrreduciblesUptoCard : Claim7 := { stood := { row := fnExactJoinIrreduciblesUptoRow, standIns := [], harness := (true, "a60f607ac9c9e1515cf47570067a1de2d27f00fa85ca7c308c544318b928c77f"), looks := false }, kinds := [], alts := [], laidByText := true, laidKinds := [.data, .data], laidTests := true, laidLooks := .later }
def FnExactJoinIrreduciblesUptoCardSaid : Prop := Claim7.holds Tryd.pinned (.plain (OpenSpec.upto fnExactJoinIrreduciblesSpec)) fnExactJoinIrreduciblesUptoCard

/-- THE SECOND FORM's CARD OF 'laws.FnExactMeetIrreducibles'. -/
def fnExactMeetIrreduciblesUptoCard : Claim7 := { stood := { row := fnExactMeetIrreduciblesUptoRow, standIns := [], harness := (true, "a60f607ac9c9e1515cf47570067a1de2d27f00fa85ca7c308c544318b928c77f"), looks := false }, kinds := [], alts := [], laidByText := true, laidKinds := [.data, .data], laidTests := true, laidLooks := .later }
def FnExactMeetIrreduciblesUptoCardSaid : Prop := Claim7.holds Tryd.pinned (.plain (OpenSpec.upto fnExactMeetIrreduciblesSpec)) fnExactMeetIrreduciblesUptoCard

/-- THE SECOND FORM's CARD OF 'laws.FnExactPathConfidence'. -/
def fnExactPathConfidenceUptoCard : Claim7 := { stood := { row := fnExactPathConfidenceUptoRow, standIns := [], harness := (true, "a60f607ac9c9e1515cf47570067a1de2d27f00fa85ca7c308c544318b928c77f"), looks := false }, kinds := [], alts := [], laidByText := true, laidKinds := [.data, .data], laidTests := true, laidLooks := .later }
def FnExactPathConfidenceUptoCardSaid : Prop := Claim7.holds Tryd.pinned (.plain (OpenSpec.upto fnExactPathConfidenceSpec)) fnExactPathConfidenceUptoCard

/-- THE SECOND FORM's CARD OF 'laws.FnExactFrequentIntents'. -/
def fnExactFrequentIntentsUptoCard : Claim7 := { stood := { row := fnExactFrequentIntentsUptoRow, standIns := [], harness := (true, "a60f607ac9c9e1515cf47570067a1de2d27f00fa85ca7c308c544318b928c77f"), looks := false }, kinds := [], alts := [], laidByText := true, laidKinds := [.data, .data], laidTests := true, laidLooks := .later }
def FnExactFrequentIntentsUptoCardSaid : Prop := Claim7.holds Tryd.pinned (.plain (OpenSpec.upto fnExactFrequentIntentsSpec)) fnExactFrequentIntentsUptoCard

/-- THE SECOND FORM's CARD OF 'laws.FnExactStrongRules'. -/
def fnExactStrongRulesUptoCard : Claim7 := { stood := { row := fnExactStrongRulesUptoRow, standIns := [], harness := (true, "a60f607ac9c9e1515cf47570067a1de2d27f00fa85ca7c308c544318b928c77f"), looks := false }, kinds := [], alts := [], laidByText := true, laidKinds := [.data, .data], laidTests := true, laidLooks := .later }
def FnExactStrongRulesUptoCardSaid : Prop := Claim7.holds Tryd.pinned (.plain (OpenSpec.upto fnExactStrongRulesSpec)) fnExactStrongRulesUptoCard

/-- THE SECOND FORM's CARD OF 'laws.FnExactLuxenburgerBase'. -/
def fnExactLuxenburgerBaseUptoCard : Claim7 := { stood := { row := fnExactLuxenburgerBaseUptoRow, standIns := [], harness := (true, "a60f607ac9c9e1515cf47570067a1de2d27f00fa85ca7c308c544318b928c77f"), looks := false }, kinds := [], alts := [], laidByText := true, laidKinds := [.data, .data], laidTests := true, laidLooks := .later }
def FnExactLuxenburgerBaseUptoCardSaid : Prop := Claim7.holds Tryd.pinned (.plain (OpenSpec.upto fnExactLuxenburgerBaseSpec)) fnExactLuxenburgerBaseUptoCard

/-- THE SECOND FORM's CARD OF 'laws.FnExactIsCompatible'. -/
def fnExactIsCompatibleUptoCard : Claim7 := { stood := { row := fnExactIsCompatibleUptoRow, standIns := [], harness := (true, "a60f607ac9c9e1515cf47570067a1de2d27f00fa85ca7c308c544318b928c77f"), looks := false }, kinds := [], alts := [], laidByText := true, laidKinds := [.data, .data], laidTests := true, laidLooks := .later }
def FnExactIsCompatibleUptoCardSaid : Prop := Claim7.holds Tryd.pinned (.plain (OpenSpec.upto fnExactIsCompatibleSpec)) fnExactIsCompatibleUptoCard

/-- THE SECOND FORM's CARD OF 'laws.FnExactCountCompatible'. -/
def fnExactCountCompatibleUptoCard : Claim7 := { stood := { row := fnExactCountCompatibleUptoRow, standIns := [], harness := (true, "a60f607ac9c9e1515cf47570067a1de2d27f00fa85ca7c308c544318b928c77f"), looks := false }, kinds := [], alts := [], laidByText := true, laidKinds := [.data, .data], laidTests := true, laidLooks := .later }
def FnExactCountCompatibleUptoCardSaid : Prop := Claim7.holds Tryd.pinned (.plain (OpenSpec.upto fnExactCountCompatibleSpec)) fnExactCountCompatibleUptoCard

/-- THE SECOND FORM's CARD OF 'laws.FnExactIsComplemented'. -/
def fnExactIsComplementedUptoCard : Claim7 := { stood := { row := fnExactIsComplementedUptoRow, standIns := [], harness := (true, "a60f607ac9c9e1515cf47570067a1de2d27f00fa85ca7c308c544318b928c77f"), looks := false }, kinds := [], alts := [], laidByText := true, laidKinds := [.data, .data], laidTests := true, laidLooks := .later }
def FnExactIsComplementedUptoCardSaid : Prop := Claim7.holds Tryd.pinned (.plain (OpenSpec.upto fnExactIsComplementedSpec)) fnExactIsComplementedUptoCard

/-- THE SECOND FORM's CARD OF 'laws.FnExactNextModel'. -/
def fnExactNextModelUptoCard : Claim7 := { stood := { row := fnExactNextModelUptoRow, standIns := [], harness := (true, "a60f607ac9c9e1515cf47570067a1de2d27f00fa85ca7c308c544318b928c77f"), looks := false }, kinds := [], alts := [], laidByText := true, laidKinds := [.data, .data], laidTests := true, laidLooks := .later }
def FnExactNextModelUptoCardSaid : Prop := Claim7.holds Tryd.pinned (.plain (OpenSpec.upto fnExactNextModelSpec)) fnExactNextModelUptoCard

/-- THE SECOND FORM's CARD OF 'laws.FnExactGreedyFactors'. -/
def fnExactGreedyFactorsUptoCard : Claim7 := { stood := { row := fnExactGreedyFactorsUptoRow, standIns := [], harness := (true, "a60f607ac9c9e1515cf47570067a1de2d27f00fa85ca7c308c544318b928c77f"), looks := false }, kinds := [], alts := [], laidByText := true, laidKinds := [.data, .data], laidTests := true, laidLooks := .later }
def FnExactGreedyFactorsUptoCardSaid : Prop := Claim7.holds Tryd.pinned (.plain (OpenSpec.upto fnExactGreedyFactorsSpec)) fnExactGreedyFactorsUptoCard
end Rows
end Go.Proofs.YthdeaenleimbeaaDoor
