/-
  DERIVED. GIVEN WITH THE SEED: THE CARDS: each row of YtemhhpjenffalaaDoorRows.lean that lists a variable, with what it lists TIED to the program's text (the seventh form; the later family's looks); each row that meets fmt, with fmt's text TOLD by the authors' own Lean function (tested against real Go, not proved from fmt's source: count such statements apart). THE CARD IS WHAT COUNTS. Prove the row's statement (the work); the ties are given (YtemhhpjenffalaaDoorTie.lean); close each card by the builder's one call (the guide's Derived/Test/ToyasCard.lean, 'card_holds'). Laid BY PROGRAM, IN A SANDBOX (cutbox-door.mjs). By AI agents, Wed Nov 11 2026. No macro, syntax, notation, axiom, sorry.
-/
import Derived.Test.YtemhhpjenffalaaDoorRows
import GoSem.ClaimSeven
namespace Go.Proofs.YtemhhpjenffalaaDoor
namespace Rows

/-- THE TIED CARD OF 'laws.FnExactCountConcepts'. -/
def fnExactCountConceptsCard : Claim7 := { stood := { row := fnExactCountConceptsRow, standIns := [], harness := (true, "8b58675fb8f4510c796c627aab01ea81fac250459e32188a924a16c6309d94c4"), looks := false }, kinds := [], alts := [], laidByText := true, laidKinds := [.data, .data], laidTests := true, laidLooks := .later }
def FnExactCountConceptsCardSaid : Prop := Claim7.holds Tryd.pinned (.plain (OpenSpec.ofChange fnExactCountConceptsSpec)) fnExactCountConceptsCard

/-- THE TIED CARD OF 'laws.FnExactIsChain'. -/
def fnExactIsChainCard : Claim7 := { stood := { row := fnExactIsChainRow, standIns := [], harness := (true, "8b58675fb8f4510c796c627aab01ea81fac250459e32188a924a16c6309d94c4"), looks := false }, kinds := [], alts := [], laidByText := true, laidKinds := [.data, .data], laidTests := true, laidLooks := .later }
def FnExactIsChainCardSaid : Prop := Claim7.holds Tryd.pinned (.plain (OpenSpec.ofChange fnExactIsChainSpec)) fnExactIsChainCard

/-- THE TIED CARD OF 'laws.FnExactIsComplemented'. -/
def fnExactIsComplementedCard : Claim7 := { stood := { row := fnExactIsComplementedRow, standIns := [], harness := (true, "8b58675fb8f4510c796c627aab01ea81fac250459e32188a924a16c6309d94c4"), looks := false }, kinds := [], alts := [], laidByText := true, laidKinds := [.data, .data], laidTests := true, laidLooks := .later }
def FnExactIsComplementedCardSaid : Prop := Claim7.holds Tryd.pinned (.plain (OpenSpec.ofChange fnExactIsComplementedSpec)) fnExactIsComplementedCard

/-- THE TIED CARD OF 'laws.FnExactIsDistributive'. -/
def fnExactIsDistributiveCard : Claim7 := { stood := { row := fnExactIsDistributiveRow, standIns := [], harness := (true, "8b58675fb8f4510c796c627aab01ea81fac250459e32188a924a16c6309d94c4"), looks := false }, kinds := [], alts := [], laidByText := true, laidKinds := [.data, .data], laidTests := true, laidLooks := .later }
def FnExactIsDistributiveCardSaid : Prop := Claim7.holds Tryd.pinned (.plain (OpenSpec.ofChange fnExactIsDistributiveSpec)) fnExactIsDistributiveCard

/-- THE TIED CARD OF 'laws.FnExactIsModular'. -/
def fnExactIsModularCard : Claim7 := { stood := { row := fnExactIsModularRow, standIns := [], harness := (true, "8b58675fb8f4510c796c627aab01ea81fac250459e32188a924a16c6309d94c4"), looks := false }, kinds := [], alts := [], laidByText := true, laidKinds := [.data, .data], laidTests := true, laidLooks := .later }
def FnExactIsModularCardSaid : Prop := Claim7.holds Tryd.pinned (.plain (OpenSpec.ofChange fnExactIsModularSpec)) fnExactIsModularCard

/-- THE SECOND FORM's CARD OF 'laws.FnExactCountConcepts'. -/
def fnExactCountConceptsUptoCard : Claim7 := { stood := { row := fnExactCountConceptsUptoRow, standIns := [], harness := (true, "8b58675fb8f4510c796c627aab01ea81fac250459e32188a924a16c6309d94c4"), looks := false }, kinds := [], alts := [], laidByText := true, laidKinds := [.data, .data], laidTests := true, laidLooks := .later }
def FnExactCountConceptsUptoCardSaid : Prop := Claim7.holds Tryd.pinned (.plain (OpenSpec.upto fnExactCountConceptsSpec)) fnExactCountConceptsUptoCard

/-- THE SECOND FORM's CARD OF 'laws.FnExactIsChain'. -/
def fnExactIsChainUptoCard : Claim7 := { stood := { row := fnExactIsChainUptoRow, standIns := [], harness := (true, "8b58675fb8f4510c796c627aab01ea81fac250459e32188a924a16c6309d94c4"), looks := false }, kinds := [], alts := [], laidByText := true, laidKinds := [.data, .data], laidTests := true, laidLooks := .later }
def FnExactIsChainUptoCardSaid : Prop := Claim7.holds Tryd.pinned (.plain (OpenSpec.upto fnExactIsChainSpec)) fnExactIsChainUptoCard

/-- THE SECOND FORM's CARD OF 'laws.FnExactIsComplemented'. -/
def fnExactIsComplementedUptoCard : Claim7 := { stood := { row := fnExactIsComplementedUptoRow, standIns := [], harness := (true, "8b58675fb8f4510c796c627aab01ea81fac250459e32188a924a16c6309d94c4"), looks := false }, kinds := [], alts := [], laidByText := true, laidKinds := [.data, .data], laidTests := true, laidLooks := .later }
def FnExactIsComplementedUptoCardSaid : Prop := Claim7.holds Tryd.pinned (.plain (OpenSpec.upto fnExactIsComplementedSpec)) fnExactIsComplementedUptoCard

/-- THE SECOND FORM's CARD OF 'laws.FnExactIsDistributive'. -/
def fnExactIsDistributiveUptoCard : Claim7 := { stood := { row := fnExactIsDistributiveUptoRow, standIns := [], harness := (true, "8b58675fb8f4510c796c627aab01ea81fac250459e32188a924a16c6309d94c4"), looks := false }, kinds := [], alts := [], laidByText := true, laidKinds := [.data, .data], laidTests := true, laidLooks := .later }
def FnExactIsDistributiveUptoCardSaid : Prop := Claim7.holds Tryd.pinned (.plain (OpenSpec.upto fnExactIsDistributiveSpec)) fnExactIsDistributiveUptoCard

/-- THE SECOND FORM's CARD OF 'laws.FnExactIsModular'. -/
def fnExactIsModularUptoCard : Claim7 := { stood := { row := fnExactIsModularUptoRow, standIns := [], harness := (true, "8b58675fb8f4510c796c627aab01ea81fac250459e32188a924a16c6309d94c4"), looks := false }, kinds := [], alts := [], laidByText := true, laidKinds := [.data, .data], laidTests := true, laidLooks := .later }
def FnExactIsModularUptoCardSaid : Prop := Claim7.holds Tryd.pinned (.plain (OpenSpec.upto fnExactIsModularSpec)) fnExactIsModularUptoCard
end Rows
end Go.Proofs.YtemhhpjenffalaaDoor
