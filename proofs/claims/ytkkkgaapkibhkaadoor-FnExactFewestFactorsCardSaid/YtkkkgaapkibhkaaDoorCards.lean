/-
  DERIVED. GIVEN WITH THE SEED: THE CARDS: each row of YtkkkgaapkibhkaaDoorRows.lean that lists a variable, with what it lists TIED to the program's text (the seventh form; the later family's looks); each row that meets fmt, with fmt's text TOLD by the authors' own Lean function (tested against real Go, not proved from fmt's source: count such statements apart). THE CARD IS WHAT COUNTS. Prove the row's statement (the work); the ties are given (YtkkkgaapkibhkaaDoorTie.lean); close each card by the builder's one call (the guide's Derived/Test/ToyasCard.lean, 'card_holds'). Laid BY PROGRAM, IN A SANDBOX (cutbox-door.mjs). By AI agents, Wed Nov 11 2026. No macro, syntax, notation, axiom, sorry.
-/
import Derived.Test.YtkkkgaapkibhkaaDoorRows
import GoSem.ClaimSeven
namespace Go.Proofs.YtkkkgaapkibhkaaDoor
namespace Rows

/-- THE TIED CARD OF 'laws.FnExactIsDistributive'. -/
def fnExactIsDistributiveCard : Claim7 := { stood := { row := fnExactIsDistributiveRow, standIns := [], harness := (true, "752b27383bf34983def5c7f7991b730669df392f362d400dc36477233162ba2b"), looks := false }, kinds := [], alts := [], laidByText := true, laidKinds := [.data, .data], laidTests := true, laidLooks := .later }
def FnExactIsDistributiveCardSaid : Prop := Claim7.holds Tryd.pinned (.plain (OpenSpec.ofChange fnExactIsDistributiveSpec)) fnExactIsDistributiveCard

/-- THE TIED CARD OF 'laws.FnExactIsModular'. -/
def fnExactIsModularCard : Claim7 := { stood := { row := fnExactIsModularRow, standIns := [], harness := (true, "752b27383bf34983def5c7f7991b730669df392f362d400dc36477233162ba2b"), looks := false }, kinds := [], alts := [], laidByText := true, laidKinds := [.data, .data], laidTests := true, laidLooks := .later }
def FnExactIsModularCardSaid : Prop := Claim7.holds Tryd.pinned (.plain (OpenSpec.ofChange fnExactIsModularSpec)) fnExactIsModularCard

/-- THE TIED CARD OF 'laws.FnExactIsBoolean'. -/
def fnExactIsBooleanCard : Claim7 := { stood := { row := fnExactIsBooleanRow, standIns := [], harness := (true, "752b27383bf34983def5c7f7991b730669df392f362d400dc36477233162ba2b"), looks := false }, kinds := [], alts := [], laidByText := true, laidKinds := [.data, .data], laidTests := true, laidLooks := .later }
def FnExactIsBooleanCardSaid : Prop := Claim7.holds Tryd.pinned (.plain (OpenSpec.ofChange fnExactIsBooleanSpec)) fnExactIsBooleanCard

/-- THE TIED CARD OF 'laws.FnExactFewestFactors'. -/
def fnExactFewestFactorsCard : Claim7 := { stood := { row := fnExactFewestFactorsRow, standIns := [], harness := (true, "752b27383bf34983def5c7f7991b730669df392f362d400dc36477233162ba2b"), looks := false }, kinds := [], alts := [], laidByText := true, laidKinds := [.data, .data], laidTests := true, laidLooks := .later }
def FnExactFewestFactorsCardSaid : Prop := Claim7.holds Tryd.pinned (.plain (OpenSpec.ofChange fnExactFewestFactorsSpec)) fnExactFewestFactorsCard

/-- THE TIED CARD OF 'laws.FnSums'. -/
def fnSumsCard : Claim7 := { stood := { row := fnSumsRow, standIns := [], harness := (true, "752b27383bf34983def5c7f7991b730669df392f362d400dc36477233162ba2b"), looks := false }, kinds := [], alts := [], laidByText := true, laidKinds := [.data, .data], laidTests := true, laidLooks := .later }
def FnSumsCardSaid : Prop := Claim7.holds Tryd.pinned (.plain (OpenSpec.ofChange fnSumsSpec)) fnSumsCard

/-- THE SECOND FORM's CARD OF 'laws.FnExactIsDistributive'. -/
def fnExactIsDistributiveUptoCard : Claim7 := { stood := { row := fnExactIsDistributiveUptoRow, standIns := [], harness := (true, "752b27383bf34983def5c7f7991b730669df392f362d400dc36477233162ba2b"), looks := false }, kinds := [], alts := [], laidByText := true, laidKinds := [.data, .data], laidTests := true, laidLooks := .later }
def FnExactIsDistributiveUptoCardSaid : Prop := Claim7.holds Tryd.pinned (.plain (OpenSpec.upto fnExactIsDistributiveSpec)) fnExactIsDistributiveUptoCard

/-- THE SECOND FORM's CARD OF 'laws.FnExactIsModular'. -/
def fnExactIsModularUptoCard : Claim7 := { stood := { row := fnExactIsModularUptoRow, standIns := [], harness := (true, "752b27383bf34983def5c7f7991b730669df392f362d400dc36477233162ba2b"), looks := false }, kinds := [], alts := [], laidByText := true, laidKinds := [.data, .data], laidTests := true, laidLooks := .later }
def FnExactIsModularUptoCardSaid : Prop := Claim7.holds Tryd.pinned (.plain (OpenSpec.upto fnExactIsModularSpec)) fnExactIsModularUptoCard

/-- THE SECOND FORM's CARD OF 'laws.FnExactIsBoolean'. -/
def fnExactIsBooleanUptoCard : Claim7 := { stood := { row := fnExactIsBooleanUptoRow, standIns := [], harness := (true, "752b27383bf34983def5c7f7991b730669df392f362d400dc36477233162ba2b"), looks := false }, kinds := [], alts := [], laidByText := true, laidKinds := [.data, .data], laidTests := true, laidLooks := .later }
def FnExactIsBooleanUptoCardSaid : Prop := Claim7.holds Tryd.pinned (.plain (OpenSpec.upto fnExactIsBooleanSpec)) fnExactIsBooleanUptoCard

/-- THE SECOND FORM's CARD OF 'laws.FnExactFewestFactors'. -/
def fnExactFewestFactorsUptoCard : Claim7 := { stood := { row := fnExactFewestFactorsUptoRow, standIns := [], harness := (true, "752b27383bf34983def5c7f7991b730669df392f362d400dc36477233162ba2b"), looks := false }, kinds := [], alts := [], laidByText := true, laidKinds := [.data, .data], laidTests := true, laidLooks := .later }
def FnExactFewestFactorsUptoCardSaid : Prop := Claim7.holds Tryd.pinned (.plain (OpenSpec.upto fnExactFewestFactorsSpec)) fnExactFewestFactorsUptoCard

/-- THE SECOND FORM's CARD OF 'laws.FnSums'. -/
def fnSumsUptoCard : Claim7 := { stood := { row := fnSumsUptoRow, standIns := [], harness := (true, "752b27383bf34983def5c7f7991b730669df392f362d400dc36477233162ba2b"), looks := false }, kinds := [], alts := [], laidByText := true, laidKinds := [.data, .data], laidTests := true, laidLooks := .later }
def FnSumsUptoCardSaid : Prop := Claim7.holds Tryd.pinned (.plain (OpenSpec.upto fnSumsSpec)) fnSumsUptoCard
end Rows
end Go.Proofs.YtkkkgaapkibhkaaDoor
