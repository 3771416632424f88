/-
  DERIVED. GIVEN WITH THE SEED: THE CARDS: each row of YtlglhokpaplifaaGreatDoorRows.lean that lists a variable, with what it lists TIED to the program's text (the seventh form; the later family's looks); each row that meets fmt, with fmt's text TOLD by the authors' own Lean function (tested against real Go, not proved from fmt's source: count such statements apart). THE CARD IS WHAT COUNTS. Prove the row's statement (the work); the ties are given (YtlglhokpaplifaaGreatDoorTie.lean); close each card by the builder's one call (the guide's Derived/Test/ToyasCard.lean, 'card_holds'). Laid BY PROGRAM, IN A SANDBOX (cutbox-door.mjs). By AI agents, Wed Nov 11 2026. No macro, syntax, notation, axiom, sorry.
-/
import Derived.Test.YtlglhokpaplifaaGreatDoorRows
import GoSem.ClaimSeven
namespace Go.Proofs.YtlglhokpaplifaaGreatDoor
namespace Rows

/-- THE TIED CARD OF 'laws.FnExplored'. -/
def fnExploredCard : Claim7 := { stood := { row := fnExploredRow, standIns := [], harness := (true, "81867e72222372e31986b3410531dd0815f5d680f55f3a6782ecedbc917a93ed"), looks := false }, kinds := [], alts := [], laidByText := true, laidKinds := [.data, .data, .data], laidTests := true, laidLooks := .later }
def FnExploredCardSaid : Prop := Claim7.holds Tryz.pinned (.plain (OpenSpec.ofChange fnExploredSpec)) fnExploredCard

/-- THE TIED CARD OF 'laws.FnExactExplore'. -/
def fnExactExploreCard : Claim7 := { stood := { row := fnExactExploreRow, standIns := [], harness := (true, "81867e72222372e31986b3410531dd0815f5d680f55f3a6782ecedbc917a93ed"), looks := false }, kinds := [], alts := [], laidByText := true, laidKinds := [.data, .data], laidTests := true, laidLooks := .later }
def FnExactExploreCardSaid : Prop := Claim7.holds Tryz.pinned (.plain (OpenSpec.ofChange fnExactExploreSpec)) fnExactExploreCard

/-- THE SECOND FORM's CARD OF 'laws.FnExplored'. -/
def fnExploredUptoCard : Claim7 := { stood := { row := fnExploredUptoRow, standIns := [], harness := (true, "81867e72222372e31986b3410531dd0815f5d680f55f3a6782ecedbc917a93ed"), looks := false }, kinds := [], alts := [], laidByText := true, laidKinds := [.data, .data, .data], laidTests := true, laidLooks := .later }
def FnExploredUptoCardSaid : Prop := Claim7.holds Tryz.pinned (.plain (OpenSpec.upto fnExploredSpec)) fnExploredUptoCard

/-- THE SECOND FORM's CARD OF 'laws.FnExactExplore'. -/
def fnExactExploreUptoCard : Claim7 := { stood := { row := fnExactExploreUptoRow, standIns := [], harness := (true, "81867e72222372e31986b3410531dd0815f5d680f55f3a6782ecedbc917a93ed"), looks := false }, kinds := [], alts := [], laidByText := true, laidKinds := [.data, .data], laidTests := true, laidLooks := .later }
def FnExactExploreUptoCardSaid : Prop := Claim7.holds Tryz.pinned (.plain (OpenSpec.upto fnExactExploreSpec)) fnExactExploreUptoCard
end Rows
end Go.Proofs.YtlglhokpaplifaaGreatDoor
