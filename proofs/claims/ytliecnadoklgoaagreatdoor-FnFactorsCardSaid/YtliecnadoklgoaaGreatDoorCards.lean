/-
  DERIVED. GIVEN WITH THE SEED: THE CARDS: each row of YtliecnadoklgoaaGreatDoorRows.lean that lists a variable, with what it lists TIED to the program's text (the seventh form; the later family's looks); each row that meets fmt, with fmt's text TOLD by the authors' own Lean function (tested against real Go, not proved from fmt's source: count such statements apart). THE CARD IS WHAT COUNTS. Prove the row's statement (the work); the ties are given (YtliecnadoklgoaaGreatDoorTie.lean); close each card by the builder's one call (the guide's Derived/Test/ToyasCard.lean, 'card_holds'). Laid BY PROGRAM, IN A SANDBOX (cutbox-door.mjs). By AI agents, Wed Nov 11 2026. No macro, syntax, notation, axiom, sorry.
-/
import Derived.Test.YtliecnadoklgoaaGreatDoorRows
import GoSem.ClaimSeven
namespace Go.Proofs.YtliecnadoklgoaaGreatDoor
namespace Rows

/-- THE TIED CARD OF 'laws.FnKinds'. -/
def fnKindsCard : Claim7 := { stood := { row := fnKindsRow, standIns := [], harness := (true, "8c98ceeb552ca49acecc42b9b2b6a7542846d68bfb38c7ed94fa5d37f7b3e335"), looks := false }, kinds := [], alts := [], laidByText := true, laidKinds := [.data, .data], laidTests := true, laidLooks := .later }
def FnKindsCardSaid : Prop := Claim7.holds Tryz.pinned (.plain (OpenSpec.ofChange fnKindsSpec)) fnKindsCard

/-- THE TIED CARD OF 'laws.FnParts'. -/
def fnPartsCard : Claim7 := { stood := { row := fnPartsRow, standIns := [], harness := (true, "8c98ceeb552ca49acecc42b9b2b6a7542846d68bfb38c7ed94fa5d37f7b3e335"), looks := false }, kinds := [], alts := [], laidByText := true, laidKinds := [.data, .data], laidTests := true, laidLooks := .later }
def FnPartsCardSaid : Prop := Claim7.holds Tryz.pinned (.plain (OpenSpec.ofChange fnPartsSpec)) fnPartsCard

/-- THE TIED CARD OF 'laws.FnExplored'. -/
def fnExploredCard : Claim7 := { stood := { row := fnExploredRow, standIns := [], harness := (true, "8c98ceeb552ca49acecc42b9b2b6a7542846d68bfb38c7ed94fa5d37f7b3e335"), looks := false }, kinds := [], alts := [], laidByText := true, laidKinds := [.data, .data, .data], laidTests := true, laidLooks := .later }
def FnExploredCardSaid : Prop := Claim7.holds Tryz.pinned (.plain (OpenSpec.ofChange fnExploredSpec)) fnExploredCard

/-- THE TIED CARD OF 'laws.FnExactExplore'. -/
def fnExactExploreCard : Claim7 := { stood := { row := fnExactExploreRow, standIns := [], harness := (true, "8c98ceeb552ca49acecc42b9b2b6a7542846d68bfb38c7ed94fa5d37f7b3e335"), looks := false }, kinds := [], alts := [], laidByText := true, laidKinds := [.data, .data], laidTests := true, laidLooks := .later }
def FnExactExploreCardSaid : Prop := Claim7.holds Tryz.pinned (.plain (OpenSpec.ofChange fnExactExploreSpec)) fnExactExploreCard

/-- THE TIED CARD OF 'laws.FnFactors'. -/
def fnFactorsCard : Claim7 := { stood := { row := fnFactorsRow, standIns := [], harness := (true, "8c98ceeb552ca49acecc42b9b2b6a7542846d68bfb38c7ed94fa5d37f7b3e335"), looks := false }, kinds := [], alts := [], laidByText := true, laidKinds := [.data, .data], laidTests := true, laidLooks := .later }
def FnFactorsCardSaid : Prop := Claim7.holds Tryz.pinned (.plain (OpenSpec.ofChange fnFactorsSpec)) fnFactorsCard

/-- THE SECOND FORM's CARD OF 'laws.FnKinds'. -/
def fnKindsUptoCard : Claim7 := { stood := { row := fnKindsUptoRow, standIns := [], harness := (true, "8c98ceeb552ca49acecc42b9b2b6a7542846d68bfb38c7ed94fa5d37f7b3e335"), looks := false }, kinds := [], alts := [], laidByText := true, laidKinds := [.data, .data], laidTests := true, laidLooks := .later }
def FnKindsUptoCardSaid : Prop := Claim7.holds Tryz.pinned (.plain (OpenSpec.upto fnKindsSpec)) fnKindsUptoCard

/-- THE SECOND FORM's CARD OF 'laws.FnParts'. -/
def fnPartsUptoCard : Claim7 := { stood := { row := fnPartsUptoRow, standIns := [], harness := (true, "8c98ceeb552ca49acecc42b9b2b6a7542846d68bfb38c7ed94fa5d37f7b3e335"), looks := false }, kinds := [], alts := [], laidByText := true, laidKinds := [.data, .data], laidTests := true, laidLooks := .later }
def FnPartsUptoCardSaid : Prop := Claim7.holds Tryz.pinned (.plain (OpenSpec.upto fnPartsSpec)) fnPartsUptoCard

/-- THE SECOND FORM's CARD OF 'laws.FnExplored'. -/
def fnExploredUptoCard : Claim7 := { stood := { row := fnExploredUptoRow, standIns := [], harness := (true, "8c98ceeb552ca49acecc42b9b2b6a7542846d68bfb38c7ed94fa5d37f7b3e335"), looks := false }, kinds := [], alts := [], laidByText := true, laidKinds := [.data, .data, .data], laidTests := true, laidLooks := .later }
def FnExploredUptoCardSaid : Prop := Claim7.holds Tryz.pinned (.plain (OpenSpec.upto fnExploredSpec)) fnExploredUptoCard

/-- THE SECOND FORM's CARD OF 'laws.FnExactExplore'. -/
def fnExactExploreUptoCard : Claim7 := { stood := { row := fnExactExploreUptoRow, standIns := [], harness := (true, "8c98ceeb552ca49acecc42b9b2b6a7542846d68bfb38c7ed94fa5d37f7b3e335"), looks := false }, kinds := [], alts := [], laidByText := true, laidKinds := [.data, .data], laidTests := true, laidLooks := .later }
def FnExactExploreUptoCardSaid : Prop := Claim7.holds Tryz.pinned (.plain (OpenSpec.upto fnExactExploreSpec)) fnExactExploreUptoCard

/-- THE SECOND FORM's CARD OF 'laws.FnFactors'. -/
def fnFactorsUptoCard : Claim7 := { stood := { row := fnFactorsUptoRow, standIns := [], harness := (true, "8c98ceeb552ca49acecc42b9b2b6a7542846d68bfb38c7ed94fa5d37f7b3e335"), looks := false }, kinds := [], alts := [], laidByText := true, laidKinds := [.data, .data], laidTests := true, laidLooks := .later }
def FnFactorsUptoCardSaid : Prop := Claim7.holds Tryz.pinned (.plain (OpenSpec.upto fnFactorsSpec)) fnFactorsUptoCard
end Rows
end Go.Proofs.YtliecnadoklgoaaGreatDoor
