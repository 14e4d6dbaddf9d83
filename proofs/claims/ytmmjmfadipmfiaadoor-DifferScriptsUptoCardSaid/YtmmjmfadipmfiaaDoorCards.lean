/-
  DERIVED. GIVEN WITH THE SEED: THE CARDS: each row of YtmmjmfadipmfiaaDoorRows.lean that lists a variable, with what it lists TIED to the program's text (the seventh form; the later family's looks); each row that meets fmt, with fmt's text TOLD by the authors' own Lean function (tested against real Go, not proved from fmt's source: count such statements apart). THE CARD IS WHAT COUNTS. Prove the row's statement (the work); the ties are given (YtmmjmfadipmfiaaDoorTie.lean); close each card by the builder's one call (the guide's Derived/Test/ToyasCard.lean, 'card_holds'). Laid BY PROGRAM, IN A SANDBOX (cutbox-door.mjs). By AI agents, Wed Nov 11 2026. No macro, syntax, notation, axiom, sorry.
-/
import Derived.Test.YtmmjmfadipmfiaaDoorRows
import GoSem.ClaimSeven
namespace Go.Proofs.YtmmjmfadipmfiaaDoor
namespace Rows

/-- THE TIED CARD OF 'espalierlaw03.TreeChecks'. -/
def treeChecksCard : Claim7 := { stood := { row := treeChecksRow, standIns := [], harness := (true, "2cfe1837a715ce1ddbb6ce88c6fe886b3bd77b825771d1b8b8b7cdc07c784946"), looks := false }, kinds := [], alts := [], laidByText := true, laidKinds := [.data, .pinned], laidTests := true, laidLooks := .later }
def TreeChecksCardSaid : Prop := Claim7.holds Tryd.pinned (.plain (OpenSpec.ofChange treeChecksSpec)) treeChecksCard

/-- THE TIED CARD OF 'espalierlaw18.DifferDistances'. -/
def differDistancesCard : Claim7 := { stood := { row := differDistancesRow, standIns := [], harness := (true, "2cfe1837a715ce1ddbb6ce88c6fe886b3bd77b825771d1b8b8b7cdc07c784946"), looks := false }, kinds := [], alts := [], laidByText := true, laidKinds := [.data, .pinned], laidTests := true, laidLooks := .later }
def DifferDistancesCardSaid : Prop := Claim7.holds Tryd.pinned (.plain (OpenSpec.ofChange differDistancesSpec)) differDistancesCard

/-- THE TIED CARD OF 'espalierlaw18.DifferScripts'. -/
def differScriptsCard : Claim7 := { stood := { row := differScriptsRow, standIns := [], harness := (true, "2cfe1837a715ce1ddbb6ce88c6fe886b3bd77b825771d1b8b8b7cdc07c784946"), looks := false }, kinds := [], alts := [], laidByText := true, laidKinds := [.data, .pinned], laidTests := true, laidLooks := .later }
def DifferScriptsCardSaid : Prop := Claim7.holds Tryd.pinned (.plain (OpenSpec.ofChange differScriptsSpec)) differScriptsCard

/-- THE SECOND FORM's CARD OF 'espalierlaw03.TreeChecks'. -/
def treeChecksUptoCard : Claim7 := { stood := { row := treeChecksUptoRow, standIns := [], harness := (true, "2cfe1837a715ce1ddbb6ce88c6fe886b3bd77b825771d1b8b8b7cdc07c784946"), looks := false }, kinds := [], alts := [], laidByText := true, laidKinds := [.data, .pinned], laidTests := true, laidLooks := .later }
def TreeChecksUptoCardSaid : Prop := Claim7.holds Tryd.pinned (.plain (OpenSpec.upto treeChecksSpec)) treeChecksUptoCard

/-- THE SECOND FORM's CARD OF 'espalierlaw18.DifferDistances'. -/
def differDistancesUptoCard : Claim7 := { stood := { row := differDistancesUptoRow, standIns := [], harness := (true, "2cfe1837a715ce1ddbb6ce88c6fe886b3bd77b825771d1b8b8b7cdc07c784946"), looks := false }, kinds := [], alts := [], laidByText := true, laidKinds := [.data, .pinned], laidTests := true, laidLooks := .later }
def DifferDistancesUptoCardSaid : Prop := Claim7.holds Tryd.pinned (.plain (OpenSpec.upto differDistancesSpec)) differDistancesUptoCard

/-- THE SECOND FORM's CARD OF 'espalierlaw18.DifferScripts'. -/
def differScriptsUptoCard : Claim7 := { stood := { row := differScriptsUptoRow, standIns := [], harness := (true, "2cfe1837a715ce1ddbb6ce88c6fe886b3bd77b825771d1b8b8b7cdc07c784946"), looks := false }, kinds := [], alts := [], laidByText := true, laidKinds := [.data, .pinned], laidTests := true, laidLooks := .later }
def DifferScriptsUptoCardSaid : Prop := Claim7.holds Tryd.pinned (.plain (OpenSpec.upto differScriptsSpec)) differScriptsUptoCard
end Rows
end Go.Proofs.YtmmjmfadipmfiaaDoor
