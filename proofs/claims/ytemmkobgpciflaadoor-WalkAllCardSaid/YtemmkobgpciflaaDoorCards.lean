/-
  DERIVED. GIVEN WITH THE SEED: THE CARDS: each row of YtemmkobgpciflaaDoorRows.lean that lists a variable, with what it lists TIED to the program's text (the seventh form; the later family's looks); each row that meets fmt, with fmt's text TOLD by the authors' own Lean function (tested against real Go, not proved from fmt's source: count such statements apart). THE CARD IS WHAT COUNTS. Prove the row's statement (the work); the ties are given (YtemmkobgpciflaaDoorTie.lean); close each card by the builder's one call (the guide's Derived/Test/ToyasCard.lean, 'card_holds'). Laid BY PROGRAM, IN A SANDBOX (cutbox-door.mjs). By AI agents, Wed Nov 11 2026. No macro, syntax, notation, axiom, sorry.
-/
import Derived.Test.YtemmkobgpciflaaDoorRows
import GoSem.ClaimSeven
namespace Go.Proofs.YtemmkobgpciflaaDoor
namespace Rows

/-- THE TIED CARD OF 'espalierlaw03.TreeChecks'. -/
def treeChecksCard : Claim7 := { stood := { row := treeChecksRow, standIns := [], harness := (true, "bd55dd54fe3ef52af28b6f254acd4767b5999c37959308d5c8705501618847d0"), looks := false }, kinds := [], alts := [], laidByText := true, laidKinds := [.data, .pinned], laidTests := true, laidLooks := .later }
def TreeChecksCardSaid : Prop := Claim7.holds Tryd.pinned (.plain (OpenSpec.ofChange treeChecksSpec)) treeChecksCard

/-- THE TIED CARD OF 'espalierlaw18.DifferDistances'. -/
def differDistancesCard : Claim7 := { stood := { row := differDistancesRow, standIns := [], harness := (true, "bd55dd54fe3ef52af28b6f254acd4767b5999c37959308d5c8705501618847d0"), looks := false }, kinds := [], alts := [], laidByText := true, laidKinds := [.data, .pinned], laidTests := true, laidLooks := .later }
def DifferDistancesCardSaid : Prop := Claim7.holds Tryd.pinned (.plain (OpenSpec.ofChange differDistancesSpec)) differDistancesCard

/-- THE TIED CARD OF 'espalierlaw18.DifferScripts'. -/
def differScriptsCard : Claim7 := { stood := { row := differScriptsRow, standIns := [], harness := (true, "bd55dd54fe3ef52af28b6f254acd4767b5999c37959308d5c8705501618847d0"), looks := false }, kinds := [], alts := [], laidByText := true, laidKinds := [.data, .pinned], laidTests := true, laidLooks := .later }
def DifferScriptsCardSaid : Prop := Claim7.holds Tryd.pinned (.plain (OpenSpec.ofChange differScriptsSpec)) differScriptsCard

/-- THE TIED CARD OF 'espalierlaw10.WalkAll'. -/
def walkAllCard : Claim7 := { stood := { row := walkAllRow, standIns := [], harness := (true, "bd55dd54fe3ef52af28b6f254acd4767b5999c37959308d5c8705501618847d0"), looks := false }, kinds := [], alts := [], laidByText := true, laidKinds := [.data, .pinned], laidTests := true, laidLooks := .later }
def WalkAllCardSaid : Prop := Claim7.holds Tryd.pinned (.plain (OpenSpec.ofChange walkAllSpec)) walkAllCard

/-- THE TIED CARD OF 'espalierlaw10.WalkStops'. -/
def walkStopsCard : Claim7 := { stood := { row := walkStopsRow, standIns := [], harness := (true, "bd55dd54fe3ef52af28b6f254acd4767b5999c37959308d5c8705501618847d0"), looks := false }, kinds := [], alts := [], laidByText := true, laidKinds := [.data, .pinned], laidTests := true, laidLooks := .later }
def WalkStopsCardSaid : Prop := Claim7.holds Tryd.pinned (.plain (OpenSpec.ofChange walkStopsSpec)) walkStopsCard

/-- THE TIED CARD OF 'espalierlaw10.WalkLaws'. -/
def walkLawsCard : Claim7 := { stood := { row := walkLawsRow, standIns := [], harness := (true, "bd55dd54fe3ef52af28b6f254acd4767b5999c37959308d5c8705501618847d0"), looks := false }, kinds := [], alts := [], laidByText := true, laidKinds := [.data, .pinned], laidTests := true, laidLooks := .later }
def WalkLawsCardSaid : Prop := Claim7.holds Tryd.pinned (.plain (OpenSpec.ofChange walkLawsSpec)) walkLawsCard

/-- THE TIED CARD OF 'espalierlaw18.DifferMetric'. -/
def differMetricCard : Claim7 := { stood := { row := differMetricRow, standIns := [], harness := (true, "bd55dd54fe3ef52af28b6f254acd4767b5999c37959308d5c8705501618847d0"), looks := false }, kinds := [], alts := [], laidByText := true, laidKinds := [.data, .pinned], laidTests := true, laidLooks := .later }
def DifferMetricCardSaid : Prop := Claim7.holds Tryd.pinned (.plain (OpenSpec.ofChange differMetricSpec)) differMetricCard

/-- THE TIED CARD OF 'espalierlaw18.DifferBeside'. -/
def differBesideCard : Claim7 := { stood := { row := differBesideRow, standIns := [], harness := (true, "bd55dd54fe3ef52af28b6f254acd4767b5999c37959308d5c8705501618847d0"), looks := false }, kinds := [], alts := [], laidByText := true, laidKinds := [.data, .pinned], laidTests := true, laidLooks := .later }
def DifferBesideCardSaid : Prop := Claim7.holds Tryd.pinned (.plain (OpenSpec.ofChange differBesideSpec)) differBesideCard

/-- THE SECOND FORM's CARD OF 'espalierlaw03.TreeChecks'. -/
def treeChecksUptoCard : Claim7 := { stood := { row := treeChecksUptoRow, standIns := [], harness := (true, "bd55dd54fe3ef52af28b6f254acd4767b5999c37959308d5c8705501618847d0"), looks := false }, kinds := [], alts := [], laidByText := true, laidKinds := [.data, .pinned], laidTests := true, laidLooks := .later }
def TreeChecksUptoCardSaid : Prop := Claim7.holds Tryd.pinned (.plain (OpenSpec.upto treeChecksSpec)) treeChecksUptoCard

/-- THE SECOND FORM's CARD OF 'espalierlaw18.DifferDistances'. -/
def differDistancesUptoCard : Claim7 := { stood := { row := differDistancesUptoRow, standIns := [], harness := (true, "bd55dd54fe3ef52af28b6f254acd4767b5999c37959308d5c8705501618847d0"), looks := false }, kinds := [], alts := [], laidByText := true, laidKinds := [.data, .pinned], laidTests := true, laidLooks := .later }
def DifferDistancesUptoCardSaid : Prop := Claim7.holds Tryd.pinned (.plain (OpenSpec.upto differDistancesSpec)) differDistancesUptoCard

/-- THE SECOND FORM's CARD OF 'espalierlaw18.DifferScripts'. -/
def differScriptsUptoCard : Claim7 := { stood := { row := differScriptsUptoRow, standIns := [], harness := (true, "bd55dd54fe3ef52af28b6f254acd4767b5999c37959308d5c8705501618847d0"), looks := false }, kinds := [], alts := [], laidByText := true, laidKinds := [.data, .pinned], laidTests := true, laidLooks := .later }
def DifferScriptsUptoCardSaid : Prop := Claim7.holds Tryd.pinned (.plain (OpenSpec.upto differScriptsSpec)) differScriptsUptoCard

/-- THE SECOND FORM's CARD OF 'espalierlaw10.WalkAll'. -/
def walkAllUptoCard : Claim7 := { stood := { row := walkAllUptoRow, standIns := [], harness := (true, "bd55dd54fe3ef52af28b6f254acd4767b5999c37959308d5c8705501618847d0"), looks := false }, kinds := [], alts := [], laidByText := true, laidKinds := [.data, .pinned], laidTests := true, laidLooks := .later }
def WalkAllUptoCardSaid : Prop := Claim7.holds Tryd.pinned (.plain (OpenSpec.upto walkAllSpec)) walkAllUptoCard

/-- THE SECOND FORM's CARD OF 'espalierlaw10.WalkStops'. -/
def walkStopsUptoCard : Claim7 := { stood := { row := walkStopsUptoRow, standIns := [], harness := (true, "bd55dd54fe3ef52af28b6f254acd4767b5999c37959308d5c8705501618847d0"), looks := false }, kinds := [], alts := [], laidByText := true, laidKinds := [.data, .pinned], laidTests := true, laidLooks := .later }
def WalkStopsUptoCardSaid : Prop := Claim7.holds Tryd.pinned (.plain (OpenSpec.upto walkStopsSpec)) walkStopsUptoCard

/-- THE SECOND FORM's CARD OF 'espalierlaw10.WalkLaws'. -/
def walkLawsUptoCard : Claim7 := { stood := { row := walkLawsUptoRow, standIns := [], harness := (true, "bd55dd54fe3ef52af28b6f254acd4767b5999c37959308d5c8705501618847d0"), looks := false }, kinds := [], alts := [], laidByText := true, laidKinds := [.data, .pinned], laidTests := true, laidLooks := .later }
def WalkLawsUptoCardSaid : Prop := Claim7.holds Tryd.pinned (.plain (OpenSpec.upto walkLawsSpec)) walkLawsUptoCard

/-- THE SECOND FORM's CARD OF 'espalierlaw18.DifferMetric'. -/
def differMetricUptoCard : Claim7 := { stood := { row := differMetricUptoRow, standIns := [], harness := (true, "bd55dd54fe3ef52af28b6f254acd4767b5999c37959308d5c8705501618847d0"), looks := false }, kinds := [], alts := [], laidByText := true, laidKinds := [.data, .pinned], laidTests := true, laidLooks := .later }
def DifferMetricUptoCardSaid : Prop := Claim7.holds Tryd.pinned (.plain (OpenSpec.upto differMetricSpec)) differMetricUptoCard

/-- THE SECOND FORM's CARD OF 'espalierlaw18.DifferBeside'. -/
def differBesideUptoCard : Claim7 := { stood := { row := differBesideUptoRow, standIns := [], harness := (true, "bd55dd54fe3ef52af28b6f254acd4767b5999c37959308d5c8705501618847d0"), looks := false }, kinds := [], alts := [], laidByText := true, laidKinds := [.data, .pinned], laidTests := true, laidLooks := .later }
def DifferBesideUptoCardSaid : Prop := Claim7.holds Tryd.pinned (.plain (OpenSpec.upto differBesideSpec)) differBesideUptoCard
end Rows
end Go.Proofs.YtemmkobgpciflaaDoor
