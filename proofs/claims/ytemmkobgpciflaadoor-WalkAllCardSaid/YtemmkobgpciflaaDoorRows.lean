/-
  NARROWER THAN 'FOR EVERY INPUT', by the rows' own cells (each row's printed sentence says how): TreeChecks: loops, laid · DifferDistances: loops, laid · DifferScripts: loops, laid · WalkAll: laid · WalkStops: laid · WalkLaws: laid · DifferMetric: loops, laid · DifferBeside: loops, laid.
  DERIVED. THE GIVEN ROWS OF THIS SEAT. 8 by the template 'for every input the law returns true; each argument reads behind the call as it read before'; 0 by the template 'total and deterministic' (their statements: YtemmkobgpciflaaDoorTotals.lean).
  GIVEN WITH THE SEED: the statements are not yours to turn. If you find one false, say at which input.
  Laid BY PROGRAM, IN A SANDBOX (cutbox-rows.mjs): the forced cells as the released guide's own fill.sh prints them over the translation 7f096450252b2089… (all of the seat's roots in one cut). By AI agents, Wed Nov 11 2026. No macro, syntax, notation, axiom, sorry.
-/
import Derived.Test.YtemmkobgpciflaaDoorChecked
import GoSem.PinnedTables
import GoSem.Claim
import GoSem.ClaimJoined
import GoSem.ClaimMapViews
import Derived.JoinedTies
import Derived.KernelRfl
namespace Go.Proofs.YtemmkobgpciflaaDoor
/- THE CELL 'sum', in the pinned program and in every row, IS THE sha256 OF THE DUMP (.gsa) THAT YtemmkobgpciflaaDoorProg.lean LOADS. Nothing in Lean hashes anything: it is a label: what it is worth is what the hold of that sum in a sandbox is worth. -/
noncomputable def Tryd.pinned : Pinned := { name := "ytemmkobgpciflaadoor", sum := "7f096450252b20894b46eb08fb174240b795fb5bbef4c2442caf6c059f9ba99c", checked := Tryd.checked }
namespace Rows
def none {H : Type} : Left H := { results := [], args := [] }

/- WHAT THE LISTED PACKAGE-LEVEL VARIABLES READ AS WHEN THE CALL BEGINS. Each datum BY PROGRAM (the guide's laid-datum.mjs) off the statement by which the dump's own 'gosem.cut.vars' lays the variable. In a bare row this is a premise. The card (YtemmkobgpciflaaDoorCards.lean) ties it to the program's text. -/
def laid_unicode_utf8_acceptRanges {H : Type} : DataW H := .agg [.agg [.lit (.int .u8 128), .lit (.int .u8 191)], .agg [.lit (.int .u8 160), .lit (.int .u8 191)], .agg [.lit (.int .u8 128), .lit (.int .u8 159)], .agg [.lit (.int .u8 144), .lit (.int .u8 191)], .agg [.lit (.int .u8 128), .lit (.int .u8 143)], .agg [.lit (.int .u8 0), .lit (.int .u8 0)], .agg [.lit (.int .u8 0), .lit (.int .u8 0)], .agg [.lit (.int .u8 0), .lit (.int .u8 0)], .agg [.lit (.int .u8 0), .lit (.int .u8 0)], .agg [.lit (.int .u8 0), .lit (.int .u8 0)], .agg [.lit (.int .u8 0), .lit (.int .u8 0)], .agg [.lit (.int .u8 0), .lit (.int .u8 0)], .agg [.lit (.int .u8 0), .lit (.int .u8 0)], .agg [.lit (.int .u8 0), .lit (.int .u8 0)], .agg [.lit (.int .u8 0), .lit (.int .u8 0)], .agg [.lit (.int .u8 0), .lit (.int .u8 0)]]
/-- One of Go's own tables, pinned by name: the form's constant. -/
def laid_unicode_utf8_first : DataW Unit := Go.Pinned.utf8First

/-- 'espalierlaw03.TreeChecks': WHATEVER THE INPUT: true; the input reads as it did. -/
def treeChecksSpec : ChangeSpec := { name := "treeChecks", fn := fun _ => fun
  | [d] => { results := [.lit (.bool true)], args := [d] }
  | _ => none }
def treeChecksRow : OpenClaim := { program := "ytemmkobgpciflaadoor", sum := "7f096450252b20894b46eb08fb174240b795fb5bbef4c2442caf6c059f9ba99c", func := "espalier/espalierlaw03.TreeChecks", spec := "treeChecks", recurses := true, named := ["unicode/utf8.first", "unicode/utf8.acceptRanges"], loops := true, plainKeys := false, apart := false, laid := [("unicode/utf8.acceptRanges", laid_unicode_utf8_acceptRanges), ("unicode/utf8.first", laid_unicode_utf8_first)] }
def TreeChecksSaid : Prop := treeChecksRow.holds Tryd.pinned (OpenSpec.ofChange treeChecksSpec)

/-- ITS FALSE NEIGHBOUR: 'it returns false'. Refute it at one input. -/
def treeChecksWrong : ChangeSpec := { name := "treeChecks", fn := fun _ => fun
  | [d] => { results := [.lit (.bool false)], args := [d] }
  | _ => none }
def TreeChecksWrongFalsely : Prop := treeChecksRow.holds Tryd.pinned (OpenSpec.ofChange treeChecksWrong)

/-- 'espalierlaw18.DifferDistances': WHATEVER THE INPUT: true; the input reads as it did. -/
def differDistancesSpec : ChangeSpec := { name := "differDistances", fn := fun _ => fun
  | [d1, d2] => { results := [.lit (.bool true)], args := [d1, d2] }
  | _ => none }
def differDistancesRow : OpenClaim := { program := "ytemmkobgpciflaadoor", sum := "7f096450252b20894b46eb08fb174240b795fb5bbef4c2442caf6c059f9ba99c", func := "espalier/espalierlaw18.DifferDistances", spec := "differDistances", recurses := true, named := ["unicode/utf8.first", "unicode/utf8.acceptRanges"], loops := true, plainKeys := false, apart := false, laid := [("unicode/utf8.acceptRanges", laid_unicode_utf8_acceptRanges), ("unicode/utf8.first", laid_unicode_utf8_first)] }
def DifferDistancesSaid : Prop := differDistancesRow.holds Tryd.pinned (OpenSpec.ofChange differDistancesSpec)

/-- ITS FALSE NEIGHBOUR: 'it returns false'. Refute it at one input. -/
def differDistancesWrong : ChangeSpec := { name := "differDistances", fn := fun _ => fun
  | [d1, d2] => { results := [.lit (.bool false)], args := [d1, d2] }
  | _ => none }
def DifferDistancesWrongFalsely : Prop := differDistancesRow.holds Tryd.pinned (OpenSpec.ofChange differDistancesWrong)

/-- 'espalierlaw18.DifferScripts': WHATEVER THE INPUT: true; the input reads as it did. -/
def differScriptsSpec : ChangeSpec := { name := "differScripts", fn := fun _ => fun
  | [d1, d2] => { results := [.lit (.bool true)], args := [d1, d2] }
  | _ => none }
def differScriptsRow : OpenClaim := { program := "ytemmkobgpciflaadoor", sum := "7f096450252b20894b46eb08fb174240b795fb5bbef4c2442caf6c059f9ba99c", func := "espalier/espalierlaw18.DifferScripts", spec := "differScripts", unfollowed := true, recurses := true, named := ["unicode/utf8.first", "unicode/utf8.acceptRanges"], loops := true, plainKeys := false, apart := false, laid := [("unicode/utf8.acceptRanges", laid_unicode_utf8_acceptRanges), ("unicode/utf8.first", laid_unicode_utf8_first)] }
def DifferScriptsSaid : Prop := differScriptsRow.holds Tryd.pinned (OpenSpec.ofChange differScriptsSpec)

/-- ITS FALSE NEIGHBOUR: 'it returns false'. Refute it at one input. -/
def differScriptsWrong : ChangeSpec := { name := "differScripts", fn := fun _ => fun
  | [d1, d2] => { results := [.lit (.bool false)], args := [d1, d2] }
  | _ => none }
def DifferScriptsWrongFalsely : Prop := differScriptsRow.holds Tryd.pinned (OpenSpec.ofChange differScriptsWrong)

/-- 'espalierlaw10.WalkAll': WHATEVER THE INPUT: true; the input reads as it did. -/
def walkAllSpec : ChangeSpec := { name := "walkAll", fn := fun _ => fun
  | [d1, d2, d3, d4, d5] => { results := [.lit (.bool true)], args := [d1, d2, d3, d4, d5] }
  | _ => none }
def walkAllRow : OpenClaim := { program := "ytemmkobgpciflaadoor", sum := "7f096450252b20894b46eb08fb174240b795fb5bbef4c2442caf6c059f9ba99c", func := "espalier/espalierlaw10.WalkAll", spec := "walkAll", unfollowed := true, recurses := true, named := ["unicode/utf8.first", "unicode/utf8.acceptRanges"], plainKeys := false, apart := false, laid := [("unicode/utf8.acceptRanges", laid_unicode_utf8_acceptRanges), ("unicode/utf8.first", laid_unicode_utf8_first)] }
def WalkAllSaid : Prop := walkAllRow.holds Tryd.pinned (OpenSpec.ofChange walkAllSpec)

/-- ITS FALSE NEIGHBOUR: 'it returns false'. Refute it at one input. -/
def walkAllWrong : ChangeSpec := { name := "walkAll", fn := fun _ => fun
  | [d1, d2, d3, d4, d5] => { results := [.lit (.bool false)], args := [d1, d2, d3, d4, d5] }
  | _ => none }
def WalkAllWrongFalsely : Prop := walkAllRow.holds Tryd.pinned (OpenSpec.ofChange walkAllWrong)

/-- 'espalierlaw10.WalkStops': WHATEVER THE INPUT: true; the input reads as it did. -/
def walkStopsSpec : ChangeSpec := { name := "walkStops", fn := fun _ => fun
  | [d1, d2] => { results := [.lit (.bool true)], args := [d1, d2] }
  | _ => none }
def walkStopsRow : OpenClaim := { program := "ytemmkobgpciflaadoor", sum := "7f096450252b20894b46eb08fb174240b795fb5bbef4c2442caf6c059f9ba99c", func := "espalier/espalierlaw10.WalkStops", spec := "walkStops", inPlace := ["slices.overlaps[*espalier/tree.node]"], unfollowed := true, recurses := true, named := ["unicode/utf8.first", "unicode/utf8.acceptRanges"], plainKeys := false, apart := false, laid := [("unicode/utf8.acceptRanges", laid_unicode_utf8_acceptRanges), ("unicode/utf8.first", laid_unicode_utf8_first)] }
def WalkStopsSaid : Prop := walkStopsRow.holds Tryd.pinned (OpenSpec.ofChange walkStopsSpec)

/-- ITS FALSE NEIGHBOUR: 'it returns false'. Refute it at one input. -/
def walkStopsWrong : ChangeSpec := { name := "walkStops", fn := fun _ => fun
  | [d1, d2] => { results := [.lit (.bool false)], args := [d1, d2] }
  | _ => none }
def WalkStopsWrongFalsely : Prop := walkStopsRow.holds Tryd.pinned (OpenSpec.ofChange walkStopsWrong)

/-- 'espalierlaw10.WalkLaws': WHATEVER THE INPUT: true; the input reads as it did. -/
def walkLawsSpec : ChangeSpec := { name := "walkLaws", fn := fun _ => fun
  | [d1, d2, d3] => { results := [.lit (.bool true)], args := [d1, d2, d3] }
  | _ => none }
def walkLawsRow : OpenClaim := { program := "ytemmkobgpciflaadoor", sum := "7f096450252b20894b46eb08fb174240b795fb5bbef4c2442caf6c059f9ba99c", func := "espalier/espalierlaw10.WalkLaws", spec := "walkLaws", inPlace := ["slices.overlaps[*espalier/tree.node]"], unfollowed := true, recurses := true, named := ["unicode/utf8.first", "unicode/utf8.acceptRanges"], plainKeys := false, apart := false, laid := [("unicode/utf8.acceptRanges", laid_unicode_utf8_acceptRanges), ("unicode/utf8.first", laid_unicode_utf8_first)] }
def WalkLawsSaid : Prop := walkLawsRow.holds Tryd.pinned (OpenSpec.ofChange walkLawsSpec)

/-- ITS FALSE NEIGHBOUR: 'it returns false'. Refute it at one input. -/
def walkLawsWrong : ChangeSpec := { name := "walkLaws", fn := fun _ => fun
  | [d1, d2, d3] => { results := [.lit (.bool false)], args := [d1, d2, d3] }
  | _ => none }
def WalkLawsWrongFalsely : Prop := walkLawsRow.holds Tryd.pinned (OpenSpec.ofChange walkLawsWrong)

/-- 'espalierlaw18.DifferMetric': WHATEVER THE INPUT: true; the input reads as it did. -/
def differMetricSpec : ChangeSpec := { name := "differMetric", fn := fun _ => fun
  | [d1, d2, d3] => { results := [.lit (.bool true)], args := [d1, d2, d3] }
  | _ => none }
def differMetricRow : OpenClaim := { program := "ytemmkobgpciflaadoor", sum := "7f096450252b20894b46eb08fb174240b795fb5bbef4c2442caf6c059f9ba99c", func := "espalier/espalierlaw18.DifferMetric", spec := "differMetric", inPlace := ["slices.overlaps[*espalier/tree.node]", "internal/bytealg.abigen_runtime_cmpstring", "slices.overlaps[espalier/api.Attr]"], unfollowed := true, recurses := true, named := ["unicode/utf8.first", "unicode/utf8.acceptRanges"], loops := true, plainKeys := false, apart := false, laid := [("unicode/utf8.acceptRanges", laid_unicode_utf8_acceptRanges), ("unicode/utf8.first", laid_unicode_utf8_first)] }
def DifferMetricSaid : Prop := differMetricRow.holds Tryd.pinned (OpenSpec.ofChange differMetricSpec)

/-- ITS FALSE NEIGHBOUR: 'it returns false'. Refute it at one input. -/
def differMetricWrong : ChangeSpec := { name := "differMetric", fn := fun _ => fun
  | [d1, d2, d3] => { results := [.lit (.bool false)], args := [d1, d2, d3] }
  | _ => none }
def DifferMetricWrongFalsely : Prop := differMetricRow.holds Tryd.pinned (OpenSpec.ofChange differMetricWrong)

/-- 'espalierlaw18.DifferBeside': WHATEVER THE INPUT: true; the input reads as it did. -/
def differBesideSpec : ChangeSpec := { name := "differBeside", fn := fun _ => fun
  | [d1, d2, d3, d4, d5] => { results := [.lit (.bool true)], args := [d1, d2, d3, d4, d5] }
  | _ => none }
def differBesideRow : OpenClaim := { program := "ytemmkobgpciflaadoor", sum := "7f096450252b20894b46eb08fb174240b795fb5bbef4c2442caf6c059f9ba99c", func := "espalier/espalierlaw18.DifferBeside", spec := "differBeside", inPlace := ["slices.overlaps[*espalier/tree.node]", "internal/bytealg.abigen_runtime_cmpstring", "slices.overlaps[espalier/api.Attr]"], unfollowed := true, recurses := true, named := ["unicode/utf8.first", "unicode/utf8.acceptRanges"], loops := true, plainKeys := false, apart := false, laid := [("unicode/utf8.acceptRanges", laid_unicode_utf8_acceptRanges), ("unicode/utf8.first", laid_unicode_utf8_first)] }
def DifferBesideSaid : Prop := differBesideRow.holds Tryd.pinned (OpenSpec.ofChange differBesideSpec)

/-- ITS FALSE NEIGHBOUR: 'it returns false'. Refute it at one input. -/
def differBesideWrong : ChangeSpec := { name := "differBeside", fn := fun _ => fun
  | [d1, d2, d3, d4, d5] => { results := [.lit (.bool false)], args := [d1, d2, d3, d4, d5] }
  | _ => none }
def DifferBesideWrongFalsely : Prop := differBesideRow.holds Tryd.pinned (OpenSpec.ofChange differBesideWrong)

/- THE SECOND FORM. 'bulk': how many values and letters a reading holds, each counted each time it is reached (what is shared counts as often as it is met; a slice's spare places count too). A statement '..UptoSaid' is the law's where the arguments, and the package variables that the reading takes, are together of bulk at most 1048576: NARROWER than '..Said'. Prove '..Said' where nothing that the law and all that it calls make is longer than what came in: it says more and counts as full. Else prove '..UptoSaid'. A law counts once. -/
mutual
def uptoBulk {H : Type} : DataW H → Nat
  | .lit (.string bytes) => bytes.length + 1
  | .lit _ => 1
  | .nil => 1
  | .ptr d => uptoBulk d + 1
  | .slice elems spare => uptoBulkAll elems + uptoBulkAll spare + 1
  | .agg parts => uptoBulkAll parts + 1
  | .iface _ d => uptoBulk d + 1
  | .map entries => uptoBulkEntries entries + 1
  | .held _ => 1
def uptoBulkAll {H : Type} : List (DataW H) → Nat
  | [] => 0
  | d :: r => uptoBulk d + uptoBulkAll r
def uptoBulkEntries {H : Type} : List (Lit × DataW H) → Nat
  | [] => 0
  | x :: r => uptoBulkEntry x + uptoBulkEntries r
def uptoBulkEntry {H : Type} : Lit × DataW H → Nat
  | (.string bytes, d) => bytes.length + uptoBulk d + 1
  | (_, d) => uptoBulk d + 1
 end
def uptoSmall : (H : Type) → List (DataW H) → Bool := fun _ ds => decide (uptoBulkAll ds ≤ 1048576)
def OpenSpec.upto (s : _root_.Go.ChangeSpec) : _root_.Go.OpenSpec := { _root_.Go.OpenSpec.ofChange s with cond := some uptoSmall }

/-- 'espalierlaw03.TreeChecks', WHERE WHAT IT READS IS OF BULK AT MOST 1048576: true; the input reads as it did. -/
def treeChecksUptoRow : OpenClaim := { program := "ytemmkobgpciflaadoor", sum := "7f096450252b20894b46eb08fb174240b795fb5bbef4c2442caf6c059f9ba99c", func := "espalier/espalierlaw03.TreeChecks", spec := "treeChecks", recurses := true, named := ["unicode/utf8.first", "unicode/utf8.acceptRanges"], loops := true, plainKeys := false, apart := false, laid := [("unicode/utf8.acceptRanges", laid_unicode_utf8_acceptRanges), ("unicode/utf8.first", laid_unicode_utf8_first)], narrowed := true }
def TreeChecksUptoSaid : Prop := treeChecksUptoRow.holds Tryd.pinned (OpenSpec.upto treeChecksSpec)

/-- 'espalierlaw18.DifferDistances', WHERE WHAT IT READS IS OF BULK AT MOST 1048576: true; the input reads as it did. -/
def differDistancesUptoRow : OpenClaim := { program := "ytemmkobgpciflaadoor", sum := "7f096450252b20894b46eb08fb174240b795fb5bbef4c2442caf6c059f9ba99c", func := "espalier/espalierlaw18.DifferDistances", spec := "differDistances", recurses := true, named := ["unicode/utf8.first", "unicode/utf8.acceptRanges"], loops := true, plainKeys := false, apart := false, laid := [("unicode/utf8.acceptRanges", laid_unicode_utf8_acceptRanges), ("unicode/utf8.first", laid_unicode_utf8_first)], narrowed := true }
def DifferDistancesUptoSaid : Prop := differDistancesUptoRow.holds Tryd.pinned (OpenSpec.upto differDistancesSpec)

/-- 'espalierlaw18.DifferScripts', WHERE WHAT IT READS IS OF BULK AT MOST 1048576: true; the input reads as it did. -/
def differScriptsUptoRow : OpenClaim := { program := "ytemmkobgpciflaadoor", sum := "7f096450252b20894b46eb08fb174240b795fb5bbef4c2442caf6c059f9ba99c", func := "espalier/espalierlaw18.DifferScripts", spec := "differScripts", unfollowed := true, recurses := true, named := ["unicode/utf8.first", "unicode/utf8.acceptRanges"], loops := true, plainKeys := false, apart := false, laid := [("unicode/utf8.acceptRanges", laid_unicode_utf8_acceptRanges), ("unicode/utf8.first", laid_unicode_utf8_first)], narrowed := true }
def DifferScriptsUptoSaid : Prop := differScriptsUptoRow.holds Tryd.pinned (OpenSpec.upto differScriptsSpec)

/-- 'espalierlaw10.WalkAll', WHERE WHAT IT READS IS OF BULK AT MOST 1048576: true; the input reads as it did. -/
def walkAllUptoRow : OpenClaim := { program := "ytemmkobgpciflaadoor", sum := "7f096450252b20894b46eb08fb174240b795fb5bbef4c2442caf6c059f9ba99c", func := "espalier/espalierlaw10.WalkAll", spec := "walkAll", unfollowed := true, recurses := true, named := ["unicode/utf8.first", "unicode/utf8.acceptRanges"], plainKeys := false, apart := false, laid := [("unicode/utf8.acceptRanges", laid_unicode_utf8_acceptRanges), ("unicode/utf8.first", laid_unicode_utf8_first)], narrowed := true }
def WalkAllUptoSaid : Prop := walkAllUptoRow.holds Tryd.pinned (OpenSpec.upto walkAllSpec)

/-- 'espalierlaw10.WalkStops', WHERE WHAT IT READS IS OF BULK AT MOST 1048576: true; the input reads as it did. -/
def walkStopsUptoRow : OpenClaim := { program := "ytemmkobgpciflaadoor", sum := "7f096450252b20894b46eb08fb174240b795fb5bbef4c2442caf6c059f9ba99c", func := "espalier/espalierlaw10.WalkStops", spec := "walkStops", inPlace := ["slices.overlaps[*espalier/tree.node]"], unfollowed := true, recurses := true, named := ["unicode/utf8.first", "unicode/utf8.acceptRanges"], plainKeys := false, apart := false, laid := [("unicode/utf8.acceptRanges", laid_unicode_utf8_acceptRanges), ("unicode/utf8.first", laid_unicode_utf8_first)], narrowed := true }
def WalkStopsUptoSaid : Prop := walkStopsUptoRow.holds Tryd.pinned (OpenSpec.upto walkStopsSpec)

/-- 'espalierlaw10.WalkLaws', WHERE WHAT IT READS IS OF BULK AT MOST 1048576: true; the input reads as it did. -/
def walkLawsUptoRow : OpenClaim := { program := "ytemmkobgpciflaadoor", sum := "7f096450252b20894b46eb08fb174240b795fb5bbef4c2442caf6c059f9ba99c", func := "espalier/espalierlaw10.WalkLaws", spec := "walkLaws", inPlace := ["slices.overlaps[*espalier/tree.node]"], unfollowed := true, recurses := true, named := ["unicode/utf8.first", "unicode/utf8.acceptRanges"], plainKeys := false, apart := false, laid := [("unicode/utf8.acceptRanges", laid_unicode_utf8_acceptRanges), ("unicode/utf8.first", laid_unicode_utf8_first)], narrowed := true }
def WalkLawsUptoSaid : Prop := walkLawsUptoRow.holds Tryd.pinned (OpenSpec.upto walkLawsSpec)

/-- 'espalierlaw18.DifferMetric', WHERE WHAT IT READS IS OF BULK AT MOST 1048576: true; the input reads as it did. -/
def differMetricUptoRow : OpenClaim := { program := "ytemmkobgpciflaadoor", sum := "7f096450252b20894b46eb08fb174240b795fb5bbef4c2442caf6c059f9ba99c", func := "espalier/espalierlaw18.DifferMetric", spec := "differMetric", inPlace := ["slices.overlaps[*espalier/tree.node]", "internal/bytealg.abigen_runtime_cmpstring", "slices.overlaps[espalier/api.Attr]"], unfollowed := true, recurses := true, named := ["unicode/utf8.first", "unicode/utf8.acceptRanges"], loops := true, plainKeys := false, apart := false, laid := [("unicode/utf8.acceptRanges", laid_unicode_utf8_acceptRanges), ("unicode/utf8.first", laid_unicode_utf8_first)], narrowed := true }
def DifferMetricUptoSaid : Prop := differMetricUptoRow.holds Tryd.pinned (OpenSpec.upto differMetricSpec)

/-- 'espalierlaw18.DifferBeside', WHERE WHAT IT READS IS OF BULK AT MOST 1048576: true; the input reads as it did. -/
def differBesideUptoRow : OpenClaim := { program := "ytemmkobgpciflaadoor", sum := "7f096450252b20894b46eb08fb174240b795fb5bbef4c2442caf6c059f9ba99c", func := "espalier/espalierlaw18.DifferBeside", spec := "differBeside", inPlace := ["slices.overlaps[*espalier/tree.node]", "internal/bytealg.abigen_runtime_cmpstring", "slices.overlaps[espalier/api.Attr]"], unfollowed := true, recurses := true, named := ["unicode/utf8.first", "unicode/utf8.acceptRanges"], loops := true, plainKeys := false, apart := false, laid := [("unicode/utf8.acceptRanges", laid_unicode_utf8_acceptRanges), ("unicode/utf8.first", laid_unicode_utf8_first)], narrowed := true }
def DifferBesideUptoSaid : Prop := differBesideUptoRow.holds Tryd.pinned (OpenSpec.upto differBesideSpec)

end Rows
end Go.Proofs.YtemmkobgpciflaaDoor
