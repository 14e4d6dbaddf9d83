/-
  No cell of these rows narrows 'for every input' (looked for: loops, veiled, ifaces, maps, wideKeys, modest, calm, conditions, laid).
  DERIVED. THE GIVEN ROWS OF THIS SEAT. 9 by the template 'for every input the law returns true; each argument reads behind the call as it read before'; 0 by the template 'total and deterministic' (their statements: YtnhgeoccknhiiaaTotals.lean).
  GIVEN WITH THE SEED: the statements are not yours to turn. If you find one false, say at which input.
  Laid BY PROGRAM, IN A SANDBOX (cutbox-rows.mjs): the forced cells as the released guide's own fill.sh prints them over the translation fb813f3478ebd48c… (all of the seat's roots in one cut). By AI agents, Wed Nov 11 2026. No macro, syntax, notation, axiom, sorry.
-/
import Derived.Test.YtnhgeoccknhiiaaChecked
import GoSem.Claim
import GoSem.ClaimJoined
import GoSem.ClaimMapViews
import Derived.JoinedTies
import Derived.KernelRfl
namespace Go.Proofs.Ytnhgeoccknhiiaa
/- THE CELL 'sum', in the pinned program and in every row, IS THE sha256 OF THE DUMP (.gsa) THAT YtnhgeoccknhiiaaProg.lean LOADS. Nothing in Lean hashes anything: it is a label: what it is worth is what the hold of that sum in a sandbox is worth. -/
noncomputable def Try.pinned : Pinned := { name := "ytnhgeoccknhiiaa", sum := "fb813f3478ebd48c62951ae40b160e6b1e9932ad0df688fb1fbdf101225f93c5", checked := Try.checked }
namespace Rows
def none {H : Type} : Left H := { results := [], args := [] }

/-- 'espalierlaw07.OrderedLive': WHATEVER THE INPUT: true; the input reads as it did. -/
def orderedLiveSpec : ChangeSpec := { name := "orderedLive", fn := fun _ => fun
  | [d1, d2, d3] => { results := [.lit (.bool true)], args := [d1, d2, d3] }
  | _ => none }
def orderedLiveRow : OpenClaim := { program := "ytnhgeoccknhiiaa", sum := "fb813f3478ebd48c62951ae40b160e6b1e9932ad0df688fb1fbdf101225f93c5", func := "espalier/espalierlaw07.OrderedLive", spec := "orderedLive", unfollowed := true, recurses := true, apart := false }
def OrderedLiveSaid : Prop := orderedLiveRow.holds Try.pinned (OpenSpec.ofChange orderedLiveSpec)

/-- ITS FALSE NEIGHBOUR: 'it returns false'. Refute it at one input. -/
def orderedLiveWrong : ChangeSpec := { name := "orderedLive", fn := fun _ => fun
  | [d1, d2, d3] => { results := [.lit (.bool false)], args := [d1, d2, d3] }
  | _ => none }
def OrderedLiveWrongFalsely : Prop := orderedLiveRow.holds Try.pinned (OpenSpec.ofChange orderedLiveWrong)

/-- 'espalierlaw07.OrderedTexts': WHATEVER THE INPUT: true; the input reads as it did. -/
def orderedTextsSpec : ChangeSpec := { name := "orderedTexts", fn := fun _ => fun
  | [d] => { results := [.lit (.bool true)], args := [d] }
  | _ => none }
def orderedTextsRow : OpenClaim := { program := "ytnhgeoccknhiiaa", sum := "fb813f3478ebd48c62951ae40b160e6b1e9932ad0df688fb1fbdf101225f93c5", func := "espalier/espalierlaw07.OrderedTexts", spec := "orderedTexts", unfollowed := true, recurses := true, apart := false }
def OrderedTextsSaid : Prop := orderedTextsRow.holds Try.pinned (OpenSpec.ofChange orderedTextsSpec)

/-- ITS FALSE NEIGHBOUR: 'it returns false'. Refute it at one input. -/
def orderedTextsWrong : ChangeSpec := { name := "orderedTexts", fn := fun _ => fun
  | [d] => { results := [.lit (.bool false)], args := [d] }
  | _ => none }
def OrderedTextsWrongFalsely : Prop := orderedTextsRow.holds Try.pinned (OpenSpec.ofChange orderedTextsWrong)

/-- 'espalierlaw07.OrderedMerges': WHATEVER THE INPUT: true; the input reads as it did. -/
def orderedMergesSpec : ChangeSpec := { name := "orderedMerges", fn := fun _ => fun
  | [d1, d2, d3] => { results := [.lit (.bool true)], args := [d1, d2, d3] }
  | _ => none }
def orderedMergesRow : OpenClaim := { program := "ytnhgeoccknhiiaa", sum := "fb813f3478ebd48c62951ae40b160e6b1e9932ad0df688fb1fbdf101225f93c5", func := "espalier/espalierlaw07.OrderedMerges", spec := "orderedMerges", unfollowed := true, recurses := true, apart := false }
def OrderedMergesSaid : Prop := orderedMergesRow.holds Try.pinned (OpenSpec.ofChange orderedMergesSpec)

/-- ITS FALSE NEIGHBOUR: 'it returns false'. Refute it at one input. -/
def orderedMergesWrong : ChangeSpec := { name := "orderedMerges", fn := fun _ => fun
  | [d1, d2, d3] => { results := [.lit (.bool false)], args := [d1, d2, d3] }
  | _ => none }
def OrderedMergesWrongFalsely : Prop := orderedMergesRow.holds Try.pinned (OpenSpec.ofChange orderedMergesWrong)

/-- 'espalierlaw01.TagsFull': WHATEVER THE INPUT: true; the input reads as it did. -/
def tagsFullSpec : ChangeSpec := { name := "tagsFull", fn := fun _ => fun
  | [d1, d2] => { results := [.lit (.bool true)], args := [d1, d2] }
  | _ => none }
def tagsFullRow : OpenClaim := { program := "ytnhgeoccknhiiaa", sum := "fb813f3478ebd48c62951ae40b160e6b1e9932ad0df688fb1fbdf101225f93c5", func := "espalier/espalierlaw01.TagsFull", spec := "tagsFull", apart := false }
def TagsFullSaid : Prop := tagsFullRow.holds Try.pinned (OpenSpec.ofChange tagsFullSpec)

/-- ITS FALSE NEIGHBOUR: 'it returns false'. Refute it at one input. -/
def tagsFullWrong : ChangeSpec := { name := "tagsFull", fn := fun _ => fun
  | [d1, d2] => { results := [.lit (.bool false)], args := [d1, d2] }
  | _ => none }
def TagsFullWrongFalsely : Prop := tagsFullRow.holds Try.pinned (OpenSpec.ofChange tagsFullWrong)

/-- 'espalierlaw01.TagsStays': WHATEVER THE INPUT: true; the input reads as it did. -/
def tagsStaysSpec : ChangeSpec := { name := "tagsStays", fn := fun _ => fun
  | [d1, d2] => { results := [.lit (.bool true)], args := [d1, d2] }
  | _ => none }
def tagsStaysRow : OpenClaim := { program := "ytnhgeoccknhiiaa", sum := "fb813f3478ebd48c62951ae40b160e6b1e9932ad0df688fb1fbdf101225f93c5", func := "espalier/espalierlaw01.TagsStays", spec := "tagsStays", apart := false }
def TagsStaysSaid : Prop := tagsStaysRow.holds Try.pinned (OpenSpec.ofChange tagsStaysSpec)

/-- ITS FALSE NEIGHBOUR: 'it returns false'. Refute it at one input. -/
def tagsStaysWrong : ChangeSpec := { name := "tagsStays", fn := fun _ => fun
  | [d1, d2] => { results := [.lit (.bool false)], args := [d1, d2] }
  | _ => none }
def TagsStaysWrongFalsely : Prop := tagsStaysRow.holds Try.pinned (OpenSpec.ofChange tagsStaysWrong)

/-- 'espalierlaw01.TagsActs': WHATEVER THE INPUT: true; the input reads as it did. -/
def tagsActsSpec : ChangeSpec := { name := "tagsActs", fn := fun _ => fun
  | [d] => { results := [.lit (.bool true)], args := [d] }
  | _ => none }
def tagsActsRow : OpenClaim := { program := "ytnhgeoccknhiiaa", sum := "fb813f3478ebd48c62951ae40b160e6b1e9932ad0df688fb1fbdf101225f93c5", func := "espalier/espalierlaw01.TagsActs", spec := "tagsActs", apart := false }
def TagsActsSaid : Prop := tagsActsRow.holds Try.pinned (OpenSpec.ofChange tagsActsSpec)

/-- ITS FALSE NEIGHBOUR: 'it returns false'. Refute it at one input. -/
def tagsActsWrong : ChangeSpec := { name := "tagsActs", fn := fun _ => fun
  | [d] => { results := [.lit (.bool false)], args := [d] }
  | _ => none }
def TagsActsWrongFalsely : Prop := tagsActsRow.holds Try.pinned (OpenSpec.ofChange tagsActsWrong)

/-- 'espalierlaw01.TagsGap': WHATEVER THE INPUT: true; the input reads as it did. -/
def tagsGapSpec : ChangeSpec := { name := "tagsGap", fn := fun _ => fun
  | [d1, d2, d3] => { results := [.lit (.bool true)], args := [d1, d2, d3] }
  | _ => none }
def tagsGapRow : OpenClaim := { program := "ytnhgeoccknhiiaa", sum := "fb813f3478ebd48c62951ae40b160e6b1e9932ad0df688fb1fbdf101225f93c5", func := "espalier/espalierlaw01.TagsGap", spec := "tagsGap", apart := false }
def TagsGapSaid : Prop := tagsGapRow.holds Try.pinned (OpenSpec.ofChange tagsGapSpec)

/-- ITS FALSE NEIGHBOUR: 'it returns false'. Refute it at one input. -/
def tagsGapWrong : ChangeSpec := { name := "tagsGap", fn := fun _ => fun
  | [d1, d2, d3] => { results := [.lit (.bool false)], args := [d1, d2, d3] }
  | _ => none }
def TagsGapWrongFalsely : Prop := tagsGapRow.holds Try.pinned (OpenSpec.ofChange tagsGapWrong)

/-- 'espalierlaw07.OrderedActs': WHATEVER THE INPUT: true; the input reads as it did. -/
def orderedActsSpec : ChangeSpec := { name := "orderedActs", fn := fun _ => fun
  | [d] => { results := [.lit (.bool true)], args := [d] }
  | _ => none }
def orderedActsRow : OpenClaim := { program := "ytnhgeoccknhiiaa", sum := "fb813f3478ebd48c62951ae40b160e6b1e9932ad0df688fb1fbdf101225f93c5", func := "espalier/espalierlaw07.OrderedActs", spec := "orderedActs", unfollowed := true, recurses := true, apart := false }
def OrderedActsSaid : Prop := orderedActsRow.holds Try.pinned (OpenSpec.ofChange orderedActsSpec)

/-- ITS FALSE NEIGHBOUR: 'it returns false'. Refute it at one input. -/
def orderedActsWrong : ChangeSpec := { name := "orderedActs", fn := fun _ => fun
  | [d] => { results := [.lit (.bool false)], args := [d] }
  | _ => none }
def OrderedActsWrongFalsely : Prop := orderedActsRow.holds Try.pinned (OpenSpec.ofChange orderedActsWrong)

/-- 'espalierlaw07.OrderedWhile': WHATEVER THE INPUT: true; the input reads as it did. -/
def orderedWhileSpec : ChangeSpec := { name := "orderedWhile", fn := fun _ => fun
  | [d1, d2] => { results := [.lit (.bool true)], args := [d1, d2] }
  | _ => none }
def orderedWhileRow : OpenClaim := { program := "ytnhgeoccknhiiaa", sum := "fb813f3478ebd48c62951ae40b160e6b1e9932ad0df688fb1fbdf101225f93c5", func := "espalier/espalierlaw07.OrderedWhile", spec := "orderedWhile", unfollowed := true, recurses := true, apart := false }
def OrderedWhileSaid : Prop := orderedWhileRow.holds Try.pinned (OpenSpec.ofChange orderedWhileSpec)

/-- ITS FALSE NEIGHBOUR: 'it returns false'. Refute it at one input. -/
def orderedWhileWrong : ChangeSpec := { name := "orderedWhile", fn := fun _ => fun
  | [d1, d2] => { results := [.lit (.bool false)], args := [d1, d2] }
  | _ => none }
def OrderedWhileWrongFalsely : Prop := orderedWhileRow.holds Try.pinned (OpenSpec.ofChange orderedWhileWrong)

/- THE SECOND FORM. 'bulk': how many values and letters a reading holds, each counted each time it is reached (what is shared counts as often as it is met; a slice's spare places count too). A statement '..UptoSaid' is the law's where the arguments, and the package variables that the reading takes, are together of bulk at most 1048576: NARROWER than '..Said'. Prove '..Said' where nothing that the law and all that it calls make is longer than what came in: it says more and counts as full. Else prove '..UptoSaid'. A law counts once. -/
mutual
def uptoBulk {H : Type} : DataW H → Nat
  | .lit (.string bytes) => bytes.length + 1
  | .lit _ => 1
  | .nil => 1
  | .ptr d => uptoBulk d + 1
  | .slice elems spare => uptoBulkAll elems + uptoBulkAll spare + 1
  | .agg parts => uptoBulkAll parts + 1
  | .iface _ d => uptoBulk d + 1
  | .map entries => uptoBulkEntries entries + 1
  | .held _ => 1
def uptoBulkAll {H : Type} : List (DataW H) → Nat
  | [] => 0
  | d :: r => uptoBulk d + uptoBulkAll r
def uptoBulkEntries {H : Type} : List (Lit × DataW H) → Nat
  | [] => 0
  | x :: r => uptoBulkEntry x + uptoBulkEntries r
def uptoBulkEntry {H : Type} : Lit × DataW H → Nat
  | (.string bytes, d) => bytes.length + uptoBulk d + 1
  | (_, d) => uptoBulk d + 1
 end
def uptoSmall : (H : Type) → List (DataW H) → Bool := fun _ ds => decide (uptoBulkAll ds ≤ 1048576)
def OpenSpec.upto (s : _root_.Go.ChangeSpec) : _root_.Go.OpenSpec := { _root_.Go.OpenSpec.ofChange s with cond := some uptoSmall }

/-- 'espalierlaw07.OrderedLive', WHERE WHAT IT READS IS OF BULK AT MOST 1048576: true; the input reads as it did. -/
def orderedLiveUptoRow : OpenClaim := { program := "ytnhgeoccknhiiaa", sum := "fb813f3478ebd48c62951ae40b160e6b1e9932ad0df688fb1fbdf101225f93c5", func := "espalier/espalierlaw07.OrderedLive", spec := "orderedLive", unfollowed := true, recurses := true, apart := false, narrowed := true }
def OrderedLiveUptoSaid : Prop := orderedLiveUptoRow.holds Try.pinned (OpenSpec.upto orderedLiveSpec)

/-- 'espalierlaw07.OrderedTexts', WHERE WHAT IT READS IS OF BULK AT MOST 1048576: true; the input reads as it did. -/
def orderedTextsUptoRow : OpenClaim := { program := "ytnhgeoccknhiiaa", sum := "fb813f3478ebd48c62951ae40b160e6b1e9932ad0df688fb1fbdf101225f93c5", func := "espalier/espalierlaw07.OrderedTexts", spec := "orderedTexts", unfollowed := true, recurses := true, apart := false, narrowed := true }
def OrderedTextsUptoSaid : Prop := orderedTextsUptoRow.holds Try.pinned (OpenSpec.upto orderedTextsSpec)

/-- 'espalierlaw07.OrderedMerges', WHERE WHAT IT READS IS OF BULK AT MOST 1048576: true; the input reads as it did. -/
def orderedMergesUptoRow : OpenClaim := { program := "ytnhgeoccknhiiaa", sum := "fb813f3478ebd48c62951ae40b160e6b1e9932ad0df688fb1fbdf101225f93c5", func := "espalier/espalierlaw07.OrderedMerges", spec := "orderedMerges", unfollowed := true, recurses := true, apart := false, narrowed := true }
def OrderedMergesUptoSaid : Prop := orderedMergesUptoRow.holds Try.pinned (OpenSpec.upto orderedMergesSpec)

/-- 'espalierlaw01.TagsFull', WHERE WHAT IT READS IS OF BULK AT MOST 1048576: true; the input reads as it did. -/
def tagsFullUptoRow : OpenClaim := { program := "ytnhgeoccknhiiaa", sum := "fb813f3478ebd48c62951ae40b160e6b1e9932ad0df688fb1fbdf101225f93c5", func := "espalier/espalierlaw01.TagsFull", spec := "tagsFull", apart := false, narrowed := true }
def TagsFullUptoSaid : Prop := tagsFullUptoRow.holds Try.pinned (OpenSpec.upto tagsFullSpec)

/-- 'espalierlaw01.TagsStays', WHERE WHAT IT READS IS OF BULK AT MOST 1048576: true; the input reads as it did. -/
def tagsStaysUptoRow : OpenClaim := { program := "ytnhgeoccknhiiaa", sum := "fb813f3478ebd48c62951ae40b160e6b1e9932ad0df688fb1fbdf101225f93c5", func := "espalier/espalierlaw01.TagsStays", spec := "tagsStays", apart := false, narrowed := true }
def TagsStaysUptoSaid : Prop := tagsStaysUptoRow.holds Try.pinned (OpenSpec.upto tagsStaysSpec)

/-- 'espalierlaw01.TagsActs', WHERE WHAT IT READS IS OF BULK AT MOST 1048576: true; the input reads as it did. -/
def tagsActsUptoRow : OpenClaim := { program := "ytnhgeoccknhiiaa", sum := "fb813f3478ebd48c62951ae40b160e6b1e9932ad0df688fb1fbdf101225f93c5", func := "espalier/espalierlaw01.TagsActs", spec := "tagsActs", apart := false, narrowed := true }
def TagsActsUptoSaid : Prop := tagsActsUptoRow.holds Try.pinned (OpenSpec.upto tagsActsSpec)

/-- 'espalierlaw01.TagsGap', WHERE WHAT IT READS IS OF BULK AT MOST 1048576: true; the input reads as it did. -/
def tagsGapUptoRow : OpenClaim := { program := "ytnhgeoccknhiiaa", sum := "fb813f3478ebd48c62951ae40b160e6b1e9932ad0df688fb1fbdf101225f93c5", func := "espalier/espalierlaw01.TagsGap", spec := "tagsGap", apart := false, narrowed := true }
def TagsGapUptoSaid : Prop := tagsGapUptoRow.holds Try.pinned (OpenSpec.upto tagsGapSpec)

/-- 'espalierlaw07.OrderedActs', WHERE WHAT IT READS IS OF BULK AT MOST 1048576: true; the input reads as it did. -/
def orderedActsUptoRow : OpenClaim := { program := "ytnhgeoccknhiiaa", sum := "fb813f3478ebd48c62951ae40b160e6b1e9932ad0df688fb1fbdf101225f93c5", func := "espalier/espalierlaw07.OrderedActs", spec := "orderedActs", unfollowed := true, recurses := true, apart := false, narrowed := true }
def OrderedActsUptoSaid : Prop := orderedActsUptoRow.holds Try.pinned (OpenSpec.upto orderedActsSpec)

/-- 'espalierlaw07.OrderedWhile', WHERE WHAT IT READS IS OF BULK AT MOST 1048576: true; the input reads as it did. -/
def orderedWhileUptoRow : OpenClaim := { program := "ytnhgeoccknhiiaa", sum := "fb813f3478ebd48c62951ae40b160e6b1e9932ad0df688fb1fbdf101225f93c5", func := "espalier/espalierlaw07.OrderedWhile", spec := "orderedWhile", unfollowed := true, recurses := true, apart := false, narrowed := true }
def OrderedWhileUptoSaid : Prop := orderedWhileUptoRow.holds Try.pinned (OpenSpec.upto orderedWhileSpec)

end Rows
end Go.Proofs.Ytnhgeoccknhiiaa
