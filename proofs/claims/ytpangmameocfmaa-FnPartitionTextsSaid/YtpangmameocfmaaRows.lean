/-
  No cell of these rows narrows 'for every input' (looked for: loops, veiled, ifaces, maps, wideKeys, modest, calm, conditions, laid).
  DERIVED. THE GIVEN ROWS OF THIS SEAT. 12 by the template 'for every input the law returns true; each argument reads behind the call as it read before'; 0 by the template 'total and deterministic' (their statements: YtpangmameocfmaaTotals.lean).
  GIVEN WITH THE SEED: the statements are not yours to turn. If you find one false, say at which input.
  Laid BY PROGRAM, IN A SANDBOX (cutbox-rows.mjs): the forced cells as the released guide's own fill.sh prints them over the translation 3f60aae8318b2d3a… (all of the seat's roots in one cut). By AI agents, Wed Nov 11 2026. No macro, syntax, notation, axiom, sorry.
-/
import Derived.Test.YtpangmameocfmaaChecked
import GoSem.Claim
import GoSem.ClaimJoined
import GoSem.ClaimMapViews
import Derived.JoinedTies
import Derived.KernelRfl
namespace Go.Proofs.Ytpangmameocfmaa
/- THE CELL 'sum', in the pinned program and in every row, IS THE sha256 OF THE DUMP (.gsa) THAT YtpangmameocfmaaProg.lean LOADS. Nothing in Lean hashes anything: it is a label: what it is worth is what the hold of that sum in a sandbox is worth. -/
noncomputable def Try.pinned : Pinned := { name := "ytpangmameocfmaa", sum := "3f60aae8318b2d3a505415814e64ec554974d2b267a985ba775a8b59acedb9b3", checked := Try.checked }
namespace Rows
def none {H : Type} : Left H := { results := [], args := [] }

/-- 'laws.FnExactParsePartition': WHATEVER THE INPUT: true; the input reads as it did. -/
def fnExactParsePartitionSpec : ChangeSpec := { name := "fnExactParsePartition", fn := fun _ => fun
  | [d] => { results := [.lit (.bool true)], args := [d] }
  | _ => none }
def fnExactParsePartitionRow : OpenClaim := { program := "ytpangmameocfmaa", sum := "3f60aae8318b2d3a505415814e64ec554974d2b267a985ba775a8b59acedb9b3", func := "loop.example/g01251/laws.FnExactParsePartition", spec := "fnExactParsePartition", unfollowed := true, recurses := true, apart := false }
def FnExactParsePartitionSaid : Prop := fnExactParsePartitionRow.holds Try.pinned (OpenSpec.ofChange fnExactParsePartitionSpec)

/-- ITS FALSE NEIGHBOUR: 'it returns false'. Refute it at one input. -/
def fnExactParsePartitionWrong : ChangeSpec := { name := "fnExactParsePartition", fn := fun _ => fun
  | [d] => { results := [.lit (.bool false)], args := [d] }
  | _ => none }
def FnExactParsePartitionWrongFalsely : Prop := fnExactParsePartitionRow.holds Try.pinned (OpenSpec.ofChange fnExactParsePartitionWrong)

/-- 'laws.FnExactPartitionText': WHATEVER THE INPUT: true; the input reads as it did. -/
def fnExactPartitionTextSpec : ChangeSpec := { name := "fnExactPartitionText", fn := fun _ => fun
  | [d] => { results := [.lit (.bool true)], args := [d] }
  | _ => none }
def fnExactPartitionTextRow : OpenClaim := { program := "ytpangmameocfmaa", sum := "3f60aae8318b2d3a505415814e64ec554974d2b267a985ba775a8b59acedb9b3", func := "loop.example/g01251/laws.FnExactPartitionText", spec := "fnExactPartitionText", unfollowed := true, recurses := true, apart := false }
def FnExactPartitionTextSaid : Prop := fnExactPartitionTextRow.holds Try.pinned (OpenSpec.ofChange fnExactPartitionTextSpec)

/-- ITS FALSE NEIGHBOUR: 'it returns false'. Refute it at one input. -/
def fnExactPartitionTextWrong : ChangeSpec := { name := "fnExactPartitionText", fn := fun _ => fun
  | [d] => { results := [.lit (.bool false)], args := [d] }
  | _ => none }
def FnExactPartitionTextWrongFalsely : Prop := fnExactPartitionTextRow.holds Try.pinned (OpenSpec.ofChange fnExactPartitionTextWrong)

/-- 'laws.FnExactThroughParts': WHATEVER THE INPUT: true; the input reads as it did. -/
def fnExactThroughPartsSpec : ChangeSpec := { name := "fnExactThroughParts", fn := fun _ => fun
  | [d] => { results := [.lit (.bool true)], args := [d] }
  | _ => none }
def fnExactThroughPartsRow : OpenClaim := { program := "ytpangmameocfmaa", sum := "3f60aae8318b2d3a505415814e64ec554974d2b267a985ba775a8b59acedb9b3", func := "loop.example/g01251/laws.FnExactThroughParts", spec := "fnExactThroughParts", unfollowed := true, recurses := true, apart := false }
def FnExactThroughPartsSaid : Prop := fnExactThroughPartsRow.holds Try.pinned (OpenSpec.ofChange fnExactThroughPartsSpec)

/-- ITS FALSE NEIGHBOUR: 'it returns false'. Refute it at one input. -/
def fnExactThroughPartsWrong : ChangeSpec := { name := "fnExactThroughParts", fn := fun _ => fun
  | [d] => { results := [.lit (.bool false)], args := [d] }
  | _ => none }
def FnExactThroughPartsWrongFalsely : Prop := fnExactThroughPartsRow.holds Try.pinned (OpenSpec.ofChange fnExactThroughPartsWrong)

/-- 'laws.FnExactFlipPartition': WHATEVER THE INPUT: true; the input reads as it did. -/
def fnExactFlipPartitionSpec : ChangeSpec := { name := "fnExactFlipPartition", fn := fun _ => fun
  | [d] => { results := [.lit (.bool true)], args := [d] }
  | _ => none }
def fnExactFlipPartitionRow : OpenClaim := { program := "ytpangmameocfmaa", sum := "3f60aae8318b2d3a505415814e64ec554974d2b267a985ba775a8b59acedb9b3", func := "loop.example/g01251/laws.FnExactFlipPartition", spec := "fnExactFlipPartition", unfollowed := true, recurses := true, apart := false }
def FnExactFlipPartitionSaid : Prop := fnExactFlipPartitionRow.holds Try.pinned (OpenSpec.ofChange fnExactFlipPartitionSpec)

/-- ITS FALSE NEIGHBOUR: 'it returns false'. Refute it at one input. -/
def fnExactFlipPartitionWrong : ChangeSpec := { name := "fnExactFlipPartition", fn := fun _ => fun
  | [d] => { results := [.lit (.bool false)], args := [d] }
  | _ => none }
def FnExactFlipPartitionWrongFalsely : Prop := fnExactFlipPartitionRow.holds Try.pinned (OpenSpec.ofChange fnExactFlipPartitionWrong)

/-- 'laws.FnExactUnionPartition': WHATEVER THE INPUT: true; the input reads as it did. -/
def fnExactUnionPartitionSpec : ChangeSpec := { name := "fnExactUnionPartition", fn := fun _ => fun
  | [d1, d2] => { results := [.lit (.bool true)], args := [d1, d2] }
  | _ => none }
def fnExactUnionPartitionRow : OpenClaim := { program := "ytpangmameocfmaa", sum := "3f60aae8318b2d3a505415814e64ec554974d2b267a985ba775a8b59acedb9b3", func := "loop.example/g01251/laws.FnExactUnionPartition", spec := "fnExactUnionPartition", unfollowed := true, recurses := true, apart := false }
def FnExactUnionPartitionSaid : Prop := fnExactUnionPartitionRow.holds Try.pinned (OpenSpec.ofChange fnExactUnionPartitionSpec)

/-- ITS FALSE NEIGHBOUR: 'it returns false'. Refute it at one input. -/
def fnExactUnionPartitionWrong : ChangeSpec := { name := "fnExactUnionPartition", fn := fun _ => fun
  | [d1, d2] => { results := [.lit (.bool false)], args := [d1, d2] }
  | _ => none }
def FnExactUnionPartitionWrongFalsely : Prop := fnExactUnionPartitionRow.holds Try.pinned (OpenSpec.ofChange fnExactUnionPartitionWrong)

/-- 'laws.FnExactMultiplyPartitions': WHATEVER THE INPUT: true; the input reads as it did. -/
def fnExactMultiplyPartitionsSpec : ChangeSpec := { name := "fnExactMultiplyPartitions", fn := fun _ => fun
  | [d1, d2] => { results := [.lit (.bool true)], args := [d1, d2] }
  | _ => none }
def fnExactMultiplyPartitionsRow : OpenClaim := { program := "ytpangmameocfmaa", sum := "3f60aae8318b2d3a505415814e64ec554974d2b267a985ba775a8b59acedb9b3", func := "loop.example/g01251/laws.FnExactMultiplyPartitions", spec := "fnExactMultiplyPartitions", unfollowed := true, recurses := true, apart := false }
def FnExactMultiplyPartitionsSaid : Prop := fnExactMultiplyPartitionsRow.holds Try.pinned (OpenSpec.ofChange fnExactMultiplyPartitionsSpec)

/-- ITS FALSE NEIGHBOUR: 'it returns false'. Refute it at one input. -/
def fnExactMultiplyPartitionsWrong : ChangeSpec := { name := "fnExactMultiplyPartitions", fn := fun _ => fun
  | [d1, d2] => { results := [.lit (.bool false)], args := [d1, d2] }
  | _ => none }
def FnExactMultiplyPartitionsWrongFalsely : Prop := fnExactMultiplyPartitionsRow.holds Try.pinned (OpenSpec.ofChange fnExactMultiplyPartitionsWrong)

/-- 'laws.FnExactKindsOf': WHATEVER THE INPUT: true; the input reads as it did. -/
def fnExactKindsOfSpec : ChangeSpec := { name := "fnExactKindsOf", fn := fun _ => fun
  | [d] => { results := [.lit (.bool true)], args := [d] }
  | _ => none }
def fnExactKindsOfRow : OpenClaim := { program := "ytpangmameocfmaa", sum := "3f60aae8318b2d3a505415814e64ec554974d2b267a985ba775a8b59acedb9b3", func := "loop.example/g01251/laws.FnExactKindsOf", spec := "fnExactKindsOf", unfollowed := true, recurses := true, apart := false }
def FnExactKindsOfSaid : Prop := fnExactKindsOfRow.holds Try.pinned (OpenSpec.ofChange fnExactKindsOfSpec)

/-- ITS FALSE NEIGHBOUR: 'it returns false'. Refute it at one input. -/
def fnExactKindsOfWrong : ChangeSpec := { name := "fnExactKindsOf", fn := fun _ => fun
  | [d] => { results := [.lit (.bool false)], args := [d] }
  | _ => none }
def FnExactKindsOfWrongFalsely : Prop := fnExactKindsOfRow.holds Try.pinned (OpenSpec.ofChange fnExactKindsOfWrong)

/-- 'laws.FnExactCountKinds': WHATEVER THE INPUT: true; the input reads as it did. -/
def fnExactCountKindsSpec : ChangeSpec := { name := "fnExactCountKinds", fn := fun _ => fun
  | [d] => { results := [.lit (.bool true)], args := [d] }
  | _ => none }
def fnExactCountKindsRow : OpenClaim := { program := "ytpangmameocfmaa", sum := "3f60aae8318b2d3a505415814e64ec554974d2b267a985ba775a8b59acedb9b3", func := "loop.example/g01251/laws.FnExactCountKinds", spec := "fnExactCountKinds", unfollowed := true, recurses := true, apart := false }
def FnExactCountKindsSaid : Prop := fnExactCountKindsRow.holds Try.pinned (OpenSpec.ofChange fnExactCountKindsSpec)

/-- ITS FALSE NEIGHBOUR: 'it returns false'. Refute it at one input. -/
def fnExactCountKindsWrong : ChangeSpec := { name := "fnExactCountKinds", fn := fun _ => fun
  | [d] => { results := [.lit (.bool false)], args := [d] }
  | _ => none }
def FnExactCountKindsWrongFalsely : Prop := fnExactCountKindsRow.holds Try.pinned (OpenSpec.ofChange fnExactCountKindsWrong)

/-- 'laws.FnExactPowersOfPartition': WHATEVER THE INPUT: true; the input reads as it did. -/
def fnExactPowersOfPartitionSpec : ChangeSpec := { name := "fnExactPowersOfPartition", fn := fun _ => fun
  | [d] => { results := [.lit (.bool true)], args := [d] }
  | _ => none }
def fnExactPowersOfPartitionRow : OpenClaim := { program := "ytpangmameocfmaa", sum := "3f60aae8318b2d3a505415814e64ec554974d2b267a985ba775a8b59acedb9b3", func := "loop.example/g01251/laws.FnExactPowersOfPartition", spec := "fnExactPowersOfPartition", unfollowed := true, recurses := true, apart := false }
def FnExactPowersOfPartitionSaid : Prop := fnExactPowersOfPartitionRow.holds Try.pinned (OpenSpec.ofChange fnExactPowersOfPartitionSpec)

/-- ITS FALSE NEIGHBOUR: 'it returns false'. Refute it at one input. -/
def fnExactPowersOfPartitionWrong : ChangeSpec := { name := "fnExactPowersOfPartition", fn := fun _ => fun
  | [d] => { results := [.lit (.bool false)], args := [d] }
  | _ => none }
def FnExactPowersOfPartitionWrongFalsely : Prop := fnExactPowersOfPartitionRow.holds Try.pinned (OpenSpec.ofChange fnExactPowersOfPartitionWrong)

/-- 'laws.FnExactSurroundingDiagram': WHATEVER THE INPUT: true; the input reads as it did. -/
def fnExactSurroundingDiagramSpec : ChangeSpec := { name := "fnExactSurroundingDiagram", fn := fun _ => fun
  | [d] => { results := [.lit (.bool true)], args := [d] }
  | _ => none }
def fnExactSurroundingDiagramRow : OpenClaim := { program := "ytpangmameocfmaa", sum := "3f60aae8318b2d3a505415814e64ec554974d2b267a985ba775a8b59acedb9b3", func := "loop.example/g01251/laws.FnExactSurroundingDiagram", spec := "fnExactSurroundingDiagram", unfollowed := true, recurses := true, apart := false }
def FnExactSurroundingDiagramSaid : Prop := fnExactSurroundingDiagramRow.holds Try.pinned (OpenSpec.ofChange fnExactSurroundingDiagramSpec)

/-- ITS FALSE NEIGHBOUR: 'it returns false'. Refute it at one input. -/
def fnExactSurroundingDiagramWrong : ChangeSpec := { name := "fnExactSurroundingDiagram", fn := fun _ => fun
  | [d] => { results := [.lit (.bool false)], args := [d] }
  | _ => none }
def FnExactSurroundingDiagramWrongFalsely : Prop := fnExactSurroundingDiagramRow.holds Try.pinned (OpenSpec.ofChange fnExactSurroundingDiagramWrong)

/-- 'laws.FnExactDiagramOfPartition': WHATEVER THE INPUT: true; the input reads as it did. -/
def fnExactDiagramOfPartitionSpec : ChangeSpec := { name := "fnExactDiagramOfPartition", fn := fun _ => fun
  | [d] => { results := [.lit (.bool true)], args := [d] }
  | _ => none }
def fnExactDiagramOfPartitionRow : OpenClaim := { program := "ytpangmameocfmaa", sum := "3f60aae8318b2d3a505415814e64ec554974d2b267a985ba775a8b59acedb9b3", func := "loop.example/g01251/laws.FnExactDiagramOfPartition", spec := "fnExactDiagramOfPartition", unfollowed := true, recurses := true, apart := false }
def FnExactDiagramOfPartitionSaid : Prop := fnExactDiagramOfPartitionRow.holds Try.pinned (OpenSpec.ofChange fnExactDiagramOfPartitionSpec)

/-- ITS FALSE NEIGHBOUR: 'it returns false'. Refute it at one input. -/
def fnExactDiagramOfPartitionWrong : ChangeSpec := { name := "fnExactDiagramOfPartition", fn := fun _ => fun
  | [d] => { results := [.lit (.bool false)], args := [d] }
  | _ => none }
def FnExactDiagramOfPartitionWrongFalsely : Prop := fnExactDiagramOfPartitionRow.holds Try.pinned (OpenSpec.ofChange fnExactDiagramOfPartitionWrong)

/-- 'laws.FnPartitionTexts': WHATEVER THE INPUT: true; the input reads as it did. -/
def fnPartitionTextsSpec : ChangeSpec := { name := "fnPartitionTexts", fn := fun _ => fun
  | [d] => { results := [.lit (.bool true)], args := [d] }
  | _ => none }
def fnPartitionTextsRow : OpenClaim := { program := "ytpangmameocfmaa", sum := "3f60aae8318b2d3a505415814e64ec554974d2b267a985ba775a8b59acedb9b3", func := "loop.example/g01251/laws.FnPartitionTexts", spec := "fnPartitionTexts", unfollowed := true, recurses := true, apart := false }
def FnPartitionTextsSaid : Prop := fnPartitionTextsRow.holds Try.pinned (OpenSpec.ofChange fnPartitionTextsSpec)

/-- ITS FALSE NEIGHBOUR: 'it returns false'. Refute it at one input. -/
def fnPartitionTextsWrong : ChangeSpec := { name := "fnPartitionTexts", fn := fun _ => fun
  | [d] => { results := [.lit (.bool false)], args := [d] }
  | _ => none }
def FnPartitionTextsWrongFalsely : Prop := fnPartitionTextsRow.holds Try.pinned (OpenSpec.ofChange fnPartitionTextsWrong)

/- THE SECOND FORM. 'bulk': how many values and letters a reading holds, each counted each time it is reached (what is shared counts as often as it is met; a slice's spare places count too). A statement '..UptoSaid' is the law's where the arguments, and the package variables that the reading takes, are together of bulk at most 1048576: NARROWER than '..Said'. Prove '..Said' where nothing that the law and all that it calls make is longer than what came in: it says more and counts as full. Else prove '..UptoSaid'. A law counts once. -/
mutual
def uptoBulk {H : Type} : DataW H → Nat
  | .lit (.string bytes) => bytes.length + 1
  | .lit _ => 1
  | .nil => 1
  | .ptr d => uptoBulk d + 1
  | .slice elems spare => uptoBulkAll elems + uptoBulkAll spare + 1
  | .agg parts => uptoBulkAll parts + 1
  | .iface _ d => uptoBulk d + 1
  | .map entries => uptoBulkEntries entries + 1
  | .held _ => 1
def uptoBulkAll {H : Type} : List (DataW H) → Nat
  | [] => 0
  | d :: r => uptoBulk d + uptoBulkAll r
def uptoBulkEntries {H : Type} : List (Lit × DataW H) → Nat
  | [] => 0
  | x :: r => uptoBulkEntry x + uptoBulkEntries r
def uptoBulkEntry {H : Type} : Lit × DataW H → Nat
  | (.string bytes, d) => bytes.length + uptoBulk d + 1
  | (_, d) => uptoBulk d + 1
 end
def uptoSmall : (H : Type) → List (DataW H) → Bool := fun _ ds => decide (uptoBulkAll ds ≤ 1048576)
def OpenSpec.upto (s : _root_.Go.ChangeSpec) : _root_.Go.OpenSpec := { _root_.Go.OpenSpec.ofChange s with cond := some uptoSmall }

/-- 'laws.FnExactParsePartition', WHERE WHAT IT READS IS OF BULK AT MOST 1048576: true; the input reads as it did. -/
def fnExactParsePartitionUptoRow : OpenClaim := { program := "ytpangmameocfmaa", sum := "3f60aae8318b2d3a505415814e64ec554974d2b267a985ba775a8b59acedb9b3", func := "loop.example/g01251/laws.FnExactParsePartition", spec := "fnExactParsePartition", unfollowed := true, recurses := true, apart := false, narrowed := true }
def FnExactParsePartitionUptoSaid : Prop := fnExactParsePartitionUptoRow.holds Try.pinned (OpenSpec.upto fnExactParsePartitionSpec)

/-- 'laws.FnExactPartitionText', WHERE WHAT IT READS IS OF BULK AT MOST 1048576: true; the input reads as it did. -/
def fnExactPartitionTextUptoRow : OpenClaim := { program := "ytpangmameocfmaa", sum := "3f60aae8318b2d3a505415814e64ec554974d2b267a985ba775a8b59acedb9b3", func := "loop.example/g01251/laws.FnExactPartitionText", spec := "fnExactPartitionText", unfollowed := true, recurses := true, apart := false, narrowed := true }
def FnExactPartitionTextUptoSaid : Prop := fnExactPartitionTextUptoRow.holds Try.pinned (OpenSpec.upto fnExactPartitionTextSpec)

/-- 'laws.FnExactThroughParts', WHERE WHAT IT READS IS OF BULK AT MOST 1048576: true; the input reads as it did. -/
def fnExactThroughPartsUptoRow : OpenClaim := { program := "ytpangmameocfmaa", sum := "3f60aae8318b2d3a505415814e64ec554974d2b267a985ba775a8b59acedb9b3", func := "loop.example/g01251/laws.FnExactThroughParts", spec := "fnExactThroughParts", unfollowed := true, recurses := true, apart := false, narrowed := true }
def FnExactThroughPartsUptoSaid : Prop := fnExactThroughPartsUptoRow.holds Try.pinned (OpenSpec.upto fnExactThroughPartsSpec)

/-- 'laws.FnExactFlipPartition', WHERE WHAT IT READS IS OF BULK AT MOST 1048576: true; the input reads as it did. -/
def fnExactFlipPartitionUptoRow : OpenClaim := { program := "ytpangmameocfmaa", sum := "3f60aae8318b2d3a505415814e64ec554974d2b267a985ba775a8b59acedb9b3", func := "loop.example/g01251/laws.FnExactFlipPartition", spec := "fnExactFlipPartition", unfollowed := true, recurses := true, apart := false, narrowed := true }
def FnExactFlipPartitionUptoSaid : Prop := fnExactFlipPartitionUptoRow.holds Try.pinned (OpenSpec.upto fnExactFlipPartitionSpec)

/-- 'laws.FnExactUnionPartition', WHERE WHAT IT READS IS OF BULK AT MOST 1048576: true; the input reads as it did. -/
def fnExactUnionPartitionUptoRow : OpenClaim := { program := "ytpangmameocfmaa", sum := "3f60aae8318b2d3a505415814e64ec554974d2b267a985ba775a8b59acedb9b3", func := "loop.example/g01251/laws.FnExactUnionPartition", spec := "fnExactUnionPartition", unfollowed := true, recurses := true, apart := false, narrowed := true }
def FnExactUnionPartitionUptoSaid : Prop := fnExactUnionPartitionUptoRow.holds Try.pinned (OpenSpec.upto fnExactUnionPartitionSpec)

/-- 'laws.FnExactMultiplyPartitions', WHERE WHAT IT READS IS OF BULK AT MOST 1048576: true; the input reads as it did. -/
def fnExactMultiplyPartitionsUptoRow : OpenClaim := { program := "ytpangmameocfmaa", sum := "3f60aae8318b2d3a505415814e64ec554974d2b267a985ba775a8b59acedb9b3", func := "loop.example/g01251/laws.FnExactMultiplyPartitions", spec := "fnExactMultiplyPartitions", unfollowed := true, recurses := true, apart := false, narrowed := true }
def FnExactMultiplyPartitionsUptoSaid : Prop := fnExactMultiplyPartitionsUptoRow.holds Try.pinned (OpenSpec.upto fnExactMultiplyPartitionsSpec)

/-- 'laws.FnExactKindsOf', WHERE WHAT IT READS IS OF BULK AT MOST 1048576: true; the input reads as it did. -/
def fnExactKindsOfUptoRow : OpenClaim := { program := "ytpangmameocfmaa", sum := "3f60aae8318b2d3a505415814e64ec554974d2b267a985ba775a8b59acedb9b3", func := "loop.example/g01251/laws.FnExactKindsOf", spec := "fnExactKindsOf", unfollowed := true, recurses := true, apart := false, narrowed := true }
def FnExactKindsOfUptoSaid : Prop := fnExactKindsOfUptoRow.holds Try.pinned (OpenSpec.upto fnExactKindsOfSpec)

/-- 'laws.FnExactCountKinds', WHERE WHAT IT READS IS OF BULK AT MOST 1048576: true; the input reads as it did. -/
def fnExactCountKindsUptoRow : OpenClaim := { program := "ytpangmameocfmaa", sum := "3f60aae8318b2d3a505415814e64ec554974d2b267a985ba775a8b59acedb9b3", func := "loop.example/g01251/laws.FnExactCountKinds", spec := "fnExactCountKinds", unfollowed := true, recurses := true, apart := false, narrowed := true }
def FnExactCountKindsUptoSaid : Prop := fnExactCountKindsUptoRow.holds Try.pinned (OpenSpec.upto fnExactCountKindsSpec)

/-- 'laws.FnExactPowersOfPartition', WHERE WHAT IT READS IS OF BULK AT MOST 1048576: true; the input reads as it did. -/
def fnExactPowersOfPartitionUptoRow : OpenClaim := { program := "ytpangmameocfmaa", sum := "3f60aae8318b2d3a505415814e64ec554974d2b267a985ba775a8b59acedb9b3", func := "loop.example/g01251/laws.FnExactPowersOfPartition", spec := "fnExactPowersOfPartition", unfollowed := true, recurses := true, apart := false, narrowed := true }
def FnExactPowersOfPartitionUptoSaid : Prop := fnExactPowersOfPartitionUptoRow.holds Try.pinned (OpenSpec.upto fnExactPowersOfPartitionSpec)

/-- 'laws.FnExactSurroundingDiagram', WHERE WHAT IT READS IS OF BULK AT MOST 1048576: true; the input reads as it did. -/
def fnExactSurroundingDiagramUptoRow : OpenClaim := { program := "ytpangmameocfmaa", sum := "3f60aae8318b2d3a505415814e64ec554974d2b267a985ba775a8b59acedb9b3", func := "loop.example/g01251/laws.FnExactSurroundingDiagram", spec := "fnExactSurroundingDiagram", unfollowed := true, recurses := true, apart := false, narrowed := true }
def FnExactSurroundingDiagramUptoSaid : Prop := fnExactSurroundingDiagramUptoRow.holds Try.pinned (OpenSpec.upto fnExactSurroundingDiagramSpec)

/-- 'laws.FnExactDiagramOfPartition', WHERE WHAT IT READS IS OF BULK AT MOST 1048576: true; the input reads as it did. -/
def fnExactDiagramOfPartitionUptoRow : OpenClaim := { program := "ytpangmameocfmaa", sum := "3f60aae8318b2d3a505415814e64ec554974d2b267a985ba775a8b59acedb9b3", func := "loop.example/g01251/laws.FnExactDiagramOfPartition", spec := "fnExactDiagramOfPartition", unfollowed := true, recurses := true, apart := false, narrowed := true }
def FnExactDiagramOfPartitionUptoSaid : Prop := fnExactDiagramOfPartitionUptoRow.holds Try.pinned (OpenSpec.upto fnExactDiagramOfPartitionSpec)

/-- 'laws.FnPartitionTexts', WHERE WHAT IT READS IS OF BULK AT MOST 1048576: true; the input reads as it did. -/
def fnPartitionTextsUptoRow : OpenClaim := { program := "ytpangmameocfmaa", sum := "3f60aae8318b2d3a505415814e64ec554974d2b267a985ba775a8b59acedb9b3", func := "loop.example/g01251/laws.FnPartitionTexts", spec := "fnPartitionTexts", unfollowed := true, recurses := true, apart := false, narrowed := true }
def FnPartitionTextsUptoSaid : Prop := fnPartitionTextsUptoRow.holds Try.pinned (OpenSpec.upto fnPartitionTextsSpec)

end Rows
end Go.Proofs.Ytpangmameocfmaa
