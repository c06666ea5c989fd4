/-
  No cell of these rows narrows 'for every input' (looked for: loops, veiled, ifaces, maps, wideKeys, modest, calm, conditions, laid).
  DERIVED. THE GIVEN ROWS OF THIS SEAT. 12 by the template 'for every input the law returns true; each argument reads behind the call as it read before'; 0 by the template 'total and deterministic' (their statements: YtcibbadioijmcaaTotals.lean).
  GIVEN WITH THE SEED: the statements are not yours to turn. If you find one false, say at which input.
  Laid BY PROGRAM, IN A SANDBOX (cutbox-rows.mjs): the forced cells as the released guide's own fill.sh prints them over the translation ae491388876117c4… (all of the seat's roots in one cut). By AI agents, Wed Nov 11 2026. No macro, syntax, notation, axiom, sorry.
-/
import Derived.Test.YtcibbadioijmcaaChecked
import GoSem.Claim
import GoSem.ClaimJoined
import GoSem.ClaimMapViews
import Derived.JoinedTies
import Derived.KernelRfl
namespace Go.Proofs.Ytcibbadioijmcaa
/- THE CELL 'sum', in the pinned program and in every row, IS THE sha256 OF THE DUMP (.gsa) THAT YtcibbadioijmcaaProg.lean LOADS. Nothing in Lean hashes anything: it is a label: what it is worth is what the hold of that sum in a sandbox is worth. -/
noncomputable def Try.pinned : Pinned := { name := "ytcibbadioijmcaa", sum := "ae491388876117c43c9f286120cad130dac8640ca0ff2122d9e4ff505bfb0572", checked := Try.checked }
namespace Rows
def none {H : Type} : Left H := { results := [], args := [] }

/-- 'laws.FnExactIsBlobbed': WHATEVER THE INPUT: true; the input reads as it did. -/
def fnExactIsBlobbedSpec : ChangeSpec := { name := "fnExactIsBlobbed", fn := fun _ => fun
  | [d] => { results := [.lit (.bool true)], args := [d] }
  | _ => none }
def fnExactIsBlobbedRow : OpenClaim := { program := "ytcibbadioijmcaa", sum := "ae491388876117c43c9f286120cad130dac8640ca0ff2122d9e4ff505bfb0572", func := "loop.example/g01251/laws.FnExactIsBlobbed", spec := "fnExactIsBlobbed", apart := false }
def FnExactIsBlobbedSaid : Prop := fnExactIsBlobbedRow.holds Try.pinned (OpenSpec.ofChange fnExactIsBlobbedSpec)

/-- ITS FALSE NEIGHBOUR: 'it returns false'. Refute it at one input. -/
def fnExactIsBlobbedWrong : ChangeSpec := { name := "fnExactIsBlobbed", fn := fun _ => fun
  | [d] => { results := [.lit (.bool false)], args := [d] }
  | _ => none }
def FnExactIsBlobbedWrongFalsely : Prop := fnExactIsBlobbedRow.holds Try.pinned (OpenSpec.ofChange fnExactIsBlobbedWrong)

/-- 'laws.FnExactBareDiagram': WHATEVER THE INPUT: true; the input reads as it did. -/
def fnExactBareDiagramSpec : ChangeSpec := { name := "fnExactBareDiagram", fn := fun _ => fun
  | [d] => { results := [.lit (.bool true)], args := [d] }
  | _ => none }
def fnExactBareDiagramRow : OpenClaim := { program := "ytcibbadioijmcaa", sum := "ae491388876117c43c9f286120cad130dac8640ca0ff2122d9e4ff505bfb0572", func := "loop.example/g01251/laws.FnExactBareDiagram", spec := "fnExactBareDiagram", unfollowed := true, recurses := true, apart := false }
def FnExactBareDiagramSaid : Prop := fnExactBareDiagramRow.holds Try.pinned (OpenSpec.ofChange fnExactBareDiagramSpec)

/-- ITS FALSE NEIGHBOUR: 'it returns false'. Refute it at one input. -/
def fnExactBareDiagramWrong : ChangeSpec := { name := "fnExactBareDiagram", fn := fun _ => fun
  | [d] => { results := [.lit (.bool false)], args := [d] }
  | _ => none }
def FnExactBareDiagramWrongFalsely : Prop := fnExactBareDiagramRow.holds Try.pinned (OpenSpec.ofChange fnExactBareDiagramWrong)

/-- 'laws.FnExactBlobbedText': WHATEVER THE INPUT: true; the input reads as it did. -/
def fnExactBlobbedTextSpec : ChangeSpec := { name := "fnExactBlobbedText", fn := fun _ => fun
  | [d] => { results := [.lit (.bool true)], args := [d] }
  | _ => none }
def fnExactBlobbedTextRow : OpenClaim := { program := "ytcibbadioijmcaa", sum := "ae491388876117c43c9f286120cad130dac8640ca0ff2122d9e4ff505bfb0572", func := "loop.example/g01251/laws.FnExactBlobbedText", spec := "fnExactBlobbedText", unfollowed := true, recurses := true, apart := false }
def FnExactBlobbedTextSaid : Prop := fnExactBlobbedTextRow.holds Try.pinned (OpenSpec.ofChange fnExactBlobbedTextSpec)

/-- ITS FALSE NEIGHBOUR: 'it returns false'. Refute it at one input. -/
def fnExactBlobbedTextWrong : ChangeSpec := { name := "fnExactBlobbedText", fn := fun _ => fun
  | [d] => { results := [.lit (.bool false)], args := [d] }
  | _ => none }
def FnExactBlobbedTextWrongFalsely : Prop := fnExactBlobbedTextRow.holds Try.pinned (OpenSpec.ofChange fnExactBlobbedTextWrong)

/-- 'laws.FnExactFlipBlobbed': WHATEVER THE INPUT: true; the input reads as it did. -/
def fnExactFlipBlobbedSpec : ChangeSpec := { name := "fnExactFlipBlobbed", fn := fun _ => fun
  | [d] => { results := [.lit (.bool true)], args := [d] }
  | _ => none }
def fnExactFlipBlobbedRow : OpenClaim := { program := "ytcibbadioijmcaa", sum := "ae491388876117c43c9f286120cad130dac8640ca0ff2122d9e4ff505bfb0572", func := "loop.example/g01251/laws.FnExactFlipBlobbed", spec := "fnExactFlipBlobbed", unfollowed := true, recurses := true, apart := false }
def FnExactFlipBlobbedSaid : Prop := fnExactFlipBlobbedRow.holds Try.pinned (OpenSpec.ofChange fnExactFlipBlobbedSpec)

/-- ITS FALSE NEIGHBOUR: 'it returns false'. Refute it at one input. -/
def fnExactFlipBlobbedWrong : ChangeSpec := { name := "fnExactFlipBlobbed", fn := fun _ => fun
  | [d] => { results := [.lit (.bool false)], args := [d] }
  | _ => none }
def FnExactFlipBlobbedWrongFalsely : Prop := fnExactFlipBlobbedRow.holds Try.pinned (OpenSpec.ofChange fnExactFlipBlobbedWrong)

/-- 'laws.FnExactClosureOfBlobbed': WHATEVER THE INPUT: true; the input reads as it did. -/
def fnExactClosureOfBlobbedSpec : ChangeSpec := { name := "fnExactClosureOfBlobbed", fn := fun _ => fun
  | [d] => { results := [.lit (.bool true)], args := [d] }
  | _ => none }
def fnExactClosureOfBlobbedRow : OpenClaim := { program := "ytcibbadioijmcaa", sum := "ae491388876117c43c9f286120cad130dac8640ca0ff2122d9e4ff505bfb0572", func := "loop.example/g01251/laws.FnExactClosureOfBlobbed", spec := "fnExactClosureOfBlobbed", unfollowed := true, recurses := true, apart := false }
def FnExactClosureOfBlobbedSaid : Prop := fnExactClosureOfBlobbedRow.holds Try.pinned (OpenSpec.ofChange fnExactClosureOfBlobbedSpec)

/-- ITS FALSE NEIGHBOUR: 'it returns false'. Refute it at one input. -/
def fnExactClosureOfBlobbedWrong : ChangeSpec := { name := "fnExactClosureOfBlobbed", fn := fun _ => fun
  | [d] => { results := [.lit (.bool false)], args := [d] }
  | _ => none }
def FnExactClosureOfBlobbedWrongFalsely : Prop := fnExactClosureOfBlobbedRow.holds Try.pinned (OpenSpec.ofChange fnExactClosureOfBlobbedWrong)

/-- 'laws.FnExactOpenLines': WHATEVER THE INPUT: true; the input reads as it did. -/
def fnExactOpenLinesSpec : ChangeSpec := { name := "fnExactOpenLines", fn := fun _ => fun
  | [d] => { results := [.lit (.bool true)], args := [d] }
  | _ => none }
def fnExactOpenLinesRow : OpenClaim := { program := "ytcibbadioijmcaa", sum := "ae491388876117c43c9f286120cad130dac8640ca0ff2122d9e4ff505bfb0572", func := "loop.example/g01251/laws.FnExactOpenLines", spec := "fnExactOpenLines", unfollowed := true, recurses := true, apart := false }
def FnExactOpenLinesSaid : Prop := fnExactOpenLinesRow.holds Try.pinned (OpenSpec.ofChange fnExactOpenLinesSpec)

/-- ITS FALSE NEIGHBOUR: 'it returns false'. Refute it at one input. -/
def fnExactOpenLinesWrong : ChangeSpec := { name := "fnExactOpenLines", fn := fun _ => fun
  | [d] => { results := [.lit (.bool false)], args := [d] }
  | _ => none }
def FnExactOpenLinesWrongFalsely : Prop := fnExactOpenLinesRow.holds Try.pinned (OpenSpec.ofChange fnExactOpenLinesWrong)

/-- 'laws.FnExactValueOfBlobWord': WHATEVER THE INPUT: true; the input reads as it did. -/
def fnExactValueOfBlobWordSpec : ChangeSpec := { name := "fnExactValueOfBlobWord", fn := fun _ => fun
  | [d1, d2] => { results := [.lit (.bool true)], args := [d1, d2] }
  | _ => none }
def fnExactValueOfBlobWordRow : OpenClaim := { program := "ytcibbadioijmcaa", sum := "ae491388876117c43c9f286120cad130dac8640ca0ff2122d9e4ff505bfb0572", func := "loop.example/g01251/laws.FnExactValueOfBlobWord", spec := "fnExactValueOfBlobWord", unfollowed := true, recurses := true, apart := false }
def FnExactValueOfBlobWordSaid : Prop := fnExactValueOfBlobWordRow.holds Try.pinned (OpenSpec.ofChange fnExactValueOfBlobWordSpec)

/-- ITS FALSE NEIGHBOUR: 'it returns false'. Refute it at one input. -/
def fnExactValueOfBlobWordWrong : ChangeSpec := { name := "fnExactValueOfBlobWord", fn := fun _ => fun
  | [d1, d2] => { results := [.lit (.bool false)], args := [d1, d2] }
  | _ => none }
def FnExactValueOfBlobWordWrongFalsely : Prop := fnExactValueOfBlobWordRow.holds Try.pinned (OpenSpec.ofChange fnExactValueOfBlobWordWrong)

/-- 'laws.FnExactMultiplyBlobbed': WHATEVER THE INPUT: true; the input reads as it did. -/
def fnExactMultiplyBlobbedSpec : ChangeSpec := { name := "fnExactMultiplyBlobbed", fn := fun _ => fun
  | [d1, d2] => { results := [.lit (.bool true)], args := [d1, d2] }
  | _ => none }
def fnExactMultiplyBlobbedRow : OpenClaim := { program := "ytcibbadioijmcaa", sum := "ae491388876117c43c9f286120cad130dac8640ca0ff2122d9e4ff505bfb0572", func := "loop.example/g01251/laws.FnExactMultiplyBlobbed", spec := "fnExactMultiplyBlobbed", unfollowed := true, recurses := true, apart := false }
def FnExactMultiplyBlobbedSaid : Prop := fnExactMultiplyBlobbedRow.holds Try.pinned (OpenSpec.ofChange fnExactMultiplyBlobbedSpec)

/-- ITS FALSE NEIGHBOUR: 'it returns false'. Refute it at one input. -/
def fnExactMultiplyBlobbedWrong : ChangeSpec := { name := "fnExactMultiplyBlobbed", fn := fun _ => fun
  | [d1, d2] => { results := [.lit (.bool false)], args := [d1, d2] }
  | _ => none }
def FnExactMultiplyBlobbedWrongFalsely : Prop := fnExactMultiplyBlobbedRow.holds Try.pinned (OpenSpec.ofChange fnExactMultiplyBlobbedWrong)

/-- 'laws.FnExactIsElement': WHATEVER THE INPUT: true; the input reads as it did. -/
def fnExactIsElementSpec : ChangeSpec := { name := "fnExactIsElement", fn := fun _ => fun
  | [d] => { results := [.lit (.bool true)], args := [d] }
  | _ => none }
def fnExactIsElementRow : OpenClaim := { program := "ytcibbadioijmcaa", sum := "ae491388876117c43c9f286120cad130dac8640ca0ff2122d9e4ff505bfb0572", func := "loop.example/g01251/laws.FnExactIsElement", spec := "fnExactIsElement", apart := false }
def FnExactIsElementSaid : Prop := fnExactIsElementRow.holds Try.pinned (OpenSpec.ofChange fnExactIsElementSpec)

/-- ITS FALSE NEIGHBOUR: 'it returns false'. Refute it at one input. -/
def fnExactIsElementWrong : ChangeSpec := { name := "fnExactIsElement", fn := fun _ => fun
  | [d] => { results := [.lit (.bool false)], args := [d] }
  | _ => none }
def FnExactIsElementWrongFalsely : Prop := fnExactIsElementRow.holds Try.pinned (OpenSpec.ofChange fnExactIsElementWrong)

/-- 'laws.FnExactTraceOf': WHATEVER THE INPUT: true; the input reads as it did. -/
def fnExactTraceOfSpec : ChangeSpec := { name := "fnExactTraceOf", fn := fun _ => fun
  | [d] => { results := [.lit (.bool true)], args := [d] }
  | _ => none }
def fnExactTraceOfRow : OpenClaim := { program := "ytcibbadioijmcaa", sum := "ae491388876117c43c9f286120cad130dac8640ca0ff2122d9e4ff505bfb0572", func := "loop.example/g01251/laws.FnExactTraceOf", spec := "fnExactTraceOf", unfollowed := true, recurses := true, apart := false }
def FnExactTraceOfSaid : Prop := fnExactTraceOfRow.holds Try.pinned (OpenSpec.ofChange fnExactTraceOfSpec)

/-- ITS FALSE NEIGHBOUR: 'it returns false'. Refute it at one input. -/
def fnExactTraceOfWrong : ChangeSpec := { name := "fnExactTraceOf", fn := fun _ => fun
  | [d] => { results := [.lit (.bool false)], args := [d] }
  | _ => none }
def FnExactTraceOfWrongFalsely : Prop := fnExactTraceOfRow.holds Try.pinned (OpenSpec.ofChange fnExactTraceOfWrong)

/-- 'laws.FnExactIsDesk': WHATEVER THE INPUT: true; the input reads as it did. -/
def fnExactIsDeskSpec : ChangeSpec := { name := "fnExactIsDesk", fn := fun _ => fun
  | [d] => { results := [.lit (.bool true)], args := [d] }
  | _ => none }
def fnExactIsDeskRow : OpenClaim := { program := "ytcibbadioijmcaa", sum := "ae491388876117c43c9f286120cad130dac8640ca0ff2122d9e4ff505bfb0572", func := "loop.example/g01251/laws.FnExactIsDesk", spec := "fnExactIsDesk", apart := false }
def FnExactIsDeskSaid : Prop := fnExactIsDeskRow.holds Try.pinned (OpenSpec.ofChange fnExactIsDeskSpec)

/-- ITS FALSE NEIGHBOUR: 'it returns false'. Refute it at one input. -/
def fnExactIsDeskWrong : ChangeSpec := { name := "fnExactIsDesk", fn := fun _ => fun
  | [d] => { results := [.lit (.bool false)], args := [d] }
  | _ => none }
def FnExactIsDeskWrongFalsely : Prop := fnExactIsDeskRow.holds Try.pinned (OpenSpec.ofChange fnExactIsDeskWrong)

/-- 'laws.FnExactPartitionOfDiagram': WHATEVER THE INPUT: true; the input reads as it did. -/
def fnExactPartitionOfDiagramSpec : ChangeSpec := { name := "fnExactPartitionOfDiagram", fn := fun _ => fun
  | [d] => { results := [.lit (.bool true)], args := [d] }
  | _ => none }
def fnExactPartitionOfDiagramRow : OpenClaim := { program := "ytcibbadioijmcaa", sum := "ae491388876117c43c9f286120cad130dac8640ca0ff2122d9e4ff505bfb0572", func := "loop.example/g01251/laws.FnExactPartitionOfDiagram", spec := "fnExactPartitionOfDiagram", unfollowed := true, recurses := true, apart := false }
def FnExactPartitionOfDiagramSaid : Prop := fnExactPartitionOfDiagramRow.holds Try.pinned (OpenSpec.ofChange fnExactPartitionOfDiagramSpec)

/-- ITS FALSE NEIGHBOUR: 'it returns false'. Refute it at one input. -/
def fnExactPartitionOfDiagramWrong : ChangeSpec := { name := "fnExactPartitionOfDiagram", fn := fun _ => fun
  | [d] => { results := [.lit (.bool false)], args := [d] }
  | _ => none }
def FnExactPartitionOfDiagramWrongFalsely : Prop := fnExactPartitionOfDiagramRow.holds Try.pinned (OpenSpec.ofChange fnExactPartitionOfDiagramWrong)

/- THE SECOND FORM. 'bulk': how many values and letters a reading holds, each counted each time it is reached (what is shared counts as often as it is met; a slice's spare places count too). A statement '..UptoSaid' is the law's where the arguments, and the package variables that the reading takes, are together of bulk at most 1048576: NARROWER than '..Said'. Prove '..Said' where nothing that the law and all that it calls make is longer than what came in: it says more and counts as full. Else prove '..UptoSaid'. A law counts once. -/
mutual
def uptoBulk {H : Type} : DataW H → Nat
  | .lit (.string bytes) => bytes.length + 1
  | .lit _ => 1
  | .nil => 1
  | .ptr d => uptoBulk d + 1
  | .slice elems spare => uptoBulkAll elems + uptoBulkAll spare + 1
  | .agg parts => uptoBulkAll parts + 1
  | .iface _ d => uptoBulk d + 1
  | .map entries => uptoBulkEntries entries + 1
  | .held _ => 1
def uptoBulkAll {H : Type} : List (DataW H) → Nat
  | [] => 0
  | d :: r => uptoBulk d + uptoBulkAll r
def uptoBulkEntries {H : Type} : List (Lit × DataW H) → Nat
  | [] => 0
  | x :: r => uptoBulkEntry x + uptoBulkEntries r
def uptoBulkEntry {H : Type} : Lit × DataW H → Nat
  | (.string bytes, d) => bytes.length + uptoBulk d + 1
  | (_, d) => uptoBulk d + 1
 end
def uptoSmall : (H : Type) → List (DataW H) → Bool := fun _ ds => decide (uptoBulkAll ds ≤ 1048576)
def OpenSpec.upto (s : _root_.Go.ChangeSpec) : _root_.Go.OpenSpec := { _root_.Go.OpenSpec.ofChange s with cond := some uptoSmall }

/-- 'laws.FnExactIsBlobbed', WHERE WHAT IT READS IS OF BULK AT MOST 1048576: true; the input reads as it did. -/
def fnExactIsBlobbedUptoRow : OpenClaim := { program := "ytcibbadioijmcaa", sum := "ae491388876117c43c9f286120cad130dac8640ca0ff2122d9e4ff505bfb0572", func := "loop.example/g01251/laws.FnExactIsBlobbed", spec := "fnExactIsBlobbed", apart := false, narrowed := true }
def FnExactIsBlobbedUptoSaid : Prop := fnExactIsBlobbedUptoRow.holds Try.pinned (OpenSpec.upto fnExactIsBlobbedSpec)

/-- 'laws.FnExactBareDiagram', WHERE WHAT IT READS IS OF BULK AT MOST 1048576: true; the input reads as it did. -/
def fnExactBareDiagramUptoRow : OpenClaim := { program := "ytcibbadioijmcaa", sum := "ae491388876117c43c9f286120cad130dac8640ca0ff2122d9e4ff505bfb0572", func := "loop.example/g01251/laws.FnExactBareDiagram", spec := "fnExactBareDiagram", unfollowed := true, recurses := true, apart := false, narrowed := true }
def FnExactBareDiagramUptoSaid : Prop := fnExactBareDiagramUptoRow.holds Try.pinned (OpenSpec.upto fnExactBareDiagramSpec)

/-- 'laws.FnExactBlobbedText', WHERE WHAT IT READS IS OF BULK AT MOST 1048576: true; the input reads as it did. -/
def fnExactBlobbedTextUptoRow : OpenClaim := { program := "ytcibbadioijmcaa", sum := "ae491388876117c43c9f286120cad130dac8640ca0ff2122d9e4ff505bfb0572", func := "loop.example/g01251/laws.FnExactBlobbedText", spec := "fnExactBlobbedText", unfollowed := true, recurses := true, apart := false, narrowed := true }
def FnExactBlobbedTextUptoSaid : Prop := fnExactBlobbedTextUptoRow.holds Try.pinned (OpenSpec.upto fnExactBlobbedTextSpec)

/-- 'laws.FnExactFlipBlobbed', WHERE WHAT IT READS IS OF BULK AT MOST 1048576: true; the input reads as it did. -/
def fnExactFlipBlobbedUptoRow : OpenClaim := { program := "ytcibbadioijmcaa", sum := "ae491388876117c43c9f286120cad130dac8640ca0ff2122d9e4ff505bfb0572", func := "loop.example/g01251/laws.FnExactFlipBlobbed", spec := "fnExactFlipBlobbed", unfollowed := true, recurses := true, apart := false, narrowed := true }
def FnExactFlipBlobbedUptoSaid : Prop := fnExactFlipBlobbedUptoRow.holds Try.pinned (OpenSpec.upto fnExactFlipBlobbedSpec)

/-- 'laws.FnExactClosureOfBlobbed', WHERE WHAT IT READS IS OF BULK AT MOST 1048576: true; the input reads as it did. -/
def fnExactClosureOfBlobbedUptoRow : OpenClaim := { program := "ytcibbadioijmcaa", sum := "ae491388876117c43c9f286120cad130dac8640ca0ff2122d9e4ff505bfb0572", func := "loop.example/g01251/laws.FnExactClosureOfBlobbed", spec := "fnExactClosureOfBlobbed", unfollowed := true, recurses := true, apart := false, narrowed := true }
def FnExactClosureOfBlobbedUptoSaid : Prop := fnExactClosureOfBlobbedUptoRow.holds Try.pinned (OpenSpec.upto fnExactClosureOfBlobbedSpec)

/-- 'laws.FnExactOpenLines', WHERE WHAT IT READS IS OF BULK AT MOST 1048576: true; the input reads as it did. -/
def fnExactOpenLinesUptoRow : OpenClaim := { program := "ytcibbadioijmcaa", sum := "ae491388876117c43c9f286120cad130dac8640ca0ff2122d9e4ff505bfb0572", func := "loop.example/g01251/laws.FnExactOpenLines", spec := "fnExactOpenLines", unfollowed := true, recurses := true, apart := false, narrowed := true }
def FnExactOpenLinesUptoSaid : Prop := fnExactOpenLinesUptoRow.holds Try.pinned (OpenSpec.upto fnExactOpenLinesSpec)

/-- 'laws.FnExactValueOfBlobWord', WHERE WHAT IT READS IS OF BULK AT MOST 1048576: true; the input reads as it did. -/
def fnExactValueOfBlobWordUptoRow : OpenClaim := { program := "ytcibbadioijmcaa", sum := "ae491388876117c43c9f286120cad130dac8640ca0ff2122d9e4ff505bfb0572", func := "loop.example/g01251/laws.FnExactValueOfBlobWord", spec := "fnExactValueOfBlobWord", unfollowed := true, recurses := true, apart := false, narrowed := true }
def FnExactValueOfBlobWordUptoSaid : Prop := fnExactValueOfBlobWordUptoRow.holds Try.pinned (OpenSpec.upto fnExactValueOfBlobWordSpec)

/-- 'laws.FnExactMultiplyBlobbed', WHERE WHAT IT READS IS OF BULK AT MOST 1048576: true; the input reads as it did. -/
def fnExactMultiplyBlobbedUptoRow : OpenClaim := { program := "ytcibbadioijmcaa", sum := "ae491388876117c43c9f286120cad130dac8640ca0ff2122d9e4ff505bfb0572", func := "loop.example/g01251/laws.FnExactMultiplyBlobbed", spec := "fnExactMultiplyBlobbed", unfollowed := true, recurses := true, apart := false, narrowed := true }
def FnExactMultiplyBlobbedUptoSaid : Prop := fnExactMultiplyBlobbedUptoRow.holds Try.pinned (OpenSpec.upto fnExactMultiplyBlobbedSpec)

/-- 'laws.FnExactIsElement', WHERE WHAT IT READS IS OF BULK AT MOST 1048576: true; the input reads as it did. -/
def fnExactIsElementUptoRow : OpenClaim := { program := "ytcibbadioijmcaa", sum := "ae491388876117c43c9f286120cad130dac8640ca0ff2122d9e4ff505bfb0572", func := "loop.example/g01251/laws.FnExactIsElement", spec := "fnExactIsElement", apart := false, narrowed := true }
def FnExactIsElementUptoSaid : Prop := fnExactIsElementUptoRow.holds Try.pinned (OpenSpec.upto fnExactIsElementSpec)

/-- 'laws.FnExactTraceOf', WHERE WHAT IT READS IS OF BULK AT MOST 1048576: true; the input reads as it did. -/
def fnExactTraceOfUptoRow : OpenClaim := { program := "ytcibbadioijmcaa", sum := "ae491388876117c43c9f286120cad130dac8640ca0ff2122d9e4ff505bfb0572", func := "loop.example/g01251/laws.FnExactTraceOf", spec := "fnExactTraceOf", unfollowed := true, recurses := true, apart := false, narrowed := true }
def FnExactTraceOfUptoSaid : Prop := fnExactTraceOfUptoRow.holds Try.pinned (OpenSpec.upto fnExactTraceOfSpec)

/-- 'laws.FnExactIsDesk', WHERE WHAT IT READS IS OF BULK AT MOST 1048576: true; the input reads as it did. -/
def fnExactIsDeskUptoRow : OpenClaim := { program := "ytcibbadioijmcaa", sum := "ae491388876117c43c9f286120cad130dac8640ca0ff2122d9e4ff505bfb0572", func := "loop.example/g01251/laws.FnExactIsDesk", spec := "fnExactIsDesk", apart := false, narrowed := true }
def FnExactIsDeskUptoSaid : Prop := fnExactIsDeskUptoRow.holds Try.pinned (OpenSpec.upto fnExactIsDeskSpec)

/-- 'laws.FnExactPartitionOfDiagram', WHERE WHAT IT READS IS OF BULK AT MOST 1048576: true; the input reads as it did. -/
def fnExactPartitionOfDiagramUptoRow : OpenClaim := { program := "ytcibbadioijmcaa", sum := "ae491388876117c43c9f286120cad130dac8640ca0ff2122d9e4ff505bfb0572", func := "loop.example/g01251/laws.FnExactPartitionOfDiagram", spec := "fnExactPartitionOfDiagram", unfollowed := true, recurses := true, apart := false, narrowed := true }
def FnExactPartitionOfDiagramUptoSaid : Prop := fnExactPartitionOfDiagramUptoRow.holds Try.pinned (OpenSpec.upto fnExactPartitionOfDiagramSpec)

end Rows
end Go.Proofs.Ytcibbadioijmcaa
