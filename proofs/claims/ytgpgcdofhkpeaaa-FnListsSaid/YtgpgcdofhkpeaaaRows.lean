/-
  No cell of these rows narrows 'for every input' (looked for: loops, veiled, ifaces, maps, wideKeys, modest, calm, conditions, laid).
  DERIVED. THE GIVEN ROWS OF THIS SEAT. 9 by the template 'for every input the law returns true; each argument reads behind the call as it read before'; 0 by the template 'total and deterministic' (their statements: YtgpgcdofhkpeaaaTotals.lean).
  GIVEN WITH THE SEED: the statements are not yours to turn. If you find one false, say at which input.
  Laid BY PROGRAM, IN A SANDBOX (cutbox-rows.mjs): the forced cells as the released guide's own fill.sh prints them over the translation 04b56d953842810d… (all of the seat's roots in one cut). By AI agents, Wed Nov 11 2026. No macro, syntax, notation, axiom, sorry.
-/
import Derived.Test.YtgpgcdofhkpeaaaChecked
import GoSem.Claim
import GoSem.ClaimJoined
import GoSem.ClaimMapViews
import Derived.JoinedTies
import Derived.KernelRfl
namespace Go.Proofs.Ytgpgcdofhkpeaaa
/- THE CELL 'sum', in the pinned program and in every row, IS THE sha256 OF THE DUMP (.gsa) THAT YtgpgcdofhkpeaaaProg.lean LOADS. Nothing in Lean hashes anything: it is a label: what it is worth is what the hold of that sum in a sandbox is worth. -/
noncomputable def Try.pinned : Pinned := { name := "ytgpgcdofhkpeaaa", sum := "04b56d953842810d1bc1f008ad418f56249df0b6e3c212b4f194746f4696bf64", checked := Try.checked }
namespace Rows
def none {H : Type} : Left H := { results := [], args := [] }

/-- 'laws.FnExactNormalWord': WHATEVER THE INPUT: true; the input reads as it did. -/
def fnExactNormalWordSpec : ChangeSpec := { name := "fnExactNormalWord", fn := fun _ => fun
  | [d] => { results := [.lit (.bool true)], args := [d] }
  | _ => none }
def fnExactNormalWordRow : OpenClaim := { program := "ytgpgcdofhkpeaaa", sum := "04b56d953842810d1bc1f008ad418f56249df0b6e3c212b4f194746f4696bf64", func := "loop.example/g01251/laws.FnExactNormalWord", spec := "fnExactNormalWord", unfollowed := true, recurses := true, plainKeys := false, apart := false }
def FnExactNormalWordSaid : Prop := fnExactNormalWordRow.holds Try.pinned (OpenSpec.ofChange fnExactNormalWordSpec)

/-- ITS FALSE NEIGHBOUR: 'it returns false'. Refute it at one input. -/
def fnExactNormalWordWrong : ChangeSpec := { name := "fnExactNormalWord", fn := fun _ => fun
  | [d] => { results := [.lit (.bool false)], args := [d] }
  | _ => none }
def FnExactNormalWordWrongFalsely : Prop := fnExactNormalWordRow.holds Try.pinned (OpenSpec.ofChange fnExactNormalWordWrong)

/-- 'laws.FnExactLengthOfDiagram': WHATEVER THE INPUT: true; the input reads as it did. -/
def fnExactLengthOfDiagramSpec : ChangeSpec := { name := "fnExactLengthOfDiagram", fn := fun _ => fun
  | [d] => { results := [.lit (.bool true)], args := [d] }
  | _ => none }
def fnExactLengthOfDiagramRow : OpenClaim := { program := "ytgpgcdofhkpeaaa", sum := "04b56d953842810d1bc1f008ad418f56249df0b6e3c212b4f194746f4696bf64", func := "loop.example/g01251/laws.FnExactLengthOfDiagram", spec := "fnExactLengthOfDiagram", unfollowed := true, recurses := true, plainKeys := false, apart := false }
def FnExactLengthOfDiagramSaid : Prop := fnExactLengthOfDiagramRow.holds Try.pinned (OpenSpec.ofChange fnExactLengthOfDiagramSpec)

/-- ITS FALSE NEIGHBOUR: 'it returns false'. Refute it at one input. -/
def fnExactLengthOfDiagramWrong : ChangeSpec := { name := "fnExactLengthOfDiagram", fn := fun _ => fun
  | [d] => { results := [.lit (.bool false)], args := [d] }
  | _ => none }
def FnExactLengthOfDiagramWrongFalsely : Prop := fnExactLengthOfDiagramRow.holds Try.pinned (OpenSpec.ofChange fnExactLengthOfDiagramWrong)

/-- 'laws.FnExactCountShortest': WHATEVER THE INPUT: true; the input reads as it did. -/
def fnExactCountShortestSpec : ChangeSpec := { name := "fnExactCountShortest", fn := fun _ => fun
  | [d] => { results := [.lit (.bool true)], args := [d] }
  | _ => none }
def fnExactCountShortestRow : OpenClaim := { program := "ytgpgcdofhkpeaaa", sum := "04b56d953842810d1bc1f008ad418f56249df0b6e3c212b4f194746f4696bf64", func := "loop.example/g01251/laws.FnExactCountShortest", spec := "fnExactCountShortest", unfollowed := true, recurses := true, plainKeys := false, apart := false }
def FnExactCountShortestSaid : Prop := fnExactCountShortestRow.holds Try.pinned (OpenSpec.ofChange fnExactCountShortestSpec)

/-- ITS FALSE NEIGHBOUR: 'it returns false'. Refute it at one input. -/
def fnExactCountShortestWrong : ChangeSpec := { name := "fnExactCountShortest", fn := fun _ => fun
  | [d] => { results := [.lit (.bool false)], args := [d] }
  | _ => none }
def FnExactCountShortestWrongFalsely : Prop := fnExactCountShortestRow.holds Try.pinned (OpenSpec.ofChange fnExactCountShortestWrong)

/-- 'laws.FnExactReduceWord': WHATEVER THE INPUT: true; the input reads as it did. -/
def fnExactReduceWordSpec : ChangeSpec := { name := "fnExactReduceWord", fn := fun _ => fun
  | [d1, d2] => { results := [.lit (.bool true)], args := [d1, d2] }
  | _ => none }
def fnExactReduceWordRow : OpenClaim := { program := "ytgpgcdofhkpeaaa", sum := "04b56d953842810d1bc1f008ad418f56249df0b6e3c212b4f194746f4696bf64", func := "loop.example/g01251/laws.FnExactReduceWord", spec := "fnExactReduceWord", unfollowed := true, recurses := true, plainKeys := false, apart := false }
def FnExactReduceWordSaid : Prop := fnExactReduceWordRow.holds Try.pinned (OpenSpec.ofChange fnExactReduceWordSpec)

/-- ITS FALSE NEIGHBOUR: 'it returns false'. Refute it at one input. -/
def fnExactReduceWordWrong : ChangeSpec := { name := "fnExactReduceWord", fn := fun _ => fun
  | [d1, d2] => { results := [.lit (.bool false)], args := [d1, d2] }
  | _ => none }
def FnExactReduceWordWrongFalsely : Prop := fnExactReduceWordRow.holds Try.pinned (OpenSpec.ofChange fnExactReduceWordWrong)

/-- 'laws.FnExactIsReducedWord': WHATEVER THE INPUT: true; the input reads as it did. -/
def fnExactIsReducedWordSpec : ChangeSpec := { name := "fnExactIsReducedWord", fn := fun _ => fun
  | [d1, d2] => { results := [.lit (.bool true)], args := [d1, d2] }
  | _ => none }
def fnExactIsReducedWordRow : OpenClaim := { program := "ytgpgcdofhkpeaaa", sum := "04b56d953842810d1bc1f008ad418f56249df0b6e3c212b4f194746f4696bf64", func := "loop.example/g01251/laws.FnExactIsReducedWord", spec := "fnExactIsReducedWord", unfollowed := true, recurses := true, plainKeys := false, apart := false }
def FnExactIsReducedWordSaid : Prop := fnExactIsReducedWordRow.holds Try.pinned (OpenSpec.ofChange fnExactIsReducedWordSpec)

/-- ITS FALSE NEIGHBOUR: 'it returns false'. Refute it at one input. -/
def fnExactIsReducedWordWrong : ChangeSpec := { name := "fnExactIsReducedWord", fn := fun _ => fun
  | [d1, d2] => { results := [.lit (.bool false)], args := [d1, d2] }
  | _ => none }
def FnExactIsReducedWordWrongFalsely : Prop := fnExactIsReducedWordRow.holds Try.pinned (OpenSpec.ofChange fnExactIsReducedWordWrong)

/-- 'laws.FnExactLongestLength': WHATEVER THE INPUT: true; the input reads as it did. -/
def fnExactLongestLengthSpec : ChangeSpec := { name := "fnExactLongestLength", fn := fun _ => fun
  | [d] => { results := [.lit (.bool true)], args := [d] }
  | _ => none }
def fnExactLongestLengthRow : OpenClaim := { program := "ytgpgcdofhkpeaaa", sum := "04b56d953842810d1bc1f008ad418f56249df0b6e3c212b4f194746f4696bf64", func := "loop.example/g01251/laws.FnExactLongestLength", spec := "fnExactLongestLength", unfollowed := true, recurses := true, plainKeys := false, apart := false }
def FnExactLongestLengthSaid : Prop := fnExactLongestLengthRow.holds Try.pinned (OpenSpec.ofChange fnExactLongestLengthSpec)

/-- ITS FALSE NEIGHBOUR: 'it returns false'. Refute it at one input. -/
def fnExactLongestLengthWrong : ChangeSpec := { name := "fnExactLongestLength", fn := fun _ => fun
  | [d] => { results := [.lit (.bool false)], args := [d] }
  | _ => none }
def FnExactLongestLengthWrongFalsely : Prop := fnExactLongestLengthRow.holds Try.pinned (OpenSpec.ofChange fnExactLongestLengthWrong)

/-- 'laws.FnShapes': WHATEVER THE INPUT: true; the input reads as it did. -/
def fnShapesSpec : ChangeSpec := { name := "fnShapes", fn := fun _ => fun
  | [d] => { results := [.lit (.bool true)], args := [d] }
  | _ => none }
def fnShapesRow : OpenClaim := { program := "ytgpgcdofhkpeaaa", sum := "04b56d953842810d1bc1f008ad418f56249df0b6e3c212b4f194746f4696bf64", func := "loop.example/g01251/laws.FnShapes", spec := "fnShapes", unfollowed := true, recurses := true, plainKeys := false, apart := false }
def FnShapesSaid : Prop := fnShapesRow.holds Try.pinned (OpenSpec.ofChange fnShapesSpec)

/-- ITS FALSE NEIGHBOUR: 'it returns false'. Refute it at one input. -/
def fnShapesWrong : ChangeSpec := { name := "fnShapes", fn := fun _ => fun
  | [d] => { results := [.lit (.bool false)], args := [d] }
  | _ => none }
def FnShapesWrongFalsely : Prop := fnShapesRow.holds Try.pinned (OpenSpec.ofChange fnShapesWrong)

/-- 'laws.FnProducts': WHATEVER THE INPUT: true; the input reads as it did. -/
def fnProductsSpec : ChangeSpec := { name := "fnProducts", fn := fun _ => fun
  | [d] => { results := [.lit (.bool true)], args := [d] }
  | _ => none }
def fnProductsRow : OpenClaim := { program := "ytgpgcdofhkpeaaa", sum := "04b56d953842810d1bc1f008ad418f56249df0b6e3c212b4f194746f4696bf64", func := "loop.example/g01251/laws.FnProducts", spec := "fnProducts", unfollowed := true, recurses := true, plainKeys := false, apart := false }
def FnProductsSaid : Prop := fnProductsRow.holds Try.pinned (OpenSpec.ofChange fnProductsSpec)

/-- ITS FALSE NEIGHBOUR: 'it returns false'. Refute it at one input. -/
def fnProductsWrong : ChangeSpec := { name := "fnProducts", fn := fun _ => fun
  | [d] => { results := [.lit (.bool false)], args := [d] }
  | _ => none }
def FnProductsWrongFalsely : Prop := fnProductsRow.holds Try.pinned (OpenSpec.ofChange fnProductsWrong)

/-- 'laws.FnLists': WHATEVER THE INPUT: true; the input reads as it did. -/
def fnListsSpec : ChangeSpec := { name := "fnLists", fn := fun _ => fun
  | [d] => { results := [.lit (.bool true)], args := [d] }
  | _ => none }
def fnListsRow : OpenClaim := { program := "ytgpgcdofhkpeaaa", sum := "04b56d953842810d1bc1f008ad418f56249df0b6e3c212b4f194746f4696bf64", func := "loop.example/g01251/laws.FnLists", spec := "fnLists", inPlace := ["internal/bytealg.abigen_runtime_cmpstring"], unfollowed := true, recurses := true, plainKeys := false, apart := false }
def FnListsSaid : Prop := fnListsRow.holds Try.pinned (OpenSpec.ofChange fnListsSpec)

/-- ITS FALSE NEIGHBOUR: 'it returns false'. Refute it at one input. -/
def fnListsWrong : ChangeSpec := { name := "fnLists", fn := fun _ => fun
  | [d] => { results := [.lit (.bool false)], args := [d] }
  | _ => none }
def FnListsWrongFalsely : Prop := fnListsRow.holds Try.pinned (OpenSpec.ofChange fnListsWrong)

/- THE SECOND FORM. 'bulk': how many values and letters a reading holds, each counted each time it is reached (what is shared counts as often as it is met; a slice's spare places count too). A statement '..UptoSaid' is the law's where the arguments, and the package variables that the reading takes, are together of bulk at most 1048576: NARROWER than '..Said'. Prove '..Said' where nothing that the law and all that it calls make is longer than what came in: it says more and counts as full. Else prove '..UptoSaid'. A law counts once. -/
mutual
def uptoBulk {H : Type} : DataW H → Nat
  | .lit (.string bytes) => bytes.length + 1
  | .lit _ => 1
  | .nil => 1
  | .ptr d => uptoBulk d + 1
  | .slice elems spare => uptoBulkAll elems + uptoBulkAll spare + 1
  | .agg parts => uptoBulkAll parts + 1
  | .iface _ d => uptoBulk d + 1
  | .map entries => uptoBulkEntries entries + 1
  | .held _ => 1
def uptoBulkAll {H : Type} : List (DataW H) → Nat
  | [] => 0
  | d :: r => uptoBulk d + uptoBulkAll r
def uptoBulkEntries {H : Type} : List (Lit × DataW H) → Nat
  | [] => 0
  | x :: r => uptoBulkEntry x + uptoBulkEntries r
def uptoBulkEntry {H : Type} : Lit × DataW H → Nat
  | (.string bytes, d) => bytes.length + uptoBulk d + 1
  | (_, d) => uptoBulk d + 1
 end
def uptoSmall : (H : Type) → List (DataW H) → Bool := fun _ ds => decide (uptoBulkAll ds ≤ 1048576)
def OpenSpec.upto (s : _root_.Go.ChangeSpec) : _root_.Go.OpenSpec := { _root_.Go.OpenSpec.ofChange s with cond := some uptoSmall }

/-- 'laws.FnExactNormalWord', WHERE WHAT IT READS IS OF BULK AT MOST 1048576: true; the input reads as it did. -/
def fnExactNormalWordUptoRow : OpenClaim := { program := "ytgpgcdofhkpeaaa", sum := "04b56d953842810d1bc1f008ad418f56249df0b6e3c212b4f194746f4696bf64", func := "loop.example/g01251/laws.FnExactNormalWord", spec := "fnExactNormalWord", unfollowed := true, recurses := true, plainKeys := false, apart := false, narrowed := true }
def FnExactNormalWordUptoSaid : Prop := fnExactNormalWordUptoRow.holds Try.pinned (OpenSpec.upto fnExactNormalWordSpec)

/-- 'laws.FnExactLengthOfDiagram', WHERE WHAT IT READS IS OF BULK AT MOST 1048576: true; the input reads as it did. -/
def fnExactLengthOfDiagramUptoRow : OpenClaim := { program := "ytgpgcdofhkpeaaa", sum := "04b56d953842810d1bc1f008ad418f56249df0b6e3c212b4f194746f4696bf64", func := "loop.example/g01251/laws.FnExactLengthOfDiagram", spec := "fnExactLengthOfDiagram", unfollowed := true, recurses := true, plainKeys := false, apart := false, narrowed := true }
def FnExactLengthOfDiagramUptoSaid : Prop := fnExactLengthOfDiagramUptoRow.holds Try.pinned (OpenSpec.upto fnExactLengthOfDiagramSpec)

/-- 'laws.FnExactCountShortest', WHERE WHAT IT READS IS OF BULK AT MOST 1048576: true; the input reads as it did. -/
def fnExactCountShortestUptoRow : OpenClaim := { program := "ytgpgcdofhkpeaaa", sum := "04b56d953842810d1bc1f008ad418f56249df0b6e3c212b4f194746f4696bf64", func := "loop.example/g01251/laws.FnExactCountShortest", spec := "fnExactCountShortest", unfollowed := true, recurses := true, plainKeys := false, apart := false, narrowed := true }
def FnExactCountShortestUptoSaid : Prop := fnExactCountShortestUptoRow.holds Try.pinned (OpenSpec.upto fnExactCountShortestSpec)

/-- 'laws.FnExactReduceWord', WHERE WHAT IT READS IS OF BULK AT MOST 1048576: true; the input reads as it did. -/
def fnExactReduceWordUptoRow : OpenClaim := { program := "ytgpgcdofhkpeaaa", sum := "04b56d953842810d1bc1f008ad418f56249df0b6e3c212b4f194746f4696bf64", func := "loop.example/g01251/laws.FnExactReduceWord", spec := "fnExactReduceWord", unfollowed := true, recurses := true, plainKeys := false, apart := false, narrowed := true }
def FnExactReduceWordUptoSaid : Prop := fnExactReduceWordUptoRow.holds Try.pinned (OpenSpec.upto fnExactReduceWordSpec)

/-- 'laws.FnExactIsReducedWord', WHERE WHAT IT READS IS OF BULK AT MOST 1048576: true; the input reads as it did. -/
def fnExactIsReducedWordUptoRow : OpenClaim := { program := "ytgpgcdofhkpeaaa", sum := "04b56d953842810d1bc1f008ad418f56249df0b6e3c212b4f194746f4696bf64", func := "loop.example/g01251/laws.FnExactIsReducedWord", spec := "fnExactIsReducedWord", unfollowed := true, recurses := true, plainKeys := false, apart := false, narrowed := true }
def FnExactIsReducedWordUptoSaid : Prop := fnExactIsReducedWordUptoRow.holds Try.pinned (OpenSpec.upto fnExactIsReducedWordSpec)

/-- 'laws.FnExactLongestLength', WHERE WHAT IT READS IS OF BULK AT MOST 1048576: true; the input reads as it did. -/
def fnExactLongestLengthUptoRow : OpenClaim := { program := "ytgpgcdofhkpeaaa", sum := "04b56d953842810d1bc1f008ad418f56249df0b6e3c212b4f194746f4696bf64", func := "loop.example/g01251/laws.FnExactLongestLength", spec := "fnExactLongestLength", unfollowed := true, recurses := true, plainKeys := false, apart := false, narrowed := true }
def FnExactLongestLengthUptoSaid : Prop := fnExactLongestLengthUptoRow.holds Try.pinned (OpenSpec.upto fnExactLongestLengthSpec)

/-- 'laws.FnShapes', WHERE WHAT IT READS IS OF BULK AT MOST 1048576: true; the input reads as it did. -/
def fnShapesUptoRow : OpenClaim := { program := "ytgpgcdofhkpeaaa", sum := "04b56d953842810d1bc1f008ad418f56249df0b6e3c212b4f194746f4696bf64", func := "loop.example/g01251/laws.FnShapes", spec := "fnShapes", unfollowed := true, recurses := true, plainKeys := false, apart := false, narrowed := true }
def FnShapesUptoSaid : Prop := fnShapesUptoRow.holds Try.pinned (OpenSpec.upto fnShapesSpec)

/-- 'laws.FnProducts', WHERE WHAT IT READS IS OF BULK AT MOST 1048576: true; the input reads as it did. -/
def fnProductsUptoRow : OpenClaim := { program := "ytgpgcdofhkpeaaa", sum := "04b56d953842810d1bc1f008ad418f56249df0b6e3c212b4f194746f4696bf64", func := "loop.example/g01251/laws.FnProducts", spec := "fnProducts", unfollowed := true, recurses := true, plainKeys := false, apart := false, narrowed := true }
def FnProductsUptoSaid : Prop := fnProductsUptoRow.holds Try.pinned (OpenSpec.upto fnProductsSpec)

/-- 'laws.FnLists', WHERE WHAT IT READS IS OF BULK AT MOST 1048576: true; the input reads as it did. -/
def fnListsUptoRow : OpenClaim := { program := "ytgpgcdofhkpeaaa", sum := "04b56d953842810d1bc1f008ad418f56249df0b6e3c212b4f194746f4696bf64", func := "loop.example/g01251/laws.FnLists", spec := "fnLists", inPlace := ["internal/bytealg.abigen_runtime_cmpstring"], unfollowed := true, recurses := true, plainKeys := false, apart := false, narrowed := true }
def FnListsUptoSaid : Prop := fnListsUptoRow.holds Try.pinned (OpenSpec.upto fnListsSpec)

end Rows
end Go.Proofs.Ytgpgcdofhkpeaaa
