/-
  No cell of these rows narrows 'for every input' (looked for: loops, veiled, ifaces, maps, wideKeys, modest, calm, conditions, laid).
  DERIVED. THE GIVEN ROWS OF THIS SEAT. 12 by the template 'for every input the law returns true; each argument reads behind the call as it read before'; 0 by the template 'total and deterministic' (their statements: YtfglgmimnpjhoaaTotals.lean).
  GIVEN WITH THE SEED: the statements are not yours to turn. If you find one false, say at which input.
  Laid BY PROGRAM, IN A SANDBOX (cutbox-rows.mjs): the forced cells as the released guide's own fill.sh prints them over the translation 3f50ed750d8ec6c6… (all of the seat's roots in one cut). By AI agents, Wed Nov 11 2026. No macro, syntax, notation, axiom, sorry.
-/
import Derived.Test.YtfglgmimnpjhoaaChecked
import GoSem.Claim
import GoSem.ClaimJoined
import GoSem.ClaimMapViews
import Derived.JoinedTies
import Derived.KernelRfl
namespace Go.Proofs.Ytfglgmimnpjhoaa
/- THE CELL 'sum', in the pinned program and in every row, IS THE sha256 OF THE DUMP (.gsa) THAT YtfglgmimnpjhoaaProg.lean LOADS. Nothing in Lean hashes anything: it is a label: what it is worth is what the hold of that sum in a sandbox is worth. -/
noncomputable def Try.pinned : Pinned := { name := "ytfglgmimnpjhoaa", sum := "3f50ed750d8ec6c69e92c5399612e31f5e55cb748d9d5553468d01343af696f4", checked := Try.checked }
namespace Rows
def none {H : Type} : Left H := { results := [], args := [] }

/-- 'laws.FnExactIsDiagram': WHATEVER THE INPUT: true; the input reads as it did. -/
def fnExactIsDiagramSpec : ChangeSpec := { name := "fnExactIsDiagram", fn := fun _ => fun
  | [d] => { results := [.lit (.bool true)], args := [d] }
  | _ => none }
def fnExactIsDiagramRow : OpenClaim := { program := "ytfglgmimnpjhoaa", sum := "3f50ed750d8ec6c69e92c5399612e31f5e55cb748d9d5553468d01343af696f4", func := "loop.example/g01251/laws.FnExactIsDiagram", spec := "fnExactIsDiagram", apart := false }
def FnExactIsDiagramSaid : Prop := fnExactIsDiagramRow.holds Try.pinned (OpenSpec.ofChange fnExactIsDiagramSpec)

/-- ITS FALSE NEIGHBOUR: 'it returns false'. Refute it at one input. -/
def fnExactIsDiagramWrong : ChangeSpec := { name := "fnExactIsDiagram", fn := fun _ => fun
  | [d] => { results := [.lit (.bool false)], args := [d] }
  | _ => none }
def FnExactIsDiagramWrongFalsely : Prop := fnExactIsDiagramRow.holds Try.pinned (OpenSpec.ofChange fnExactIsDiagramWrong)

/-- 'laws.FnExactDiagramText': WHATEVER THE INPUT: true; the input reads as it did. -/
def fnExactDiagramTextSpec : ChangeSpec := { name := "fnExactDiagramText", fn := fun _ => fun
  | [d] => { results := [.lit (.bool true)], args := [d] }
  | _ => none }
def fnExactDiagramTextRow : OpenClaim := { program := "ytfglgmimnpjhoaa", sum := "3f50ed750d8ec6c69e92c5399612e31f5e55cb748d9d5553468d01343af696f4", func := "loop.example/g01251/laws.FnExactDiagramText", spec := "fnExactDiagramText", unfollowed := true, recurses := true, apart := false }
def FnExactDiagramTextSaid : Prop := fnExactDiagramTextRow.holds Try.pinned (OpenSpec.ofChange fnExactDiagramTextSpec)

/-- ITS FALSE NEIGHBOUR: 'it returns false'. Refute it at one input. -/
def fnExactDiagramTextWrong : ChangeSpec := { name := "fnExactDiagramText", fn := fun _ => fun
  | [d] => { results := [.lit (.bool false)], args := [d] }
  | _ => none }
def FnExactDiagramTextWrongFalsely : Prop := fnExactDiagramTextRow.holds Try.pinned (OpenSpec.ofChange fnExactDiagramTextWrong)

/-- 'laws.FnExactThroughLines': WHATEVER THE INPUT: true; the input reads as it did. -/
def fnExactThroughLinesSpec : ChangeSpec := { name := "fnExactThroughLines", fn := fun _ => fun
  | [d] => { results := [.lit (.bool true)], args := [d] }
  | _ => none }
def fnExactThroughLinesRow : OpenClaim := { program := "ytfglgmimnpjhoaa", sum := "3f50ed750d8ec6c69e92c5399612e31f5e55cb748d9d5553468d01343af696f4", func := "loop.example/g01251/laws.FnExactThroughLines", spec := "fnExactThroughLines", unfollowed := true, recurses := true, apart := false }
def FnExactThroughLinesSaid : Prop := fnExactThroughLinesRow.holds Try.pinned (OpenSpec.ofChange fnExactThroughLinesSpec)

/-- ITS FALSE NEIGHBOUR: 'it returns false'. Refute it at one input. -/
def fnExactThroughLinesWrong : ChangeSpec := { name := "fnExactThroughLines", fn := fun _ => fun
  | [d] => { results := [.lit (.bool false)], args := [d] }
  | _ => none }
def FnExactThroughLinesWrongFalsely : Prop := fnExactThroughLinesRow.holds Try.pinned (OpenSpec.ofChange fnExactThroughLinesWrong)

/-- 'laws.FnExactMirrorDiagram': WHATEVER THE INPUT: true; the input reads as it did. -/
def fnExactMirrorDiagramSpec : ChangeSpec := { name := "fnExactMirrorDiagram", fn := fun _ => fun
  | [d] => { results := [.lit (.bool true)], args := [d] }
  | _ => none }
def fnExactMirrorDiagramRow : OpenClaim := { program := "ytfglgmimnpjhoaa", sum := "3f50ed750d8ec6c69e92c5399612e31f5e55cb748d9d5553468d01343af696f4", func := "loop.example/g01251/laws.FnExactMirrorDiagram", spec := "fnExactMirrorDiagram", unfollowed := true, recurses := true, apart := false }
def FnExactMirrorDiagramSaid : Prop := fnExactMirrorDiagramRow.holds Try.pinned (OpenSpec.ofChange fnExactMirrorDiagramSpec)

/-- ITS FALSE NEIGHBOUR: 'it returns false'. Refute it at one input. -/
def fnExactMirrorDiagramWrong : ChangeSpec := { name := "fnExactMirrorDiagram", fn := fun _ => fun
  | [d] => { results := [.lit (.bool false)], args := [d] }
  | _ => none }
def FnExactMirrorDiagramWrongFalsely : Prop := fnExactMirrorDiagramRow.holds Try.pinned (OpenSpec.ofChange fnExactMirrorDiagramWrong)

/-- 'laws.FnExactTurnDiagram': WHATEVER THE INPUT: true; the input reads as it did. -/
def fnExactTurnDiagramSpec : ChangeSpec := { name := "fnExactTurnDiagram", fn := fun _ => fun
  | [d] => { results := [.lit (.bool true)], args := [d] }
  | _ => none }
def fnExactTurnDiagramRow : OpenClaim := { program := "ytfglgmimnpjhoaa", sum := "3f50ed750d8ec6c69e92c5399612e31f5e55cb748d9d5553468d01343af696f4", func := "loop.example/g01251/laws.FnExactTurnDiagram", spec := "fnExactTurnDiagram", unfollowed := true, recurses := true, apart := false }
def FnExactTurnDiagramSaid : Prop := fnExactTurnDiagramRow.holds Try.pinned (OpenSpec.ofChange fnExactTurnDiagramSpec)

/-- ITS FALSE NEIGHBOUR: 'it returns false'. Refute it at one input. -/
def fnExactTurnDiagramWrong : ChangeSpec := { name := "fnExactTurnDiagram", fn := fun _ => fun
  | [d] => { results := [.lit (.bool false)], args := [d] }
  | _ => none }
def FnExactTurnDiagramWrongFalsely : Prop := fnExactTurnDiagramRow.holds Try.pinned (OpenSpec.ofChange fnExactTurnDiagramWrong)

/-- 'laws.FnExactFlipDiagram': WHATEVER THE INPUT: true; the input reads as it did. -/
def fnExactFlipDiagramSpec : ChangeSpec := { name := "fnExactFlipDiagram", fn := fun _ => fun
  | [d] => { results := [.lit (.bool true)], args := [d] }
  | _ => none }
def fnExactFlipDiagramRow : OpenClaim := { program := "ytfglgmimnpjhoaa", sum := "3f50ed750d8ec6c69e92c5399612e31f5e55cb748d9d5553468d01343af696f4", func := "loop.example/g01251/laws.FnExactFlipDiagram", spec := "fnExactFlipDiagram", unfollowed := true, recurses := true, apart := false }
def FnExactFlipDiagramSaid : Prop := fnExactFlipDiagramRow.holds Try.pinned (OpenSpec.ofChange fnExactFlipDiagramSpec)

/-- ITS FALSE NEIGHBOUR: 'it returns false'. Refute it at one input. -/
def fnExactFlipDiagramWrong : ChangeSpec := { name := "fnExactFlipDiagram", fn := fun _ => fun
  | [d] => { results := [.lit (.bool false)], args := [d] }
  | _ => none }
def FnExactFlipDiagramWrongFalsely : Prop := fnExactFlipDiagramRow.holds Try.pinned (OpenSpec.ofChange fnExactFlipDiagramWrong)

/-- 'laws.FnExactClosureLoops': WHATEVER THE INPUT: true; the input reads as it did. -/
def fnExactClosureLoopsSpec : ChangeSpec := { name := "fnExactClosureLoops", fn := fun _ => fun
  | [d] => { results := [.lit (.bool true)], args := [d] }
  | _ => none }
def fnExactClosureLoopsRow : OpenClaim := { program := "ytfglgmimnpjhoaa", sum := "3f50ed750d8ec6c69e92c5399612e31f5e55cb748d9d5553468d01343af696f4", func := "loop.example/g01251/laws.FnExactClosureLoops", spec := "fnExactClosureLoops", unfollowed := true, recurses := true, apart := false }
def FnExactClosureLoopsSaid : Prop := fnExactClosureLoopsRow.holds Try.pinned (OpenSpec.ofChange fnExactClosureLoopsSpec)

/-- ITS FALSE NEIGHBOUR: 'it returns false'. Refute it at one input. -/
def fnExactClosureLoopsWrong : ChangeSpec := { name := "fnExactClosureLoops", fn := fun _ => fun
  | [d] => { results := [.lit (.bool false)], args := [d] }
  | _ => none }
def FnExactClosureLoopsWrongFalsely : Prop := fnExactClosureLoopsRow.holds Try.pinned (OpenSpec.ofChange fnExactClosureLoopsWrong)

/-- 'laws.FnExactUnionDiagram': WHATEVER THE INPUT: true; the input reads as it did. -/
def fnExactUnionDiagramSpec : ChangeSpec := { name := "fnExactUnionDiagram", fn := fun _ => fun
  | [d1, d2] => { results := [.lit (.bool true)], args := [d1, d2] }
  | _ => none }
def fnExactUnionDiagramRow : OpenClaim := { program := "ytfglgmimnpjhoaa", sum := "3f50ed750d8ec6c69e92c5399612e31f5e55cb748d9d5553468d01343af696f4", func := "loop.example/g01251/laws.FnExactUnionDiagram", spec := "fnExactUnionDiagram", unfollowed := true, recurses := true, apart := false }
def FnExactUnionDiagramSaid : Prop := fnExactUnionDiagramRow.holds Try.pinned (OpenSpec.ofChange fnExactUnionDiagramSpec)

/-- ITS FALSE NEIGHBOUR: 'it returns false'. Refute it at one input. -/
def fnExactUnionDiagramWrong : ChangeSpec := { name := "fnExactUnionDiagram", fn := fun _ => fun
  | [d1, d2] => { results := [.lit (.bool false)], args := [d1, d2] }
  | _ => none }
def FnExactUnionDiagramWrongFalsely : Prop := fnExactUnionDiagramRow.holds Try.pinned (OpenSpec.ofChange fnExactUnionDiagramWrong)

/-- 'laws.FnExactNumberOfDiagram': WHATEVER THE INPUT: true; the input reads as it did. -/
def fnExactNumberOfDiagramSpec : ChangeSpec := { name := "fnExactNumberOfDiagram", fn := fun _ => fun
  | [d] => { results := [.lit (.bool true)], args := [d] }
  | _ => none }
def fnExactNumberOfDiagramRow : OpenClaim := { program := "ytfglgmimnpjhoaa", sum := "3f50ed750d8ec6c69e92c5399612e31f5e55cb748d9d5553468d01343af696f4", func := "loop.example/g01251/laws.FnExactNumberOfDiagram", spec := "fnExactNumberOfDiagram", inPlace := ["internal/bytealg.abigen_runtime_cmpstring"], unfollowed := true, recurses := true, apart := false }
def FnExactNumberOfDiagramSaid : Prop := fnExactNumberOfDiagramRow.holds Try.pinned (OpenSpec.ofChange fnExactNumberOfDiagramSpec)

/-- ITS FALSE NEIGHBOUR: 'it returns false'. Refute it at one input. -/
def fnExactNumberOfDiagramWrong : ChangeSpec := { name := "fnExactNumberOfDiagram", fn := fun _ => fun
  | [d] => { results := [.lit (.bool false)], args := [d] }
  | _ => none }
def FnExactNumberOfDiagramWrongFalsely : Prop := fnExactNumberOfDiagramRow.holds Try.pinned (OpenSpec.ofChange fnExactNumberOfDiagramWrong)

/-- 'laws.FnExactUpperHalf': WHATEVER THE INPUT: true; the input reads as it did. -/
def fnExactUpperHalfSpec : ChangeSpec := { name := "fnExactUpperHalf", fn := fun _ => fun
  | [d] => { results := [.lit (.bool true)], args := [d] }
  | _ => none }
def fnExactUpperHalfRow : OpenClaim := { program := "ytfglgmimnpjhoaa", sum := "3f50ed750d8ec6c69e92c5399612e31f5e55cb748d9d5553468d01343af696f4", func := "loop.example/g01251/laws.FnExactUpperHalf", spec := "fnExactUpperHalf", unfollowed := true, recurses := true, apart := false }
def FnExactUpperHalfSaid : Prop := fnExactUpperHalfRow.holds Try.pinned (OpenSpec.ofChange fnExactUpperHalfSpec)

/-- ITS FALSE NEIGHBOUR: 'it returns false'. Refute it at one input. -/
def fnExactUpperHalfWrong : ChangeSpec := { name := "fnExactUpperHalf", fn := fun _ => fun
  | [d] => { results := [.lit (.bool false)], args := [d] }
  | _ => none }
def FnExactUpperHalfWrongFalsely : Prop := fnExactUpperHalfRow.holds Try.pinned (OpenSpec.ofChange fnExactUpperHalfWrong)

/-- 'laws.FnExactLowerHalf': WHATEVER THE INPUT: true; the input reads as it did. -/
def fnExactLowerHalfSpec : ChangeSpec := { name := "fnExactLowerHalf", fn := fun _ => fun
  | [d] => { results := [.lit (.bool true)], args := [d] }
  | _ => none }
def fnExactLowerHalfRow : OpenClaim := { program := "ytfglgmimnpjhoaa", sum := "3f50ed750d8ec6c69e92c5399612e31f5e55cb748d9d5553468d01343af696f4", func := "loop.example/g01251/laws.FnExactLowerHalf", spec := "fnExactLowerHalf", unfollowed := true, recurses := true, apart := false }
def FnExactLowerHalfSaid : Prop := fnExactLowerHalfRow.holds Try.pinned (OpenSpec.ofChange fnExactLowerHalfSpec)

/-- ITS FALSE NEIGHBOUR: 'it returns false'. Refute it at one input. -/
def fnExactLowerHalfWrong : ChangeSpec := { name := "fnExactLowerHalf", fn := fun _ => fun
  | [d] => { results := [.lit (.bool false)], args := [d] }
  | _ => none }
def FnExactLowerHalfWrongFalsely : Prop := fnExactLowerHalfRow.holds Try.pinned (OpenSpec.ofChange fnExactLowerHalfWrong)

/-- 'laws.FnExactMultiplyDiagrams': WHATEVER THE INPUT: true; the input reads as it did. -/
def fnExactMultiplyDiagramsSpec : ChangeSpec := { name := "fnExactMultiplyDiagrams", fn := fun _ => fun
  | [d1, d2] => { results := [.lit (.bool true)], args := [d1, d2] }
  | _ => none }
def fnExactMultiplyDiagramsRow : OpenClaim := { program := "ytfglgmimnpjhoaa", sum := "3f50ed750d8ec6c69e92c5399612e31f5e55cb748d9d5553468d01343af696f4", func := "loop.example/g01251/laws.FnExactMultiplyDiagrams", spec := "fnExactMultiplyDiagrams", unfollowed := true, recurses := true, apart := false }
def FnExactMultiplyDiagramsSaid : Prop := fnExactMultiplyDiagramsRow.holds Try.pinned (OpenSpec.ofChange fnExactMultiplyDiagramsSpec)

/-- ITS FALSE NEIGHBOUR: 'it returns false'. Refute it at one input. -/
def fnExactMultiplyDiagramsWrong : ChangeSpec := { name := "fnExactMultiplyDiagrams", fn := fun _ => fun
  | [d1, d2] => { results := [.lit (.bool false)], args := [d1, d2] }
  | _ => none }
def FnExactMultiplyDiagramsWrongFalsely : Prop := fnExactMultiplyDiagramsRow.holds Try.pinned (OpenSpec.ofChange fnExactMultiplyDiagramsWrong)

/- THE SECOND FORM. 'bulk': how many values and letters a reading holds, each counted each time it is reached (what is shared counts as often as it is met; a slice's spare places count too). A statement '..UptoSaid' is the law's where the arguments, and the package variables that the reading takes, are together of bulk at most 1048576: NARROWER than '..Said'. Prove '..Said' where nothing that the law and all that it calls make is longer than what came in: it says more and counts as full. Else prove '..UptoSaid'. A law counts once. -/
mutual
def uptoBulk {H : Type} : DataW H → Nat
  | .lit (.string bytes) => bytes.length + 1
  | .lit _ => 1
  | .nil => 1
  | .ptr d => uptoBulk d + 1
  | .slice elems spare => uptoBulkAll elems + uptoBulkAll spare + 1
  | .agg parts => uptoBulkAll parts + 1
  | .iface _ d => uptoBulk d + 1
  | .map entries => uptoBulkEntries entries + 1
  | .held _ => 1
def uptoBulkAll {H : Type} : List (DataW H) → Nat
  | [] => 0
  | d :: r => uptoBulk d + uptoBulkAll r
def uptoBulkEntries {H : Type} : List (Lit × DataW H) → Nat
  | [] => 0
  | x :: r => uptoBulkEntry x + uptoBulkEntries r
def uptoBulkEntry {H : Type} : Lit × DataW H → Nat
  | (.string bytes, d) => bytes.length + uptoBulk d + 1
  | (_, d) => uptoBulk d + 1
 end
def uptoSmall : (H : Type) → List (DataW H) → Bool := fun _ ds => decide (uptoBulkAll ds ≤ 1048576)
def OpenSpec.upto (s : _root_.Go.ChangeSpec) : _root_.Go.OpenSpec := { _root_.Go.OpenSpec.ofChange s with cond := some uptoSmall }

/-- 'laws.FnExactIsDiagram', WHERE WHAT IT READS IS OF BULK AT MOST 1048576: true; the input reads as it did. -/
def fnExactIsDiagramUptoRow : OpenClaim := { program := "ytfglgmimnpjhoaa", sum := "3f50ed750d8ec6c69e92c5399612e31f5e55cb748d9d5553468d01343af696f4", func := "loop.example/g01251/laws.FnExactIsDiagram", spec := "fnExactIsDiagram", apart := false, narrowed := true }
def FnExactIsDiagramUptoSaid : Prop := fnExactIsDiagramUptoRow.holds Try.pinned (OpenSpec.upto fnExactIsDiagramSpec)

/-- 'laws.FnExactDiagramText', WHERE WHAT IT READS IS OF BULK AT MOST 1048576: true; the input reads as it did. -/
def fnExactDiagramTextUptoRow : OpenClaim := { program := "ytfglgmimnpjhoaa", sum := "3f50ed750d8ec6c69e92c5399612e31f5e55cb748d9d5553468d01343af696f4", func := "loop.example/g01251/laws.FnExactDiagramText", spec := "fnExactDiagramText", unfollowed := true, recurses := true, apart := false, narrowed := true }
def FnExactDiagramTextUptoSaid : Prop := fnExactDiagramTextUptoRow.holds Try.pinned (OpenSpec.upto fnExactDiagramTextSpec)

/-- 'laws.FnExactThroughLines', WHERE WHAT IT READS IS OF BULK AT MOST 1048576: true; the input reads as it did. -/
def fnExactThroughLinesUptoRow : OpenClaim := { program := "ytfglgmimnpjhoaa", sum := "3f50ed750d8ec6c69e92c5399612e31f5e55cb748d9d5553468d01343af696f4", func := "loop.example/g01251/laws.FnExactThroughLines", spec := "fnExactThroughLines", unfollowed := true, recurses := true, apart := false, narrowed := true }
def FnExactThroughLinesUptoSaid : Prop := fnExactThroughLinesUptoRow.holds Try.pinned (OpenSpec.upto fnExactThroughLinesSpec)

/-- 'laws.FnExactMirrorDiagram', WHERE WHAT IT READS IS OF BULK AT MOST 1048576: true; the input reads as it did. -/
def fnExactMirrorDiagramUptoRow : OpenClaim := { program := "ytfglgmimnpjhoaa", sum := "3f50ed750d8ec6c69e92c5399612e31f5e55cb748d9d5553468d01343af696f4", func := "loop.example/g01251/laws.FnExactMirrorDiagram", spec := "fnExactMirrorDiagram", unfollowed := true, recurses := true, apart := false, narrowed := true }
def FnExactMirrorDiagramUptoSaid : Prop := fnExactMirrorDiagramUptoRow.holds Try.pinned (OpenSpec.upto fnExactMirrorDiagramSpec)

/-- 'laws.FnExactTurnDiagram', WHERE WHAT IT READS IS OF BULK AT MOST 1048576: true; the input reads as it did. -/
def fnExactTurnDiagramUptoRow : OpenClaim := { program := "ytfglgmimnpjhoaa", sum := "3f50ed750d8ec6c69e92c5399612e31f5e55cb748d9d5553468d01343af696f4", func := "loop.example/g01251/laws.FnExactTurnDiagram", spec := "fnExactTurnDiagram", unfollowed := true, recurses := true, apart := false, narrowed := true }
def FnExactTurnDiagramUptoSaid : Prop := fnExactTurnDiagramUptoRow.holds Try.pinned (OpenSpec.upto fnExactTurnDiagramSpec)

/-- 'laws.FnExactFlipDiagram', WHERE WHAT IT READS IS OF BULK AT MOST 1048576: true; the input reads as it did. -/
def fnExactFlipDiagramUptoRow : OpenClaim := { program := "ytfglgmimnpjhoaa", sum := "3f50ed750d8ec6c69e92c5399612e31f5e55cb748d9d5553468d01343af696f4", func := "loop.example/g01251/laws.FnExactFlipDiagram", spec := "fnExactFlipDiagram", unfollowed := true, recurses := true, apart := false, narrowed := true }
def FnExactFlipDiagramUptoSaid : Prop := fnExactFlipDiagramUptoRow.holds Try.pinned (OpenSpec.upto fnExactFlipDiagramSpec)

/-- 'laws.FnExactClosureLoops', WHERE WHAT IT READS IS OF BULK AT MOST 1048576: true; the input reads as it did. -/
def fnExactClosureLoopsUptoRow : OpenClaim := { program := "ytfglgmimnpjhoaa", sum := "3f50ed750d8ec6c69e92c5399612e31f5e55cb748d9d5553468d01343af696f4", func := "loop.example/g01251/laws.FnExactClosureLoops", spec := "fnExactClosureLoops", unfollowed := true, recurses := true, apart := false, narrowed := true }
def FnExactClosureLoopsUptoSaid : Prop := fnExactClosureLoopsUptoRow.holds Try.pinned (OpenSpec.upto fnExactClosureLoopsSpec)

/-- 'laws.FnExactUnionDiagram', WHERE WHAT IT READS IS OF BULK AT MOST 1048576: true; the input reads as it did. -/
def fnExactUnionDiagramUptoRow : OpenClaim := { program := "ytfglgmimnpjhoaa", sum := "3f50ed750d8ec6c69e92c5399612e31f5e55cb748d9d5553468d01343af696f4", func := "loop.example/g01251/laws.FnExactUnionDiagram", spec := "fnExactUnionDiagram", unfollowed := true, recurses := true, apart := false, narrowed := true }
def FnExactUnionDiagramUptoSaid : Prop := fnExactUnionDiagramUptoRow.holds Try.pinned (OpenSpec.upto fnExactUnionDiagramSpec)

/-- 'laws.FnExactNumberOfDiagram', WHERE WHAT IT READS IS OF BULK AT MOST 1048576: true; the input reads as it did. -/
def fnExactNumberOfDiagramUptoRow : OpenClaim := { program := "ytfglgmimnpjhoaa", sum := "3f50ed750d8ec6c69e92c5399612e31f5e55cb748d9d5553468d01343af696f4", func := "loop.example/g01251/laws.FnExactNumberOfDiagram", spec := "fnExactNumberOfDiagram", inPlace := ["internal/bytealg.abigen_runtime_cmpstring"], unfollowed := true, recurses := true, apart := false, narrowed := true }
def FnExactNumberOfDiagramUptoSaid : Prop := fnExactNumberOfDiagramUptoRow.holds Try.pinned (OpenSpec.upto fnExactNumberOfDiagramSpec)

/-- 'laws.FnExactUpperHalf', WHERE WHAT IT READS IS OF BULK AT MOST 1048576: true; the input reads as it did. -/
def fnExactUpperHalfUptoRow : OpenClaim := { program := "ytfglgmimnpjhoaa", sum := "3f50ed750d8ec6c69e92c5399612e31f5e55cb748d9d5553468d01343af696f4", func := "loop.example/g01251/laws.FnExactUpperHalf", spec := "fnExactUpperHalf", unfollowed := true, recurses := true, apart := false, narrowed := true }
def FnExactUpperHalfUptoSaid : Prop := fnExactUpperHalfUptoRow.holds Try.pinned (OpenSpec.upto fnExactUpperHalfSpec)

/-- 'laws.FnExactLowerHalf', WHERE WHAT IT READS IS OF BULK AT MOST 1048576: true; the input reads as it did. -/
def fnExactLowerHalfUptoRow : OpenClaim := { program := "ytfglgmimnpjhoaa", sum := "3f50ed750d8ec6c69e92c5399612e31f5e55cb748d9d5553468d01343af696f4", func := "loop.example/g01251/laws.FnExactLowerHalf", spec := "fnExactLowerHalf", unfollowed := true, recurses := true, apart := false, narrowed := true }
def FnExactLowerHalfUptoSaid : Prop := fnExactLowerHalfUptoRow.holds Try.pinned (OpenSpec.upto fnExactLowerHalfSpec)

/-- 'laws.FnExactMultiplyDiagrams', WHERE WHAT IT READS IS OF BULK AT MOST 1048576: true; the input reads as it did. -/
def fnExactMultiplyDiagramsUptoRow : OpenClaim := { program := "ytfglgmimnpjhoaa", sum := "3f50ed750d8ec6c69e92c5399612e31f5e55cb748d9d5553468d01343af696f4", func := "loop.example/g01251/laws.FnExactMultiplyDiagrams", spec := "fnExactMultiplyDiagrams", unfollowed := true, recurses := true, apart := false, narrowed := true }
def FnExactMultiplyDiagramsUptoSaid : Prop := fnExactMultiplyDiagramsUptoRow.holds Try.pinned (OpenSpec.upto fnExactMultiplyDiagramsSpec)

end Rows
end Go.Proofs.Ytfglgmimnpjhoaa
