/-
  No cell of these rows narrows 'for every input' (looked for: loops, veiled, ifaces, maps, wideKeys, modest, calm, conditions, laid).
  DERIVED. THE GIVEN ROWS OF THIS SEAT. 10 by the template 'for every input the law returns true; each argument reads behind the call as it read before'; 0 by the template 'total and deterministic' (their statements: YtimigbgpldjefaaTotals.lean).
  GIVEN WITH THE SEED: the statements are not yours to turn. If you find one false, say at which input.
  Laid BY PROGRAM, IN A SANDBOX (cutbox-rows.mjs): the forced cells as the released guide's own fill.sh prints them over the translation c04a2a403785acf9… (all of the seat's roots in one cut). By AI agents, Wed Nov 11 2026. No macro, syntax, notation, axiom, sorry.
-/
import Derived.Test.YtimigbgpldjefaaChecked
import GoSem.Claim
import GoSem.ClaimJoined
import GoSem.ClaimMapViews
import Derived.JoinedTies
import Derived.KernelRfl
namespace Go.Proofs.Ytimigbgpldjefaa
/- THE CELL 'sum', in the pinned program and in every row, IS THE sha256 OF THE DUMP (.gsa) THAT YtimigbgpldjefaaProg.lean LOADS. Nothing in Lean hashes anything: it is a label: what it is worth is what the hold of that sum in a sandbox is worth. -/
noncomputable def Try.pinned : Pinned := { name := "ytimigbgpldjefaa", sum := "c04a2a403785acf9e6bb94c7f3edc027af6c4a4d5b7d5f59d0d49eb38522fec5", checked := Try.checked }
namespace Rows
def none {H : Type} : Left H := { results := [], args := [] }

/-- 'laws.FnExactSpinEntry': WHATEVER THE INPUT: true; the input reads as it did. -/
def fnExactSpinEntrySpec : ChangeSpec := { name := "fnExactSpinEntry", fn := fun _ => fun
  | [d1, d2, d3, d4, d5] => { results := [.lit (.bool true)], args := [d1, d2, d3, d4, d5] }
  | _ => none }
def fnExactSpinEntryRow : OpenClaim := { program := "ytimigbgpldjefaa", sum := "c04a2a403785acf9e6bb94c7f3edc027af6c4a4d5b7d5f59d0d49eb38522fec5", func := "loop.example/g01251/laws.FnExactSpinEntry", spec := "fnExactSpinEntry", unfollowed := true, recurses := true, apart := false }
def FnExactSpinEntrySaid : Prop := fnExactSpinEntryRow.holds Try.pinned (OpenSpec.ofChange fnExactSpinEntrySpec)

/-- ITS FALSE NEIGHBOUR: 'it returns false'. Refute it at one input. -/
def fnExactSpinEntryWrong : ChangeSpec := { name := "fnExactSpinEntry", fn := fun _ => fun
  | [d1, d2, d3, d4, d5] => { results := [.lit (.bool false)], args := [d1, d2, d3, d4, d5] }
  | _ => none }
def FnExactSpinEntryWrongFalsely : Prop := fnExactSpinEntryRow.holds Try.pinned (OpenSpec.ofChange fnExactSpinEntryWrong)

/-- 'laws.FnExactSpinTable': WHATEVER THE INPUT: true; the input reads as it did. -/
def fnExactSpinTableSpec : ChangeSpec := { name := "fnExactSpinTable", fn := fun _ => fun
  | [d1, d2, d3] => { results := [.lit (.bool true)], args := [d1, d2, d3] }
  | _ => none }
def fnExactSpinTableRow : OpenClaim := { program := "ytimigbgpldjefaa", sum := "c04a2a403785acf9e6bb94c7f3edc027af6c4a4d5b7d5f59d0d49eb38522fec5", func := "loop.example/g01251/laws.FnExactSpinTable", spec := "fnExactSpinTable", unfollowed := true, recurses := true, apart := false }
def FnExactSpinTableSaid : Prop := fnExactSpinTableRow.holds Try.pinned (OpenSpec.ofChange fnExactSpinTableSpec)

/-- ITS FALSE NEIGHBOUR: 'it returns false'. Refute it at one input. -/
def fnExactSpinTableWrong : ChangeSpec := { name := "fnExactSpinTable", fn := fun _ => fun
  | [d1, d2, d3] => { results := [.lit (.bool false)], args := [d1, d2, d3] }
  | _ => none }
def FnExactSpinTableWrongFalsely : Prop := fnExactSpinTableRow.holds Try.pinned (OpenSpec.ofChange fnExactSpinTableWrong)

/-- 'laws.FnExactSpinRank': WHATEVER THE INPUT: true; the input reads as it did. -/
def fnExactSpinRankSpec : ChangeSpec := { name := "fnExactSpinRank", fn := fun _ => fun
  | [d1, d2, d3] => { results := [.lit (.bool true)], args := [d1, d2, d3] }
  | _ => none }
def fnExactSpinRankRow : OpenClaim := { program := "ytimigbgpldjefaa", sum := "c04a2a403785acf9e6bb94c7f3edc027af6c4a4d5b7d5f59d0d49eb38522fec5", func := "loop.example/g01251/laws.FnExactSpinRank", spec := "fnExactSpinRank", unfollowed := true, recurses := true, apart := false }
def FnExactSpinRankSaid : Prop := fnExactSpinRankRow.holds Try.pinned (OpenSpec.ofChange fnExactSpinRankSpec)

/-- ITS FALSE NEIGHBOUR: 'it returns false'. Refute it at one input. -/
def fnExactSpinRankWrong : ChangeSpec := { name := "fnExactSpinRank", fn := fun _ => fun
  | [d1, d2, d3] => { results := [.lit (.bool false)], args := [d1, d2, d3] }
  | _ => none }
def FnExactSpinRankWrongFalsely : Prop := fnExactSpinRankRow.holds Try.pinned (OpenSpec.ofChange fnExactSpinRankWrong)

/-- 'laws.FnExactSpinBlock': WHATEVER THE INPUT: true; the input reads as it did. -/
def fnExactSpinBlockSpec : ChangeSpec := { name := "fnExactSpinBlock", fn := fun _ => fun
  | [d1, d2, d3, d4] => { results := [.lit (.bool true)], args := [d1, d2, d3, d4] }
  | _ => none }
def fnExactSpinBlockRow : OpenClaim := { program := "ytimigbgpldjefaa", sum := "c04a2a403785acf9e6bb94c7f3edc027af6c4a4d5b7d5f59d0d49eb38522fec5", func := "loop.example/g01251/laws.FnExactSpinBlock", spec := "fnExactSpinBlock", unfollowed := true, recurses := true, apart := false }
def FnExactSpinBlockSaid : Prop := fnExactSpinBlockRow.holds Try.pinned (OpenSpec.ofChange fnExactSpinBlockSpec)

/-- ITS FALSE NEIGHBOUR: 'it returns false'. Refute it at one input. -/
def fnExactSpinBlockWrong : ChangeSpec := { name := "fnExactSpinBlock", fn := fun _ => fun
  | [d1, d2, d3, d4] => { results := [.lit (.bool false)], args := [d1, d2, d3, d4] }
  | _ => none }
def FnExactSpinBlockWrongFalsely : Prop := fnExactSpinBlockRow.holds Try.pinned (OpenSpec.ofChange fnExactSpinBlockWrong)

/-- 'laws.FnExactPlainTrace': WHATEVER THE INPUT: true; the input reads as it did. -/
def fnExactPlainTraceSpec : ChangeSpec := { name := "fnExactPlainTrace", fn := fun _ => fun
  | [d1, d2, d3] => { results := [.lit (.bool true)], args := [d1, d2, d3] }
  | _ => none }
def fnExactPlainTraceRow : OpenClaim := { program := "ytimigbgpldjefaa", sum := "c04a2a403785acf9e6bb94c7f3edc027af6c4a4d5b7d5f59d0d49eb38522fec5", func := "loop.example/g01251/laws.FnExactPlainTrace", spec := "fnExactPlainTrace", unfollowed := true, recurses := true, apart := false }
def FnExactPlainTraceSaid : Prop := fnExactPlainTraceRow.holds Try.pinned (OpenSpec.ofChange fnExactPlainTraceSpec)

/-- ITS FALSE NEIGHBOUR: 'it returns false'. Refute it at one input. -/
def fnExactPlainTraceWrong : ChangeSpec := { name := "fnExactPlainTrace", fn := fun _ => fun
  | [d1, d2, d3] => { results := [.lit (.bool false)], args := [d1, d2, d3] }
  | _ => none }
def FnExactPlainTraceWrongFalsely : Prop := fnExactPlainTraceRow.holds Try.pinned (OpenSpec.ofChange fnExactPlainTraceWrong)

/-- 'laws.FnExactWeightedTrace': WHATEVER THE INPUT: true; the input reads as it did. -/
def fnExactWeightedTraceSpec : ChangeSpec := { name := "fnExactWeightedTrace", fn := fun _ => fun
  | [d1, d2, d3] => { results := [.lit (.bool true)], args := [d1, d2, d3] }
  | _ => none }
def fnExactWeightedTraceRow : OpenClaim := { program := "ytimigbgpldjefaa", sum := "c04a2a403785acf9e6bb94c7f3edc027af6c4a4d5b7d5f59d0d49eb38522fec5", func := "loop.example/g01251/laws.FnExactWeightedTrace", spec := "fnExactWeightedTrace", unfollowed := true, recurses := true, apart := false }
def FnExactWeightedTraceSaid : Prop := fnExactWeightedTraceRow.holds Try.pinned (OpenSpec.ofChange fnExactWeightedTraceSpec)

/-- ITS FALSE NEIGHBOUR: 'it returns false'. Refute it at one input. -/
def fnExactWeightedTraceWrong : ChangeSpec := { name := "fnExactWeightedTrace", fn := fun _ => fun
  | [d1, d2, d3] => { results := [.lit (.bool false)], args := [d1, d2, d3] }
  | _ => none }
def FnExactWeightedTraceWrongFalsely : Prop := fnExactWeightedTraceRow.holds Try.pinned (OpenSpec.ofChange fnExactWeightedTraceWrong)

/-- 'laws.FnExactApplyToSpins': WHATEVER THE INPUT: true; the input reads as it did. -/
def fnExactApplyToSpinsSpec : ChangeSpec := { name := "fnExactApplyToSpins", fn := fun _ => fun
  | [d1, d2, d3, d4] => { results := [.lit (.bool true)], args := [d1, d2, d3, d4] }
  | _ => none }
def fnExactApplyToSpinsRow : OpenClaim := { program := "ytimigbgpldjefaa", sum := "c04a2a403785acf9e6bb94c7f3edc027af6c4a4d5b7d5f59d0d49eb38522fec5", func := "loop.example/g01251/laws.FnExactApplyToSpins", spec := "fnExactApplyToSpins", unfollowed := true, recurses := true, apart := false }
def FnExactApplyToSpinsSaid : Prop := fnExactApplyToSpinsRow.holds Try.pinned (OpenSpec.ofChange fnExactApplyToSpinsSpec)

/-- ITS FALSE NEIGHBOUR: 'it returns false'. Refute it at one input. -/
def fnExactApplyToSpinsWrong : ChangeSpec := { name := "fnExactApplyToSpins", fn := fun _ => fun
  | [d1, d2, d3, d4] => { results := [.lit (.bool false)], args := [d1, d2, d3, d4] }
  | _ => none }
def FnExactApplyToSpinsWrongFalsely : Prop := fnExactApplyToSpinsRow.holds Try.pinned (OpenSpec.ofChange fnExactApplyToSpinsWrong)

/-- 'laws.FnExactActOnHalf': WHATEVER THE INPUT: true; the input reads as it did. -/
def fnExactActOnHalfSpec : ChangeSpec := { name := "fnExactActOnHalf", fn := fun _ => fun
  | [d1, d2] => { results := [.lit (.bool true)], args := [d1, d2] }
  | _ => none }
def fnExactActOnHalfRow : OpenClaim := { program := "ytimigbgpldjefaa", sum := "c04a2a403785acf9e6bb94c7f3edc027af6c4a4d5b7d5f59d0d49eb38522fec5", func := "loop.example/g01251/laws.FnExactActOnHalf", spec := "fnExactActOnHalf", unfollowed := true, recurses := true, apart := false }
def FnExactActOnHalfSaid : Prop := fnExactActOnHalfRow.holds Try.pinned (OpenSpec.ofChange fnExactActOnHalfSpec)

/-- ITS FALSE NEIGHBOUR: 'it returns false'. Refute it at one input. -/
def fnExactActOnHalfWrong : ChangeSpec := { name := "fnExactActOnHalf", fn := fun _ => fun
  | [d1, d2] => { results := [.lit (.bool false)], args := [d1, d2] }
  | _ => none }
def FnExactActOnHalfWrongFalsely : Prop := fnExactActOnHalfRow.holds Try.pinned (OpenSpec.ofChange fnExactActOnHalfWrong)

/-- 'laws.FnExactDescentsOf': WHATEVER THE INPUT: true; the input reads as it did. -/
def fnExactDescentsOfSpec : ChangeSpec := { name := "fnExactDescentsOf", fn := fun _ => fun
  | [d] => { results := [.lit (.bool true)], args := [d] }
  | _ => none }
def fnExactDescentsOfRow : OpenClaim := { program := "ytimigbgpldjefaa", sum := "c04a2a403785acf9e6bb94c7f3edc027af6c4a4d5b7d5f59d0d49eb38522fec5", func := "loop.example/g01251/laws.FnExactDescentsOf", spec := "fnExactDescentsOf", unfollowed := true, recurses := true, apart := false }
def FnExactDescentsOfSaid : Prop := fnExactDescentsOfRow.holds Try.pinned (OpenSpec.ofChange fnExactDescentsOfSpec)

/-- ITS FALSE NEIGHBOUR: 'it returns false'. Refute it at one input. -/
def fnExactDescentsOfWrong : ChangeSpec := { name := "fnExactDescentsOf", fn := fun _ => fun
  | [d] => { results := [.lit (.bool false)], args := [d] }
  | _ => none }
def FnExactDescentsOfWrongFalsely : Prop := fnExactDescentsOfRow.holds Try.pinned (OpenSpec.ofChange fnExactDescentsOfWrong)

/-- 'laws.FnExactValueOfWord': WHATEVER THE INPUT: true; the input reads as it did. -/
def fnExactValueOfWordSpec : ChangeSpec := { name := "fnExactValueOfWord", fn := fun _ => fun
  | [d1, d2] => { results := [.lit (.bool true)], args := [d1, d2] }
  | _ => none }
def fnExactValueOfWordRow : OpenClaim := { program := "ytimigbgpldjefaa", sum := "c04a2a403785acf9e6bb94c7f3edc027af6c4a4d5b7d5f59d0d49eb38522fec5", func := "loop.example/g01251/laws.FnExactValueOfWord", spec := "fnExactValueOfWord", unfollowed := true, recurses := true, apart := false }
def FnExactValueOfWordSaid : Prop := fnExactValueOfWordRow.holds Try.pinned (OpenSpec.ofChange fnExactValueOfWordSpec)

/-- ITS FALSE NEIGHBOUR: 'it returns false'. Refute it at one input. -/
def fnExactValueOfWordWrong : ChangeSpec := { name := "fnExactValueOfWord", fn := fun _ => fun
  | [d1, d2] => { results := [.lit (.bool false)], args := [d1, d2] }
  | _ => none }
def FnExactValueOfWordWrongFalsely : Prop := fnExactValueOfWordRow.holds Try.pinned (OpenSpec.ofChange fnExactValueOfWordWrong)

/- THE SECOND FORM. 'bulk': how many values and letters a reading holds, each counted each time it is reached (what is shared counts as often as it is met; a slice's spare places count too). A statement '..UptoSaid' is the law's where the arguments, and the package variables that the reading takes, are together of bulk at most 1048576: NARROWER than '..Said'. Prove '..Said' where nothing that the law and all that it calls make is longer than what came in: it says more and counts as full. Else prove '..UptoSaid'. A law counts once. -/
mutual
def uptoBulk {H : Type} : DataW H → Nat
  | .lit (.string bytes) => bytes.length + 1
  | .lit _ => 1
  | .nil => 1
  | .ptr d => uptoBulk d + 1
  | .slice elems spare => uptoBulkAll elems + uptoBulkAll spare + 1
  | .agg parts => uptoBulkAll parts + 1
  | .iface _ d => uptoBulk d + 1
  | .map entries => uptoBulkEntries entries + 1
  | .held _ => 1
def uptoBulkAll {H : Type} : List (DataW H) → Nat
  | [] => 0
  | d :: r => uptoBulk d + uptoBulkAll r
def uptoBulkEntries {H : Type} : List (Lit × DataW H) → Nat
  | [] => 0
  | x :: r => uptoBulkEntry x + uptoBulkEntries r
def uptoBulkEntry {H : Type} : Lit × DataW H → Nat
  | (.string bytes, d) => bytes.length + uptoBulk d + 1
  | (_, d) => uptoBulk d + 1
 end
def uptoSmall : (H : Type) → List (DataW H) → Bool := fun _ ds => decide (uptoBulkAll ds ≤ 1048576)
def OpenSpec.upto (s : _root_.Go.ChangeSpec) : _root_.Go.OpenSpec := { _root_.Go.OpenSpec.ofChange s with cond := some uptoSmall }

/-- 'laws.FnExactSpinEntry', WHERE WHAT IT READS IS OF BULK AT MOST 1048576: true; the input reads as it did. -/
def fnExactSpinEntryUptoRow : OpenClaim := { program := "ytimigbgpldjefaa", sum := "c04a2a403785acf9e6bb94c7f3edc027af6c4a4d5b7d5f59d0d49eb38522fec5", func := "loop.example/g01251/laws.FnExactSpinEntry", spec := "fnExactSpinEntry", unfollowed := true, recurses := true, apart := false, narrowed := true }
def FnExactSpinEntryUptoSaid : Prop := fnExactSpinEntryUptoRow.holds Try.pinned (OpenSpec.upto fnExactSpinEntrySpec)

/-- 'laws.FnExactSpinTable', WHERE WHAT IT READS IS OF BULK AT MOST 1048576: true; the input reads as it did. -/
def fnExactSpinTableUptoRow : OpenClaim := { program := "ytimigbgpldjefaa", sum := "c04a2a403785acf9e6bb94c7f3edc027af6c4a4d5b7d5f59d0d49eb38522fec5", func := "loop.example/g01251/laws.FnExactSpinTable", spec := "fnExactSpinTable", unfollowed := true, recurses := true, apart := false, narrowed := true }
def FnExactSpinTableUptoSaid : Prop := fnExactSpinTableUptoRow.holds Try.pinned (OpenSpec.upto fnExactSpinTableSpec)

/-- 'laws.FnExactSpinRank', WHERE WHAT IT READS IS OF BULK AT MOST 1048576: true; the input reads as it did. -/
def fnExactSpinRankUptoRow : OpenClaim := { program := "ytimigbgpldjefaa", sum := "c04a2a403785acf9e6bb94c7f3edc027af6c4a4d5b7d5f59d0d49eb38522fec5", func := "loop.example/g01251/laws.FnExactSpinRank", spec := "fnExactSpinRank", unfollowed := true, recurses := true, apart := false, narrowed := true }
def FnExactSpinRankUptoSaid : Prop := fnExactSpinRankUptoRow.holds Try.pinned (OpenSpec.upto fnExactSpinRankSpec)

/-- 'laws.FnExactSpinBlock', WHERE WHAT IT READS IS OF BULK AT MOST 1048576: true; the input reads as it did. -/
def fnExactSpinBlockUptoRow : OpenClaim := { program := "ytimigbgpldjefaa", sum := "c04a2a403785acf9e6bb94c7f3edc027af6c4a4d5b7d5f59d0d49eb38522fec5", func := "loop.example/g01251/laws.FnExactSpinBlock", spec := "fnExactSpinBlock", unfollowed := true, recurses := true, apart := false, narrowed := true }
def FnExactSpinBlockUptoSaid : Prop := fnExactSpinBlockUptoRow.holds Try.pinned (OpenSpec.upto fnExactSpinBlockSpec)

/-- 'laws.FnExactPlainTrace', WHERE WHAT IT READS IS OF BULK AT MOST 1048576: true; the input reads as it did. -/
def fnExactPlainTraceUptoRow : OpenClaim := { program := "ytimigbgpldjefaa", sum := "c04a2a403785acf9e6bb94c7f3edc027af6c4a4d5b7d5f59d0d49eb38522fec5", func := "loop.example/g01251/laws.FnExactPlainTrace", spec := "fnExactPlainTrace", unfollowed := true, recurses := true, apart := false, narrowed := true }
def FnExactPlainTraceUptoSaid : Prop := fnExactPlainTraceUptoRow.holds Try.pinned (OpenSpec.upto fnExactPlainTraceSpec)

/-- 'laws.FnExactWeightedTrace', WHERE WHAT IT READS IS OF BULK AT MOST 1048576: true; the input reads as it did. -/
def fnExactWeightedTraceUptoRow : OpenClaim := { program := "ytimigbgpldjefaa", sum := "c04a2a403785acf9e6bb94c7f3edc027af6c4a4d5b7d5f59d0d49eb38522fec5", func := "loop.example/g01251/laws.FnExactWeightedTrace", spec := "fnExactWeightedTrace", unfollowed := true, recurses := true, apart := false, narrowed := true }
def FnExactWeightedTraceUptoSaid : Prop := fnExactWeightedTraceUptoRow.holds Try.pinned (OpenSpec.upto fnExactWeightedTraceSpec)

/-- 'laws.FnExactApplyToSpins', WHERE WHAT IT READS IS OF BULK AT MOST 1048576: true; the input reads as it did. -/
def fnExactApplyToSpinsUptoRow : OpenClaim := { program := "ytimigbgpldjefaa", sum := "c04a2a403785acf9e6bb94c7f3edc027af6c4a4d5b7d5f59d0d49eb38522fec5", func := "loop.example/g01251/laws.FnExactApplyToSpins", spec := "fnExactApplyToSpins", unfollowed := true, recurses := true, apart := false, narrowed := true }
def FnExactApplyToSpinsUptoSaid : Prop := fnExactApplyToSpinsUptoRow.holds Try.pinned (OpenSpec.upto fnExactApplyToSpinsSpec)

/-- 'laws.FnExactActOnHalf', WHERE WHAT IT READS IS OF BULK AT MOST 1048576: true; the input reads as it did. -/
def fnExactActOnHalfUptoRow : OpenClaim := { program := "ytimigbgpldjefaa", sum := "c04a2a403785acf9e6bb94c7f3edc027af6c4a4d5b7d5f59d0d49eb38522fec5", func := "loop.example/g01251/laws.FnExactActOnHalf", spec := "fnExactActOnHalf", unfollowed := true, recurses := true, apart := false, narrowed := true }
def FnExactActOnHalfUptoSaid : Prop := fnExactActOnHalfUptoRow.holds Try.pinned (OpenSpec.upto fnExactActOnHalfSpec)

/-- 'laws.FnExactDescentsOf', WHERE WHAT IT READS IS OF BULK AT MOST 1048576: true; the input reads as it did. -/
def fnExactDescentsOfUptoRow : OpenClaim := { program := "ytimigbgpldjefaa", sum := "c04a2a403785acf9e6bb94c7f3edc027af6c4a4d5b7d5f59d0d49eb38522fec5", func := "loop.example/g01251/laws.FnExactDescentsOf", spec := "fnExactDescentsOf", unfollowed := true, recurses := true, apart := false, narrowed := true }
def FnExactDescentsOfUptoSaid : Prop := fnExactDescentsOfUptoRow.holds Try.pinned (OpenSpec.upto fnExactDescentsOfSpec)

/-- 'laws.FnExactValueOfWord', WHERE WHAT IT READS IS OF BULK AT MOST 1048576: true; the input reads as it did. -/
def fnExactValueOfWordUptoRow : OpenClaim := { program := "ytimigbgpldjefaa", sum := "c04a2a403785acf9e6bb94c7f3edc027af6c4a4d5b7d5f59d0d49eb38522fec5", func := "loop.example/g01251/laws.FnExactValueOfWord", spec := "fnExactValueOfWord", unfollowed := true, recurses := true, apart := false, narrowed := true }
def FnExactValueOfWordUptoSaid : Prop := fnExactValueOfWordUptoRow.holds Try.pinned (OpenSpec.upto fnExactValueOfWordSpec)

end Rows
end Go.Proofs.Ytimigbgpldjefaa
