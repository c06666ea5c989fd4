/- What the rows of this place share: the program names no setting of its own, its types are laid out, and an argument that is a struct of a size and bytes has the cells that the contracts speak of. -/
import Derived.Test.YtpangmameocfmaaTE
import Derived.Test.YtpangmameocfmaaEd
import Derived.Test.YtpangmameocfmaaRows
set_option linter.all false
namespace Go.Proofs.Ytpangmameocfmaa
open Go Go.Proofs.Ytpangmameocfmaa.VE Go.ChangeShapes Go.WideShapes Go.ChangeAt Go.RowKit
set_option maxRecDepth 100000
theorem own : ownKnob Try.prog.godebug = none := by kernel_rfl
theorem laidOut : laidOutB Try.prog = true := by kernel_rfl
theorem open_P {H : Type} {enc : TypeId × Value → H} {r : Reach} {b0 base : Nat} {W : World} {sp : Nat → Bool} {held : Bool} {v : Value} {d : DataW H} {ps : List MemPlace} (hv : Value.okWide Try.prog W r b0 T_l_Partition v)
    (h : DataW.Trod enc Try.prog W base sp held T_l_Partition v d ps) : ∃ (s : Int) (m : List Nat), v = .agg (pcl s m).toArray ∧ m.length = 8 ∧ (∀ x ∈ m, x < 256) ∧ -9223372036854775808 ≤ s ∧ s ≤ 9223372036854775807 :=
  open_sized rfl rfl rfl rfl rfl rfl rfl rfl rfl rfl hv h
end Go.Proofs.Ytpangmameocfmaa
