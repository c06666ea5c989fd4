/- Contracts of functions of the given program, for all arguments that the contract names; see each theorem. -/
import Derived.Test.YtfglgmimnpjhoaaN2
import Derived.Test.YtfglgmimnpjhoaaEd
import Derived.Shelf.Small.Strs
set_option linter.all false
namespace Go.Proofs.Ytfglgmimnpjhoaa.VE
open Go
set_option maxHeartbeats 800000
set_option maxRecDepth 100000

def rnB : Shelf.Ren := ⟨fun n => if n = 213 then 85 else if n = 265 then 92 else 66, fun n => n, fun n => n⟩
theorem layCmp : _root_.Go.Proofs.Lays.n106 Try.prog rnB where
  mixed := rfl
  f106 := Try.func66.trans (congrArg some (by kernel_rfl))
  f213 := Try.func85.trans (congrArg some (by kernel_rfl))
  f265 := Try.func92.trans (congrArg some (by kernel_rfl))
  t3 := Try.underlying3
  a3 := fun w => by kernel_rfl
  z3 := fun w => by kernel_rfl
  v3 := fun w => by kernel_rfl
  t9 := Try.underlying9
  a9 := fun w => by kernel_rfl
  z9 := fun w => by kernel_rfl
  v9 := fun w => by kernel_rfl
theorem s_Compare (a b : ByteArray) : Spec Try.prog n_strings_Compare [.raw (.string a), .raw (.string b)] [] (vi (cmpB a b)) [] := by
  refine ⟨hc_strings_Compare, rfl, rfl, rfl, rfl, fun ρ w _ hr => ?_⟩
  refine (Any.strings_Compare layCmp a b w).mono ?_
  rintro e w' ⟨rfl, rfl⟩
  exact ⟨ρ, rfl, hr⟩
end Go.Proofs.Ytfglgmimnpjhoaa.VE
