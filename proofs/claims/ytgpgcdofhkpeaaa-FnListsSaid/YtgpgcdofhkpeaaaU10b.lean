/- Contracts of functions of the given program, for all arguments that the contract names; see each theorem. -/
import Derived.Test.YtgpgcdofhkpeaaaU9
set_option linter.all false
namespace Go.Proofs.Ytgpgcdofhkpeaaa.VE
open Go
set_option maxHeartbeats 800000
set_option maxRecDepth 100000

abbrev stV (p : ByteArray × Int) : V := .tup [.raw (.string p.1), vi p.2]
abbrev dV (p : Int × List Nat × Int) : V := .tup [pv p.1 p.2.1, vi p.2.2]
abbrev iiV (p : Int × Int) : V := .tup [vi p.1, vi p.2]
/-- The reference's test, as the program's. -/
theorem s_sIs' (s : Int) (m : List Nat) (hm : m.length = 16) (hb : ∀ x ∈ m, x < 256) : Spec Try.prog n_s_l01Is [pv s m] [] (vb (isDi s m)) [] := by
  have hq := s_sIs s m hm hb
  rwa [isD_eq s m hm] at hq

end Go.Proofs.Ytgpgcdofhkpeaaa.VE
