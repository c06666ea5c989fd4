/- Contracts of functions of the given program, for all arguments that the contract names; see each theorem. -/
import Derived.Test.YtpangmameocfmaaT14
import Derived.Test.YtpangmameocfmaaT15a
set_option linter.all false
namespace Go.Proofs.Ytpangmameocfmaa.VE.P
open Go
set_option maxHeartbeats 800000
set_option maxRecDepth 100000

end Go.Proofs.Ytpangmameocfmaa.VE.P
