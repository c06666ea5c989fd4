/- The program's IsDiagram returns what the reference's returns, for all arguments: the law FnExactIsDiagram returns true for every argument, and the argument reads behind the call as before; no condition. -/
import Derived.Test.YtfglgmimnpjhoaaS1
import Derived.Test.YtfglgmimnpjhoaaU8
set_option linter.all false
namespace Go.Proofs.Ytfglgmimnpjhoaa
open Go Go.Proofs.Ytfglgmimnpjhoaa.VE
theorem fnExactIsDiagram_holds : Rows.FnExactIsDiagramSaid := fnExactIsDiagram_of s_lawIsD
end Go.Proofs.Ytfglgmimnpjhoaa
