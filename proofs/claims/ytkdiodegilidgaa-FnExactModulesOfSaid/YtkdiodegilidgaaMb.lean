/- Contracts: marks in modules. -/
import Derived.Test.YtkdiodegilidgaaMa
import Derived.Test.YtkdiodegilidgaaGd
namespace Go.Proofs.Ytkdiodegilidgaa
open Go.RowKit
set_option linter.unusedVariables false
set_option linter.unusedSimpArgs false
set_option maxRecDepth 100000

end Go.Proofs.Ytkdiodegilidgaa
