/- Contracts: marks in modules. -/
import Derived.Test.YtcjhojdlfnpgjaaGreatDoorMa
import Derived.Test.YtcjhojdlfnpgjaaGreatDoorGd
namespace Go.Proofs.YtcjhojdlfnpgjaaGreatDoor
open Go.RowKit
set_option linter.unusedVariables false
set_option linter.unusedSimpArgs false
set_option maxRecDepth 100000

end Go.Proofs.YtcjhojdlfnpgjaaGreatDoor
