/- Walks: the law SparseTurns. -/
import Derived.Test.YtoiiellaoikojaaT23
import Derived.Test.YtoiiellaoikojaaTC
set_option linter.unusedVariables false
set_option linter.unusedSimpArgs false
set_option maxHeartbeats 8000000
namespace Go.Proofs.Ytoiiellaoikojaa
open Go.RowKit
section
variable {p : Pat} {x y : PA}
end
end Go.Proofs.Ytoiiellaoikojaa
