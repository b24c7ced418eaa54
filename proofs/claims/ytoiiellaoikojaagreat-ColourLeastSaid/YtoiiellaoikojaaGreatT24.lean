/- Walks: the law SparseTurns. -/
import Derived.Test.YtoiiellaoikojaaGreatT23
import Derived.Test.YtoiiellaoikojaaGreatTC
set_option linter.unusedVariables false
set_option linter.unusedSimpArgs false
set_option maxHeartbeats 8000000
namespace Go.Proofs.YtoiiellaoikojaaGreat
open Go.RowKit
section
variable {p : Pat} {x y : PA}
end
end Go.Proofs.YtoiiellaoikojaaGreat
