/- Walks: alike, Union. -/
import Derived.Test.YtoiiellaoikojaaGreatAB
set_option linter.unusedVariables false
set_option linter.unusedSimpArgs false
set_option maxHeartbeats 8000000
namespace Go.Proofs.YtoiiellaoikojaaGreat
open Go.RowKit
section
variable {A : Option Addr} {c : Nat} {l : LP}
end
end Go.Proofs.YtoiiellaoikojaaGreat
