/- Walks: orders. -/
import Derived.Test.YtoiiellaoikojaaGreatTE
set_option linter.unusedVariables false
set_option linter.unusedSimpArgs false
set_option maxHeartbeats 8000000
namespace Go.Proofs.YtoiiellaoikojaaGreat
open Go.RowKit
section
variable {A : Option Addr} {c : Nat} {l : List Int} {n : Int}
structure RX where
  A : Option Addr
  c : Nat
  xs : List Int
end
end Go.Proofs.YtoiiellaoikojaaGreat
