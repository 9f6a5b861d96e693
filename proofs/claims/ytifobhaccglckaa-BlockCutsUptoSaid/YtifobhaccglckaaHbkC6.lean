import Derived.Test.YtifobhaccglckaaHbkC5
set_option maxRecDepth 100000
set_option maxHeartbeats 4000000
set_option linter.unusedVariables false
namespace Go.Proofs.Ytifobhaccglckaa.Hay
open Go.Proofs
/- 36 -/
/- 37 -/
/- 38 -/
/- 39 -/
/- 14 -/
end Go.Proofs.Ytifobhaccglckaa.Hay
