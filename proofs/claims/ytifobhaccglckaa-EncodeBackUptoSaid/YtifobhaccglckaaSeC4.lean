import Derived.Test.YtifobhaccglckaaSeC3
set_option maxRecDepth 100000
set_option maxHeartbeats 4000000
set_option linter.unusedVariables false
namespace Go.Proofs.Ytifobhaccglckaa.Hay
open Go.Proofs
/- 7 -/
/- 8 -/
/- 9 -/
/- 15 -/
/- 30 -/
/- 10 -/
end Go.Proofs.Ytifobhaccglckaa.Hay
