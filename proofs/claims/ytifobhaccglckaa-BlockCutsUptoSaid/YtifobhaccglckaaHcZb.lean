import Derived.Test.YtifobhaccglckaaHcZa
/- Plain laws: what bytes may say: the reference's. -/
namespace Go.Proofs.Ytifobhaccglckaa.Hay
end Go.Proofs.Ytifobhaccglckaa.Hay
