import Derived.Test.YtifobhaccglckaaHdD
namespace Go.Proofs.Ytifobhaccglckaa.Hay
end Go.Proofs.Ytifobhaccglckaa.Hay
