import Derived.Test.YtifobhaccglckaaHdE
namespace Go.Proofs.Ytifobhaccglckaa.Hay
end Go.Proofs.Ytifobhaccglckaa.Hay
