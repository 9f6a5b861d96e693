import Derived.Test.YtifobhaccglckaaHcZa
namespace Go.Proofs.Ytifobhaccglckaa.Hay
end Go.Proofs.Ytifobhaccglckaa.Hay
