/- Contracts of sameInts of the program and of l13Ints of the reference. -/
import Derived.Test.YtgehollikdbapaaIntS
namespace Go.Proofs.Ytgehollikdbapaa
open Go.RowKit

end Go.Proofs.Ytgehollikdbapaa
