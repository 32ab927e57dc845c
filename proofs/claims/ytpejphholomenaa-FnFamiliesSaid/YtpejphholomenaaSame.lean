/- Contracts of sameInts of the program and of l13Ints of the reference. -/
import Derived.Test.YtpejphholomenaaIntS
namespace Go.Proofs.Ytpejphholomenaa
open Go.RowKit

end Go.Proofs.Ytpejphholomenaa
