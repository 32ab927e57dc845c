/- Contracts of sameInts of the program and of l13Ints of the reference. -/
import Derived.Test.YtiecphhenpapoaaIntS
namespace Go.Proofs.Ytiecphhenpapoaa
open Go.RowKit

end Go.Proofs.Ytiecphhenpapoaa
