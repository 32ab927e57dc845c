/- The contract of the laws' own sameInts. -/
import Derived.Test.YtiecphhenpapoaaSame
namespace Go.Proofs.Ytiecphhenpapoaa
open Go.RowKit

end Go.Proofs.Ytiecphhenpapoaa
