/- The contract of the laws' own sameInts. -/
import Derived.Test.YtgehollikdbapaaSame
namespace Go.Proofs.Ytgehollikdbapaa
open Go.RowKit

end Go.Proofs.Ytgehollikdbapaa
