/- The contract of the laws' own sameInts. -/
import Derived.Test.YtpejphholomenaaSame
namespace Go.Proofs.Ytpejphholomenaa
open Go.RowKit

end Go.Proofs.Ytpejphholomenaa
