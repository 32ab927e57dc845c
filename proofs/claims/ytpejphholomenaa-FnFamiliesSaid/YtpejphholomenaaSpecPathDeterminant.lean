/- The contract of the reference's PathDeterminant. -/
import Derived.Test.YtpejphholomenaaCof
import Derived.Test.YtpejphholomenaaDrawn
import Derived.Test.YtpejphholomenaaPathM
namespace Go.Proofs.Ytpejphholomenaa
open Go.RowKit

end Go.Proofs.Ytpejphholomenaa
