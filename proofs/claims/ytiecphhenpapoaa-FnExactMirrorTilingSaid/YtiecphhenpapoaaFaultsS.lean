/- The lines that no domino crosses, in the reference. -/
import Derived.Test.YtiecphhenpapoaaFaults
namespace Go.Proofs.Ytiecphhenpapoaa
open Go.RowKit
set_option linter.unusedVariables false

end Go.Proofs.Ytiecphhenpapoaa
