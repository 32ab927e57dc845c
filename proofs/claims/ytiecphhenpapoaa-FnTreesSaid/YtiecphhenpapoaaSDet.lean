/- The contract of the reference's determinant by division without rests. -/
import Derived.Test.YtiecphhenpapoaaTreeM
import Derived.Test.YtiecphhenpapoaaOwnM
import Derived.Test.YtiecphhenpapoaaSrcRow
import Derived.Test.YtiecphhenpapoaaFlat
import Derived.StillTailTactics
import Derived.Deep.DeepCutAuto
import Derived.Deep.Cut
namespace Go.Proofs.Ytiecphhenpapoaa
open Go.RowKit

def sdetGo (n : Nat) : Nat → Nat → List (List Int) → Int → Int
  | 0, _, _, b => b
  | f + 1, k, m, b => if k < n then (if elZ m k k = 0 then 0 else sdetGo n f (k + 1) (allE n m b k n) (elZ m k k)) else b
def sdetZ (m : List (List Int)) : Int := sdetGo m.length m.length 0 m 1

end Go.Proofs.Ytiecphhenpapoaa
