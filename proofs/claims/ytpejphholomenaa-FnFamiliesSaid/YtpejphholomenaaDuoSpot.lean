/- Contracts of the laws' helpers over slices of Spot: eq, mark, held. -/
import Derived.Test.YtpejphholomenaaDuo
import Derived.Deep.RegionHeld3
import Derived.Deep.QuietTactic
import Derived.BigQuiet
namespace Go.Proofs.Ytpejphholomenaa
open Go.RowKit

def MarkSpotPost (w : World) (lo : Nat) (v : Value) (n : Nat) (k : Int) (e : Ending) (w' : World) : Prop :=
  e = .returned (.int .i64 (k + 2 * (n : Int))) ∧ OwnF elSpot w' lo v (duoIota k n) ∧ w.grownBy w' v.ownBlock

end Go.Proofs.Ytpejphholomenaa
