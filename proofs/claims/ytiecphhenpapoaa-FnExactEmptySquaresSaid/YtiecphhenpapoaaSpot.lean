/- Contracts over one point: toSpot, isSpot, l20Spot, CountPaths of the program and of the reference. -/
import Derived.Test.YtiecphhenpapoaaChoose
import Derived.Test.YtiecphhenpapoaaMem
import Derived.Deep.RegionHeld3
import Derived.Deep.QuietTactic
import Derived.BigQuiet
namespace Go.Proofs.Ytiecphhenpapoaa
open Go.RowKit

abbrev spotV (x y : Int) : Value := .agg #[.int .i64 x, .int .i64 y]
def spotB (m x y : Int) : Bool := inB x 0 m && inB y 0 m
theorem spotB_iff (m x y : Int) : spotB m x y = true ↔ (0 ≤ x ∧ x ≤ m) ∧ 0 ≤ y ∧ y ≤ m := by simp [spotB, inB_iff]

/-- Below, as facts on cells and marks that the walk uses by itself. -/
theorem bcell {W w1 : World} {B : Nat} (hb : Below B W w1) : (∀ b o, b < B → w1.cell? ⟨b, o, none⟩ = W.cell? ⟨b, o, none⟩) ∧ (∀ b o, b < B → w1.frozen? ⟨b, o, none⟩ = W.frozen? ⟨b, o, none⟩) :=
  ⟨fun b o h => hb.cell (p := ⟨b, o, none⟩) h, fun b o h => hb.frozen (p := ⟨b, o, none⟩) h⟩

def pathsZ (ax ay bx by' : Int) : Int :=
  if spotB 8 ax ay && spotB 8 bx by' && decide (ax ≤ bx) && decide (ay ≤ by') then chooseZ (bx - ax + by' - ay) (bx - ax) else 0


end Go.Proofs.Ytiecphhenpapoaa
