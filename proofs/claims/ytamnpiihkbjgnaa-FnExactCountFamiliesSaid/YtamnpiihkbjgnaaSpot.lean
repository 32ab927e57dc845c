/- Contracts over one point: toSpot, isSpot, l20Spot, CountPaths of the program and of the reference. -/
import Derived.Test.YtamnpiihkbjgnaaChoose
import Derived.Test.YtamnpiihkbjgnaaMem
import Derived.Deep.RegionHeld3
import Derived.Deep.QuietTactic
import Derived.BigQuiet
namespace Go.Proofs.Ytamnpiihkbjgnaa
open Go.RowKit

abbrev spotV (x y : Int) : Value := .agg #[.int .i64 x, .int .i64 y]
def spotB (m x y : Int) : Bool := inB x 0 m && inB y 0 m
theorem spotB_iff (m x y : Int) : spotB m x y = true ↔ (0 ≤ x ∧ x ≤ m) ∧ 0 ≤ y ∧ y ≤ m := by simp [spotB, inB_iff]

theorem toSpot_any (x y : Int) (w : World) :
    Calls Try.prog 64 #[spotV x y] w fun e w' => e = .returned (spotV x y) ∧ Below w.heap.size w w' := by
  go_enter Try.func64, Try.ntmps64
  go_wp2
  refine bodyPost_ret (v := spotV x y) (by simp [results, Try.results64, go_sem]) rfl ⟨rfl, ?_⟩
  repeat (first | exact Below.refl _ _ | refine Below.setCell ?_ (by simp <;> omega) _ | refine Below.alloc ?_ (by simp <;> omega) _)

theorem l20Spot_any (x y m : Int) (w : World) :
    Calls Try.prog 62 #[spotV x y, .int .i64 m] w fun e w' => e = .returned (.bool (spotB m x y)) ∧ Below w.heap.size w w' := by
  cases h1 : inB x 0 m <;> cases h2 : inB y 0 m
  all_goals
    go_enter Try.func62, Try.ntmps62
    go_wp2_with (go_at_call 84; refine (l01In_any _ _ _ _).mono ?_; rintro e w' ⟨rfl, rfl⟩)
    go_ret
    exact ⟨by simp [spotB, h1, h2], (Below.refl _ _).alloc (by simp) _⟩
theorem isSpot_any (x y m : Int) (w : World) :
    Calls Try.prog 133 #[spotV x y, .int .i64 m] w fun e w' => e = .returned (.bool (spotB m x y)) ∧ Below w.heap.size w w' := by
  cases h1 : inB x 0 m <;> cases h2 : inB y 0 m
  all_goals
    go_enter Try.func133, Try.ntmps133
    go_wp2_with (go_at_call 87; refine (within_any _ _ _ _).mono ?_; rintro e w' ⟨rfl, rfl⟩)
    go_ret
    exact ⟨by simp [spotB, h1, h2], (Below.refl _ _).alloc (by simp) _⟩

/-- Below, as facts on cells and marks that the walk uses by itself. -/
theorem bcell {W w1 : World} {B : Nat} (hb : Below B W w1) : (∀ b o, b < B → w1.cell? ⟨b, o, none⟩ = W.cell? ⟨b, o, none⟩) ∧ (∀ b o, b < B → w1.frozen? ⟨b, o, none⟩ = W.frozen? ⟨b, o, none⟩) :=
  ⟨fun b o h => hb.cell (p := ⟨b, o, none⟩) h, fun b o h => hb.frozen (p := ⟨b, o, none⟩) h⟩

def pathsZ (ax ay bx by' : Int) : Int :=
  if spotB 8 ax ay && spotB 8 bx by' && decide (ax ≤ bx) && decide (ay ≤ by') then chooseZ (bx - ax + by' - ay) (bx - ax) else 0


end Go.Proofs.Ytamnpiihkbjgnaa
