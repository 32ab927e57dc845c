/- Small words for quiet regions. No function of the program is named here. -/
import Derived.Test.YtiecphhenpapoaaBox
namespace Go.Proofs.Ytiecphhenpapoaa
open Go.RowKit

/-- A contract that leaves the world alone, for a region that draws. -/
theorem quietLeft {P : Program} {f : FuncId} {args : Array Value} {w : World} {n : Nat} {v : Value}
    (h : Calls P f args (w.drewN n) fun e w' => e = .returned v ∧ w.drewN n = w') : Calls P f args (w.drewN n) fun e w'' => e = .returned v ∧ ∃ m, w'' = w.drewN m :=
  h.mono fun _ _ ⟨he, hm⟩ => ⟨he, n, hm.symm⟩

theorem three_ : ∀ b1 b2 b3 : Bool, b1 = false ∨ (b1 = true ∧ b2 = false) ∨ (b1 = true ∧ b2 = true ∧ b3 = false) ∨ (b1 = true ∧ b2 = true ∧ b3 = true) := by decide

end Go.Proofs.Ytiecphhenpapoaa
