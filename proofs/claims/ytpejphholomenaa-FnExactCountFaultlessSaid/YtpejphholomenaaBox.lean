/- Contracts of BoxOk and BoxCount of the program and of the reference. -/
import Derived.Test.YtpejphholomenaaInts
namespace Go.Proofs.Ytpejphholomenaa
open Go.RowKit

def boxB (a b c : Int) : Bool := inB a 1 3 && inB b 1 3 && inB c 1 3
theorem boxB_iff (a b c : Int) : boxB a b c = true ↔ (1 ≤ a ∧ a ≤ 3) ∧ (1 ≤ b ∧ b ≤ 3) ∧ 1 ≤ c ∧ c ≤ 3 := by
  simp [boxB, inB_iff, and_assoc]

end Go.Proofs.Ytpejphholomenaa
