/- Contracts of BoxOk and BoxCount of the program and of the reference. -/
import Derived.Test.YtgehollikdbapaaInts
namespace Go.Proofs.Ytgehollikdbapaa
open Go.RowKit

def boxB (a b c : Int) : Bool := inB a 1 3 && inB b 1 3 && inB c 1 3
theorem boxB_iff (a b c : Int) : boxB a b c = true ↔ (1 ≤ a ∧ a ≤ 3) ∧ (1 ≤ b ∧ b ≤ 3) ∧ 1 ≤ c ∧ c ≤ 3 := by
  simp [boxB, inB_iff, and_assoc]

theorem BoxOk_any (a b c : Int) (w : World) :
    Calls Try.prog 68 #[.int .i64 a, .int .i64 b, .int .i64 c] w fun e w' => e = .returned (.bool (boxB a b c)) ∧ Below w.heap.size w w' := by
  go_enter Try.func68, Try.ntmps68
  go_wp2_with fail
  refine (allWithin_any _ [a, b, c] _ _ (w.heap.size + 1) _ ?_).mono ?_
  · exact ⟨_, 3, rfl, by simp, by decide, rd_new w _ _⟩
  rintro e w1 ⟨rfl, rfl⟩
  go_wp2_with fail
  go_ret
  exact ⟨ret_bool (by simp [allB, boxB, Bool.and_assoc]), (Below.refl _ _).alloc (Nat.le_refl _) _⟩
end Go.Proofs.Ytgehollikdbapaa
