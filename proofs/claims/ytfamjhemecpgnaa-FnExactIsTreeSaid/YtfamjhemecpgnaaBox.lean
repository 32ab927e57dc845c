/- Contracts of BoxOk and BoxCount of the program and of the reference. -/
import Derived.Test.YtfamjhemecpgnaaInts
namespace Go.Proofs.Ytfamjhemecpgnaa
open Go.RowKit

def boxB (a b c : Int) : Bool := inB a 1 3 && inB b 1 3 && inB c 1 3
theorem boxB_iff (a b c : Int) : boxB a b c = true ↔ (1 ≤ a ∧ a ≤ 3) ∧ (1 ≤ b ∧ b ≤ 3) ∧ 1 ≤ c ∧ c ≤ 3 := by
  simp [boxB, inB_iff, and_assoc]

theorem specBoxOk_any (a b c : Int) (w : World) :
    Calls Try.prog 113 #[.int .i64 a, .int .i64 b, .int .i64 c] w fun e w' => e = .returned (.bool (boxB a b c)) ∧ w = w' := by
  cases h1 : inB a 1 3 <;> cases h2 : inB b 1 3 <;> cases h3 : inB c 1 3
  all_goals
    go_enter Try.func113, Try.ntmps113
    go_wp2_with (go_at_call 125; refine (l01In_any _ _ _ _).mono ?_; rintro e w' ⟨rfl, rfl⟩)
    go_ret
    exact ⟨by simp [boxB, h1, h2, h3], rfl⟩

theorem BoxOk_any (a b c : Int) (w : World) :
    Calls Try.prog 76 #[.int .i64 a, .int .i64 b, .int .i64 c] w fun e w' => e = .returned (.bool (boxB a b c)) ∧ Below w.heap.size w w' := by
  go_enter Try.func76, Try.ntmps76
  go_wp2_with fail
  refine (allWithin_any _ [a, b, c] _ _ (w.heap.size + 1) _ ?_).mono ?_
  · exact ⟨_, 3, rfl, by simp, by decide, rd_new w _ _⟩
  rintro e w1 ⟨rfl, rfl⟩
  go_wp2_with fail
  go_ret
  exact ⟨ret_bool (by simp [allB, boxB, Bool.and_assoc]), (Below.refl _ _).alloc (Nat.le_refl _) _⟩
end Go.Proofs.Ytfamjhemecpgnaa
