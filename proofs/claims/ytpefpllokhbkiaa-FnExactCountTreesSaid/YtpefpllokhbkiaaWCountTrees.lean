/- The walk of the law FnExactCountTrees: it returns true. -/
import Derived.Test.YtpefpllokhbkiaaCountTrees
namespace Go.Proofs.Ytpefpllokhbkiaa
open Go.RowKit

set_option maxHeartbeats 4000000 in
theorem walkCountTrees (a0 : Int) (_ : (Lit.int .i64 a0).wf = true) (a1 : Int) (_ : (Lit.int .i64 a1).wf = true) (w : World) :
    Calls Try.prog 12 #[.int .i64 a0, .int .i64 a1] w fun e w' => e = .returned (.bool true) ∧ Below w.heap.size w w' := by
  have hne : (countTreesZ a0 a1 != countTreesZ a0 a1) = false := by simp
  go_enter Try.func12, Try.ntmps12
  go_wp2_with fail
  refine (specCountTrees_any _ _ _).mono ?_
  rintro e w1 ⟨rfl, hb1⟩
  have hs1 := hb1.size
  go_wp2_with fail
  refine (CountTrees_any _ _ _).mono ?_
  rintro e w2 ⟨rfl, hb2⟩
  go_wp2_with fail
  go_ret
  exact ⟨rfl, hb1.trans (hb2.mono hs1)⟩
end Go.Proofs.Ytpefpllokhbkiaa
