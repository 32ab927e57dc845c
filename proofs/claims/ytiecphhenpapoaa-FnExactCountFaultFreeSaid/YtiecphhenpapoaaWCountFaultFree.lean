/- The walk of the law FnExactCountFaultFree: it returns true. -/
import Derived.Test.YtiecphhenpapoaaCffU
namespace Go.Proofs.Ytiecphhenpapoaa
open Go.RowKit

set_option maxRecDepth 100000 in
set_option maxHeartbeats 8000000 in
theorem walkCountFaultFree (a0 : Int) (_ : (Lit.int .i64 a0).wf = true) (a1 : Int) (_ : (Lit.int .i64 a1).wf = true) (w : World) :
    Calls Try.prog 3 #[.int .i64 a0, .int .i64 a1] w fun e w' => e = .returned (.bool true) ∧ Below w.heap.size w w' := by
  have hne_ : (cffI a0 a1 != cffI a0 a1) = false := by simp
  go_enter Try.func3, Try.ntmps3
  go_wp2_with fail
  refine (specCountFaultFree_same _ _ _).mono ?_
  rintro e w1 ⟨rfl, hb1⟩
  have hq1 := hb1
  have hs1 := hq1.size
  have hz1 := hb1.size
  go_wp2_with fail
  refine (CountFaultFree_any _ _ _).mono ?_
  rintro e w2 ⟨rfl, hb2⟩
  have hq2 := hq1.trans (hb2.mono hs1)
  have hs2 := hq2.size
  have hz2 := hb2.size
  go_wp2_with fail
  go_ret
  exact ⟨rfl, hq2⟩
end Go.Proofs.Ytiecphhenpapoaa
