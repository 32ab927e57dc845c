/- The walk of the law FnExactAlternatingCount: it returns true. -/
import Derived.Test.YtbaghclblnialaaAltCount
namespace Go.Proofs.Ytbaghclblnialaa
open Go.RowKit
theorem walkAlternatingCount (a0 : Int) (_ : (Lit.int .i64 a0).wf = true) (w : World) :
    Calls Try.prog 7 #[.int .i64 a0] w fun e w' => e = .returned (.bool true) ∧ Below w.heap.size w w' := by
  go_enter Try.func7, Try.ntmps7
  go_wp2_with fail
  refine (specAlternatingCount_any _ _).mono ?_
  rintro e w1 ⟨rfl, h1⟩
  go_wp2_with fail
  refine (AlternatingCount_any _ _).mono ?_
  rintro e w2 ⟨rfl, h2⟩
  go_wp2_with fail
  go_ret
  exact ⟨rfl, (h1.trans h2).below _⟩
end Go.Proofs.Ytbaghclblnialaa
