/- The walks of the laws FnExactGridOk, FnExactBoxOk, FnExactChooseOf and of what they call. -/
import Derived.Test.YtbaghclblnialaaBasic
import Derived.IntWalk
namespace Go.Proofs.Ytbaghclblnialaa
open Go.RowKit

theorem walkGridOk (a0 : Int) (a1 : Int) (_ : (Lit.int .i64 a0).wf = true) (_ : (Lit.int .i64 a1).wf = true) (w : World) :
    Calls Try.prog 3 #[.int .i64 a0, .int .i64 a1] w fun e w' => e = .returned (.bool true) ∧ Grown w w' := by
  generalize hg : gridB a0 a1 = b
  go_enter Try.func3, Try.ntmps3
  go_wp2_with (first
    | (go_at_call 15; refine (specGridOk_any _ _ _).mono ?_; rintro e w' ⟨rfl, rfl⟩)
    | (go_at_call 16; refine (GridOk_any _ _ _).mono ?_; rintro e w' ⟨rfl, rfl⟩))
  go_ret
  exact ⟨rfl, Grown.refl _⟩
end Go.Proofs.Ytbaghclblnialaa
