/- What the claim's walk rests on: parts ClsL, WCountClasses. -/
import Derived.Test.YtehnbalbpfmijaaDoorKa12
import Derived.Test.YtehnbalbpfmijaaDoorClsSKa
namespace Go.Proofs.YtehnbalbpfmijaaDoor
open Go.RowKit
set_option linter.unusedVariables false

set_option maxRecDepth 100000 in
theorem specCountClasses_any (a : Int) (w : World) :
    Calls Tryd.prog 4 #[.int .i64 a] w fun e w' => e = .returned (.int .i64 (clsZ a)) ∧ Below w.heap.size w w' := by
  by_cases h : a = 2 ∨ a = 4
  · have e0 : clsZ a = (clsN a.toNat : Nat) := if_pos h
    rw [e0]
    rcases h with rfl | rfl
    · have h2 := specCountClasses_yes2 2 rfl w
      rw [ref_tab2] at h2
      show Calls _ _ _ _ fun e w' => e = .returned (.int .i64 ((clsN 2 : Nat) : Int)) ∧ _
      rw [cls_tab2]
      exact h2
    · have h2 := specCountClasses_yes4 4 rfl w
      rw [ref_tab4] at h2
      show Calls _ _ _ _ fun e w' => e = .returned (.int .i64 ((clsN 4 : Nat) : Int)) ∧ _
      rw [cls_tab4]
      exact h2
  · have e0 : clsZ a = -1 := if_neg h
    rw [e0]
    have f2 : (a != 2) = true := by rw [bne_iff_ne]; exact fun e => h (.inl e)
    have f4 : (a != 4) = true := by rw [bne_iff_ne]; exact fun e => h (.inr e)
    clear h e0
    go_enter Tryd.func4, Tryd.ntmps4
    go_wp2_with fail
    go_ret
    exact ⟨rfl, Below.refl _ _⟩
end Go.Proofs.YtehnbalbpfmijaaDoor

namespace Go.Proofs.YtehnbalbpfmijaaDoor
open Go.RowKit

set_option maxRecDepth 100000 in
set_option maxHeartbeats 8000000 in
theorem walkCountClasses (a0 : Int) (_ : (Lit.int .i64 a0).wf = true) (w : World) :
    Calls Tryd.prog 3 #[.int .i64 a0] w fun e w' => e = .returned (.bool true) ∧ Below w.heap.size w w' := by
  have hne_ : (clsZ a0 != clsZ a0) = false := by simp
  go_enter Tryd.func3, Tryd.ntmps3
  go_wp2_with fail
  refine (specCountClasses_any _ _).mono ?_
  rintro e w1 ⟨rfl, hb1⟩
  go_wp2_with fail
  refine (CountClasses_any _ _).mono ?_
  rintro e w2 ⟨rfl, hb2⟩
  have hq2 := hb1.trans (hb2.mono hb1.size)
  go_wp2_with fail
  go_ret
  exact ⟨rfl, hq2⟩
end Go.Proofs.YtehnbalbpfmijaaDoor
