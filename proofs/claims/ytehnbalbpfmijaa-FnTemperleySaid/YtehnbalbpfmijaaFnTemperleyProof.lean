/-
  FnTemperley returns true for every input, and each argument reads behind the call as it read before.
  No condition beyond the row's own cells.
-/
import Derived.Test.YtehnbalbpfmijaaRows
import Derived.Test.YtehnbalbpfmijaaFrame
import Derived.Test.YtehnbalbpfmijaaFrameBKt
import Derived.Test.YtehnbalbpfmijaaKt20
import Derived.ProofKit
import Derived.OpenShut
namespace Go.Proofs.Ytehnbalbpfmijaa.fnTemperley
open Go.ChangeShapes Go.WideShapes Go.ChangeAt Go.RowKit Go.Joins
set_option linter.unusedVariables false

theorem own : ownKnob Try.prog.godebug = none := by kernel_rfl
theorem cells5 : Try.prog.cellsOf 5 = 1 := by kernel_rfl

set_option maxRecDepth 100000 in
theorem lifted (os : Os) (started : os.Started) (H : Type) (enc : TypeId × Value → H) :
    ReturnsInHanded {} Try.checked os 9 .any (Rows.fnTemperleySpec.pre6 enc Try.prog Try.f9 Rows.fnTemperleyRow.domain false) (Rows.fnTemperleySpec.post enc Try.prog Try.f9 false true false false) := by
  refine returnsInHanded_of_change (C := Try.checked) own started (by kernel_rfl) Try.func9
    (ChangeSpec.witness6 (enc := enc) (C := Try.checked) false ⟨#[], #[.slice none 0 0], []⟩ 8 (by kernel_rfl) (by kernel_rfl) (by kernel_rfl) (by kernel_rfl)) ?_
  intro W base args ds gs before hval0 hW hcnd _
  have hval : ∀ (j : Nat) t v, Try.f9.params[j]? = some t → args[j]? = some v → Value.okWide Try.prog W .any base t v := hval0
  have hW' := hW
  obtain ⟨p, q, hA0, hV, rfl, hfz, hnd⟩ := hW
  have hA : DataW.TrodAll enc Try.prog W 0 (fun _ => true) true Try.f9.params.toList args.toList ds p := hA0
  rw [Try.params9] at hA hval
  obtain ⟨v0, vs0, d0, ds0, p0, q0, hargs, rfl, rfl, h0, r0⟩ := trodAll_cons hA
  obtain ⟨rfl, rfl, rfl⟩ := trodAll_nil r0
  obtain rfl : args = #[v0] := by cases args; simp_all
  obtain ⟨rfl, rfl⟩ := trodVars_none hV
  obtain ⟨zs0, rd0⟩ := open_byteS Try.underlying24 Try.underlying5 cells5 (hval 0 24 v0 rfl rfl) h0
  clear hA0 hval0 hA hval
  refine (walkFnTemperley _ zs0 W rd0).mono fun e W' ⟨he, hb⟩ => ?_
  subst he
  exact ⟨_, rfl, law_post (tb := 4) (by kernel_rfl) Try.underlying4 rfl rfl (by kernel_rfl) hW' rfl hb⟩

theorem over : Rows.fnTemperleyRow.holds Try.pinned (OpenSpec.ofChange Rows.fnTemperleySpec) :=
  OpenClaim.holds_of_wide 9 Try.f9 rfl rfl rfl rfl rfl rfl rfl ⟨rfl, rfl, rfl, rfl, rfl⟩ rfl rfl rfl rfl rfl (by kernel_rfl) Try.func9 (by kernel_rfl)
    (of_decide_eq_true (by kernel_rfl)) (by unfold Func.isWrapper; first | (rw [if_pos (by decide +kernel)]; kernel_rfl) | (rw [if_neg (by decide +kernel)]; exact ⟨rfl, rfl⟩))
    (fun os started H enc _ => lifted os started H enc)

/-- The statement. -/
theorem proved : Rows.FnTemperleySaid :=
  over
#print axioms proved
end Go.Proofs.Ytehnbalbpfmijaa.fnTemperley
