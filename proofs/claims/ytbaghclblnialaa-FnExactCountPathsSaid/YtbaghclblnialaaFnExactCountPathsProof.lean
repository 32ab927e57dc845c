/-
  FnExactCountPaths returns true for every input, and each argument reads behind the call as it read before.
  No condition beyond the row's own cells.
-/
import Derived.Test.YtbaghclblnialaaRows
import Derived.Test.YtbaghclblnialaaFrame
import Derived.Test.YtbaghclblnialaaWCountPaths
import Derived.ProofKit
import Derived.OpenShut
namespace Go.Proofs.Ytbaghclblnialaa.fnExactCountPaths
open Go.ChangeShapes Go.WideShapes Go.ChangeAt Go.RowKit Go.Joins
set_option linter.unusedVariables false

theorem own : ownKnob Try.prog.godebug = none := by kernel_rfl
theorem cells26 : Try.prog.cellsOf 26 = 2 := by kernel_rfl

set_option maxRecDepth 100000 in
theorem lifted (os : Os) (started : os.Started) (H : Type) (enc : TypeId × Value → H) :
    ReturnsInHanded {} Try.checked os 6 .any (Rows.fnExactCountPathsSpec.pre6 enc Try.prog Try.f6 Rows.fnExactCountPathsRow.domain false) (Rows.fnExactCountPathsSpec.post enc Try.prog Try.f6 false true false false) := by
  refine returnsInHanded_of_change (C := Try.checked) own started (by kernel_rfl) Try.func6
    (ChangeSpec.witness6 (enc := enc) (C := Try.checked) false ⟨#[], #[.agg #[.int .i64 0, .int .i64 0], .agg #[.int .i64 0, .int .i64 0]], []⟩ 8 (by kernel_rfl) (by kernel_rfl) (by kernel_rfl) (by kernel_rfl)) ?_
  intro W base args ds gs before hval0 hW hcnd _
  have hval : ∀ (j : Nat) t v, Try.f6.params[j]? = some t → args[j]? = some v → Value.okWide Try.prog W .any base t v := hval0
  have hW' := hW
  obtain ⟨p, q, hA0, hV, rfl, hfz, hnd⟩ := hW
  have hA : DataW.TrodAll enc Try.prog W 0 (fun _ => true) true Try.f6.params.toList args.toList ds p := hA0
  rw [Try.params6] at hA hval
  obtain ⟨v0, vs0, d0, ds0, p0, q0, hargs, rfl, rfl, h0, r0⟩ := trodAll_cons hA
  obtain ⟨v1, vs1, d1, ds1, p1, q1, rfl, rfl, rfl, h1, r1⟩ := trodAll_cons r0
  obtain ⟨rfl, rfl, rfl⟩ := trodAll_nil r1
  obtain rfl : args = #[v0, v1] := by cases args; simp_all
  obtain ⟨rfl, rfl⟩ := trodVars_none hV
  obtain ⟨c0a, c0b, y0a, y0b, m0, rfl, hd0, hp0, hy0a, hy0b⟩ := open_agg2 Try.underlying26 (by kernel_rfl) cells26 (hval 0 26 v0 rfl rfl) h0
  obtain ⟨z0a, e0a, hq0a, wz0a⟩ := DataW.trod_int Try.underlying3 hy0a
  simp at e0a
  subst e0a
  obtain ⟨z0b, e0b, hq0b, wz0b⟩ := DataW.trod_int Try.underlying3 hy0b
  simp at e0b
  subst e0b
  obtain ⟨c1a, c1b, y1a, y1b, m1, rfl, hd1, hp1, hy1a, hy1b⟩ := open_agg2 Try.underlying26 (by kernel_rfl) cells26 (hval 1 26 v1 rfl rfl) h1
  obtain ⟨z1a, e1a, hq1a, wz1a⟩ := DataW.trod_int Try.underlying3 hy1a
  simp at e1a
  subst e1a
  obtain ⟨z1b, e1b, hq1b, wz1b⟩ := DataW.trod_int Try.underlying3 hy1b
  simp at e1b
  subst e1b
  clear hA0 hval0 hA hval
  refine (walkCountPaths z0a z0b z1a z1b W).mono fun e W' ⟨he, hb⟩ => ?_
  subst he
  exact ⟨_, rfl, law_post (tb := 4) (by kernel_rfl) Try.underlying4 rfl rfl (by kernel_rfl) hW' rfl hb⟩

theorem over : Rows.fnExactCountPathsRow.holds Try.pinned (OpenSpec.ofChange Rows.fnExactCountPathsSpec) :=
  OpenClaim.holds_of_wide 6 Try.f6 rfl rfl rfl rfl rfl rfl rfl ⟨rfl, rfl, rfl, rfl, rfl⟩ rfl rfl rfl rfl rfl (by kernel_rfl) Try.func6 (by kernel_rfl)
    (of_decide_eq_true (by kernel_rfl)) (by unfold Func.isWrapper; first | (rw [if_pos (by decide +kernel)]; kernel_rfl) | (rw [if_neg (by decide +kernel)]; exact ⟨rfl, rfl⟩))
    (fun os started H enc _ => lifted os started H enc)

/-- The statement. -/
theorem proved : Rows.FnExactCountPathsSaid :=
  over
#print axioms proved
end Go.Proofs.Ytbaghclblnialaa.fnExactCountPaths
