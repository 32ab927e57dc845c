/- A new row is the copy of another one (append of a whole slice to an empty one). No function of the program is named here. -/
import Derived.Test.YtiecphhenpapoaaOwnM
namespace Go.Proofs.Ytiecphhenpapoaa
open Go.RowKit

theorem RowRel.ofSrc {w wr w1 : World} {hi : Nat} {v u : Value} {zss : List (List Int)} {zs : List Int} (h : MRel w wr hi v zss) (H : Acc elInt w hi w1 u ([] ++ zs)) (hg : (wr.alloc (.cells #[] 3)).grownBy w1 (some wr.heap.size)) : RowRel w w1 hi v zss u zs := by
  obtain ⟨a1, a2, a3, a4⟩ := h.below ((Below.refl _ _).alloc (Nat.le_refl _) (.cells #[] 3))
  obtain ⟨b1, b2, b3, b4⟩ := H
  exact ⟨⟨a1.grown hg fun k hk => by obtain rfl := Option.some.inj hk; exact h.2.2.1, b2, b4, a4⟩, ownF_int.1 b1⟩
theorem flat_int (zs : List Int) : zs.flatMap elInt.f = zs.map (Value.int .i64) := by
  induction zs with
  | nil => rfl
  | cons z zs ih => rw [List.flatMap_cons, ih]; rfl
end Go.Proofs.Ytiecphhenpapoaa
