/- What a law's walk owns, each in an interval of blocks. No function of the program is named here. -/
import Derived.Test.YtiecphhenpapoaaFlat
import Derived.Test.YtiecphhenpapoaaAft
namespace Go.Proofs.Ytiecphhenpapoaa
open Go.RowKit

def OF {α : Type} (E : El α) (w : World) (lo hi : Nat) (v : Value) (xs : List α) : Prop := OwnF E w lo v xs ∧ ∀ k, v.ownBlock = some k → k < hi
section
variable {α : Type} {E : El α} {w w' : World} {lo hi a b : Nat} {v : Value} {xs ys : List α}
theorem OF.of (h : OwnF E w lo v xs) : OF E w lo w.heap.size v xs := ⟨h, fun k hk => (h.lt k hk).2⟩
theorem OF.aft (h : OF E w lo hi v xs) (hb : Aft a b w w') (hh : hi ≤ a ∨ b ≤ lo) : OF E w' lo hi v xs :=
  ⟨hb.row h.1 fun k hk => by have := h.2 k hk; have := (h.1.lt k hk).1; omega, h.2⟩
theorem OF.below (h : OF E w lo hi v xs) (hb : Below w.heap.size w w') : OF E w' lo hi v xs := h.aft (Aft.ofBelow (lo := 0) (hi := 0) hb) (.inr (Nat.zero_le _))
theorem OF.mark (h : OF E w lo hi v xs) (hg : w.grownBy w' v.ownBlock) : Aft lo hi w w' := Aft.ofGrown hg fun k hk => ⟨(h.1.lt k hk).1, h.2 k hk⟩
theorem OF.set (h : OF E w lo hi v xs) (h2 : OwnF E w' lo v ys) : OF E w' lo hi v ys := ⟨h2, h.2⟩
end
end Go.Proofs.Ytiecphhenpapoaa
