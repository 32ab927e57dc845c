/- What the call owns stays owned where another row of its own is written. -/
import Derived.Test.YtiecphhenpapoaaOwnS
namespace Go.Proofs.Ytiecphhenpapoaa
open Go.RowKit

theorem OwnI.grown {w w' : World} {lo : Nat} {v : Value} {zs : List Int} {row : Option Nat} (h : OwnI w lo v zs) (hg : w.grownBy w' row) (hne : ∀ k, v.ownBlock = some k → some k = row → False) : OwnI w' lo v zs :=
  World.ownsRow.kept h hg (by
    cases e : v.ownBlock
    · exact .inl rfl
    · exact .inr (fun e2 => hne _ e e2))
theorem rowIs_below {w w' : World} {b : Nat} {t : TypeId} {n : Nat} {f : Nat → Value} (h : w.rowIs b t n f) (hb : Below w.heap.size w w') : w'.rowIs b t n f := h.of_block (hb.block _ h.lt)
theorem rowIs_grown {w w' : World} {b : Nat} {t : TypeId} {n : Nat} {f : Nat → Value} {row : Option Nat} (h : w.rowIs b t n f) (hg : w.grownBy w' row) (hne : some b ≠ row) : w'.rowIs b t n f := h.of_block (hg.block _ h.lt hne)
end Go.Proofs.Ytiecphhenpapoaa
