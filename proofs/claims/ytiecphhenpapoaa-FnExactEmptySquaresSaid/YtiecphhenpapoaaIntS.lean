/- Contracts of the laws' helpers over []int: szIntS, eqIntS, heldIntS (they read), toIntS (a copy in a new block), markIntS (it writes). -/
import Derived.Test.YtiecphhenpapoaaInts
import Derived.Laws.MakeOwn
namespace Go.Proofs.Ytiecphhenpapoaa
open Go.RowKit

def szZ (n left : Int) : Int := if left - n < 0 then -1 else left - n

theorem beq_drop (xs ys : List Int) (k : Nat) (h1 : k < xs.length) (h2 : k < ys.length) : (xs.drop k == ys.drop k) = (xs[k] == ys[k] && xs.drop (k + 1) == ys.drop (k + 1)) := by
  rw [List.drop_eq_getElem_cons h1, List.drop_eq_getElem_cons h2]; rfl
theorem beq_len (xs ys : List Int) (h : xs.length ≠ ys.length) : (xs == ys) = false := by
  rw [beq_eq_false_iff_ne]; rintro rfl; exact h rfl

end Go.Proofs.Ytiecphhenpapoaa
