/- The contract of the reference's IsHeap. -/
import Derived.Test.YtgehollikdbapaaQuiet
namespace Go.Proofs.Ytgehollikdbapaa
open Go.RowKit

def srowB (n : Nat) (c : Int) (up zs : List Int) (i : Nat) : Bool :=
  decide (zs.length = n) && upFrom (fun k => inB (el zs k) 0 c && !(fallB zs k || overB up zs i k)) 0 n
theorem srow_hrow (n : Nat) (c : Int) (up zs : List Int) (i : Nat) : srowB n c up zs i = hrowB n c up zs i := by
  rw [Bool.eq_iff_iff, hrowB_iff]
  simp only [srowB, Bool.and_eq_true, decide_eq_true_eq, upFrom_iff, inB_iff, Bool.not_eq_true', Bool.or_eq_false_iff, fallB_iff, overB_iff, Nat.zero_le, true_implies]
  constructor
  · rintro ⟨rfl, h⟩; exact ⟨rfl, fun j hj => (h j hj).1, fun j hj => (h j hj).2⟩
  · rintro ⟨hl, h1, h2⟩
    obtain rfl : zs.length = n := by omega
    exact ⟨rfl, fun j hj => ⟨h1 j hj, h2 j hj⟩⟩
theorem heap_srow (m n : Nat) (c : Int) (zss : List (List Int)) (hb : boxB m n c = true) (hl : zss.length = m) :
    heapB m n c zss = upFrom (fun i => srowB n c (rw' zss (i - 1)) (rw' zss i) i) 0 m := by
  subst hl
  simp only [heapB, hb, srow_hrow, Bool.true_and, decide_true]

end Go.Proofs.Ytgehollikdbapaa
