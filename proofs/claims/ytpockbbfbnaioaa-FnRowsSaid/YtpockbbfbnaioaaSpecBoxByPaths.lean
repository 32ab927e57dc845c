/- The contract of the reference's BoxByPaths. -/
import Derived.Test.YtpockbbfbnaioaaCof
import Derived.Test.YtpockbbfbnaioaaDrawn
import Derived.Test.YtpockbbfbnaioaaBoxM
namespace Go.Proofs.Ytpockbbfbnaioaa
open Go.RowKit

theorem bmat_row2 (b c : Int) (n i : Nat) : ∀ m, i < m → rw' (bmat b c n m) i = brow b c i n := by
  intro m
  induction m with
  | zero => intro h; omega
  | succ m ih =>
    intro h
    unfold rw' at ih ⊢
    rw [bmat, List.getD_eq_getElem?_getD]
    by_cases e : i = m
    · subst e; rw [List.getElem?_append_right (by rw [bmat_length]; exact Nat.le_refl _), bmat_length]; simp
    · rw [List.getElem?_append_left (by rw [bmat_length]; omega), ← List.getD_eq_getElem?_getD]; exact ih (by omega)
theorem bmatZ_sq (a b c : Int) : (bmatZ a b c).length ≤ 3 ∧ ∀ i, i < (bmatZ a b c).length → (rw' (bmatZ a b c) i).length = (bmatZ a b c).length := by
  unfold bmatZ
  split
  · rename_i h
    have h1 := ((boxB_iff _ _ _).1 h).1
    rw [bmat_length]
    exact ⟨by omega, fun i hi => by rw [bmat_row2 _ _ _ _ _ hi, brow_length]⟩
  · exact ⟨by simp, fun i hi => by simp at hi⟩

end Go.Proofs.Ytpockbbfbnaioaa
