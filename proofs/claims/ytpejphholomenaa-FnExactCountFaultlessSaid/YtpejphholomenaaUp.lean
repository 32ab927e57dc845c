/- Plain words: a property from k up to n; an element, a row of a list. -/
import Derived.Test.YtpejphholomenaaMem
namespace Go.Proofs.Ytpejphholomenaa

/-- p holds from k up to n. -/
def upFrom (p : Nat → Bool) (k n : Nat) : Bool := (List.range' k (n - k)).all p
theorem upFrom_step (p : Nat → Bool) (k n : Nat) (h : k < n) : upFrom p k n = (p k && upFrom p (k + 1) n) := by
  unfold upFrom
  rw [show n - k = (n - (k + 1)) + 1 from by omega, List.range'_succ, List.all_cons]
theorem upFrom_end (p : Nat → Bool) (k n : Nat) (h : n ≤ k) : upFrom p k n = true := by
  unfold upFrom
  rw [show n - k = 0 from by omega]; rfl
theorem upFrom_iff (p : Nat → Bool) (k n : Nat) : upFrom p k n = true ↔ ∀ j, k ≤ j → j < n → p j = true := by
  unfold upFrom
  rw [List.all_eq_true]
  constructor
  · intro h j h1 h2; exact h j (by rw [List.mem_range'_1]; omega)
  · intro h j hj; rw [List.mem_range'_1] at hj; exact h j hj.1 (by omega)

/-- An element, a row. (Closed to simp.) -/
def el (zs : List Int) (k : Nat) : Int := zs.getD k 0
def rw' (zss : List (List Int)) (i : Nat) : List Int := zss.getD i []
theorem el_get (zs : List Int) (k : Nat) (h : k < zs.length) : el zs k = zs[k] := by simp [el, h]
theorem rw_get (zss : List (List Int)) (k : Nat) (h : k < zss.length) : rw' zss k = zss[k] := by simp [rw', h]

end Go.Proofs.Ytpejphholomenaa
