/- The plain law of FnFamilies: the drawn starts and ends, and the paths of one square. -/
import Derived.Test.YtpejphholomenaaDrawNest
import Derived.Test.YtpejphholomenaaFam2
import Derived.Test.YtpejphholomenaaPathD
import Derived.Test.YtpejphholomenaaNested
namespace Go.Proofs.Ytpejphholomenaa
open Go.RowKit

def famChk (m a b e1 e2 : Int) : Bool :=
  nestedB (dnA m e1 e2) (dnB m a b) && spotsOkB (dnA m e1 e2) (dnB m a b) && decide (0 ≤ cfZ (dnA m e1 e2) (dnB m a b)) && decide (cfZ (dnA m e1 e2) (dnB m a b) = cofZ (pmZ (dnA m e1 e2) (dnB m a b)))
def famTab : Bool := [1, 2, 3].all fun m => [0, 1, 2].all fun a => [0, 1, 2].all fun b => [0, 1].all fun e1 => [0, 1].all fun e2 => (decide (m = 3) && (decide (e1 = 1) || decide (e2 = 1))) || famChk m a b e1 e2
theorem famTab_true : famTab = true := by decide +kernel
theorem fam_facts {m a b e1 e2 : Int} (h : NestOk m a b e1 e2) : nestedB (dnA m e1 e2) (dnB m a b) = true ∧ spotsOkB (dnA m e1 e2) (dnB m a b) = true ∧ 0 ≤ cfZ (dnA m e1 e2) (dnB m a b) ∧ cfZ (dnA m e1 e2) (dnB m a b) = cofZ (pmZ (dnA m e1 e2) (dnB m a b)) := by
  obtain ⟨m1, m3, a0, a2, b0, b2, h1, h2⟩ := h
  have ht := famTab_true
  unfold famTab at ht
  simp only [List.all_eq_true, Bool.or_eq_true, Bool.and_eq_true, decide_eq_true_eq] at ht
  have hm : m ∈ ([1, 2, 3] : List Int) := by simp; omega
  have ha : a ∈ ([0, 1, 2] : List Int) := by simp; omega
  have hb : b ∈ ([0, 1, 2] : List Int) := by simp; omega
  have he1 : e1 ∈ ([0, 1] : List Int) := by simp; omega
  have he2 : e2 ∈ ([0, 1] : List Int) := by simp; omega
  rcases ht m hm a ha b hb e1 he1 e2 he2 with ⟨q1, q2⟩ | q
  · omega
  · unfold famChk at q
    simp only [Bool.and_eq_true, decide_eq_true_eq] at q
    exact ⟨q.1.1.1, q.1.1.2, q.1.2, q.2⟩
def pasChk (sx sy dx dy : Int) : Bool :=
  decide (pathsZ sx sy (sx + 1 + dx) (sy + 1 + dy) = pathsZ (sx + 1) sy (sx + 1 + dx) (sy + 1 + dy) + pathsZ sx (sy + 1) (sx + 1 + dx) (sy + 1 + dy)) && decide (pathsZ sx sy sx sy = 1)
def pasTab : Bool := [0, 1, 2, 3, 4].all fun x => [0, 1, 2, 3, 4].all fun y => [0, 1, 2].all fun a => [0, 1, 2].all fun b => pasChk x y a b
theorem pasTab_true : pasTab = true := by decide +kernel
theorem pas_facts {x y a b : Int} (hx : 0 ≤ x ∧ x ≤ 4) (hy : 0 ≤ y ∧ y ≤ 4) (ha : 0 ≤ a ∧ a ≤ 2) (hb : 0 ≤ b ∧ b ≤ 2) :
    pathsZ x y (x + 1 + a) (y + 1 + b) = pathsZ (x + 1) y (x + 1 + a) (y + 1 + b) + pathsZ x (y + 1) (x + 1 + a) (y + 1 + b) ∧ pathsZ x y x y = 1 := by
  have ht := pasTab_true
  unfold pasTab at ht
  simp only [List.all_eq_true] at ht
  have h1 : x ∈ ([0, 1, 2, 3, 4] : List Int) := by simp; omega
  have h2 : y ∈ ([0, 1, 2, 3, 4] : List Int) := by simp; omega
  have h3 : a ∈ ([0, 1, 2] : List Int) := by simp; omega
  have h4 : b ∈ ([0, 1, 2] : List Int) := by simp; omega
  have q := ht x h1 y h2 a h3 b h4
  unfold pasChk at q
  simp only [Bool.and_eq_true, decide_eq_true_eq] at q
  exact q
/-- One number of the matrix of paths. -/
theorem pm_diag {ps qs : List (Int × Int)} (h : spotsOkB ps qs = true) {k : Nat} (hk : k < ps.length) : el (rw' (pmZ ps qs) k) k = pathsZ (px ps k) (py ps k) (px qs k) (py qs k) := by
  have hl := spotsOk_len h
  unfold pmZ
  rw [if_pos h]
  simp [pmAll, rw', hk, pmRow, el, show k < qs.length by omega]
theorem pm_shape {ps qs : List (Int × Int)} (h : spotsOkB ps qs = true) : (pmZ ps qs).length = ps.length ∧ ∀ k, k < ps.length → (rw' (pmZ ps qs) k).length = ps.length := by
  have hl := spotsOk_len h
  unfold pmZ
  rw [if_pos h]
  refine ⟨by simp [pmAll], fun k hk => ?_⟩
  simp [pmAll, rw', hk, pmRow]; omega
end Go.Proofs.Ytpejphholomenaa
