/- The determinant by cofactors, of up to three rows: the plain function; the cells of a small matrix. -/
import Derived.Test.YtpejphholomenaaMat
import Derived.Test.YtpejphholomenaaRetM
namespace Go.Proofs.Ytpejphholomenaa
open Go.RowKit

def cof2 (m : List (List Int)) : Int := wrap64 (wrap64 (elZ m 0 0 * elZ m 1 1) - wrap64 (elZ m 0 1 * elZ m 1 0))
def minor (m : List (List Int)) (i j : Nat) : Int := wrap64 (wrap64 (elZ m 1 i * elZ m 2 j) - wrap64 (elZ m 1 j * elZ m 2 i))
def cof3 (m : List (List Int)) : Int := wrap64 (wrap64 (wrap64 (elZ m 0 0 * minor m 1 2) - wrap64 (elZ m 0 1 * minor m 0 2)) + wrap64 (elZ m 0 2 * minor m 0 1))
def cofZ (m : List (List Int)) : Int := if m.length = 1 then elZ m 0 0 else if m.length = 2 then cof2 m else if m.length = 3 then cof3 m else 0
/-- The cells of a square matrix of the call's own. -/
theorem ownM_cells {w : World} {lo hi n : Nat} {v : Value} {m : List (List Int)} (h : OwnM w lo hi v m) (hs : Shape n m) (hn : 0 < n) : ∃ g cap, v = .slice (some ⟨g, 0, none⟩) n cap ∧ n ≤ cap ∧ cap ≤ 9223372036854775807 ∧
    ∀ i, i < n → ∃ gi ci, w.cell? ⟨g, i, none⟩ = some (.slice (some ⟨gi, 0, none⟩) n ci) ∧ n ≤ ci ∧ ci ≤ 9223372036854775807 ∧ ∀ j, j < n → w.cell? ⟨gi, j, none⟩ = some (.int .i64 (elZ m i j)) := by
  obtain ⟨vs, h1, h2⟩ := id h
  obtain ⟨g, cap, hv, _, _⟩ := World.ownsRow.form h1 (by rw [hs.1]; exact hn)
  obtain ⟨A, c, e, q1, q2, _⟩ := h.rd.open_
  rw [hs.1] at hv e q1
  subst hv
  simp only [Value.slice.injEq] at e
  refine ⟨g, cap, rfl, by rw [e.2.2]; exact q1, by rw [e.2.2]; exact q2, fun i hi => ?_⟩
  have hl := hs.2 i hi
  obtain ⟨gi, ci, c1, _, c3, c4, c5, _⟩ := h.d.row (i := i) (by rw [hs.1]; exact hi) (by rw [hl]; omega)
  rw [hl] at c1 c3 c5
  exact ⟨gi, ci, c1, c3, c4, c5⟩
end Go.Proofs.Ytpejphholomenaa
