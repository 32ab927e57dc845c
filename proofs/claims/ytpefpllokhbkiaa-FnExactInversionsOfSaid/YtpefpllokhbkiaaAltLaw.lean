/- Plain facts on alternating matrices: no program in sight. -/
import Derived.Test.YtpefpllokhbkiaaHeapLaw
namespace Go.Proofs.Ytpefpllokhbkiaa
open Go.RowKit

/-- The sum of the first k numbers, as a machine word. -/
def psum (zs : List Int) : Nat → Int | 0 => 0 | k + 1 => wrap64 (psum zs k + el zs k)
def byT (zs : List Int) : Bool := upFrom (fun k => inB (psum zs (k + 1)) 0 1) 0 zs.length && (psum zs zs.length == 1)
def lineB (zs : List Int) : Bool := upFrom (fun k => inB (el zs k) (-1) 1 && inB (psum zs (k + 1)) 0 1) 0 zs.length && (psum zs zs.length == 1)
/-- The k-th numbers of the first n rows. -/
def colOf (zss : List (List Int)) (k : Nat) : Nat → List Int | 0 => [] | n + 1 => colOf zss k n ++ [el (rw' zss n) k]
theorem colOf_length (zss : List (List Int)) (k n : Nat) : (colOf zss k n).length = n := by
  induction n with
  | zero => rfl
  | succ n ih => simp [colOf, ih]
theorem colOf_el (zss : List (List Int)) (k n j : Nat) (h : j < n) : el (colOf zss k n) j = el (rw' zss j) k := by
  induction n with
  | zero => omega
  | succ n ih =>
    unfold el colOf
    by_cases e : j = n
    · subst e
      rw [List.getD_eq_getElem?_getD, List.getElem?_append_right (by rw [colOf_length]; exact Nat.le_refl _), colOf_length]
      simp [el]
    · rw [List.getD_eq_getElem?_getD, List.getElem?_append_left (by rw [colOf_length]; omega)]
      have := ih (by omega)
      unfold el at this
      rw [List.getD_eq_getElem?_getD] at this
      exact this
def sqB (zss : List (List Int)) : Bool := upFrom (fun i => decide ((rw' zss i).length = zss.length) && allB (rw' zss i) (-1) 1) 0 zss.length && inB (zss.length : Int) 1 5
def altB (zss : List (List Int)) : Bool :=
  upFrom (fun i => decide ((rw' zss i).length = zss.length) && lineB (rw' zss i)) 0 zss.length && (upFrom (fun k => lineB (colOf zss k zss.length)) 0 zss.length && inB (zss.length : Int) 1 5)
def altI' (zss : List (List Int)) : Bool := sqB zss && upFrom (fun k => byT (rw' zss k) && byT (colOf zss k zss.length)) 0 zss.length
theorem lineB_iff (zs : List Int) : lineB zs = true ↔ (∀ j, j < zs.length → inB (el zs j) (-1) 1 = true) ∧ byT zs = true := by
  simp only [lineB, byT, Bool.and_eq_true, upFrom_iff, Nat.zero_le, true_implies]
  constructor
  · rintro ⟨h1, h2⟩; exact ⟨fun j hj => (h1 j hj).1, fun j hj => (h1 j hj).2, h2⟩
  · rintro ⟨h1, h2, h3⟩; exact ⟨fun j hj => ⟨h1 j hj, h2 j hj⟩, h3⟩
theorem altI_eq (zss : List (List Int)) : altI' zss = altB zss := by
  rw [Bool.eq_iff_iff]
  simp only [altI', altB, sqB, Bool.and_eq_true, upFrom_iff, Nat.zero_le, true_implies, decide_eq_true_eq, allB_up, lineB_iff, colOf_length]
  constructor
  · rintro ⟨⟨h1, h2⟩, h3⟩
    refine ⟨fun i hi => ⟨(h1 i hi).1, (h1 i hi).2, (h3 i hi).1⟩, fun k hk => ⟨fun j hj => ?_, (h3 k hk).2⟩, h2⟩
    rw [colOf_el _ _ _ _ hj]
    exact (h1 j hj).2 k (by rw [(h1 j hj).1]; exact hk)
  · rintro ⟨h1, h2, h3⟩
    exact ⟨⟨fun i hi => ⟨(h1 i hi).1, (h1 i hi).2.1⟩, h3⟩, fun k hk => ⟨(h1 k hk).2.2, (h2 k hk).2⟩⟩
theorem two_ : ∀ b1 b2 : Bool, b1 = false ∨ (b1 = true ∧ b2 = false) ∨ (b1 = true ∧ b2 = true) := by decide
theorem altB_row (zss : List (List Int)) (h : altB zss = true) : (∀ i, i < zss.length → (rw' zss i).length = zss.length) ∧ (∀ i j, i < zss.length → j < zss.length → -1 ≤ el (rw' zss i) j ∧ el (rw' zss i) j ≤ 1) ∧ 1 ≤ zss.length ∧ zss.length ≤ 5 := by
  simp only [altB, Bool.and_eq_true, upFrom_iff, Nat.zero_le, true_implies, decide_eq_true_eq, lineB_iff, inB_iff] at h
  obtain ⟨h1, h2, h3⟩ := h
  exact ⟨fun i hi => (h1 i hi).1, fun i j hi hj => (h1 i hi).2.1 j (by rw [(h1 i hi).1]; exact hj), by omega, by omega⟩
end Go.Proofs.Ytpefpllokhbkiaa
