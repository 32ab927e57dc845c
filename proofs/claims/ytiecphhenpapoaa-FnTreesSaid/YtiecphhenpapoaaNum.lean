/- Marks over slices of slices: how many numbers stand ahead, and the marked list. No function of the program is named here. -/
import Derived.Test.YtiecphhenpapoaaOwnM
namespace Go.Proofs.Ytiecphhenpapoaa
open Go.RowKit

section
variable {α : Type} (sz : α → Nat) (mk : Int → α → α)
/-- How many numbers stand ahead of the i-th element. -/
def cntTo (xs : List α) : Nat → Nat
  | 0 => 0
  | i + 1 => cntTo xs i + (xs[i]?.elim 0 sz)
/-- The first j elements marked. -/
def mixN (k : Int) (xs : List α) (j : Nat) : List α := xs.mapIdx fun i x => if i < j then mk (k + (cntTo sz xs i : Int)) x else x
def iotaN (k : Int) (xs : List α) : List α := xs.mapIdx fun i x => mk (k + (cntTo sz xs i : Int)) x
variable {sz mk}
theorem cntTo_mono (xs : List α) (i : Nat) : ∀ n, i ≤ n → cntTo sz xs i ≤ cntTo sz xs n := by
  intro n
  induction n with
  | zero => intro h; obtain rfl : i = 0 := by omega
            exact Nat.le_refl _
  | succ n ih => intro h
                 by_cases e : i = n + 1
                 · subst e; exact Nat.le_refl _
                 · exact Nat.le_trans (ih (by omega)) (Nat.le_add_right _ _)
theorem cntTo_succ (xs : List α) (i : Nat) (h : i < xs.length) : cntTo sz xs (i + 1) = cntTo sz xs i + sz xs[i] := by
  simp [cntTo, h]
theorem mixN_length (k : Int) (xs : List α) (j : Nat) : (mixN sz mk k xs j).length = xs.length := by simp [mixN]
theorem iotaN_length (k : Int) (xs : List α) : (iotaN sz mk k xs).length = xs.length := by simp [iotaN]
theorem mixN_at (k : Int) (xs : List α) (j : Nat) (h : j < xs.length) : (mixN sz mk k xs j)[j]? = some xs[j] := by simp [mixN, h]
theorem iotaN_at (k : Int) (xs : List α) (j : Nat) (h : j < xs.length) : (iotaN sz mk k xs)[j]? = some (mk (k + (cntTo sz xs j : Int)) xs[j]) := by simp [iotaN, h]
theorem mixN_zero (k : Int) (xs : List α) : mixN sz mk k xs 0 = xs := by
  apply List.ext_getElem
  · simp [mixN]
  · intro i h1 h2; simp [mixN]
theorem mixN_all (k : Int) (xs : List α) : mixN sz mk k xs xs.length = iotaN sz mk k xs := by
  apply List.ext_getElem
  · simp [mixN, iotaN]
  · intro i h1 h2
    have : i < xs.length := by simpa [iotaN] using h2
    simp [mixN, iotaN, this]
theorem mixN_set (k : Int) (xs : List α) (j : Nat) (h : j < xs.length) : (mixN sz mk k xs j).set j (mk (k + (cntTo sz xs j : Int)) xs[j]) = mixN sz mk k xs (j + 1) := by
  apply List.ext_getElem
  · simp [mixN]
  · intro i h1 h2
    rw [List.getElem_set]
    by_cases e : j = i
    · subst e; simp [mixN]
    · by_cases e2 : i < j
      · simp [mixN, e, e2, show i < j + 1 by omega]
      · simp [mixN, e, e2, show ¬ i < j + 1 by omega]
end
theorem RdN.open_ {α : Type} {R : World → Nat → Value → α → Prop} {w : World} {B : Nat} {v : Value} {xs : List α} (h : RdN R w B v xs) : ∃ A c, v = .slice A xs.length c ∧ xs.length ≤ c ∧ c ≤ maxLen ∧ ∀ i, (hi : i < xs.length) → ∃ (ad : Addr) (s : Sl), A = some ad ∧ ad.block < B ∧ w.cell? (ad.add i) = some (slV s) ∧ R w B (slV s) xs[i] := by
  obtain ⟨A, c, e, h1, h2, h3⟩ := h
  exact ⟨A, c, e, h1, h2, fun i hi => h3 i _ (List.getElem?_eq_getElem hi)⟩
end Go.Proofs.Ytiecphhenpapoaa
