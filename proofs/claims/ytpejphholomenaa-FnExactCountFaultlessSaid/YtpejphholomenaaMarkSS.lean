/- Contracts of markIntSS and heldIntSS. -/
import Derived.Test.YtpejphholomenaaOwnM
import Derived.Test.YtpejphholomenaaMarkS
namespace Go.Proofs.Ytpejphholomenaa
open Go.RowKit

/-- How many numbers stand ahead of the i-th row. -/
def flatTo (zss : List (List Int)) : Nat → Nat | 0 => 0 | i + 1 => flatTo zss i + (rw' zss i).length
theorem flatTo_mono (zss : List (List Int)) (i : Nat) : ∀ n, i ≤ n → flatTo zss i ≤ flatTo zss n := by
  intro n
  induction n with
  | zero => intro h; obtain rfl : i = 0 := by omega
            exact Nat.le_refl _
  | succ n ih => intro h
                 by_cases e : i = n + 1
                 · subst e; exact Nat.le_refl _
                 · exact Nat.le_trans (ih (by omega)) (Nat.le_add_right _ _)
/-- The first j rows marked. -/
def mixSS (k : Int) (zss : List (List Int)) (j : Nat) : List (List Int) := (List.range zss.length).map fun i => if i < j then iota (k + (flatTo zss i : Int)) (rw' zss i).length else rw' zss i
def iotaSS (k : Int) (zss : List (List Int)) : List (List Int) := (List.range zss.length).map fun i => iota (k + (flatTo zss i : Int)) (rw' zss i).length
theorem mixSS_length (k : Int) (zss : List (List Int)) (j : Nat) : (mixSS k zss j).length = zss.length := by simp [mixSS]
theorem iotaSS_length (k : Int) (zss : List (List Int)) : (iotaSS k zss).length = zss.length := by simp [iotaSS]
theorem mixSS_row (k : Int) (zss : List (List Int)) (j : Nat) (h : j < zss.length) : rw' (mixSS k zss j) j = rw' zss j := by simp [rw', mixSS, h]
theorem iotaSS_row (k : Int) (zss : List (List Int)) (j : Nat) (h : j < zss.length) : rw' (iotaSS k zss) j = iota (k + (flatTo zss j : Int)) (rw' zss j).length := by simp [rw', iotaSS, h]
theorem mixSS_zero (k : Int) (zss : List (List Int)) : mixSS k zss 0 = zss := by
  apply List.ext_getElem
  · simp [mixSS]
  · intro i h1 h2; simp [mixSS, rw', h2]
theorem mixSS_all (k : Int) (zss : List (List Int)) : mixSS k zss zss.length = iotaSS k zss := by
  unfold mixSS iotaSS
  apply List.map_congr_left
  intro i hi
  rw [if_pos (by simpa using hi)]
theorem mixSS_set (k : Int) (zss : List (List Int)) (j : Nat) (_h : j < zss.length) : (mixSS k zss j).set j (iota (k + (flatTo zss j : Int)) (rw' zss j).length) = mixSS k zss (j + 1) := by
  apply List.ext_getElem
  · simp [mixSS]
  · intro i h1 h2
    rw [List.getElem_set]
    by_cases e : j = i
    · subst e; simp [mixSS]
    · by_cases e2 : i < j
      · simp [mixSS, e, e2, show i < j + 1 by omega]
      · simp [mixSS, e, e2, show ¬ i < j + 1 by omega]

def MarkSSPostA (w : World) (lo hi : Nat) (v : Value) (zss : List (List Int)) (k : Int) (e : Ending) (w' : World) : Prop :=
  e = .returned (.int .i64 (k + (flatTo zss zss.length : Int))) ∧ OwnM w' lo hi v (iotaSS k zss) ∧ Aft lo hi w w'
def MarkSSPost (w : World) (lo hi : Nat) (v : Value) (zss : List (List Int)) (k : Int) (e : Ending) (w' : World) : Prop :=
  e = .returned (.int .i64 (k + (flatTo zss zss.length : Int))) ∧ OwnM w' lo hi v (iotaSS k zss) ∧ Below lo w w'

end Go.Proofs.Ytpejphholomenaa
