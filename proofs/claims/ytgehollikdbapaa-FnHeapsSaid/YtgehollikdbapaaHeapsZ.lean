/- All heaps of a box, as a plain function of the numbers laid so far; both sides list them so. No function of the program is named here. -/
import Derived.Test.YtgehollikdbapaaHeap
import Derived.Test.YtgehollikdbapaaRect
namespace Go.Proofs.Ytgehollikdbapaa
open Go.RowKit

/-- The greatest number that may come next. -/
def mostZ (b : Nat) (c : Int) (hd : List Int) : Int :=
  let m := if 0 < hd.length % b then min c (el hd (hd.length - 1)) else c
  if b ≤ hd.length then min m (el hd (hd.length - b)) else m
/-- The heaps that go on from a head, d numbers being left. -/
def heapsN (b : Nat) (c : Int) : Nat → List Int → List (List Int)
  | 0, hd => [hd]
  | d + 1, hd => (List.range (mostZ b c hd + 1).toNat).flatMap fun (i : Nat) => heapsN b c d (hd ++ [(i : Int)])
/-- The first m rounds of it. -/
def heapsTo (b : Nat) (c : Int) (d : Nat) (hd : List Int) (m : Nat) : List (List Int) := (List.range m).flatMap fun (i : Nat) => heapsN b c d (hd ++ [(i : Int)])
theorem heapsTo_zero (b : Nat) (c : Int) (d : Nat) (hd : List Int) : heapsTo b c d hd 0 = [] := rfl
theorem heapsTo_succ (b : Nat) (c : Int) (d : Nat) (hd : List Int) (m : Nat) : heapsTo b c d hd (m + 1) = heapsTo b c d hd m ++ heapsN b c d (hd ++ [(m : Int)]) := by
  simp [heapsTo, List.range_succ]
theorem heapsN_succ (b : Nat) (c : Int) (d : Nat) (hd : List Int) (m : Nat) (h : mostZ b c hd = (m : Int)) : heapsN b c (d + 1) hd = heapsTo b c d hd (m + 1) := by
  rw [heapsN, h]; rfl

/-- Numbers from 0 to c. -/
def InC (c : Int) (hd : List Int) : Prop := ∀ j, j < hd.length → 0 ≤ el hd j ∧ el hd j ≤ c
theorem InC.nil (c : Int) : InC c [] := fun j h => by simp at h
theorem el_app_left (hd t : List Int) (j : Nat) (h : j < hd.length) : el (hd ++ t) j = el hd j := by simp [el, List.getElem?_append_left h]
theorem el_app_last (hd : List Int) (x : Int) : el (hd ++ [x]) hd.length = x := by simp [el]
theorem InC.push {c : Int} {hd : List Int} (h : InC c hd) {x : Int} (h0 : 0 ≤ x) (h1 : x ≤ c) : InC c (hd ++ [x]) := by
  intro j hj
  simp at hj
  by_cases e : j < hd.length
  · rw [el_app_left _ _ _ e]; exact h j e
  · obtain rfl : j = hd.length := by omega
    rw [el_app_last]; exact ⟨h0, h1⟩
theorem mostZ_bd {b : Nat} {c : Int} {hd : List Int} (h : InC c hd) (hb : 0 < b) (hc : 0 ≤ c) : 0 ≤ mostZ b c hd ∧ mostZ b c hd ≤ c := by
  unfold mostZ
  have h1 : 0 < hd.length → 0 ≤ el hd (hd.length - 1) ∧ el hd (hd.length - 1) ≤ c := fun q => h _ (by omega)
  have h2 : b ≤ hd.length → 0 ≤ el hd (hd.length - b) ∧ el hd (hd.length - b) ≤ c := fun q => h _ (by omega)
  by_cases e1 : 0 < hd.length % b
  · have : 0 < hd.length := by
      rcases Nat.eq_zero_or_pos hd.length with e | e
      · rw [e] at e1; simp at e1
      · exact e
    have h1 := h1 this
    by_cases e2 : b ≤ hd.length
    · have h2 := h2 e2
      simp only [e1, e2, if_true]; omega
    · simp only [e1, e2, if_true, if_false]; omega
  · by_cases e2 : b ≤ hd.length
    · have h2 := h2 e2
      simp only [e1, e2, if_true, if_false]; omega
    · simp only [e1, e2, if_false]; omega
theorem pow4_pos (d : Nat) : 0 < 4 ^ d := Nat.pos_of_ne_zero (by simp)
theorem flat_le {α : Type} (f : Nat → List α) (k : Nat) (h : ∀ i, (f i).length ≤ k) : ∀ m, ((List.range m).flatMap f).length ≤ m * k
  | 0 => by simp
  | m + 1 => by
    have := flat_le f k h m
    have := h m
    have e : [m].flatMap f = f m := by simp
    rw [List.range_succ, List.flatMap_append, List.length_append, Nat.succ_mul, e]
    omega
/-- At most 4 go on at each place. -/
theorem heapsN_len {b : Nat} {c : Int} (hb : 0 < b) (h0 : 0 ≤ c) (h3 : c ≤ 3) : ∀ (d : Nat) (hd : List Int), mostZ b c hd ≤ 3 → (∀ hd', mostZ b c hd' ≤ 3) → (heapsN b c d hd).length ≤ 4 ^ d
  | 0, hd, _, _ => by simp [heapsN]
  | d + 1, hd, h, ha => by
    have := flat_le (fun (i : Nat) => heapsN b c d (hd ++ [(i : Int)])) (4 ^ d) (fun i => heapsN_len hb h0 h3 d _ (ha _) ha) (mostZ b c hd + 1).toNat
    rw [heapsN]
    refine Nat.le_trans this ?_
    rw [Nat.pow_succ, Nat.mul_comm (4 ^ d)]
    exact Nat.mul_le_mul_right _ (by omega)
theorem mostZ_le3 {b : Nat} {c : Int} (h3 : c ≤ 3) (hd : List Int) : mostZ b c hd ≤ 3 := by
  unfold mostZ
  by_cases e1 : 0 < hd.length % b <;> by_cases e2 : b ≤ hd.length <;> simp only [e1, e2, if_true, if_false] <;> omega
theorem heapsTo_len {b : Nat} {c : Int} (hb : 0 < b) (h0 : 0 ≤ c) (h3 : c ≤ 3) (d : Nat) (hd : List Int) (m : Nat) : (heapsTo b c d hd m).length ≤ m * 4 ^ d :=
  flat_le _ _ (fun _ => heapsN_len hb h0 h3 d _ (mostZ_le3 h3 _) (mostZ_le3 h3)) m

/-- The numbers in rows of b. -/
def rowsOf (a b : Nat) (hd : List Int) : List (List Int) := (List.range a).map fun i => (hd.drop (i * b)).take b
theorem rowsOf_shape (a b : Nat) (hd : List Int) (h : hd.length = a * b) : RShape a b (rowsOf a b hd) := by
  refine ⟨by simp [rowsOf], fun i hi => ?_⟩
  have : (i + 1) * b ≤ a * b := Nat.mul_le_mul_right _ hi
  rw [Nat.succ_mul] at this
  simp [rowsOf, rw', hi]; omega
theorem rowsOf_el (a b : Nat) (hd : List Int) (i k : Nat) (hi : i < a) (hk : k < b) : el (rw' (rowsOf a b hd) i) k = el hd (i * b + k) := by
  simp [rowsOf, rw', hi, el, hk]
/-- All heaps of a box. -/
def allHeaps (a b : Nat) (c : Int) : List (List (List Int)) := (heapsN b c (a * b) []).map (rowsOf a b)
end Go.Proofs.Ytgehollikdbapaa
