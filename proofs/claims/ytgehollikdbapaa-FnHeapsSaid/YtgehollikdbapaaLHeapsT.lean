/- The reference's ListHeaps, whole; how many heaps there are. -/
import Derived.Test.YtgehollikdbapaaLHeapsS
import Derived.Test.YtgehollikdbapaaNum
import Derived.Test.YtgehollikdbapaaMarkSS
namespace Go.Proofs.Ytgehollikdbapaa
open Go.RowKit
set_option linter.unusedVariables false

/-! ### How many there are -/
theorem heaps_tab : ((List.range 4).all fun a => (List.range 4).all fun b => (List.range 4).all fun c => decide ((allHeaps a b (c : Int)).length ≤ 1000)) = true := by decide +kernel
theorem listHZ_len (a b c : Int) : (listHZ a b c).length ≤ 1000 := by
  unfold listHZ
  split
  · rename_i hg
    have hb := (boxB_iff _ _ _).1 hg
    have h := heaps_tab
    simp only [List.all_eq_true, List.mem_range, decide_eq_true_eq] at h
    have := h a.toNat (by omega) b.toNat (by omega) c.toNat (by omega)
    rw [Int.toNat_of_nonneg (by omega)] at this
    exact this
  · simp
def szMM' (m : List (List Int)) : Nat := flatTo m m.length
theorem flat_le' (b : Nat) (m : List (List Int)) (h : ∀ i, i < m.length → (rw' m i).length ≤ b) : ∀ n, n ≤ m.length → flatTo m n ≤ n * b
  | 0, _ => by simp [flatTo]
  | n + 1, hn => by
    have := flat_le' b m h n (by omega)
    have := h n (by omega)
    rw [flatTo, Nat.succ_mul]; omega
theorem listHZ_mem (a b c : Int) : ∀ m ∈ listHZ a b c, m.length ≤ 3 ∧ flatTo m m.length ≤ 9 := by
  intro m hm
  unfold listHZ at hm
  split at hm
  · rename_i hg
    have hb := (boxB_iff _ _ _).1 hg
    unfold allHeaps at hm
    obtain ⟨hd, _, rfl⟩ := List.mem_map.1 hm
    have hl : (rowsOf a.toNat b.toNat hd).length = a.toNat := by simp [rowsOf]
    refine ⟨by omega, ?_⟩
    have := flat_le' b.toNat (rowsOf a.toNat b.toNat hd) (fun i hi => by
      rw [hl] at hi
      simp [rowsOf, rw', hi]; omega) _ (Nat.le_refl _)
    rw [hl] at this ⊢
    have h2 : a.toNat * b.toNat ≤ 3 * 3 := Nat.mul_le_mul (by omega) (by omega)
    omega
  · simp at hm
theorem cnt_le {α : Type} (sz : α → Nat) (xs : List α) (k : Nat) (h : ∀ x ∈ xs, sz x ≤ k) : ∀ n, n ≤ xs.length → cntTo sz xs n ≤ n * k
  | 0, _ => by simp [cntTo]
  | n + 1, hn => by
    have := cnt_le sz xs k h n (by omega)
    have := h _ (List.getElem_mem (show n < xs.length by omega))
    rw [cntTo_succ _ _ (by omega), Nat.succ_mul]; omega
end Go.Proofs.Ytgehollikdbapaa
