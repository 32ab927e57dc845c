/- The program's count of fault-free tilings is the reference's, at all sizes. -/
import Derived.Test.YtiecphhenpapoaaCffT
namespace Go.Proofs.Ytiecphhenpapoaa
open Go.RowKit
set_option linter.unusedVariables false

theorem cffAt_all (a b : Nat) (ha : 1 ≤ a ∧ a ≤ 6) (hb : 1 ≤ b ∧ b ≤ 6) (hn : a * b ≤ 30) : CffAt a b := by
  obtain ⟨a1, a2⟩ := ha
  obtain ⟨b1, b2⟩ := hb
  rcases (show a = 1 ∨ a = 2 ∨ a = 3 ∨ a = 4 ∨ a = 5 ∨ a = 6 by omega) with rfl | rfl | rfl | rfl | rfl | rfl <;>
    rcases (show b = 1 ∨ b = 2 ∨ b = 3 ∨ b = 4 ∨ b = 5 ∨ b = 6 by omega) with rfl | rfl | rfl | rfl | rfl | rfl <;>
    first
      | with_reducible exact cffAt11
      | with_reducible exact cffAt12
      | with_reducible exact cffAt13
      | with_reducible exact cffAt14
      | with_reducible exact cffAt15
      | with_reducible exact cffAt16
      | with_reducible exact cffAt21
      | with_reducible exact cffAt22
      | with_reducible exact cffAt23
      | with_reducible exact cffAt24
      | with_reducible exact cffAt25
      | with_reducible exact cffAt26
      | with_reducible exact cffAt31
      | with_reducible exact cffAt32
      | with_reducible exact cffAt33
      | with_reducible exact cffAt34
      | with_reducible exact cffAt35
      | with_reducible exact cffAt36
      | with_reducible exact cffAt41
      | with_reducible exact cffAt42
      | with_reducible exact cffAt43
      | with_reducible exact cffAt44
      | with_reducible exact cffAt45
      | with_reducible exact cffAt46
      | with_reducible exact cffAt51
      | with_reducible exact cffAt52
      | with_reducible exact cffAt53
      | with_reducible exact cffAt54
      | with_reducible exact cffAt55
      | with_reducible exact cffAt56
      | with_reducible exact cffAt61
      | with_reducible exact cffAt62
      | with_reducible exact cffAt63
      | with_reducible exact cffAt64
      | with_reducible exact cffAt65
      | (exfalso; omega)
theorem cff_same (a b : Int) : cffI a b = if fewB a b then findZ a.toNat b.toNat 31 0 0 else -1 := by
  unfold cffI
  cases h : fewB a b
  · rfl
  · unfold fewB at h
    simp only [Bool.and_eq_true, inB_iff, decide_eq_true_eq] at h
    obtain ⟨n, rfl⟩ := Int.eq_ofNat_of_zero_le (show 0 ≤ a by omega)
    obtain ⟨m, rfl⟩ := Int.eq_ofNat_of_zero_le (show 0 ≤ b by omega)
    have hnm : n * m ≤ 30 := by have := h.2; rw [← Int.natCast_mul] at this; omega
    rw [if_pos rfl, if_pos rfl]
    exact cffAt_all n m (by omega) (by omega) hnm
theorem specCountFaultFree_same (a b : Int) (w : World) :
    Calls Try.prog 14 #[.int .i64 a, .int .i64 b] w fun e w' => e = .returned (.int .i64 (cffI a b)) ∧ Below w.heap.size w w' := by
  rw [cff_same]; exact specCountFaultFree_any a b w
end Go.Proofs.Ytiecphhenpapoaa
