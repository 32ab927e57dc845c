/- What the law FnTrees says of the plain functions. -/
import Derived.Test.YtiecphhenpapoaaDrawTL
import Derived.Test.YtiecphhenpapoaaTrees
import Derived.Test.YtiecphhenpapoaaCountTrees
namespace Go.Proofs.Ytiecphhenpapoaa
open Go.RowKit
set_option linter.unusedVariables false

theorem few_tab : ((List.range 4).all fun a => (List.range 3).all fun b => a == 0 || b == 0 || (decide (((listTZ a b).length : Int) = countTreesZ a b) && decide (0 < (listTZ a b).length) && decide ((listTZ a b).length ≤ 1000) && (listTZ a b).all (fun l => treeB a b l))) = true := by decide +kernel
theorem few_facts (a b : Nat) (ha : 1 ≤ a ∧ a ≤ 3) (hb : 1 ≤ b ∧ b ≤ 2) : ((listTZ a b).length : Int) = countTreesZ a b ∧ 0 < (listTZ a b).length ∧ (listTZ a b).length ≤ 1000 ∧ ∀ l ∈ listTZ a b, treeB a b l = true := by
  have h := all2 few_tab a b (by omega) (by omega)
  have h1 : (a == 0) = false := by simp; omega
  have h2 : (b == 0) = false := by simp; omega
  rw [h1, h2] at h
  simp only [Bool.false_or, Bool.and_eq_true, decide_eq_true_eq, List.all_eq_true] at h
  exact ⟨h.1.1.1, h.1.1.2, h.1.2, h.2⟩
theorem sym_tab : ((List.range 5).all fun a => (List.range 5).all fun b => a == 0 || b == 0 || (decide (countTreesZ a b = countTreesZ b a) && decide (1 ≤ countTreesZ a b) && decide (((linksZ a b).length : Int) = 2 * a * b - a - b) && decide (((treeZ a b).length : Int) = a * b - 1))) = true := by decide +kernel
theorem sym_facts (a b : Nat) (hg : gridB a b = true) : countTreesZ a b = countTreesZ b a ∧ 1 ≤ countTreesZ a b ∧ ((linksZ a b).length : Int) = 2 * a * b - a - b ∧ ((treeZ a b).length : Int) = a * b - 1 := by
  have hb := (gridB_iff _ _).1 hg
  have h := all2 sym_tab a b (by omega) (by omega)
  have h1 : (a == 0) = false := by simp; omega
  have h2 : (b == 0) = false := by simp; omega
  rw [h1, h2] at h
  simp only [Bool.false_or, Bool.and_eq_true, decide_eq_true_eq] at h
  exact ⟨h.1.1.1, h.1.1.2, h.1.2, h.2⟩
theorem big_count : countTreesZ 4 4 = 100352 := by decide +kernel
theorem tree_len {a b : Int} {ls : List Lk} (h : treeB a b ls = true) : (ls.length : Int) = a * b - 1 := by
  unfold treeB at h
  simp only [Bool.and_eq_true, decide_eq_true_eq] at h
  exact h.2.1
theorem tree_cut {a b : Int} {ls : List Lk} (h : treeB a b ls = true) (h0 : ls.length ≠ 0) : treeB a b (ls.drop 1) = false := by
  have := tree_len h
  exact treeB_len (by rw [List.length_drop]; omega)
end Go.Proofs.Ytiecphhenpapoaa
