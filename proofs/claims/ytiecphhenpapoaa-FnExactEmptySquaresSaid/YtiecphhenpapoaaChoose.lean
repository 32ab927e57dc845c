/- Binomial coefficients: the program's product and the reference's agree up to 20; contracts of ChooseOf and l20Choose. -/
import Derived.Test.YtiecphhenpapoaaBasic
import Derived.IntWalk
namespace Go.Proofs.Ytiecphhenpapoaa
open Go.RowKit

def chI (n : Nat) : Nat → Nat | 0 => 1 | k+1 => chI n k * (n - k) / (k + 1)
def chS (n k : Nat) : Nat → Nat | 0 => 1 | i+1 => chS n k i * (n - k + (i + 1)) / (i + 1)
def chOk : Bool := (List.range 21).all fun n => (List.range 21).all fun k => !(decide (k ≤ n)) || (decide (chI n k = chS n k k) && decide (chI n k ≤ 200000) && (List.range 21).all fun i => !(decide (i ≤ k)) || decide (chS n k i ≤ 200000))
theorem chOk_true : chOk = true := by decide +kernel
theorem ch_facts (n k : Nat) (hn : n ≤ 20) (hk : k ≤ n) : chI n k = chS n k k ∧ chI n k ≤ 200000 ∧ ∀ i, i ≤ k → chS n k i ≤ 200000 := by
  have h := chOk_true
  unfold chOk at h
  rw [List.all_eq_true] at h
  have h1 := h n (List.mem_range.2 (by omega))
  rw [List.all_eq_true] at h1
  have h2 := h1 k (List.mem_range.2 (by omega))
  simp only [hk, decide_true, Bool.not_true, Bool.false_or, Bool.and_eq_true, decide_eq_true_eq, List.all_eq_true] at h2
  obtain ⟨⟨h3, h4⟩, h5⟩ := h2
  refine ⟨h3, h4, fun i hi => ?_⟩
  have h6 := h5 i (List.mem_range.2 (by omega))
  simpa [hi] using h6

def chooseZ (a b : Int) : Int := if inB a 0 20 && inB b 0 a then ((chI a.toNat b.toNat : Nat) : Int) else 0
theorem chooseZ_in (n k : Nat) (hn : n ≤ 20) (hk : k ≤ n) : chooseZ n k = chI n k := by
  have h1 : inB (n : Int) 0 20 = true := inB_true (by omega) (by omega)
  have h2 : inB (k : Int) 0 n = true := inB_true (by omega) (by omega)
  simp [chooseZ, h1, h2]
theorem chooseZ_le (a b : Int) : 0 ≤ chooseZ a b ∧ chooseZ a b ≤ 200000 := by
  unfold chooseZ
  split
  · rename_i h
    simp only [Bool.and_eq_true, inB_iff] at h
    obtain ⟨_, h5, _⟩ := ch_facts a.toNat b.toNat (by omega) (by omega)
    omega
  · omega

theorem inB_cases (a b : Int) : (inB a 0 20 = true ∧ inB b 0 a = true) ∨ inB a 0 20 = false ∨ (inB a 0 20 = true ∧ inB b 0 a = false) := by
  cases inB a 0 20 <;> cases inB b 0 a <;> simp
end Go.Proofs.Ytiecphhenpapoaa
