/- Contracts of CountTrees of the program and of the reference. -/
import Derived.Test.YtiecphhenpapoaaTreeM2
import Derived.Test.YtiecphhenpapoaaDet
import Derived.Test.YtiecphhenpapoaaSDet
namespace Go.Proofs.Ytiecphhenpapoaa
open Go.RowKit

theorem trees_tab : ((List.range 5).all fun w => (List.range 5).all fun h => w == 0 || h == 0 || (decide ((treeZ w h).length ≤ 15) && (List.range 16).all (fun i => !decide (i < (treeZ w h).length) || decide ((rw' (treeZ w h) i).length = (treeZ w h).length)) &&
    detZ (treeZ w h) == sdetZ (treeZ w h))) = true := by decide +kernel
theorem trees_facts (n m : Nat) (hg : gridB n m = true) : (treeZ n m).length ≤ 15 ∧ (∀ i, i < (treeZ n m).length → (rw' (treeZ n m) i).length = (treeZ n m).length) ∧ detZ (treeZ n m) = sdetZ (treeZ n m) := by
  obtain ⟨⟨a1, a2⟩, a3, a4⟩ := (gridB_iff _ _).1 hg
  have h := all2 trees_tab n m (by omega) (by omega)
  simp only [Bool.or_eq_true, beq_iff_eq, Bool.and_eq_true, List.all_eq_true, decide_eq_true_eq, Bool.not_eq_true', decide_eq_false_iff_not] at h
  rcases h with (h | h) | ⟨⟨h1, h2⟩, h3⟩
  · omega
  · omega
  · refine ⟨h1, fun i hi => ?_, h3⟩
    rcases h2 i (by simp; omega) with h2 | h2
    · exact absurd hi h2
    · exact h2
def countTreesZ (a b : Int) : Int := if gridB a b then sdetZ (treeZ a b) else 0

theorem CountTrees_any (a b : Int) (w : World) :
    Calls Try.prog 30 #[.int .i64 a, .int .i64 b] w fun e w' => e = .returned (.int .i64 (countTreesZ a b)) ∧ Below w.heap.size w w' := by
  cases hg : gridB a b
  · have e0 : countTreesZ a b = 0 := by simp [countTreesZ, hg]
    rw [e0]; clear e0
    go_enter Try.func30, Try.ntmps30
    go_wp2_with fail
    refine (GridOk_any _ _ _).mono ?_
    rintro e w1 ⟨rfl, rfl⟩
    rw [hg]
    go_wp2_with fail
    go_ret
    exact ⟨rfl, Below.refl _ _⟩
  · have hb := (gridB_iff _ _).1 hg
    obtain ⟨n, rfl⟩ := Int.eq_ofNat_of_zero_le (show 0 ≤ a by omega)
    obtain ⟨m, rfl⟩ := Int.eq_ofNat_of_zero_le (show 0 ≤ b by omega)
    obtain ⟨t1, t2, t3⟩ := trees_facts n m hg
    have T2 := Lib.hid t2
    have T3 : Hid (detZ (treeZ n m) = countTreesZ n m) := by unfold Hid; rw [t3, countTreesZ, if_pos hg]
    clear t2 t3
    generalize countTreesZ n m = r at *
    generalize ht : treeZ n m = t at *
    have HT := Lib.hid ht; clear ht
    go_enter Try.func30, Try.ntmps30
    go_wp2_with fail
    refine (GridOk_any _ _ _).mono ?_
    rintro e w1 ⟨rfl, rfl⟩
    rw [hg]
    go_wp2_with fail
    refine (TreeMatrix_any _ _ _).mono ?_
    rintro e w2 ⟨v, hi, rfl, ho, hx, hb2⟩
    rw [HT.out] at ho
    have hr := ho.rd
    clear ho
    go_wp2_with fail
    refine (determinant_any _ t _ _ hr (Nat.le_refl _) (by omega) T2.out).mono ?_
    rintro e w3 ⟨rfl, hb3⟩
    go_wp2_with fail
    go_ret
    exact ⟨ret_int T3.out, hb2.trans (hb3.mono hb2.size)⟩

end Go.Proofs.Ytiecphhenpapoaa
