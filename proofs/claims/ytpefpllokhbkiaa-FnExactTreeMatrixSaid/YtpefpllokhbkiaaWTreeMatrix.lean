/- The walk of the law FnExactTreeMatrix: it returns true. -/
import Derived.Test.YtpefpllokhbkiaaTreeM2
import Derived.Test.YtpefpllokhbkiaaMarkSS
import Derived.Test.YtpefpllokhbkiaaEqSS
namespace Go.Proofs.Ytpefpllokhbkiaa
open Go.RowKit

theorem flatTo_le (zss : List (List Int)) (m : Nat) (h : ∀ i, i < zss.length → (rw' zss i).length ≤ m) : ∀ n, n ≤ zss.length → flatTo zss n ≤ n * m
  | 0, _ => Nat.zero_le _
  | n + 1, hn => by
    have h1 := flatTo_le zss m h n (by omega)
    have h2 := h n (by omega)
    have h3 : (n + 1) * m = n * m + m := Nat.succ_mul n m
    rw [flatTo]; omega
theorem treeZ_tab : ((List.range 5).all fun w => (List.range 5).all fun h => w == 0 || h == 0 || decide ((treeZ w h).length ≤ 15 ∧ flatTo (treeZ w h) (treeZ w h).length ≤ 225)) = true := by decide +kernel
theorem treeZ_bd (a b : Int) : (treeZ a b).length ≤ 1048576 ∧ flatTo (treeZ a b) (treeZ a b).length ≤ 1048576 := by
  cases hg : gridB a b
  · simp [treeZ, hg, flatTo]
  · have hb := (gridB_iff _ _).1 hg
    obtain ⟨n, rfl⟩ := Int.eq_ofNat_of_zero_le (show 0 ≤ a by omega)
    obtain ⟨m, rfl⟩ := Int.eq_ofNat_of_zero_le (show 0 ≤ b by omega)
    have h := all2 treeZ_tab n m (by omega) (by omega)
    simp only [Bool.or_eq_true, beq_iff_eq, decide_eq_true_eq] at h
    omega

set_option maxHeartbeats 4000000 in
theorem walkTreeMatrix (a0 : Int) (_ : (Lit.int .i64 a0).wf = true) (a1 : Int) (_ : (Lit.int .i64 a1).wf = true) (w : World) :
    Calls Try.prog 10 #[.int .i64 a0, .int .i64 a1] w fun e w' => e = .returned (.bool true) ∧ Below w.heap.size w w' := by
  obtain ⟨hl, hf⟩ := treeZ_bd a0 a1
  have hne : ((1 : Int) + ((flatTo (treeZ a0 a1) (treeZ a0 a1).length) : Int) != 1 + ((flatTo (treeZ a0 a1) (treeZ a0 a1).length) : Int)) = false := by simp
  go_enter Try.func10, Try.ntmps10
  go_wp2_with fail
  refine (specTreeMatrix_any _ _ _).mono ?_
  rintro e w1 ⟨v1, rfl, ho1, hb1⟩
  have hs1 := hb1.size
  have hr1 := ho1
  clear ho1
  go_wp2_with fail
  refine (TreeMatrix_any _ _ _).mono ?_
  rintro e w2 ⟨v2, hi2, rfl, ho2, hx2, hb2⟩
  have hs2 := hb2.size
  go_wp2_with fail
  refine (eqIntSS_self _ _ (treeZ a0 a1) _ _ _ ho2.rd (hr1.below hb2)).mono ?_
  rintro e w3 ⟨rfl, hd3⟩
  have ho3 := ho2.below (hd3.below _)
  have hc3 := hb2.trans (hd3.below _)
  have hs3 := hc3.size
  clear ho2
  go_wp2_with fail
  refine (markIntSS_any _ (treeZ a0 a1) _ _ 1 _ ho3 hs3 hl hf (by omega) (by omega)).mono ?_
  rintro e w4 ⟨rfl, ho4, hb4⟩
  have hc4 := hc3.trans hb4
  have hs4 := hb4.size
  clear ho3
  go_wp2_with fail
  refine (heldIntSS_any _ (treeZ a0 a1) 1 _ _ ho4.rd hl hf (by omega) (by omega)).mono ?_
  rintro e w' ⟨rfl, rfl⟩
  go_wp2_with fail
  refine (TreeMatrix_any _ _ _).mono ?_
  rintro e w5 ⟨v5, hi5, rfl, ho5, hx5, hb5⟩
  have hc5 := hc4.trans (hb5.mono (Nat.le_trans hs3 hs4))
  have ho6 := ho4.below hb5
  have hs5 := hb5.size
  clear ho4
  go_wp2_with fail
  refine (eqIntSS_self _ _ (treeZ a0 a1) _ _ _ ho5.rd (hr1.below hc5)).mono ?_
  rintro e w6 ⟨rfl, hd6⟩
  have ho7 := ho6.below (hd6.below _)
  have hc6 := hc5.trans (hd6.below _)
  clear ho6 ho5
  go_wp2_with fail
  refine (heldIntSS_any _ (treeZ a0 a1) 1 _ _ ho7.rd hl hf (by omega) (by omega)).mono ?_
  rintro e w' ⟨rfl, rfl⟩
  go_wp2_with fail
  go_ret
  exact ⟨rfl, hb1.trans (hc6.mono hs1)⟩
end Go.Proofs.Ytpefpllokhbkiaa
