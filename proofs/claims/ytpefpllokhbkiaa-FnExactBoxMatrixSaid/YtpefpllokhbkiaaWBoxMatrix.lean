/- The walk of the law FnExactBoxMatrix: it returns true. -/
import Derived.Test.YtpefpllokhbkiaaBoxM
import Derived.Test.YtpefpllokhbkiaaMarkSS
import Derived.Test.YtpefpllokhbkiaaEqSS
namespace Go.Proofs.Ytpefpllokhbkiaa
open Go.RowKit

theorem flatTo_le (zss : List (List Int)) (m : Nat) (h : ∀ i, i < zss.length → (rw' zss i).length ≤ m) : ∀ n, n ≤ zss.length → flatTo zss n ≤ n * m
  | 0, _ => Nat.zero_le _
  | n + 1, hn => by
    have h1 := flatTo_le zss m h n (by omega)
    have h2 := h n (by omega)
    have h3 : (n + 1) * m = n * m + m := Nat.succ_mul n m
    rw [flatTo]; omega
theorem bmat_row (b c : Int) (n i : Nat) : ∀ m, i < m → rw' (bmat b c n m) i = brow b c i n := by
  intro m
  induction m with
  | zero => intro h; omega
  | succ m ih =>
    intro h
    unfold rw' at ih ⊢
    rw [bmat, List.getD_eq_getElem?_getD]
    by_cases e : i = m
    · subst e; rw [List.getElem?_append_right (by rw [bmat_length]; exact Nat.le_refl _), bmat_length]; simp
    · rw [List.getElem?_append_left (by rw [bmat_length]; omega), ← List.getD_eq_getElem?_getD]; exact ih (by omega)
theorem bmatZ_bd (a b c : Int) : (bmatZ a b c).length ≤ 1048576 ∧ flatTo (bmatZ a b c) (bmatZ a b c).length ≤ 1048576 := by
  unfold bmatZ
  split
  · rename_i h
    have h1 := ((boxB_iff _ _ _).1 h).1
    have h2 := flatTo_le (bmat b c a.toNat a.toNat) 3 (fun i hi => by rw [bmat_length] at hi; rw [bmat_row _ _ _ _ _ hi, brow_length]; omega) _ (Nat.le_refl _)
    rw [bmat_length] at h2 ⊢
    omega
  · exact ⟨Nat.zero_le _, Nat.zero_le _⟩

set_option maxHeartbeats 4000000 in
theorem walkBoxMatrix (a0 : Int) (_ : (Lit.int .i64 a0).wf = true) (a1 : Int) (_ : (Lit.int .i64 a1).wf = true) (a2 : Int) (_ : (Lit.int .i64 a2).wf = true) (w : World) :
    Calls Try.prog 7 #[.int .i64 a0, .int .i64 a1, .int .i64 a2] w fun e w' => e = .returned (.bool true) ∧ Below w.heap.size w w' := by
  obtain ⟨hl, hf⟩ := bmatZ_bd a0 a1 a2
  have hne : ((1 : Int) + ((flatTo (bmatZ a0 a1 a2) (bmatZ a0 a1 a2).length) : Int) != 1 + ((flatTo (bmatZ a0 a1 a2) (bmatZ a0 a1 a2).length) : Int)) = false := by simp
  go_enter Try.func7, Try.ntmps7
  go_wp2_with fail
  refine (specBoxMatrix_any _ _ _ _).mono ?_
  rintro e w1 ⟨v1, hi1, rfl, ho1, hx1, hb1⟩
  have hs1 := hb1.size
  have hr1 := ho1.rd
  clear ho1 hx1
  go_wp2_with fail
  refine (BoxMatrix_any _ _ _ _).mono ?_
  rintro e w2 ⟨v2, hi2, rfl, ho2, hx2, hb2⟩
  have hs2 := hb2.size
  go_wp2_with fail
  refine (eqIntSS_self _ _ (bmatZ a0 a1 a2) _ _ _ ho2.rd (hr1.below hb2)).mono ?_
  rintro e w3 ⟨rfl, hd3⟩
  have ho3 := ho2.below (hd3.below _)
  have hc3 := hb2.trans (hd3.below _)
  have hs3 := hc3.size
  clear ho2
  go_wp2_with fail
  refine (markIntSS_any _ (bmatZ a0 a1 a2) _ _ 1 _ ho3 hs3 hl hf (by omega) (by omega)).mono ?_
  rintro e w4 ⟨rfl, ho4, hb4⟩
  have hc4 := hc3.trans hb4
  have hs4 := hb4.size
  clear ho3
  go_wp2_with fail
  refine (heldIntSS_any _ (bmatZ a0 a1 a2) 1 _ _ ho4.rd hl hf (by omega) (by omega)).mono ?_
  rintro e w' ⟨rfl, rfl⟩
  go_wp2_with fail
  refine (BoxMatrix_any _ _ _ _).mono ?_
  rintro e w5 ⟨v5, hi5, rfl, ho5, hx5, hb5⟩
  have hc5 := hc4.trans (hb5.mono (Nat.le_trans hs3 hs4))
  have ho6 := ho4.below hb5
  have hs5 := hb5.size
  clear ho4
  go_wp2_with fail
  refine (eqIntSS_self _ _ (bmatZ a0 a1 a2) _ _ _ ho5.rd (hr1.below hc5)).mono ?_
  rintro e w6 ⟨rfl, hd6⟩
  have ho7 := ho6.below (hd6.below _)
  have hc6 := hc5.trans (hd6.below _)
  clear ho6 ho5
  go_wp2_with fail
  refine (heldIntSS_any _ (bmatZ a0 a1 a2) 1 _ _ ho7.rd hl hf (by omega) (by omega)).mono ?_
  rintro e w' ⟨rfl, rfl⟩
  go_wp2_with fail
  go_ret
  exact ⟨rfl, hb1.trans (hc6.mono hs1)⟩
end Go.Proofs.Ytpefpllokhbkiaa
