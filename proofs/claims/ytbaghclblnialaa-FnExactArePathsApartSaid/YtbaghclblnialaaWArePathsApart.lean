/- The walk of the law FnExactArePathsApart: it returns true. -/
import Derived.Test.YtbaghclblnialaaRow
import Derived.Test.YtbaghclblnialaaIntS
import Derived.Test.YtbaghclblnialaaOwnS
namespace Go.Proofs.Ytbaghclblnialaa
open Go.RowKit

theorem beq_self (zs : List Int) : (zs == zs) = true := by simp

set_option maxHeartbeats 1000000 in
theorem walkArePathsApart (a0 : Int) (_ : (Lit.int .i64 a0).wf = true) (a1 : Int) (_ : (Lit.int .i64 a1).wf = true) (u : Value) (xs : List Int) (v : Value) (ys : List Int) (w : World)
    (hu : RdI w w.heap.size u xs) (hv : RdI w w.heap.size v ys) :
    Calls Try.prog 10 #[.int .i64 a0, .int .i64 a1, u, v] w fun e w' => e = .returned (.bool true) ∧ Below w.heap.size w w' := by
  obtain ⟨A, cp, eu, h1, h2, h3⟩ := id hu
  obtain ⟨A', cp', ev, h1', h2', h3'⟩ := id hv
  unfold maxLen at h2 h2'
  have HU := Lib.hid hu; have HV := Lib.hid hv
  clear hu hv h3 h3'
  subst eu; subst ev
  by_cases c1 : (1048576 : Int) < (xs.length : Int)
  · go_enter Try.func10, Try.ntmps10
    go_wp2_with fail
    go_ret
    exact ⟨rfl, Below.refl _ _⟩
  · by_cases c2 : (1048576 : Int) < (ys.length : Int)
    · go_enter Try.func10, Try.ntmps10
      go_wp2_with fail
      go_ret
      exact ⟨rfl, Below.refl _ _⟩
    · go_enter Try.func10, Try.ntmps10
      go_wp2_with fail
      refine (toIntS_any _ xs _ _ HU.out (Nat.le_refl _) (by omega)).mono ?_
      rintro e w1 ⟨v1, rfl, ho1, hb1⟩
      go_wp2_with fail
      refine (toIntS_any _ ys _ _ (HV.out.below hb1) hb1.size (by omega)).mono ?_
      rintro e w2 ⟨v2, rfl, ho2, hb2⟩
      have hs2 := Nat.le_trans hb1.size hb2.size
      go_wp2_with fail
      refine (specArePathsApart_any _ _ _ _ xs ys _ _ ((ho1.below hb2).rd) ho2.rd (Nat.le_refl _)).mono ?_
      rintro e w3 ⟨rfl, hb3⟩
      have hq3 := (hb1.trans (hb2.mono hb1.size)).trans (hb3.mono hs2)
      have hs3 := hq3.size
      go_wp2_with fail
      refine (toIntS_any _ xs _ _ (HU.out.below hq3) hs3 (by omega)).mono ?_
      rintro e w4 ⟨v4, rfl, ho4, hb4⟩
      have hq4 := hq3.trans (hb4.mono hs3)
      have hs4 := hq4.size
      go_wp2_with fail
      refine (toIntS_any _ ys _ _ (HV.out.below hq4) hs4 (by omega)).mono ?_
      rintro e w5 ⟨v5, rfl, ho5, hb5⟩
      have hq5 := hq4.trans (hb5.mono hs4)
      have hs5 := hq5.size
      have ho4' := ho4.below hb5
      go_wp2_with fail
      refine (ArePathsApart_any _ _ _ _ xs ys _ _ ho4'.rd ho5.rd (Nat.le_refl _)).mono ?_
      rintro e w6 ⟨rfl, hb6⟩
      have hq6 := hq5.trans (hb6.mono hs5)
      have hs6 := hq6.size
      generalize apartB a0 a1 xs ys = res
      go_wp2_with fail
      refine (toIntS_any _ xs _ _ (HU.out.below hq6) hs6 (by omega)).mono ?_
      rintro e w7 ⟨v7, rfl, ho7, hb7⟩
      have hq7 := hq6.trans (hb7.mono hs6)
      have hs7 := hq7.size
      go_wp2_with fail
      refine (eqIntS_any _ _ xs xs _ _ _ ((ho4'.below hb6).below hb7).rd ho7.rd).mono ?_
      rintro e w8 ⟨rfl, hd8⟩
      have hb8 := hd8.below w7.heap.size
      have hq8 := hq7.trans (hb8.mono hs7)
      have hs8 := hq8.size
      rw [beq_self]
      go_wp2_with fail
      refine (toIntS_any _ ys _ _ (HV.out.below hq8) hs8 (by omega)).mono ?_
      rintro e w9 ⟨v9, rfl, ho9, hb9⟩
      have hq9 := hq8.trans (hb9.mono hs8)
      have hs9 := hq9.size
      go_wp2_with fail
      refine (eqIntS_any _ _ ys ys _ _ _ ((((ho5.below hb6).below hb7).below hb8).below hb9).rd ho9.rd).mono ?_
      rintro e w10 ⟨rfl, hd10⟩
      rw [beq_self]
      go_wp2_with fail
      go_ret
      exact ⟨rfl, hq9.trans (hd10.below _)⟩
end Go.Proofs.Ytbaghclblnialaa
