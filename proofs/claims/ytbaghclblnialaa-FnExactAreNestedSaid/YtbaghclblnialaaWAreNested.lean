/- The walk of the law FnExactAreNested: it returns true. -/
import Derived.Test.YtbaghclblnialaaNested
import Derived.Test.YtbaghclblnialaaEqSpots
namespace Go.Proofs.Ytbaghclblnialaa
open Go.RowKit

set_option maxHeartbeats 2000000 in
theorem walkAreNested (u : Value) (ps : List (Int × Int)) (v : Value) (qs : List (Int × Int)) (w : World) (hu : RdP w w.heap.size u ps) (hv : RdP w w.heap.size v qs) :
    Calls Try.prog 14 #[u, v] w fun e w' => e = .returned (.bool true) ∧ Below w.heap.size w w' := by
  have HU := Lib.hid hu; have HV := Lib.hid hv
  clear hu hv
  by_cases c1 : (1048576 : Int) - (ps.length : Int) < 0
  · go_enter Try.func14, Try.ntmps14
    go_wp2_with fail
    refine (szSpotS_any _ ps _ _ _ HU.out (by omega) (by omega)).mono ?_
    rintro e w' ⟨rfl, rfl⟩
    rw [show szZ (ps.length : Int) 1048576 = -1 from if_pos c1]
    go_wp2_with fail
    go_ret
    exact ⟨rfl, Below.refl _ _⟩
  · by_cases c2 : (1048576 : Int) - (ps.length : Int) - (qs.length : Int) < 0
    · go_enter Try.func14, Try.ntmps14
      go_wp2_with fail
      refine (szSpotS_any _ ps _ _ _ HU.out (by omega) (by omega)).mono ?_
      rintro e w' ⟨rfl, rfl⟩
      rw [show szZ (ps.length : Int) 1048576 = 1048576 - (ps.length : Int) from if_neg (show ¬ (1048576 : Int) - (ps.length : Int) < 0 by omega)]
      go_wp2_with fail
      refine (szSpotS_any _ qs _ _ _ HV.out (by omega) (by omega)).mono ?_
      rintro e w' ⟨rfl, rfl⟩
      rw [show szZ (qs.length : Int) (1048576 - (ps.length : Int)) = -1 from if_pos c2]
      go_wp2_with fail
      go_ret
      exact ⟨rfl, Below.refl _ _⟩
    · go_enter Try.func14, Try.ntmps14
      go_wp2_with fail
      refine (szSpotS_any _ ps _ _ _ HU.out (by omega) (by omega)).mono ?_
      rintro e w' ⟨rfl, rfl⟩
      rw [show szZ (ps.length : Int) 1048576 = 1048576 - (ps.length : Int) from if_neg (show ¬ (1048576 : Int) - (ps.length : Int) < 0 by omega)]
      go_wp2_with fail
      refine (szSpotS_any _ qs _ _ _ HV.out (by omega) (by omega)).mono ?_
      rintro e w' ⟨rfl, rfl⟩
      rw [show szZ (qs.length : Int) (1048576 - (ps.length : Int)) = 1048576 - (ps.length : Int) - (qs.length : Int) from if_neg (show ¬ (1048576 : Int) - (ps.length : Int) - (qs.length : Int) < 0 by omega)]
      go_wp2_with fail
      refine (toSpotS_any _ ps _ _ HU.out (Nat.le_refl _) (by omega)).mono ?_
      rintro e w1 ⟨v1, rfl, ho1, hb1⟩
      have hq1 := hb1
      have hs1 := hq1.size
      go_wp2_with fail
      refine (toSpotS_any _ qs _ _ (HV.out.below hq1) hs1 (by omega)).mono ?_
      rintro e w2 ⟨v2, rfl, ho2, hb2⟩
      have hq2 := hq1.trans (hb2.mono hs1)
      have hs2 := hq2.size
      go_wp2_with fail
      refine (specAreNested_any _ _ ps qs _ _ (ho1.below hb2).rd ho2.rd (Nat.le_refl _)).mono ?_
      rintro e w3 ⟨rfl, hb3⟩
      have hq3 := hq2.trans (hb3.mono hs2)
      have hs3 := hq3.size
      go_wp2_with fail
      refine (toSpotS_any _ ps _ _ (HU.out.below hq3) hs3 (by omega)).mono ?_
      rintro e w4 ⟨v4, rfl, ho4, hb4⟩
      have hq4 := hq3.trans (hb4.mono hs3)
      have hs4 := hq4.size
      go_wp2_with fail
      refine (toSpotS_any _ qs _ _ (HV.out.below hq4) hs4 (by omega)).mono ?_
      rintro e w5 ⟨v5, rfl, ho5, hb5⟩
      have hq5 := hq4.trans (hb5.mono hs4)
      have hs5 := hq5.size
      go_wp2_with fail
      refine (AreNested_any _ _ ps qs _ _ (ho4.below hb5).rd ho5.rd (Nat.le_refl _)).mono ?_
      rintro e w6 ⟨rfl, hb6⟩
      have hq6 := hq5.trans (hb6.mono hs5)
      have hs6 := hq6.size
      go_wp2_with fail
      refine (toSpotS_any _ ps _ _ (HU.out.below hq6) hs6 (by omega)).mono ?_
      rintro e w7 ⟨v7, rfl, ho7, hb7⟩
      have hq7 := hq6.trans (hb7.mono hs6)
      have hs7 := hq7.size
      go_wp2_with fail
      refine (eqSpotS_self _ _ ps _ _ _ (((ho4.below hb5).below hb6).below hb7).rd ho7.rd (Nat.le_refl _) (Nat.le_refl _)).mono ?_
      rintro e w8 ⟨rfl, hb8⟩
      have hq8 := hq7.trans (hb8.mono hs7)
      have hs8 := hq8.size
      go_wp2_with fail
      refine (toSpotS_any _ qs _ _ (HV.out.below hq8) hs8 (by omega)).mono ?_
      rintro e w9 ⟨v9, rfl, ho9, hb9⟩
      have hq9 := hq8.trans (hb9.mono hs8)
      have hs9 := hq9.size
      go_wp2_with fail
      refine (eqSpotS_self _ _ qs _ _ _ ((((ho5.below hb6).below hb7).below hb8).below hb9).rd ho9.rd (Nat.le_refl _) (Nat.le_refl _)).mono ?_
      rintro e w10 ⟨rfl, hb10⟩
      have hq10 := hq9.trans (hb10.mono hs9)
      have hs10 := hq10.size
      go_wp2_with fail
      go_ret
      exact ⟨rfl, hq10⟩
end Go.Proofs.Ytbaghclblnialaa
