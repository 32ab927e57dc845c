/- The walk of the law FnExactCountFamilies: it returns true. -/
import Derived.Test.YtamnpiihkbjgnaaLFam3
import Derived.Test.YtamnpiihkbjgnaaLawII
import Derived.Test.YtamnpiihkbjgnaaOsP
namespace Go.Proofs.Ytamnpiihkbjgnaa
open Go.RowKit

set_option maxRecDepth 100000 in
set_option maxHeartbeats 8000000 in
theorem walkCountFamilies (u0 : Value) (x0 : List (Int × Int)) (u1 : Value) (x1 : List (Int × Int)) (w : World) (hu0 : RdP w w.heap.size u0 x0) (hu1 : RdP w w.heap.size u1 x1) :
    Calls Try.prog 3 #[u0, u1] w fun e w' => e = .returned (.bool true) ∧ Below w.heap.size w w' := by
  have HU0 := Lib.hid hu0
  obtain ⟨A0, c0, ev0, _⟩ := id hu0
  clear hu0 ev0
  have HU1 := Lib.hid hu1
  obtain ⟨A1, c1, ev1, _⟩ := id hu1
  clear hu1 ev1
  by_cases hneg0 : (1048576 : Int) - (x0.length : Int) < 0
  · skip
    go_enter Try.func3, Try.ntmps3
    go_wp2_with fail
    refine (szSpotS_any _ x0 _ _ _ HU0.out (by omega) (by omega)).mono ?_
    rintro e w' ⟨rfl, rfl⟩
    rw [show szZ (x0.length : Int) (1048576) = -1 from if_pos (show (1048576 : Int) - (x0.length : Int) < 0 by omega)]
    go_wp2_with fail
    go_ret
    exact ⟨rfl, Below.refl _ _⟩
  by_cases hneg1 : ((1048576) - (x0.length : Int) : Int) - (x1.length : Int) < 0
  · skip
    go_enter Try.func3, Try.ntmps3
    go_wp2_with fail
    refine (szSpotS_any _ x0 _ _ _ HU0.out (by omega) (by omega)).mono ?_
    rintro e w' ⟨rfl, rfl⟩
    rw [show szZ (x0.length : Int) (1048576) = (1048576) - (x0.length : Int) from if_neg (show ¬ (1048576 : Int) - (x0.length : Int) < 0 by omega)]
    go_wp2_with fail
    refine (szSpotS_any _ x1 _ _ _ HU1.out (by omega) (by omega)).mono ?_
    rintro e w' ⟨rfl, rfl⟩
    rw [show szZ (x1.length : Int) ((1048576) - (x0.length : Int)) = -1 from if_pos (show ((1048576) - (x0.length : Int) : Int) - (x1.length : Int) < 0 by omega)]
    go_wp2_with fail
    go_ret
    exact ⟨rfl, Below.refl _ _⟩
  have hne_ : (cfZ x0 x1 != cfZ x0 x1) = false := by simp
  go_enter Try.func3, Try.ntmps3
  go_wp2_with fail
  refine (szSpotS_any _ x0 _ _ _ HU0.out (by omega) (by omega)).mono ?_
  rintro e w' ⟨rfl, rfl⟩
  rw [show szZ (x0.length : Int) (1048576) = (1048576) - (x0.length : Int) from if_neg (show ¬ (1048576 : Int) - (x0.length : Int) < 0 by omega)]
  go_wp2_with fail
  refine (szSpotS_any _ x1 _ _ _ HU1.out (by omega) (by omega)).mono ?_
  rintro e w' ⟨rfl, rfl⟩
  rw [show szZ (x1.length : Int) ((1048576) - (x0.length : Int)) = ((1048576) - (x0.length : Int)) - (x1.length : Int) from if_neg (show ¬ ((1048576) - (x0.length : Int) : Int) - (x1.length : Int) < 0 by omega)]
  go_wp2_with fail
  refine (toSpotS_any _ x0 _ _ HU0.out (Nat.le_refl _) (by omega)).mono ?_
  rintro e w1 ⟨v1, rfl, ho1, hb1⟩
  have hq1 := hb1
  have hs1 := hq1.size
  have hz1 := hb1.size
  have o_v1_1 := OF.of (ownP_flat ho1)
  go_wp2_with fail
  refine (toSpotS_any _ x1 _ _ (HU1.out.below hq1) hs1 (by omega)).mono ?_
  rintro e w2 ⟨v2, rfl, ho2, hb2⟩
  have hq2 := hq1.trans (hb2.mono hs1)
  have hs2 := hq2.size
  have hz2 := hb2.size
  have o_v1_2 := o_v1_1.below hb2
  have o_v2_2 := OF.of (ownP_flat ho2)
  go_wp2_with fail
  refine (specCountFamilies_any _ _ x0 x1 _ _ (rdP_of (o_v1_2.1.rd okSpot)) (rdP_of (o_v2_2.1.rd okSpot)) (Nat.le_refl _)).mono ?_
  rintro e w3 ⟨rfl, hb3⟩
  have hq3 := hq2.trans (hb3.mono hs2)
  have hs3 := hq3.size
  have hz3 := hb3.size
  have o_v1_3 := o_v1_2.below hb3
  have o_v2_3 := o_v2_2.below hb3
  go_wp2_with fail
  refine (toSpotS_any _ x0 _ _ (HU0.out.below hq3) hs3 (by omega)).mono ?_
  rintro e w4 ⟨v4, rfl, ho4, hb4⟩
  have hq4 := hq3.trans (hb4.mono hs3)
  have hs4 := hq4.size
  have hz4 := hb4.size
  have o_v4_4 := OF.of (ownP_flat ho4)
  go_wp2_with fail
  refine (toSpotS_any _ x1 _ _ (HU1.out.below hq4) hs4 (by omega)).mono ?_
  rintro e w5 ⟨v5, rfl, ho5, hb5⟩
  have hq5 := hq4.trans (hb5.mono hs4)
  have hs5 := hq5.size
  have hz5 := hb5.size
  have o_v4_5 := o_v4_4.below hb5
  have o_v5_5 := OF.of (ownP_flat ho5)
  go_wp2_with fail
  refine (CountFamilies_any _ _ x0 x1 _ _ (rdP_of (o_v4_5.1.rd okSpot)) (rdP_of (o_v5_5.1.rd okSpot)) (Nat.le_refl _)).mono ?_
  rintro e w6 ⟨rfl, hb6⟩
  have hq6 := hq5.trans (hb6.mono hs5)
  have hs6 := hq6.size
  have hz6 := hb6.size
  have o_v4_6 := o_v4_5.below hb6
  have o_v5_6 := o_v5_5.below hb6
  go_wp2_with fail
  refine (toSpotS_any _ x0 _ _ (HU0.out.below hq6) hs6 (by omega)).mono ?_
  rintro e w7 ⟨v7, rfl, ho7, hb7⟩
  have hq7 := hq6.trans (hb7.mono hs6)
  have hs7 := hq7.size
  have hz7 := hb7.size
  have o_v4_7 := o_v4_6.below hb7
  have o_v5_7 := o_v5_6.below hb7
  have o_v7_7 := OF.of (ownP_flat ho7)
  go_wp2_with fail
  refine (eqDSpotS_self _ _ x0 _ _ _ (o_v4_7.1.rd okSpot) (o_v7_7.1.rd okSpot) (Nat.le_refl _) (Nat.le_refl _)).mono ?_
  rintro e w8 ⟨rfl, hb8⟩
  have hq8 := hq7.trans (hb8.mono hs7)
  have hs8 := hq8.size
  have hz8 := hb8.size
  have o_v4_8 := o_v4_7.below hb8
  have o_v5_8 := o_v5_7.below hb8
  have o_v7_8 := o_v7_7.below hb8
  go_wp2_with fail
  refine (toSpotS_any _ x1 _ _ (HU1.out.below hq8) hs8 (by omega)).mono ?_
  rintro e w9 ⟨v9, rfl, ho9, hb9⟩
  have hq9 := hq8.trans (hb9.mono hs8)
  have hs9 := hq9.size
  have hz9 := hb9.size
  have o_v4_9 := o_v4_8.below hb9
  have o_v5_9 := o_v5_8.below hb9
  have o_v9_9 := OF.of (ownP_flat ho9)
  go_wp2_with fail
  refine (eqDSpotS_self _ _ x1 _ _ _ (o_v5_9.1.rd okSpot) (o_v9_9.1.rd okSpot) (Nat.le_refl _) (Nat.le_refl _)).mono ?_
  rintro e w10 ⟨rfl, hb10⟩
  have hq10 := hq9.trans (hb10.mono hs9)
  have hs10 := hq10.size
  have hz10 := hb10.size
  have o_v4_10 := o_v4_9.below hb10
  have o_v5_10 := o_v5_9.below hb10
  have o_v9_10 := o_v9_9.below hb10
  go_wp2_with fail
  go_ret
  exact ⟨rfl, hq10⟩
end Go.Proofs.Ytamnpiihkbjgnaa
