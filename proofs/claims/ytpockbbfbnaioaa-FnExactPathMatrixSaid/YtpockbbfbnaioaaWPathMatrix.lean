/- The walk of the law FnExactPathMatrix: it returns true. -/
import Derived.Test.YtpockbbfbnaioaaPathM
import Derived.Test.YtpockbbfbnaioaaLawII
import Derived.Test.YtpockbbfbnaioaaOsP
namespace Go.Proofs.Ytpockbbfbnaioaa
open Go.RowKit

theorem rect_flat {a b : Nat} {m : List (List Int)} (h : RShape a b m) : ∀ n, n ≤ a → flatTo m n = n * b
  | 0, _ => by simp [flatTo]
  | n + 1, hn => by rw [flatTo, rect_flat h n (by omega), h.2 n (by omega), Nat.succ_mul]
theorem pmZ_bd (ps qs : List (Int × Int)) : (pmZ ps qs).length ≤ 1048576 ∧ flatTo (pmZ ps qs) (pmZ ps qs).length ≤ 1048576 := by
  obtain ⟨h1, h2⟩ := pmZ_sq ps qs
  have hs : RShape (pmZ ps qs).length (pmZ ps qs).length (pmZ ps qs) := ⟨rfl, h2⟩
  rw [rect_flat hs _ (Nat.le_refl _)]
  have : (pmZ ps qs).length * (pmZ ps qs).length ≤ 3 * 3 := Nat.mul_le_mul h1 h1
  omega

set_option maxRecDepth 100000 in
set_option maxHeartbeats 8000000 in
theorem walkPathMatrix (u0 : Value) (x0 : List (Int × Int)) (u1 : Value) (x1 : List (Int × Int)) (w : World) (hu0 : RdP w w.heap.size u0 x0) (hu1 : RdP w w.heap.size u1 x1) :
    Calls Try.prog 7 #[u0, u1] w fun e w' => e = .returned (.bool true) ∧ Below w.heap.size w w' := by
  have HU0 := Lib.hid hu0
  obtain ⟨A0, c0, ev0, _⟩ := id hu0
  clear hu0 ev0
  have HU1 := Lib.hid hu1
  obtain ⟨A1, c1, ev1, _⟩ := id hu1
  clear hu1 ev1
  by_cases hneg0 : (1048576 : Int) - (x0.length : Int) < 0
  · skip
    go_enter Try.func7, Try.ntmps7
    go_wp2_with fail
    refine (szSpotS_any _ x0 _ _ _ HU0.out (by omega) (by omega)).mono ?_
    rintro e w' ⟨rfl, rfl⟩
    rw [show szZ (x0.length : Int) (1048576) = -1 from if_pos (show (1048576 : Int) - (x0.length : Int) < 0 by omega)]
    go_wp2_with fail
    go_ret
    exact ⟨rfl, Below.refl _ _⟩
  by_cases hneg1 : ((1048576) - (x0.length : Int) : Int) - (x1.length : Int) < 0
  · skip
    go_enter Try.func7, Try.ntmps7
    go_wp2_with fail
    refine (szSpotS_any _ x0 _ _ _ HU0.out (by omega) (by omega)).mono ?_
    rintro e w' ⟨rfl, rfl⟩
    rw [show szZ (x0.length : Int) (1048576) = (1048576) - (x0.length : Int) from if_neg (show ¬ (1048576 : Int) - (x0.length : Int) < 0 by omega)]
    go_wp2_with fail
    refine (szSpotS_any _ x1 _ _ _ HU1.out (by omega) (by omega)).mono ?_
    rintro e w' ⟨rfl, rfl⟩
    rw [show szZ (x1.length : Int) ((1048576) - (x0.length : Int)) = -1 from if_pos (show ((1048576) - (x0.length : Int) : Int) - (x1.length : Int) < 0 by omega)]
    go_wp2_with fail
    go_ret
    exact ⟨rfl, Below.refl _ _⟩
  obtain ⟨hl, hf⟩ := pmZ_bd x0 x1
  have hne : ((1 : Int) + (flatTo (pmZ x0 x1) (pmZ x0 x1).length : Int) != 1 + (flatTo (pmZ x0 x1) (pmZ x0 x1).length : Int)) = false := by simp
  go_enter Try.func7, Try.ntmps7
  go_wp2_with fail
  refine (szSpotS_any _ x0 _ _ _ HU0.out (by omega) (by omega)).mono ?_
  rintro e w' ⟨rfl, rfl⟩
  rw [show szZ (x0.length : Int) (1048576) = (1048576) - (x0.length : Int) from if_neg (show ¬ (1048576 : Int) - (x0.length : Int) < 0 by omega)]
  go_wp2_with fail
  refine (szSpotS_any _ x1 _ _ _ HU1.out (by omega) (by omega)).mono ?_
  rintro e w' ⟨rfl, rfl⟩
  rw [show szZ (x1.length : Int) ((1048576) - (x0.length : Int)) = ((1048576) - (x0.length : Int)) - (x1.length : Int) from if_neg (show ¬ ((1048576) - (x0.length : Int) : Int) - (x1.length : Int) < 0 by omega)]
  go_wp2_with fail
  refine (toSpotS_any _ x0 _ _ HU0.out (Nat.le_refl _) (by omega)).mono ?_
  rintro e w1 ⟨v1, rfl, ho1, hb1⟩
  have hq1 := hb1
  have hs1 := hq1.size
  have hz1 := hb1.size
  have o_v1_1 := OF.of (ownP_flat ho1)
  go_wp2_with fail
  refine (toSpotS_any _ x1 _ _ (HU1.out.below hq1) hs1 (by omega)).mono ?_
  rintro e w2 ⟨v2, rfl, ho2, hb2⟩
  have hq2 := hq1.trans (hb2.mono hs1)
  have hs2 := hq2.size
  have hz2 := hb2.size
  have o_v1_2 := o_v1_1.below hb2
  have o_v2_2 := OF.of (ownP_flat ho2)
  go_wp2_with fail
  refine (specPathMatrix_any _ _ x0 x1 _ _ (rdP_of (o_v1_2.1.rd okSpot)) (rdP_of (o_v2_2.1.rd okSpot)) (Nat.le_refl _)).mono ?_
  rintro e w3 ⟨v3, hi3, rfl, ho3, hx3, hb3⟩
  have hq3 := hq2.trans (hb3.mono hs2)
  have hs3 := hq3.size
  have hz3 := hb3.size
  have o_v1_3 := o_v1_2.below hb3
  have o_v2_3 := o_v2_2.below hb3
  have o_v3_3 := ho3.more hx3
  go_wp2_with fail
  refine (toSpotS_any _ x0 _ _ (HU0.out.below hq3) hs3 (by omega)).mono ?_
  rintro e w4 ⟨v4, rfl, ho4, hb4⟩
  have hq4 := hq3.trans (hb4.mono hs3)
  have hs4 := hq4.size
  have hz4 := hb4.size
  have o_v3_4 := o_v3_3.below hb4
  have o_v4_4 := OF.of (ownP_flat ho4)
  go_wp2_with fail
  refine (toSpotS_any _ x1 _ _ (HU1.out.below hq4) hs4 (by omega)).mono ?_
  rintro e w5 ⟨v5, rfl, ho5, hb5⟩
  have hq5 := hq4.trans (hb5.mono hs4)
  have hs5 := hq5.size
  have hz5 := hb5.size
  have o_v3_5 := o_v3_4.below hb5
  have o_v4_5 := o_v4_4.below hb5
  have o_v5_5 := OF.of (ownP_flat ho5)
  go_wp2_with fail
  refine (PathMatrix_any _ _ x0 x1 _ _ (rdP_of (o_v4_5.1.rd okSpot)) (rdP_of (o_v5_5.1.rd okSpot)) (Nat.le_refl _)).mono ?_
  rintro e w6 ⟨v6, hi6, rfl, ho6, hx6, hb6⟩
  have hq6 := hq5.trans (hb6.mono hs5)
  have hs6 := hq6.size
  have hz6 := hb6.size
  have o_v3_6 := o_v3_5.below hb6
  have o_v4_6 := o_v4_5.below hb6
  have o_v5_6 := o_v5_5.below hb6
  have o_v6_6 := ho6.more hx6
  go_wp2_with fail
  refine (eqIntSS_self _ _ (pmZ x0 x1) _ _ _ o_v6_6.rd o_v3_6.rd).mono ?_
  rintro e w7 ⟨rfl, hd7⟩
  have hb7 := hd7.below w6.heap.size
  have hq7 := hq6.trans (hb7.mono hs6)
  have hs7 := hq7.size
  have hz7 := hb7.size
  have o_v3_7 := o_v3_6.below hb7
  have o_v4_7 := o_v4_6.below hb7
  have o_v5_7 := o_v5_6.below hb7
  have o_v6_7 := o_v6_6.below hb7
  go_wp2_with fail
  refine (toSpotS_any _ x0 _ _ (HU0.out.below hq7) hs7 (by omega)).mono ?_
  rintro e w8 ⟨v8, rfl, ho8, hb8⟩
  have hq8 := hq7.trans (hb8.mono hs7)
  have hs8 := hq8.size
  have hz8 := hb8.size
  have o_v3_8 := o_v3_7.below hb8
  have o_v4_8 := o_v4_7.below hb8
  have o_v5_8 := o_v5_7.below hb8
  have o_v6_8 := o_v6_7.below hb8
  have o_v8_8 := OF.of (ownP_flat ho8)
  go_wp2_with fail
  refine (eqDSpotS_self _ _ x0 _ _ _ (o_v4_8.1.rd okSpot) (o_v8_8.1.rd okSpot) (Nat.le_refl _) (Nat.le_refl _)).mono ?_
  rintro e w9 ⟨rfl, hb9⟩
  have hq9 := hq8.trans (hb9.mono hs8)
  have hs9 := hq9.size
  have hz9 := hb9.size
  have o_v3_9 := o_v3_8.below hb9
  have o_v4_9 := o_v4_8.below hb9
  have o_v5_9 := o_v5_8.below hb9
  have o_v6_9 := o_v6_8.below hb9
  have o_v8_9 := o_v8_8.below hb9
  go_wp2_with fail
  refine (toSpotS_any _ x1 _ _ (HU1.out.below hq9) hs9 (by omega)).mono ?_
  rintro e w10 ⟨v10, rfl, ho10, hb10⟩
  have hq10 := hq9.trans (hb10.mono hs9)
  have hs10 := hq10.size
  have hz10 := hb10.size
  have o_v3_10 := o_v3_9.below hb10
  have o_v4_10 := o_v4_9.below hb10
  have o_v5_10 := o_v5_9.below hb10
  have o_v6_10 := o_v6_9.below hb10
  have o_v10_10 := OF.of (ownP_flat ho10)
  go_wp2_with fail
  refine (eqDSpotS_self _ _ x1 _ _ _ (o_v5_10.1.rd okSpot) (o_v10_10.1.rd okSpot) (Nat.le_refl _) (Nat.le_refl _)).mono ?_
  rintro e w11 ⟨rfl, hb11⟩
  have hq11 := hq10.trans (hb11.mono hs10)
  have hs11 := hq11.size
  have hz11 := hb11.size
  have o_v3_11 := o_v3_10.below hb11
  have o_v4_11 := o_v4_10.below hb11
  have o_v5_11 := o_v5_10.below hb11
  have o_v6_11 := o_v6_10.below hb11
  have o_v10_11 := o_v10_10.below hb11
  go_wp2_with fail
  refine (markSpotS_any _ x0 _ 1 _ o_v4_11.1 (by omega) (by omega) (by omega)).mono ?_
  rintro e w12 ⟨rfl, hm12, hg12⟩
  have hA12 := o_v4_11.mark hg12
  have hq12 := hq11.trans ((hA12.below (by omega)).mono (by omega))
  have hs12 := hq12.size
  have hz12 := hA12.size
  have o_v3_12 := o_v3_11.aft hA12 (by omega)
  have o_v4_12 := o_v4_11.set hm12
  have o_v5_12 := o_v5_11.aft hA12 (by omega)
  have o_v6_12 := o_v6_11.aft hA12 (by omega)
  go_wp2_with fail
  refine (markSpotS_any _ x1 _ _ _ o_v5_12.1 (by omega) (by omega) (by omega)).mono ?_
  rintro e w13 ⟨rfl, hm13, hg13⟩
  have hA13 := o_v5_12.mark hg13
  have hq13 := hq12.trans ((hA13.below (by omega)).mono (by omega))
  have hs13 := hq13.size
  have hz13 := hA13.size
  have o_v3_13 := o_v3_12.aft hA13 (by omega)
  have o_v4_13 := o_v4_12.aft hA13 (by omega)
  have o_v5_13 := o_v5_12.set hm13
  have o_v6_13 := o_v6_12.aft hA13 (by omega)
  go_wp2_with fail
  refine (eqIntSS_self _ _ (pmZ x0 x1) _ _ _ o_v6_13.rd o_v3_13.rd).mono ?_
  rintro e w14 ⟨rfl, hd14⟩
  have hb14 := hd14.below w13.heap.size
  have hq14 := hq13.trans (hb14.mono hs13)
  have hs14 := hq14.size
  have hz14 := hb14.size
  have o_v3_14 := o_v3_13.below hb14
  have o_v6_14 := o_v6_13.below hb14
  go_wp2_with fail
  refine (markIntSS_aft _ (pmZ x0 x1) _ _ 1 _ o_v6_14 hl hf (by omega) (by omega)).mono ?_
  rintro e w15 ⟨rfl, hm15, hA15⟩
  have hq15 := hq14.trans ((hA15.below (by omega)).mono (by omega))
  have hs15 := hq15.size
  have hz15 := hA15.size
  have o_v3_15 := o_v3_14.aft hA15 (by omega)
  have o_v6_15 := hm15
  go_wp2_with fail
  refine (heldIntSS_any _ (pmZ x0 x1) 1 _ _ o_v6_15.rd hl hf (by omega) (by omega)).mono ?_
  rintro e w' ⟨rfl, rfl⟩
  go_wp2_with fail
  refine (toSpotS_any _ x0 _ _ (HU0.out.below hq15) hs15 (by omega)).mono ?_
  rintro e w16 ⟨v16, rfl, ho16, hb16⟩
  have hq16 := hq15.trans (hb16.mono hs15)
  have hs16 := hq16.size
  have hz16 := hb16.size
  have o_v3_16 := o_v3_15.below hb16
  have o_v6_16 := o_v6_15.below hb16
  have o_v16_16 := OF.of (ownP_flat ho16)
  go_wp2_with fail
  refine (toSpotS_any _ x1 _ _ (HU1.out.below hq16) hs16 (by omega)).mono ?_
  rintro e w17 ⟨v17, rfl, ho17, hb17⟩
  have hq17 := hq16.trans (hb17.mono hs16)
  have hs17 := hq17.size
  have hz17 := hb17.size
  have o_v3_17 := o_v3_16.below hb17
  have o_v6_17 := o_v6_16.below hb17
  have o_v16_17 := o_v16_16.below hb17
  have o_v17_17 := OF.of (ownP_flat ho17)
  go_wp2_with fail
  refine (PathMatrix_any _ _ x0 x1 _ _ (rdP_of (o_v16_17.1.rd okSpot)) (rdP_of (o_v17_17.1.rd okSpot)) (Nat.le_refl _)).mono ?_
  rintro e w18 ⟨v18, hi18, rfl, ho18, hx18, hb18⟩
  have hq18 := hq17.trans (hb18.mono hs17)
  have hs18 := hq18.size
  have hz18 := hb18.size
  have o_v3_18 := o_v3_17.below hb18
  have o_v6_18 := o_v6_17.below hb18
  have o_v16_18 := o_v16_17.below hb18
  have o_v17_18 := o_v17_17.below hb18
  have o_v18_18 := ho18.more hx18
  go_wp2_with fail
  refine (eqIntSS_self _ _ (pmZ x0 x1) _ _ _ o_v18_18.rd o_v3_18.rd).mono ?_
  rintro e w19 ⟨rfl, hd19⟩
  have hb19 := hd19.below w18.heap.size
  have hq19 := hq18.trans (hb19.mono hs18)
  have hs19 := hq19.size
  have hz19 := hb19.size
  have o_v3_19 := o_v3_18.below hb19
  have o_v6_19 := o_v6_18.below hb19
  have o_v18_19 := o_v18_18.below hb19
  go_wp2_with fail
  refine (heldIntSS_any _ (pmZ x0 x1) 1 _ _ o_v6_19.rd hl hf (by omega) (by omega)).mono ?_
  rintro e w' ⟨rfl, rfl⟩
  go_wp2_with fail
  go_ret
  exact ⟨rfl, hq19⟩
end Go.Proofs.Ytpockbbfbnaioaa
