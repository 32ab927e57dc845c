/- What the claim's walk rests on: parts WTreeOfTiling. -/
import Derived.Test.YtehnbalbpfmijaaFrameTKu
import Derived.Test.YtehnbalbpfmijaaKu14
import Derived.Test.YtehnbalbpfmijaaKu16
import Derived.Test.YtehnbalbpfmijaaKu5
namespace Go.Proofs.Ytehnbalbpfmijaa
open Go.RowKit

theorem totZ_len (p q : Int) (L : List Lk) : (totZ p q L).length ≤ 32 := by
  unfold totZ
  split
  · exact Nat.le_trans (List.length_filter_le _ _) (linksZ_len p q)
  · simp

set_option maxRecDepth 100000 in
set_option maxHeartbeats 8000000 in
theorem walkTreeOfTiling (a0 : Int) (_ : (Lit.int .i64 a0).wf = true) (a1 : Int) (_ : (Lit.int .i64 a1).wf = true) (u2 : Value) (x2 : List Lk) (w : World) (hu2 : RdF elDomino w w.heap.size u2 x2) :
    Calls Try.prog 8 #[.int .i64 a0, .int .i64 a1, u2] w fun e w' => e = .returned (.bool true) ∧ Below w.heap.size w w' := by
  have HU2 := Lib.hid hu2
  obtain ⟨A2, c2, ev2, _⟩ := id hu2
  clear hu2 ev2
  by_cases hneg2 : (1048576 : Int) - (x2.length : Int) < 0
  · skip
    go_enter Try.func8, Try.ntmps8
    go_wp2_with fail
    refine (szDominoS_any _ x2 _ _ _ HU2.out (by omega) (by omega)).mono ?_
    rintro e w' ⟨rfl, rfl⟩
    rw [show szZ (x2.length : Int) (1048576) = -1 from if_pos (show (1048576 : Int) - (x2.length : Int) < 0 by omega)]
    go_wp2_with fail
    go_ret
    exact ⟨rfl, Below.refl _ _⟩
  have hlen := totZ_len a0 a1 x2
  have hne : ((1 : Int) + 3 * ((totZ a0 a1 x2).length : Int) != 1 + 3 * ((totZ a0 a1 x2).length : Int)) = false := by simp
  have hbb_ : ((totB a0 a1 x2) != (totB a0 a1 x2)) = false := by simp
  go_enter Try.func8, Try.ntmps8
  go_wp2_with fail
  refine (szDominoS_any _ x2 _ _ _ HU2.out (by omega) (by omega)).mono ?_
  rintro e w' ⟨rfl, rfl⟩
  rw [show szZ (x2.length : Int) (1048576) = (1048576) - (x2.length : Int) from if_neg (show ¬ (1048576 : Int) - (x2.length : Int) < 0 by omega)]
  go_wp2_with fail
  refine (toDominoS_any _ x2 _ _ HU2.out (Nat.le_refl _) (by omega)).mono ?_
  rintro e w1 ⟨v1, rfl, ho1, hb1⟩
  have hq1 := hb1
  have hs1 := hq1.size
  have hz1 := hb1.size
  have o_v1_1 := OF.of ho1
  go_wp2_with fail
  refine (specTot_any _ _ _ x2 _ _ (o_v1_1.1.rd okDomino) (Nat.le_refl _)).mono ?_
  rintro e w2 ⟨v2, rfl, ho2, hb2⟩
  have hq2 := hq1.trans (hb2.mono hs1)
  have hs2 := hq2.size
  have hz2 := hb2.size
  have o_v1_2 := o_v1_1.below hb2
  have o_v2_2 := OF.of ho2
  go_wp2_with fail
  refine (toDominoS_any _ x2 _ _ (HU2.out.below hq2) hs2 (by omega)).mono ?_
  rintro e w3 ⟨v3, rfl, ho3, hb3⟩
  have hq3 := hq2.trans (hb3.mono hs2)
  have hs3 := hq3.size
  have hz3 := hb3.size
  have o_v2_3 := o_v2_2.below hb3
  have o_v3_3 := OF.of ho3
  go_wp2_with fail
  refine (Tot_any _ _ _ x2 _ _ (o_v3_3.1.rd okDomino) (Nat.le_refl _)).mono ?_
  rintro e w4 ⟨v4, rfl, ho4, hb4⟩
  have hq4 := hq3.trans (hb4.mono hs3)
  have hs4 := hq4.size
  have hz4 := hb4.size
  have o_v2_4 := o_v2_3.below hb4
  have o_v3_4 := o_v3_3.below hb4
  have o_v4_4 := OF.of ho4
  go_wp2_with fail
  refine (eqLinkS_self _ _ (totZ a0 a1 x2) _ _ _ (o_v4_4.1.rd okLink) (o_v2_4.1.rd okLink) (Nat.le_refl _) (Nat.le_refl _)).mono ?_
  rintro e w5 ⟨rfl, hb5⟩
  have hq5 := hq4.trans (hb5.mono hs4)
  have hs5 := hq5.size
  have hz5 := hb5.size
  have o_v2_5 := o_v2_4.below hb5
  have o_v3_5 := o_v3_4.below hb5
  have o_v4_5 := o_v4_4.below hb5
  go_wp2_with fail
  refine (toDominoS_any _ x2 _ _ (HU2.out.below hq5) hs5 (by omega)).mono ?_
  rintro e w6 ⟨v6, rfl, ho6, hb6⟩
  have hq6 := hq5.trans (hb6.mono hs5)
  have hs6 := hq6.size
  have hz6 := hb6.size
  have o_v2_6 := o_v2_5.below hb6
  have o_v3_6 := o_v3_5.below hb6
  have o_v4_6 := o_v4_5.below hb6
  have o_v6_6 := OF.of ho6
  go_wp2_with fail
  refine (eqDominoS_self _ _ x2 _ _ _ (o_v3_6.1.rd okDomino) (o_v6_6.1.rd okDomino) (Nat.le_refl _) (Nat.le_refl _)).mono ?_
  rintro e w7 ⟨rfl, hb7⟩
  have hq7 := hq6.trans (hb7.mono hs6)
  have hs7 := hq7.size
  have hz7 := hb7.size
  have o_v2_7 := o_v2_6.below hb7
  have o_v3_7 := o_v3_6.below hb7
  have o_v4_7 := o_v4_6.below hb7
  have o_v6_7 := o_v6_6.below hb7
  go_wp2_with fail
  refine (markDominoS_any _ x2 _ 1 _ o_v3_7.1 (by omega) (by omega) (by omega)).mono ?_
  rintro e w8 ⟨rfl, hm8, hg8⟩
  have hA8 := o_v3_7.mark hg8
  have hq8 := hq7.trans ((hA8.below (by omega)).mono (by omega))
  have hs8 := hq8.size
  have hz8 := hA8.size
  have o_v2_8 := o_v2_7.aft hA8 (by omega)
  have o_v3_8 := o_v3_7.set hm8
  have o_v4_8 := o_v4_7.aft hA8 (by omega)
  go_wp2_with fail
  refine (eqLinkS_self _ _ (totZ a0 a1 x2) _ _ _ (o_v4_8.1.rd okLink) (o_v2_8.1.rd okLink) (Nat.le_refl _) (Nat.le_refl _)).mono ?_
  rintro e w9 ⟨rfl, hb9⟩
  have hq9 := hq8.trans (hb9.mono hs8)
  have hs9 := hq9.size
  have hz9 := hb9.size
  have o_v2_9 := o_v2_8.below hb9
  have o_v4_9 := o_v4_8.below hb9
  go_wp2_with fail
  refine (markLinkS_any _ (totZ a0 a1 x2) _ 1 _ o_v4_9.1 (by omega) (by omega) (by omega)).mono ?_
  rintro e w10 ⟨rfl, hm10, hg10⟩
  have hA10 := o_v4_9.mark hg10
  have hq10 := hq9.trans ((hA10.below (by omega)).mono (by omega))
  have hs10 := hq10.size
  have hz10 := hA10.size
  have o_v2_10 := o_v2_9.aft hA10 (by omega)
  have o_v4_10 := o_v4_9.set hm10
  go_wp2_with fail
  refine (heldLinkS_any _ (totZ a0 a1 x2).length 1 _ _ (o_v4_10.1.rd okLink) (by omega) (by omega) (by omega)).mono ?_
  rintro e w' ⟨rfl, rfl⟩
  go_wp2_with fail
  refine (toDominoS_any _ x2 _ _ (HU2.out.below hq10) hs10 (by omega)).mono ?_
  rintro e w11 ⟨v11, rfl, ho11, hb11⟩
  have hq11 := hq10.trans (hb11.mono hs10)
  have hs11 := hq11.size
  have hz11 := hb11.size
  have o_v2_11 := o_v2_10.below hb11
  have o_v4_11 := o_v4_10.below hb11
  have o_v11_11 := OF.of ho11
  go_wp2_with fail
  refine (Tot_any _ _ _ x2 _ _ (o_v11_11.1.rd okDomino) (Nat.le_refl _)).mono ?_
  rintro e w12 ⟨v12, rfl, ho12, hb12⟩
  have hq12 := hq11.trans (hb12.mono hs11)
  have hs12 := hq12.size
  have hz12 := hb12.size
  have o_v2_12 := o_v2_11.below hb12
  have o_v4_12 := o_v4_11.below hb12
  have o_v11_12 := o_v11_11.below hb12
  have o_v12_12 := OF.of ho12
  go_wp2_with fail
  refine (eqLinkS_self _ _ (totZ a0 a1 x2) _ _ _ (o_v12_12.1.rd okLink) (o_v2_12.1.rd okLink) (Nat.le_refl _) (Nat.le_refl _)).mono ?_
  rintro e w13 ⟨rfl, hb13⟩
  have hq13 := hq12.trans (hb13.mono hs12)
  have hs13 := hq13.size
  have hz13 := hb13.size
  have o_v2_13 := o_v2_12.below hb13
  have o_v4_13 := o_v4_12.below hb13
  have o_v12_13 := o_v12_12.below hb13
  go_wp2_with fail
  refine (heldLinkS_any _ (totZ a0 a1 x2).length 1 _ _ (o_v4_13.1.rd okLink) (by omega) (by omega) (by omega)).mono ?_
  rintro e w' ⟨rfl, rfl⟩
  go_wp2_with fail
  go_ret
  exact ⟨rfl, hq13⟩
end Go.Proofs.Ytehnbalbpfmijaa
