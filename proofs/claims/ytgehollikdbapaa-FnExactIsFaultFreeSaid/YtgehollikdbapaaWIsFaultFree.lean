/- The walk of the law FnExactIsFaultFree: it returns true. -/
import Derived.Test.YtgehollikdbapaaFaultFree
import Derived.Test.YtgehollikdbapaaToDomino
import Derived.Test.YtgehollikdbapaaTriDomino
import Derived.Test.YtgehollikdbapaaOs
namespace Go.Proofs.Ytgehollikdbapaa
open Go.RowKit

set_option maxRecDepth 100000 in
set_option maxHeartbeats 8000000 in
theorem walkIsFaultFree (a0 : Int) (_ : (Lit.int .i64 a0).wf = true) (a1 : Int) (_ : (Lit.int .i64 a1).wf = true) (u2 : Value) (x2 : List Lk) (w : World) (hu2 : RdF elDomino w w.heap.size u2 x2) :
    Calls Try.prog 11 #[.int .i64 a0, .int .i64 a1, u2] w fun e w' => e = .returned (.bool true) ∧ Below w.heap.size w w' := by
  have HU2 := Lib.hid hu2
  obtain ⟨A2, c2, ev2, _⟩ := id hu2
  clear hu2 ev2
  by_cases hneg2 : (1048576 : Int) - (x2.length : Int) < 0
  · skip
    go_enter Try.func11, Try.ntmps11
    go_wp2_with fail
    refine (szDominoS_any _ x2 _ _ _ HU2.out (by omega) (by omega)).mono ?_
    rintro e w' ⟨rfl, rfl⟩
    rw [show szZ (x2.length : Int) (1048576) = -1 from if_pos (show (1048576 : Int) - (x2.length : Int) < 0 by omega)]
    go_wp2_with fail
    go_ret
    exact ⟨rfl, Below.refl _ _⟩
  have hbb_ : ((iffB a0 a1 x2) != (iffB a0 a1 x2)) = false := by simp
  go_enter Try.func11, Try.ntmps11
  go_wp2_with fail
  refine (szDominoS_any _ x2 _ _ _ HU2.out (by omega) (by omega)).mono ?_
  rintro e w' ⟨rfl, rfl⟩
  rw [show szZ (x2.length : Int) (1048576) = (1048576) - (x2.length : Int) from if_neg (show ¬ (1048576 : Int) - (x2.length : Int) < 0 by omega)]
  go_wp2_with fail
  refine (toDominoS_any _ x2 _ _ HU2.out (Nat.le_refl _) (by omega)).mono ?_
  rintro e w1 ⟨v1, rfl, ho1, hb1⟩
  have hq1 := hb1
  have hs1 := hq1.size
  have hz1 := hb1.size
  have o_v1_1 := OF.of ho1
  go_wp2_with fail
  refine (specIsFaultFree_any _ _ _ x2 _ _ (o_v1_1.1.rd okDomino) (Nat.le_refl _)).mono ?_
  rintro e w2 ⟨rfl, hb2⟩
  have hq2 := hq1.trans (hb2.mono hs1)
  have hs2 := hq2.size
  have hz2 := hb2.size
  have o_v1_2 := o_v1_1.below hb2
  go_wp2_with fail
  refine (toDominoS_any _ x2 _ _ (HU2.out.below hq2) hs2 (by omega)).mono ?_
  rintro e w3 ⟨v3, rfl, ho3, hb3⟩
  have hq3 := hq2.trans (hb3.mono hs2)
  have hs3 := hq3.size
  have hz3 := hb3.size
  have o_v3_3 := OF.of ho3
  go_wp2_with fail
  refine (IsFaultFree_any _ _ _ x2 _ _ (o_v3_3.1.rd okDomino) (Nat.le_refl _)).mono ?_
  rintro e w4 ⟨rfl, hb4⟩
  have hq4 := hq3.trans (hb4.mono hs3)
  have hs4 := hq4.size
  have hz4 := hb4.size
  have o_v3_4 := o_v3_3.below hb4
  go_wp2_with fail
  refine (toDominoS_any _ x2 _ _ (HU2.out.below hq4) hs4 (by omega)).mono ?_
  rintro e w5 ⟨v5, rfl, ho5, hb5⟩
  have hq5 := hq4.trans (hb5.mono hs4)
  have hs5 := hq5.size
  have hz5 := hb5.size
  have o_v3_5 := o_v3_4.below hb5
  have o_v5_5 := OF.of ho5
  go_wp2_with fail
  refine (eqDominoS_self _ _ x2 _ _ _ (o_v3_5.1.rd okDomino) (o_v5_5.1.rd okDomino) (Nat.le_refl _) (Nat.le_refl _)).mono ?_
  rintro e w6 ⟨rfl, hb6⟩
  have hq6 := hq5.trans (hb6.mono hs5)
  have hs6 := hq6.size
  have hz6 := hb6.size
  have o_v3_6 := o_v3_5.below hb6
  have o_v5_6 := o_v5_5.below hb6
  go_wp2_with fail
  go_ret
  exact ⟨rfl, hq6⟩
end Go.Proofs.Ytgehollikdbapaa
