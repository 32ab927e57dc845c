/- The walk of the law FnExactCountMinus: it returns true. -/
import Derived.Test.YtbaghclblnialaaEqSS
import Derived.Test.YtbaghclblnialaaMinus
namespace Go.Proofs.Ytbaghclblnialaa
open Go.RowKit

set_option maxHeartbeats 1000000 in
theorem walkCountMinus (v : Value) (zss : List (List Int)) (w : World) (hv : RdII w w.heap.size v zss) :
    Calls Try.prog 13 #[v] w fun e w' => e = .returned (.bool true) ∧ Below w.heap.size w w' := by
  have HV := Lib.hid hv
  obtain ⟨A, c, ev, _⟩ := hv.open_
  by_cases hneg : szSS zss 1048576 < 0
  · clear hv ev
    go_enter Try.func13, Try.ntmps13
    go_wp2_with fail
    refine (szIntSS_any _ zss _ _ _ HV.out (by omega) (by omega)).mono ?_
    rintro e w1 ⟨rfl, rfl⟩
    go_wp2_with fail
    go_ret
    exact ⟨rfl, Below.refl _ _⟩
  · obtain ⟨s1, s2⟩ := szSS_bd zss 1048576 (by omega) (by omega)
    have S2 := Lib.hid s2
    clear hv ev s2
    go_enter Try.func13, Try.ntmps13
    go_wp2_with fail
    refine (szIntSS_any _ zss _ _ _ HV.out (by omega) (by omega)).mono ?_
    rintro e w1 ⟨rfl, rfl⟩
    go_wp2_with fail
    refine (toIntSS_any _ zss _ _ HV.out (Nat.le_refl _) (by omega) (fun i hi => by have := S2.out i hi; omega)).mono ?_
    rintro e w1 ⟨v1, rfl, ho1, hb1⟩
    go_wp2_with fail
    refine (specCountMinus_any _ zss _ _ ho1.rd).mono ?_
    rintro e w2 ⟨rfl, hb2⟩
    have hq2 := hb1.trans (hb2.mono hb1.size)
    have hs2 := hq2.size
    go_wp2_with fail
    refine (toIntSS_any _ zss _ _ (HV.out.below hq2) hs2 (by omega) (fun i hi => by have := S2.out i hi; omega)).mono ?_
    rintro e w3 ⟨v3, rfl, ho3, hb3⟩
    have hq3 := hq2.trans (hb3.mono hs2)
    have hs3 := hq3.size
    go_wp2_with fail
    refine (CountMinus_any _ zss _ _ ho3.rd).mono ?_
    rintro e w4 ⟨rfl, rfl⟩
    generalize cmTo zss zss.length = r
    go_wp2_with fail
    refine (toIntSS_any _ zss _ _ (HV.out.below hq3) hs3 (by omega) (fun i hi => by have := S2.out i hi; omega)).mono ?_
    rintro e w5 ⟨v5, rfl, ho5, hb5⟩
    have hq5 := hq3.trans (hb5.mono hs3)
    go_wp2_with fail
    refine (eqIntSS_self _ _ zss _ _ _ (ho3.below hb5).rd ho5.rd).mono ?_
    rintro e w6 ⟨rfl, hd6⟩
    go_wp2_with fail
    go_ret
    exact ⟨rfl, hq5.trans (hd6.below _)⟩
end Go.Proofs.Ytbaghclblnialaa
