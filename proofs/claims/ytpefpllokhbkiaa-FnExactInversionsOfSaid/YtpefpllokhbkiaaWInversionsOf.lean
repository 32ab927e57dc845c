/- The walk of the law FnExactInversionsOf: it returns true. -/
import Derived.Test.YtpefpllokhbkiaaInvS
import Derived.Test.YtpefpllokhbkiaaEqSS
namespace Go.Proofs.Ytpefpllokhbkiaa
open Go.RowKit

set_option maxHeartbeats 2000000 in
theorem walkInversionsOf  (v : Value) (zss : List (List Int)) (w : World) (hv : RdII w w.heap.size v zss) :
    Calls Try.prog 13 #[v] w fun e w' => e = .returned (.bool true) ∧ Below w.heap.size w w' := by
  have HV := Lib.hid hv
  obtain ⟨A, c, ev, _⟩ := hv.open_
  clear hv ev
  by_cases hneg : szSS zss 1048576 < 0
  · go_enter Try.func13, Try.ntmps13
    go_wp2_with fail
    refine (szIntSS_any _ zss _ _ _ HV.out (by omega) (by omega)).mono ?_
    rintro e w' ⟨rfl, rfl⟩
    go_wp2_with fail
    go_ret
    exact ⟨rfl, Below.refl _ _⟩
  · obtain ⟨s1, s2⟩ := szSS_bd zss 1048576 (by omega) (by omega)
    have S2 := Lib.hid s2
    clear s2
    go_enter Try.func13, Try.ntmps13
    go_wp2_with fail
    refine (szIntSS_any _ zss _ _ _ HV.out (by omega) (by omega)).mono ?_
    rintro e w' ⟨rfl, rfl⟩
    go_wp2_with fail
    refine (toIntSS_any _ zss _ _ HV.out (Nat.le_refl _) (by omega) (fun i hi => by have := S2.out i hi; omega)).mono ?_
    rintro e w1 ⟨v1, rfl, ho1, hb1⟩
    have hq1 := hb1
    have hs1 := hq1.size
    go_wp2_with fail
    refine (specInversionsOf_any _ zss _ _ ho1.rd (Nat.le_refl _) (by omega)).mono ?_
    rintro e w2 ⟨rfl, hb2⟩
    have hq2 := hq1.trans (hb2.mono hs1)
    have hs2 := hq2.size
    go_wp2_with fail
    refine (toIntSS_any _ zss _ _ (HV.out.below hq2) hs2 (by omega) (fun i hi => by have := S2.out i hi; omega)).mono ?_
    rintro e w3 ⟨v3, rfl, ho3, hb3⟩
    have hq3 := hq2.trans (hb3.mono hs2)
    have hs3 := hq3.size
    go_wp2_with fail
    refine (InversionsOf_any _ zss _ _ ho3.rd (Nat.le_refl _)).mono ?_
    rintro e w4 ⟨rfl, hb4⟩
    have hq4 := hq3.trans (hb4.mono hs3)
    have hs4 := hq4.size
    go_wp2_with fail
    refine (toIntSS_any _ zss _ _ (HV.out.below hq4) hs4 (by omega) (fun i hi => by have := S2.out i hi; omega)).mono ?_
    rintro e w5 ⟨v5, rfl, ho5, hb5⟩
    have hq5 := hq4.trans (hb5.mono hs4)
    have hs5 := hq5.size
    go_wp2_with fail
    refine (eqIntSS_self _ _ zss _ _ _ ((ho3.below hb4).below hb5).rd ho5.rd).mono ?_
    rintro e w6 ⟨rfl, hd6⟩
    have hb6 := hd6.below w5.heap.size
    have hq6 := hq5.trans (hb6.mono hs5)
    have hs6 := hq6.size
    go_wp2_with fail
    go_ret
    exact ⟨rfl, hq6⟩
end Go.Proofs.Ytpefpllokhbkiaa
