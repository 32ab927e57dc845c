/- IsFaultFree, of the program and of the reference. -/
import Derived.Test.YtiecphhenpapoaaFaultsS
namespace Go.Proofs.Ytiecphhenpapoaa
open Go.RowKit
set_option linter.unusedVariables false

def iffB (a b : Int) (ls : List Lk) : Bool := fltB a b ls && decide ((fltZ a b a true ls).length = 0) && decide ((fltZ a b b false ls).length = 0)

set_option maxRecDepth 100000 in
set_option maxHeartbeats 1000000 in
theorem IsFaultFree_any (a b : Int) (v : Value) (ls : List Lk) (B : Nat) (w : World) (h : RdF elDomino w B v ls) (hB : B ≤ w.heap.size) :
    Calls Try.prog 25 #[.int .i64 a, .int .i64 b, v] w fun e w' => e = .returned (.bool (iffB a b ls)) ∧ Below w.heap.size w w' := by
  cases t1 : inB a 1 8
  · have HF : Hid (false = iffB a b ls) := by unfold Hid iffB fltB; simp [t1]
    go_enter Try.func25, Try.ntmps25
    go_wp2_with fail
    refine (within_any _ _ _ _).mono ?_
    rintro e w' ⟨rfl, rfl⟩
    rw [t1]
    go_wp2_with fail
    go_ret
    exact ⟨ret_bool HF.out, Below.refl _ _⟩
  · cases t2 : inB b 1 8
    · have HF : Hid (false = iffB a b ls) := by unfold Hid iffB fltB; simp [t2]
      go_enter Try.func25, Try.ntmps25
      go_wp2_with fail
      refine (within_any _ _ _ _).mono ?_
      rintro e w' ⟨rfl, rfl⟩
      rw [t1]
      go_wp2_with fail
      refine (within_any _ _ _ _).mono ?_
      rintro e w' ⟨rfl, rfl⟩
      rw [t2]
      go_wp2_with fail
      go_ret
      exact ⟨ret_bool HF.out, Below.refl _ _⟩
    · have ha := (inB_iff _ _ _).1 t1
      have hb := (inB_iff _ _ _).1 t2
      obtain ⟨a, rfl⟩ := Int.eq_ofNat_of_zero_le (show 0 ≤ a by omega)
      obtain ⟨b, rfl⟩ := Int.eq_ofNat_of_zero_le (show 0 ≤ b by omega)
      have hok := rectZ_ok a b (by omega) (by omega)
      have HT : Hid (tileB (setZ (rectZ a b)) ls = sTileB (setZ (rectZ a b)) ls) := tile_eq (setZ_lt hok) ls
      have HOK := Lib.hid hok
      have HV := Lib.hid h
      have HD := Lib.hid (fun V (h : RdF elDomino V V.heap.size v ls) => FaultsDown_any a b v ls _ V h (Nat.le_refl _))
      have HC := Lib.hid (fun V (h : RdF elDomino V V.heap.size v ls) => FaultsAcross_any a b v ls _ V h (Nat.le_refl _))
      have HFB : Hid (fltB a b ls = sTileB (setZ (rectZ a b)) ls) := by unfold Hid fltB; simp [t1, t2]
      have HIF : Hid (iffB a b ls = (fltB a b ls && decide ((fltZ a b a true ls).length = 0) && decide ((fltZ a b b false ls).length = 0))) := rfl
      generalize iffB a b ls = r at *
      rw [HFB.out] at HIF
      generalize fltZ (a : Int) b a true ls = z1 at *
      generalize fltZ (a : Int) b b false ls = z2 at *
      clear hok h
      go_enter Try.func25, Try.ntmps25
      go_wp2_with fail
      refine (within_any _ _ _ _).mono ?_
      rintro e w' ⟨rfl, rfl⟩
      rw [t1]
      go_wp2_with fail
      refine (within_any _ _ _ _).mono ?_
      rintro e w' ⟨rfl, rfl⟩
      rw [t2]
      go_wp2_with fail
      refine (Rectangle_yes a b (by omega) (by omega) _).mono ?_
      rintro e w1 ⟨u1, rfl, hr1, hb1⟩
      have HR1 := Lib.hid hr1
      have HB1 := Lib.hid hb1
      clear hb1 hr1
      go_wp2_with fail
      refine (IsTiling_yes _ _ _ ls _ _ HR1.out ((HV.out.below (HB1.out.mono hB)).more (Nat.le_trans hB HB1.out.size)) (Nat.le_refl _) HOK.out).mono ?_
      rintro e w2 ⟨rfl, hb2⟩
      rw [HT.out]
      have HB2 := Lib.hid (HB1.out.trans (hb2.mono HB1.out.size))
      clear hb2
      cases ht : sTileB (setZ (rectZ a b)) ls
      · have HF : Hid (false = r) := by unfold Hid; rw [HIF.out, ht]; rfl
        go_wp2_with fail
        go_ret
        exact ⟨ret_bool HF.out, HB2.out⟩
      · rw [ht, Bool.true_and] at HIF
        go_wp2_with fail
        refine (HD.out _ ((HV.out.below (HB2.out.mono hB)).more (Nat.le_trans hB HB2.out.size))).mono ?_
        rintro e w3 ⟨u3, rfl, ho3, hb3⟩
        obtain ⟨A3, c3, rfl, q31, q32, _⟩ := ho3.rd
        unfold maxLen at q32
        have HB3 := Lib.hid (HB2.out.trans (hb3.mono HB2.out.size))
        clear hb3 ho3
        by_cases h1 : z1.length = 0
        · have t3 : ((z1.length : Int) == 0) = true := by rw [beq_iff_eq]; omega
          have HI2 : Hid (decide (z2.length = 0) = r) := by unfold Hid; rw [HIF.out, decide_eq_true h1]; rfl
          have H1 := Lib.hid h1
          clear h1
          go_wp2_with fail
          refine (HC.out _ ((HV.out.below (HB3.out.mono hB)).more (Nat.le_trans hB HB3.out.size))).mono ?_
          rintro e w4 ⟨u4, rfl, ho4, hb4⟩
          obtain ⟨A4, c4, rfl, q41, q42, _⟩ := ho4.rd
          unfold maxLen at q42
          have HB4 := Lib.hid (HB3.out.trans (hb4.mono HB3.out.size))
          clear hb4 ho4
          have HE : Hid (((z2.length : Int) == 0) = r) := by unfold Hid; rw [← HI2.out, Bool.eq_iff_iff, beq_iff_eq, decide_eq_true_eq]; omega
          obtain ⟨n, HN⟩ : ∃ n : Nat, Hid (n = z2.length) := ⟨_, rfl⟩
          rw [← HN.out] at HE q41
          rw [← HN.out]
          cases hn : ((n : Int) == 0)
          all_goals
            rw [hn] at HE
            go_wp2_with fail
            go_ret
            exact ⟨ret_bool HE.out, HB4.out⟩
        · have t3 : ((z1.length : Int) == 0) = false := by rw [beq_eq_false_iff_ne]; omega
          have HF : Hid (false = r) := by unfold Hid; rw [HIF.out, decide_eq_false h1]; rfl
          obtain ⟨n, HN⟩ : ∃ n : Nat, Hid (n = z1.length) := ⟨_, rfl⟩
          rw [← HN.out] at t3 q31
          rw [← HN.out]
          clear h1
          go_wp2_with fail
          go_ret
          exact ⟨ret_bool HF.out, HB3.out⟩

end Go.Proofs.Ytiecphhenpapoaa
