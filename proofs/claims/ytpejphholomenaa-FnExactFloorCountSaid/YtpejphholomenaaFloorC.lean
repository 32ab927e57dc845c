/- Contracts of FloorCount of the program and of the reference. -/
import Derived.Test.YtpejphholomenaaCount
import Derived.Test.YtpejphholomenaaProfS
import Derived.Test.YtpejphholomenaaTreeFloor
import Derived.Test.YtpejphholomenaaTreeFloorS
namespace Go.Proofs.Ytpejphholomenaa
open Go.RowKit
set_option linter.unusedVariables false

theorem floor_tab : ((List.range 5).all fun x => (List.range 5).all fun y => !gridB x y || regOkB (floorZ x y)) = true := by decide +kernel
theorem floor_ok {a b : Int} (hg : gridB a b = true) : regOkB (floorZ a b) = true := by
  have hb : (1 ≤ a ∧ a ≤ 4) ∧ 1 ≤ b ∧ b ≤ 4 := by simpa [gridB, inB_iff] using hg
  obtain ⟨n, rfl⟩ := Int.eq_ofNat_of_zero_le (show 0 ≤ a by omega)
  obtain ⟨m, rfl⟩ := Int.eq_ofNat_of_zero_le (show 0 ≤ b by omega)
  have h := floor_tab
  rw [List.all_eq_true] at h
  have h := h n (by simp; omega)
  rw [List.all_eq_true] at h
  have h := h m (by simp; omega)
  rw [hg] at h
  simpa using h
/-- What FloorCount returns. -/
def floorC (a b : Int) : Int := if gridB a b then profZ (setZ (floorZ a b)) else 0
set_option maxHeartbeats 1000000 in
theorem FloorCount_any (a b : Int) (w : World) :
    Calls Try.prog 43 #[.int .i64 a, .int .i64 b] w fun e w' => e = .returned (.int .i64 (floorC a b)) ∧ Below w.heap.size w w' := by
  cases hg : gridB a b
  · have e0 : floorC a b = 0 := by simp [floorC, hg]
    rw [e0]; clear e0
    go_enter Try.func43, Try.ntmps43
    go_wp2_with fail
    refine (GridOk_any _ _ _).mono ?_
    rintro e w1 ⟨rfl, rfl⟩
    rw [hg]
    go_wp2_with fail
    go_ret
    exact ⟨rfl, Below.refl _ _⟩
  · have HOK := Lib.hid (floor_ok hg)
    obtain ⟨res, HRES⟩ : ∃ r, Hid (floorC a b = r) := ⟨_, rfl⟩
    have HE : Hid (tilZ (floorZ a b) = res) := by unfold Hid; rw [← HRES.out]; simp [tilZ, floorC, hg, HOK.out]
    rw [HRES.out]
    have HT := Lib.hid (TreeFloor_any a b)
    generalize floorZ a b = zs at *
    clear HRES
    go_enter Try.func43, Try.ntmps43
    go_wp2_with fail
    refine (GridOk_any _ _ _).mono ?_
    rintro e w1 ⟨rfl, rfl⟩
    rw [hg]
    go_wp2_with fail
    refine (HT.out w).mono ?_
    rintro e w1 ⟨v1, rfl, ho1, hb1⟩
    have HC := Lib.hid (CountTilings_any v1 zs w1.heap.size w1 ho1.rd (Nat.le_refl _))
    rw [HE.out] at HC
    have HB1 := Lib.hid hb1
    clear ho1 hb1
    go_wp2_with fail
    refine HC.out.mono ?_
    rintro e w2 ⟨rfl, hb2⟩
    go_wp2_with fail
    go_ret
    exact ⟨rfl, HB1.out.trans (hb2.mono HB1.out.size)⟩
set_option maxHeartbeats 1000000 in
theorem specFloorCount_any (a b : Int) (w : World) :
    Calls Try.prog 42 #[.int .i64 a, .int .i64 b] w fun e w' => e = .returned (.int .i64 (floorC a b)) ∧ Below w.heap.size w w' := by
  cases hg : gridB a b
  · have e0 : floorC a b = 0 := by simp [floorC, hg]
    rw [e0]; clear e0
    go_enter Try.func42, Try.ntmps42
    go_wp2_with fail
    refine (specGridOk_any _ _ _).mono ?_
    rintro e w1 ⟨rfl, rfl⟩
    rw [hg]
    go_wp2_with fail
    go_ret
    exact ⟨rfl, Below.refl _ _⟩
  · have HOK := Lib.hid (floor_ok hg)
    obtain ⟨res, HRES⟩ : ∃ r, Hid (floorC a b = r) := ⟨_, rfl⟩
    have HE : Hid (profZ (setZ (floorZ a b)) = res) := by unfold Hid; rw [← HRES.out]; simp [floorC, hg]
    rw [HRES.out]
    have HT := Lib.hid (specTreeFloor_any a b)
    generalize floorZ a b = zs at *
    clear HRES
    go_enter Try.func42, Try.ntmps42
    go_wp2_with fail
    refine (specGridOk_any _ _ _).mono ?_
    rintro e w1 ⟨rfl, rfl⟩
    rw [hg]
    go_wp2_with fail
    refine (HT.out w).mono ?_
    rintro e w1 ⟨v1, rfl, ho1, hb1⟩
    have HC := Lib.hid (l07Count_yes v1 zs w1.heap.size w1 ho1.rd (Nat.le_refl _) HOK.out)
    rw [HE.out] at HC
    have HB1 := Lib.hid hb1
    clear ho1 hb1
    go_wp2_with fail
    refine HC.out.mono ?_
    rintro e w2 ⟨rfl, hb2⟩
    go_wp2_with fail
    go_ret
    exact ⟨rfl, HB1.out.trans (hb2.mono HB1.out.size)⟩
end Go.Proofs.Ytpejphholomenaa
