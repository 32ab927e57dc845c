/- Contracts of the program's count and CountTilings. -/
import Derived.Test.YtiecphhenpapoaaProfI
namespace Go.Proofs.Ytiecphhenpapoaa
open Go.RowKit
set_option linter.unusedVariables false

theorem count_any (T : Nat) (hT : T < 18446744073709551616) (w : World) :
    Calls Try.prog 177 #[.int .u64 (T : Int)] w fun e w' => e = .returned (.int .i64 (profZ T)) ∧ Below w.heap.size w w' := by
  obtain ⟨res, HRES⟩ : ∃ r, Hid (profZ T = r) := ⟨_, rfl⟩
  have HP := Lib.hid (profile_any T hT w)
  rw [HRES.out] at HP ⊢
  go_enter Try.func177, Try.ntmps177
  go_wp2_with fail
  refine HP.out.mono ?_
  rintro e w1 ⟨rfl, hb1⟩
  go_wp2_with fail
  go_ret
  exact ⟨rfl, hb1⟩
/-- What CountTilings returns. -/
def tilZ (zs : List Int) : Int := if regOkB zs then profZ (setZ zs) else 0
theorem CountTilings_any (v : Value) (zs : List Int) (B : Nat) (w : World) (h : RdI w B v zs) (hB : B ≤ w.heap.size) :
    Calls Try.prog 145 #[.agg #[v]] w fun e w' => e = .returned (.int .i64 (tilZ zs)) ∧ Below w.heap.size w w' := by
  have hb0 : Below w.heap.size w (w.alloc (.cells #[v] 51)) := (Below.refl _ _).alloc (Nat.le_refl _) _
  have HR := Lib.hid (h.below (hb0.mono hB))
  have hn := heap_alloc_new w (.cells #[v] 51)
  have hc : (w.alloc (.cells #[v] 51)).cell? ⟨w.heap.size, 0, none⟩ = some v := by rw [blk_cell hn]; rfl
  have hB2 : B ≤ (w.alloc (.cells #[v] 51)).heap.size := Nat.le_trans hB hb0.size
  have HB2 := Lib.hid hB2
  have HB0 := Lib.hid hb0
  obtain ⟨A, c, rfl, _, g2, _⟩ := id h
  unfold maxLen at g2
  cases hok : regOkB zs
  · have e0 : tilZ zs = 0 := by simp [tilZ, hok]
    rw [e0]
    clear e0 hn hB2 hb0 h
    go_enter Try.func145, Try.ntmps145
    go_wp2_with fail
    generalize w.alloc (.cells #[.slice A zs.length c] 51) = W at *
    refine (RegionOk_any _ zs B W HR.out HB2.out).mono ?_
    rintro e w1 ⟨rfl, hb1⟩
    rw [hok]
    go_wp2_with fail
    go_ret
    exact ⟨rfl, HB0.out.trans (hb1.mono HB0.out.size)⟩
  · obtain ⟨res, HRES⟩ : ∃ r, Hid (tilZ zs = r) := ⟨_, rfl⟩
    have HE : Hid (profZ (setZ zs) = res) := by unfold Hid; rw [← HRES.out]; simp [tilZ, hok]
    rw [HRES.out]
    have HL := Lib.hid (setZ_lt hok)
    clear HRES hn hB2 hb0 h
    go_enter Try.func145, Try.ntmps145
    go_wp2_with fail
    generalize w.alloc (.cells #[.slice A zs.length c] 51) = W at *
    refine (RegionOk_any _ zs B W HR.out HB2.out).mono ?_
    rintro e w1 ⟨rfl, hb1⟩
    rw [hok]
    have hc1 : w1.cell? ⟨w.heap.size, 0, none⟩ = some (.slice A zs.length c) := (hb1.cell (p := ⟨w.heap.size, 0, none⟩) (by
      by_cases hlt : w.heap.size < W.heap.size
      · exact hlt
      · rw [World.cell?, Array.getElem?_eq_none (by simpa using hlt)] at hc; simp at hc)).trans hc
    have HB1 := Lib.hid (HB0.out.trans (hb1.mono HB0.out.size))
    have HR1 := Lib.hid (HR.out.below (hb1.mono HB2.out))
    have HB21 := Lib.hid (Nat.le_trans HB2.out hb1.size)
    clear hc hb1
    go_wp2_with fail
    refine (rset_any _ zs B w1 HR1.out HB21.out hok).mono ?_
    rintro e w2 ⟨rfl, hb2⟩
    have HB3 := Lib.hid (HB1.out.trans (hb2.mono HB1.out.size))
    clear hc1 hb2
    have HC := Lib.hid (count_any (setZ zs) HL.out w2)
    rw [HE.out] at HC
    go_wp2_with fail
    refine HC.out.mono ?_
    rintro e w3 ⟨rfl, hb3⟩
    go_wp2_with fail
    go_ret
    exact ⟨rfl, HB3.out.trans (hb3.mono HB3.out.size)⟩
end Go.Proofs.Ytiecphhenpapoaa
