/- The number of a region's cells, in the reference. -/
import Derived.Test.YtgehollikdbapaaSReg
namespace Go.Proofs.Ytgehollikdbapaa
open Go.RowKit
set_option linter.unusedVariables false

/-- How many of the first n numbers are in a set. -/
def cntB (T : Nat) : Nat → Nat
  | 0 => 0
  | n + 1 => cntB T n + (if T.testBit n then 1 else 0)
theorem cntB_le (T : Nat) : ∀ n, cntB T n ≤ n
  | 0 => Nat.le_refl _
  | n + 1 => by have := cntB_le T n; rw [cntB]; split <;> omega
def elCell : El (Int × Int) := ⟨122, 159, 2, 16, .agg #[.int .i64 0, .int .i64 0], fun l => [.int .i64 l.1, .int .i64 l.2]⟩
theorem okCell : elCell.Ok Try.prog := ⟨Try.underlying159, by kernel_rfl, rfl, by decide, by decide, fun _ => rfl, fun x u hu => by simp [elCell] at hu; rcases hu with rfl | rfl <;> rfl⟩

set_option maxRecDepth 100000 in
set_option maxHeartbeats 2000000 in
theorem CellsOf_yes (v : Value) (zs : List Int) (B : Nat) (w : World) (h : RdI w B v zs) (hB : B ≤ w.heap.size) (hok : regOkB zs = true) :
    Calls Try.prog 171 #[.agg #[v]] w fun e w' => ∃ A c, e = .returned (.slice A (cntB (setZ zs) 64) c) ∧ Below w.heap.size w w' := by
  have HU := Lib.hid h
  have HOK := Lib.hid hok
  have HHC := Lib.hid (fun x y hx hy V hV hB' => l03Has_yes v zs B V hV hB' hok x y hx hy)
  obtain ⟨A, c, rfl, h1, h2, hR⟩ := h
  unfold maxLen at h2
  obtain ⟨W, hW, k1, hb⟩ := one_alloc w (.cells #[.slice A zs.length c] 103)
  have K1 := Lib.hid k1
  have L1 := Lib.hid (lt_of_block k1)
  have HB := Lib.hid hb
  have HW := Lib.hid hW
  have HUW := Lib.hid (HU.out.below (hb.mono hB))
  have hBW : B ≤ W.heap.size := Nat.le_trans hB hb.size
  have HS0 : Hid (Acc elCell W W.heap.size (W.alloc (.cells #[] 122)) (.slice (some ⟨W.heap.size, 0, none⟩) 0 0) []) := Acc.start W
  clear hW k1 hb hR hok
  go_enter Try.func171, Try.ntmps171
  go_upto_region 1 with (fail)
  rw [← HW.out]
  go_wp2_with fail
  go_loopw [3, 4] (fun o i wr => ∃ (k : Nat) (v : Value) (cs : List (Int × Int)), k ≤ 64 ∧ i = .int .i64 k ∧ v = o ∧ cs.length = cntB (setZ zs) k ∧ Hid (Acc elCell W W.heap.size wr v cs)) (fun _ i _ => 64 - (intOf i).toNat)
  case atStart => exact ⟨0, _, [], Nat.zero_le _, rfl, rfl, rfl, HS0⟩
  case round =>
    obtain ⟨k, v, cs, hk, rfl, rfl, hcs, HA⟩ := hrel
    obtain ⟨A1, ca, hv, q1, q2, _⟩ := HA.out.1.rd okCell
    subst hv
    unfold maxLen at q2
    have HC := Lib.hid hcs
    have HLE := Lib.hid (cntB_le (setZ zs) k)
    have HBW := Lib.hid HA.out.2.1
    have c0 : wr.cell? ⟨w.heap.size, 0, none⟩ = some (.slice A zs.length c) := by rw [blk_cell (blk_below K1.out HBW.out)]; rfl
    have hcl : cs.length ≤ 64 := by have := HLE.out; omega
    by_cases hlt : k < 64
    · have ht : decide ((k : Int) < 64) = true := by simp only [decide_eq_true_eq]; omega
      clear hcs
      go_wp2_with fail
      refine (specRegionOk_yes _ zs B _ (HUW.out.below (HBW.out.mono hBW)) (Nat.le_trans hBW HBW.out.size) HOK.out).mono ?_
      rintro e w3 ⟨rfl, hb3⟩
      have HA3 := Lib.hid (HA.out.below hb3)
      clear hb3 c0
      go_wp2_with fail
      refine (CellAt_yes k (by omega) _).mono ?_
      rintro e w4 ⟨rfl, hb4⟩
      have HA4 := Lib.hid (HA3.out.below hb4)
      clear hb4
      have hx8 : k % 8 ≤ 7 := by omega
      have hy8 : k / 8 ≤ 7 := by omega
      have HXY : Hid (cix (k % 8) (k / 8) = k) := by unfold Hid cix; omega
      have HCN : Hid (cntB (setZ zs) (k + 1) = cntB (setZ zs) k + (if hasB (setZ zs) (k % 8) (k / 8) then 1 else 0)) := by unfold Hid hasB; rw [HXY.out]; rfl
      generalize k % 8 = x at *
      generalize k / 8 = y at *
      go_upto_region 6 with (fail)
      obtain ⟨X, hX, kx, hbx⟩ := one_alloc w4 (.cells #[.int .i64 (x : Int), .int .i64 (y : Int)] 122)
      rw [← hX]
      have HA5 := Lib.hid (HA4.out.below hbx)
      have e1 : X.cell? ⟨w4.heap.size, 0, none⟩ = some (.int .i64 (x : Int)) := by rw [blk_cell kx]; rfl
      have e2 : X.cell? ⟨w4.heap.size, 1, none⟩ = some (.int .i64 (y : Int)) := by rw [blk_cell kx]; rfl
      have c5 : X.cell? ⟨w.heap.size, 0, none⟩ = some (.slice A zs.length c) := by rw [blk_cell (blk_below K1.out HA5.out.2.1)]; rfl
      have KX := Lib.hid kx
      clear hX kx hbx
      go_wp2_with fail
      refine (HHC.out x y hx8 hy8 _ (HUW.out.below (HA5.out.2.1.mono hBW)) (Nat.le_trans hBW HA5.out.2.1.size)).mono ?_
      rintro e w6 ⟨rfl, hb6⟩
      have HA6 := Lib.hid (HA5.out.below hb6)
      have kx6 := blk_below KX.out hb6
      have g1 : w6.cell? ⟨w4.heap.size, 0, none⟩ = some (.int .i64 (x : Int)) := by rw [blk_cell kx6]; rfl
      have g2 : w6.cell? ⟨w4.heap.size, 1, none⟩ = some (.int .i64 (y : Int)) := by rw [blk_cell kx6]; rfl
      clear hb6 e1 e2 c5 kx6
      cases hh : hasB (setZ zs) x y
      · have HN : Hid (cs.length = cntB (setZ zs) (k + 1)) := by unfold Hid; rw [HCN.out, hh]; exact HC.out
        clear HCN hh
        go_wp2_with fail
        go_roundw
        case rel => exact ⟨k + 1, _, cs, by omega, by go_num, rfl, HN.out, HA6⟩
        case measure => simp [intOf]; omega
      · have HN : Hid (cs.length + 1 = cntB (setZ zs) (k + 1)) := by unfold Hid; rw [HCN.out, hh, HC.out]; rfl
        clear HCN hh
        go_wp2_with (at_builtin; refine wpList_push okCell rfl _ _ rfl HA6.out rfl ((x : Int), (y : Int)) _ rfl _ rfl (by simp) (by omega) ?_; intro u2 w7 HA7 HG7; obtain ⟨A7, c7, hu7, _⟩ := HA7.out.1.rd okCell; rw [List.length_append, List.length_singleton] at hu7; rw [hu7] at HA7; rw [hu7]; clear hu7 HG7)
        go_roundw
        case rel => exact ⟨k + 1, _, _, by omega, by go_num, rfl, by (rw [List.length_append, List.length_singleton]; exact HN.out), HA7⟩
        case measure => simp [intOf]; omega
    · have HK : Hid (cs.length = cntB (setZ zs) 64) := by unfold Hid; rw [hcs, show k = 64 by omega]
      have ht : decide ((k : Int) < 64) = false := by simp only [decide_eq_false_iff_not]; omega
      have HQ := Lib.hid (HB.out.trans (HBW.out.mono HB.out.size))
      clear hcs
      go_wp2_with fail
      go_ret
      exact ⟨A1, ca, by rw [HK.out]; rfl, HQ.out⟩

theorem CountCells_yes (v : Value) (zs : List Int) (B : Nat) (w : World) (h : RdI w B v zs) (hB : B ≤ w.heap.size) (hok : regOkB zs = true) :
    Calls Try.prog 147 #[.agg #[v]] w fun e w' => e = .returned (.int .i64 ((cntB (setZ zs) 64 : Nat) : Int)) ∧ Below w.heap.size w w' := by
  have HU := Lib.hid h
  have HOK := Lib.hid hok
  have HLE := Lib.hid (cntB_le (setZ zs) 64)
  obtain ⟨A, c, rfl, h1, h2, hR⟩ := h
  unfold maxLen at h2
  obtain ⟨W, hW, k1, hb⟩ := one_alloc w (.cells #[.slice A zs.length c] 103)
  have c0 : W.cell? ⟨w.heap.size, 0, none⟩ = some (.slice A zs.length c) := by rw [blk_cell k1]; rfl
  have HB := Lib.hid hb
  have HW := Lib.hid hW
  clear hW k1 hb hR hok
  go_enter Try.func147, Try.ntmps147
  go_upto_region 1 with (fail)
  rw [← HW.out]
  go_wp2_with fail
  refine (CellsOf_yes _ zs B _ (HU.out.below (HB.out.mono hB)) (Nat.le_trans hB HB.out.size) HOK.out).mono ?_
  rintro e w3 ⟨A3, c3, rfl, hb3⟩
  have HB3 := Lib.hid (HB.out.trans (hb3.mono HB.out.size))
  clear hb3
  go_wp2_with fail
  go_ret
  exact ⟨rfl, HB3.out⟩
end Go.Proofs.Ytgehollikdbapaa
