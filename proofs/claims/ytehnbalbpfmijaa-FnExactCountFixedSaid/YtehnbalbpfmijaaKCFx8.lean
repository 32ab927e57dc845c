/- What the claim's walk rests on: parts Over, SortL, Duo. -/
import Derived.Test.YtehnbalbpfmijaaKCFx7
import Derived.Test.YtehnbalbpfmijaaKCFx2
import Derived.Test.YtehnbalbpfmijaaKCFx1
import Derived.Deep.RegionHeld3
namespace Go.Proofs.Ytehnbalbpfmijaa
open Go.RowKit
set_option linter.unusedVariables false

/-- Two cells of the floor, side by side. -/
def nextB (x y x2 y2 : Int) : Prop := (0 ≤ x ∧ x ≤ 7) ∧ (0 ≤ y ∧ y ≤ 7) ∧ (0 ≤ x2 ∧ x2 ≤ 7) ∧ (0 ≤ y2 ∧ y2 ≤ 7) ∧ ((x = x2 ∧ (y2 = y + 1 ∨ y = y2 + 1)) ∨ (y = y2 ∧ (x2 = x + 1 ∨ x = x2 + 1)))
def overL (x y x2 y2 : Int) : Lk := (min x x2, min y y2, x == x2)
theorem size_any (n : Int) (h : -100 ≤ n ∧ n ≤ 100) (w : World) :
    Calls Try.prog 171 #[.int .i64 n] w fun e w' => e = .returned (.int .i64 (max n (-n))) ∧ Below w.heap.size w w' := by
  obtain ⟨h1, h2⟩ := h
  go_enter Try.func171, Try.ntmps171
  go_wp2_with fail
  all_goals
    go_ret
    exact ⟨ret_int (by omega), Below.refl _ _⟩
set_option maxRecDepth 100000 in
set_option maxHeartbeats 4000000 in
theorem AreN_yes (x y x2 y2 : Int) (h : nextB x y x2 y2) (w : World) :
    Calls Try.prog 152 #[spotV x y, spotV x2 y2] w fun e w' => e = .returned (.bool true) ∧ Below w.heap.size w w' := by
  obtain ⟨W, hW, k1, k2, hb⟩ := two_alloc w (.cells #[.int .i64 x, .int .i64 y] 44) (.cells #[.int .i64 x2, .int .i64 y2] 44)
  have HW := Lib.hid hW
  have HB := Lib.hid hb
  have HS : Hid (TwoC W W w.heap.size (w.heap.size + 1) x y x2 y2) := ⟨by rw [blk_cell k1]; rfl, by rw [blk_cell k1]; rfl, by rw [blk_cell k2]; rfl, by rw [blk_cell k2]; rfl, Nat.le_refl _, Below.refl _ _⟩
  have L1 := Lib.hid (lt_of_block k1)
  have L2 := Lib.hid (lt_of_block k2)
  obtain ⟨⟨a1, a2⟩, ⟨b1, b2⟩, ⟨c1, c2⟩, ⟨d1, d2⟩, hh⟩ := h
  have h1 : spotB 7 x y = true := (spotB_iff _ _ _).2 ⟨⟨a1, a2⟩, ⟨b1, b2⟩⟩
  have h2 : spotB 7 x2 y2 = true := (spotB_iff _ _ _).2 ⟨⟨c1, c2⟩, ⟨d1, d2⟩⟩
  have e1 : IntKind.i64.wrap (x - x2) = x - x2 := IntWalk.i64_in _ (by omega)
  have e2 : IntKind.i64.wrap (y - y2) = y - y2 := IntWalk.i64_in _ (by omega)
  have hC1 := Lib.hid fun V => size_any (x - x2) (by omega) V
  have hC2 := Lib.hid fun V => size_any (y - y2) (by omega) V
  have e3 : max (x - x2) (-(x - x2)) + max (y - y2) (-(y - y2)) = 1 := by omega
  generalize max (x - x2) (-(x - x2)) = m1 at *
  generalize max (y - y2) (-(y - y2)) = m2 at *
  have H1 := Lib.hid h1; have H2 := Lib.hid h2
  clear hW hb k1 k2 h1 h2 hh
  go_enter Try.func152, Try.ntmps152
  go_wp2_with fail
  rw [← HW.out]
  go_region_held3 (fun w' => TwoC W w' w.heap.size (w.heap.size + 1) x y x2 y2)
    (first
      | exact HS.out.drew
      | exact TwoC.keep hb1 L1.out L2.out (by assumption))
    (first
      | (go_at_call 138; (with_reducible refine (CellOk_any x y _).mono ?_); rintro e w1 ⟨rfl, hb1⟩; rw [H1.out])
      | (go_at_call 138; (with_reducible refine (CellOk_any x2 y2 _).mono ?_); rintro e w1 ⟨rfl, hb1⟩; rw [H2.out])
      | (go_at_call 171; (with_reducible refine (hC1.out _).mono ?_); rintro e w1 ⟨rfl, hb1⟩)
      | (go_at_call 171; (with_reducible refine (hC2.out _).mono ?_); rintro e w1 ⟨rfl, hb1⟩))
  have HB4 := Lib.hid (HB.out.trans ((show TwoC W _ w.heap.size (w.heap.size + 1) x y x2 y2 from by assumption).2.2.2.2.2.mono HB.out.size))
  go_wp2_with fail
  go_ret
  exact ⟨rfl, HB4.out⟩
set_option maxRecDepth 100000 in
set_option maxHeartbeats 4000000 in
theorem specAreN_yes (x y x2 y2 : Int) (h : nextB x y x2 y2) (w : World) :
    Calls Try.prog 165 #[spotV x y, spotV x2 y2] w fun e w' => e = .returned (.bool true) ∧ Below w.heap.size w w' := by
  obtain ⟨W, hW, k1, k2, hb⟩ := two_alloc w (.cells #[.int .i64 x, .int .i64 y] 44) (.cells #[.int .i64 x2, .int .i64 y2] 44)
  have HW := Lib.hid hW
  have HB := Lib.hid hb
  have HS : Hid (TwoC W W w.heap.size (w.heap.size + 1) x y x2 y2) := ⟨by rw [blk_cell k1]; rfl, by rw [blk_cell k1]; rfl, by rw [blk_cell k2]; rfl, by rw [blk_cell k2]; rfl, Nat.le_refl _, Below.refl _ _⟩
  have L1 := Lib.hid (lt_of_block k1)
  have L2 := Lib.hid (lt_of_block k2)
  obtain ⟨⟨a1, a2⟩, ⟨b1, b2⟩, ⟨c1, c2⟩, ⟨d1, d2⟩, hh⟩ := h
  have H1 := Lib.hid (show spotB 7 x y = true from (spotB_iff _ _ _).2 ⟨⟨a1, a2⟩, ⟨b1, b2⟩⟩)
  have H2 := Lib.hid (show spotB 7 x2 y2 = true from (spotB_iff _ _ _).2 ⟨⟨c1, c2⟩, ⟨d1, d2⟩⟩)
  have hs : (x - x2 = 0 ∧ y - y2 = 1) ∨ (x - x2 = 0 ∧ y - y2 = -1) ∨ (x - x2 = 1 ∧ y - y2 = 0) ∨ (x - x2 = -1 ∧ y - y2 = 0) := by omega
  clear hW hb k1 k2 hh
  rcases hs with ⟨s1, s2⟩ | ⟨s1, s2⟩ | ⟨s1, s2⟩ | ⟨s1, s2⟩
  all_goals
    obtain ⟨f1, f2, f3, f4, _⟩ := HS.out
    go_enter Try.func165, Try.ntmps165
    go_upto_region 1 with (fail)
    rw [← HW.out]
    go_wp2_with fail
    refine (specCellOk_any _ _ _).mono ?_
    rintro e w3 ⟨rfl, hb3⟩
    rw [H1.out]
    have HT3 := Lib.hid (TwoC.keep hb3 L1.out L2.out HS.out)
    clear f1 f2 f3 f4 hb3
    obtain ⟨f1, f2, f3, f4, _⟩ := HT3.out
    go_wp2_with fail
    refine (specCellOk_any _ _ _).mono ?_
    rintro e w4 ⟨rfl, hb4⟩
    rw [H2.out]
    have HT4 := Lib.hid (TwoC.keep hb4 L1.out L2.out HT3.out)
    clear f1 f2 f3 f4 hb4
    obtain ⟨f1, f2, f3, f4, _⟩ := HT4.out
    have HB4 := Lib.hid (HB.out.trans (HT4.out.2.2.2.2.2.mono HB.out.size))
    go_wp2_with fail
    go_ret
    exact ⟨rfl, HB4.out⟩
set_option maxRecDepth 100000 in
set_option maxHeartbeats 4000000 in
theorem DominoOver_yes (x y x2 y2 : Int) (h : nextB x y x2 y2) (w : World) :
    Calls Try.prog 101 #[spotV x y, spotV x2 y2] w fun e w' => e = .returned (.tuple #[triV (overL x y x2 y2).1 (overL x y x2 y2).2.1 (overL x y x2 y2).2.2, .bool true]) ∧ Below w.heap.size w w' := by
  obtain ⟨W, hW, k1, k2, k3, hb⟩ := three_alloc w (.cells #[.int .i64 x, .int .i64 y] 44) (.cells #[.int .i64 x2, .int .i64 y2] 44) (triO 0 0 false 46)
  have HW := Lib.hid hW
  have HB := Lib.hid hb
  have HK1 := Lib.hid k1; have HK2 := Lib.hid k2; have HK3 := Lib.hid k3
  have a0 : W.cell? ⟨w.heap.size, 0, none⟩ = some (.int .i64 x) := by rw [blk_cell k1]; rfl
  have a1 : W.cell? ⟨w.heap.size, 1, none⟩ = some (.int .i64 y) := by rw [blk_cell k1]; rfl
  have a2 : W.cell? ⟨w.heap.size + 1, 0, none⟩ = some (.int .i64 x2) := by rw [blk_cell k2]; rfl
  have a3 : W.cell? ⟨w.heap.size + 1, 1, none⟩ = some (.int .i64 y2) := by rw [blk_cell k2]; rfl
  have HN := Lib.hid (fun V => AreN_yes x y x2 y2 h V)
  obtain ⟨mx, HMX⟩ : ∃ mx, Hid ((overL x y x2 y2).1 = mx) := ⟨_, rfl⟩
  obtain ⟨my, HMY⟩ : ∃ my, Hid ((overL x y x2 y2).2.1 = my) := ⟨_, rfl⟩
  have HMD : Hid ((overL x y x2 y2).2.2 = (x == x2)) := rfl
  have HMXE : Hid (mx = min x x2) := HMX.out.symm
  have HMYE : Hid (my = min y y2) := HMY.out.symm
  rw [HMX.out, HMY.out, HMD.out]
  clear hW hb k1 k2 k3 HMX HMY HMD h
  go_enter Try.func101, Try.ntmps101
  go_upto_region 1 with (fail)
  rw [← HW.out]
  go_wp2_with fail
  refine (HN.out _).mono ?_
  rintro e w1 ⟨rfl, hb1⟩
  have k1 := blk_below HK1.out hb1
  have k2 := blk_below HK2.out hb1
  have k3 := blk_below HK3.out hb1
  have HB1 := Lib.hid (HB.out.trans (hb1.mono HB.out.size))
  clear a0 a1 a2 a3 hb1
  have a0 : w1.cell? ⟨w.heap.size, 0, none⟩ = some (.int .i64 x) := by rw [blk_cell k1]; rfl
  have a1 : w1.cell? ⟨w.heap.size, 1, none⟩ = some (.int .i64 y) := by rw [blk_cell k1]; rfl
  have a2 : w1.cell? ⟨w.heap.size + 1, 0, none⟩ = some (.int .i64 x2) := by rw [blk_cell k2]; rfl
  have a3 : w1.cell? ⟨w.heap.size + 1, 1, none⟩ = some (.int .i64 y2) := by rw [blk_cell k2]; rfl
  have b0 : w1.cell? ⟨w.heap.size + 1 + 1, 0, none⟩ = some (.int .i64 0) := by rw [blk_cell k3]; rfl
  have b1 : w1.cell? ⟨w.heap.size + 1 + 1, 1, none⟩ = some (.int .i64 0) := by rw [blk_cell k3]; rfl
  have b2 : w1.cell? ⟨w.heap.size + 1 + 1, 2, none⟩ = some (.bool false) := by rw [blk_cell k3]; rfl
  have fr : ∀ o, w1.frozen? ⟨w.heap.size + 1 + 1, o, none⟩ = false := fun o => blk_free k3
  have hX := Lib.hid (blk_setCell (k := 2) (blk_setCell (k := 1) (blk_setCell (k := 0) k3 (.int .i64 mx)) (.int .i64 my)) (.bool (x == x2)))
  have hBX : Hid (Below w.heap.size w (((w1.setCell ⟨w.heap.size + 2, 0, none⟩ (.int .i64 mx)).setCell ⟨w.heap.size + 2, 1, none⟩ (.int .i64 my)).setCell ⟨w.heap.size + 2, 2, none⟩ (.bool (x == x2)))) := ((HB1.out.setCell (p := ⟨w.heap.size + 2, 0, none⟩) (by simp) _).setCell (p := ⟨w.heap.size + 2, 1, none⟩) (by simp) _).setCell (p := ⟨w.heap.size + 2, 2, none⟩) (by simp) _
  have hfin : ∀ V : World, Hid (V.heap[w.heap.size + 2]? = some (triO mx my (x == x2) 46)) → V.cell? ⟨w.heap.size + 1 + 1, 0, none⟩ = some (.int .i64 mx) ∧ V.cell? ⟨w.heap.size + 1 + 1, 1, none⟩ = some (.int .i64 my) ∧ V.cell? ⟨w.heap.size + 1 + 1, 2, none⟩ = some (.bool (x == x2)) := fun V hV => ⟨by rw [show w.heap.size + 1 + 1 = w.heap.size + 2 from rfl, blk_cell hV.out]; rfl, by rw [show w.heap.size + 1 + 1 = w.heap.size + 2 from rfl, blk_cell hV.out]; rfl, by rw [show w.heap.size + 1 + 1 = w.heap.size + 2 from rfl, blk_cell hV.out]; rfl⟩
  have hfin := Lib.hid hfin
  clear k1 k2 k3
  by_cases hx : x ≤ x2
  · by_cases hy : y ≤ y2
    · skip
      have e1 : mx = x := by have := HMXE.out; omega
      have e2 : my = y := by have := HMYE.out; omega
      rw [e1, e2] at hX hBX hfin
      have E1 := Lib.hid e1; have E2 := Lib.hid e2
      clear e1 e2
      go_wp2_with fail
      obtain ⟨X, HXQ⟩ : ∃ X, Hid (X = ((w1.setCell ⟨w.heap.size + 2, 0, none⟩ (.int .i64 x)).setCell ⟨w.heap.size + 2, 1, none⟩ (.int .i64 y)).setCell ⟨w.heap.size + 2, 2, none⟩ (.bool (x == x2))) := ⟨_, rfl⟩
      have hX1 := hX.out
      have hBX1 := hBX.out
      rw [← HXQ.out] at hX1 hBX1
      obtain ⟨r0, r1, r2⟩ := hfin.out X (by simpa [Hid] using hX1)
      show bodyPost _ _ _ _ _ (((w1.setCell ⟨w.heap.size + 2, 0, none⟩ (.int .i64 x)).setCell ⟨w.heap.size + 2, 1, none⟩ (.int .i64 y)).setCell ⟨w.heap.size + 2, 2, none⟩ (.bool (x == x2)))
      rw [← HXQ.out]
      exact bodyPost_ret (v := .tuple #[triV x y (x == x2), .bool true]) (by simp [results, Try.results101, go_sem, r0, r1, r2]) rfl ⟨by rw [E1.out, E2.out], hBX1⟩
    · have hy' : y2 < y := by omega
      clear hy
      have e1 : mx = x := by have := HMXE.out; omega
      have e2 : my = y2 := by have := HMYE.out; omega
      rw [e1, e2] at hX hBX hfin
      have E1 := Lib.hid e1; have E2 := Lib.hid e2
      clear e1 e2
      go_wp2_with fail
      obtain ⟨X, HXQ⟩ : ∃ X, Hid (X = ((w1.setCell ⟨w.heap.size + 2, 0, none⟩ (.int .i64 x)).setCell ⟨w.heap.size + 2, 1, none⟩ (.int .i64 y2)).setCell ⟨w.heap.size + 2, 2, none⟩ (.bool (x == x2))) := ⟨_, rfl⟩
      have hX1 := hX.out
      have hBX1 := hBX.out
      rw [← HXQ.out] at hX1 hBX1
      obtain ⟨r0, r1, r2⟩ := hfin.out X (by simpa [Hid] using hX1)
      show bodyPost _ _ _ _ _ (((w1.setCell ⟨w.heap.size + 2, 0, none⟩ (.int .i64 x)).setCell ⟨w.heap.size + 2, 1, none⟩ (.int .i64 y2)).setCell ⟨w.heap.size + 2, 2, none⟩ (.bool (x == x2)))
      rw [← HXQ.out]
      exact bodyPost_ret (v := .tuple #[triV x y2 (x == x2), .bool true]) (by simp [results, Try.results101, go_sem, r0, r1, r2]) rfl ⟨by rw [E1.out, E2.out], hBX1⟩
  · have hx' : x2 < x := by omega
    clear hx
    by_cases hy : y ≤ y2
    · skip
      have e1 : mx = x2 := by have := HMXE.out; omega
      have e2 : my = y := by have := HMYE.out; omega
      rw [e1, e2] at hX hBX hfin
      have E1 := Lib.hid e1; have E2 := Lib.hid e2
      clear e1 e2
      go_wp2_with fail
      obtain ⟨X, HXQ⟩ : ∃ X, Hid (X = ((w1.setCell ⟨w.heap.size + 2, 0, none⟩ (.int .i64 x2)).setCell ⟨w.heap.size + 2, 1, none⟩ (.int .i64 y)).setCell ⟨w.heap.size + 2, 2, none⟩ (.bool (x == x2))) := ⟨_, rfl⟩
      have hX1 := hX.out
      have hBX1 := hBX.out
      rw [← HXQ.out] at hX1 hBX1
      obtain ⟨r0, r1, r2⟩ := hfin.out X (by simpa [Hid] using hX1)
      show bodyPost _ _ _ _ _ (((w1.setCell ⟨w.heap.size + 2, 0, none⟩ (.int .i64 x2)).setCell ⟨w.heap.size + 2, 1, none⟩ (.int .i64 y)).setCell ⟨w.heap.size + 2, 2, none⟩ (.bool (x == x2)))
      rw [← HXQ.out]
      exact bodyPost_ret (v := .tuple #[triV x2 y (x == x2), .bool true]) (by simp [results, Try.results101, go_sem, r0, r1, r2]) rfl ⟨by rw [E1.out, E2.out], hBX1⟩
    · have hy' : y2 < y := by omega
      clear hy
      have e1 : mx = x2 := by have := HMXE.out; omega
      have e2 : my = y2 := by have := HMYE.out; omega
      rw [e1, e2] at hX hBX hfin
      have E1 := Lib.hid e1; have E2 := Lib.hid e2
      clear e1 e2
      go_wp2_with fail
      obtain ⟨X, HXQ⟩ : ∃ X, Hid (X = ((w1.setCell ⟨w.heap.size + 2, 0, none⟩ (.int .i64 x2)).setCell ⟨w.heap.size + 2, 1, none⟩ (.int .i64 y2)).setCell ⟨w.heap.size + 2, 2, none⟩ (.bool (x == x2))) := ⟨_, rfl⟩
      have hX1 := hX.out
      have hBX1 := hBX.out
      rw [← HXQ.out] at hX1 hBX1
      obtain ⟨r0, r1, r2⟩ := hfin.out X (by simpa [Hid] using hX1)
      show bodyPost _ _ _ _ _ (((w1.setCell ⟨w.heap.size + 2, 0, none⟩ (.int .i64 x2)).setCell ⟨w.heap.size + 2, 1, none⟩ (.int .i64 y2)).setCell ⟨w.heap.size + 2, 2, none⟩ (.bool (x == x2)))
      rw [← HXQ.out]
      exact bodyPost_ret (v := .tuple #[triV x2 y2 (x == x2), .bool true]) (by simp [results, Try.results101, go_sem, r0, r1, r2]) rfl ⟨by rw [E1.out, E2.out], hBX1⟩
set_option maxRecDepth 100000 in
set_option maxHeartbeats 4000000 in
theorem specDominoOver_yes (x y x2 y2 : Int) (h : nextB x y x2 y2) (w : World) :
    Calls Try.prog 133 #[spotV x y, spotV x2 y2] w fun e w' => e = .returned (.tuple #[triV (overL x y x2 y2).1 (overL x y x2 y2).2.1 (overL x y x2 y2).2.2, .bool true]) ∧ Below w.heap.size w w' := by
  obtain ⟨W, hW, k1, k2, k3, hb⟩ := three_alloc w (.cells #[.int .i64 x, .int .i64 y] 44) (.cells #[.int .i64 x2, .int .i64 y2] 44) (triO 0 0 false 46)
  have HW := Lib.hid hW
  have HB := Lib.hid hb
  have HK1 := Lib.hid k1; have HK2 := Lib.hid k2; have HK3 := Lib.hid k3
  have a0 : W.cell? ⟨w.heap.size, 0, none⟩ = some (.int .i64 x) := by rw [blk_cell k1]; rfl
  have a1 : W.cell? ⟨w.heap.size, 1, none⟩ = some (.int .i64 y) := by rw [blk_cell k1]; rfl
  have a2 : W.cell? ⟨w.heap.size + 1, 0, none⟩ = some (.int .i64 x2) := by rw [blk_cell k2]; rfl
  have a3 : W.cell? ⟨w.heap.size + 1, 1, none⟩ = some (.int .i64 y2) := by rw [blk_cell k2]; rfl
  have HN := Lib.hid (fun V => specAreN_yes x y x2 y2 h V)
  obtain ⟨mx, HMX⟩ : ∃ mx, Hid ((overL x y x2 y2).1 = mx) := ⟨_, rfl⟩
  obtain ⟨my, HMY⟩ : ∃ my, Hid ((overL x y x2 y2).2.1 = my) := ⟨_, rfl⟩
  have HMD : Hid ((overL x y x2 y2).2.2 = (x == x2)) := rfl
  have HMXE : Hid (mx = min x x2) := HMX.out.symm
  have HMYE : Hid (my = min y y2) := HMY.out.symm
  rw [HMX.out, HMY.out, HMD.out]
  clear hW hb k1 k2 k3 HMX HMY HMD h
  go_enter Try.func133, Try.ntmps133
  go_upto_region 1 with (fail)
  rw [← HW.out]
  go_wp2_with fail
  refine (HN.out _).mono ?_
  rintro e w1 ⟨rfl, hb1⟩
  have k1 := blk_below HK1.out hb1
  have k2 := blk_below HK2.out hb1
  have k3 := blk_below HK3.out hb1
  have HB1 := Lib.hid (HB.out.trans (hb1.mono HB.out.size))
  clear a0 a1 a2 a3 hb1
  have a0 : w1.cell? ⟨w.heap.size, 0, none⟩ = some (.int .i64 x) := by rw [blk_cell k1]; rfl
  have a1 : w1.cell? ⟨w.heap.size, 1, none⟩ = some (.int .i64 y) := by rw [blk_cell k1]; rfl
  have a2 : w1.cell? ⟨w.heap.size + 1, 0, none⟩ = some (.int .i64 x2) := by rw [blk_cell k2]; rfl
  have a3 : w1.cell? ⟨w.heap.size + 1, 1, none⟩ = some (.int .i64 y2) := by rw [blk_cell k2]; rfl
  have b0 : w1.cell? ⟨w.heap.size + 1 + 1, 0, none⟩ = some (.int .i64 0) := by rw [blk_cell k3]; rfl
  have b1 : w1.cell? ⟨w.heap.size + 1 + 1, 1, none⟩ = some (.int .i64 0) := by rw [blk_cell k3]; rfl
  have b2 : w1.cell? ⟨w.heap.size + 1 + 1, 2, none⟩ = some (.bool false) := by rw [blk_cell k3]; rfl
  have fr : ∀ o, w1.frozen? ⟨w.heap.size + 1 + 1, o, none⟩ = false := fun o => blk_free k3
  have hX := Lib.hid (blk_setCell (k := 2) (blk_setCell (k := 1) (blk_setCell (k := 0) k3 (.int .i64 mx)) (.int .i64 my)) (.bool (x == x2)))
  have hBX : Hid (Below w.heap.size w (((w1.setCell ⟨w.heap.size + 2, 0, none⟩ (.int .i64 mx)).setCell ⟨w.heap.size + 2, 1, none⟩ (.int .i64 my)).setCell ⟨w.heap.size + 2, 2, none⟩ (.bool (x == x2)))) := ((HB1.out.setCell (p := ⟨w.heap.size + 2, 0, none⟩) (by simp) _).setCell (p := ⟨w.heap.size + 2, 1, none⟩) (by simp) _).setCell (p := ⟨w.heap.size + 2, 2, none⟩) (by simp) _
  have hfin : ∀ V : World, Hid (V.heap[w.heap.size + 2]? = some (triO mx my (x == x2) 46)) → V.cell? ⟨w.heap.size + 1 + 1, 0, none⟩ = some (.int .i64 mx) ∧ V.cell? ⟨w.heap.size + 1 + 1, 1, none⟩ = some (.int .i64 my) ∧ V.cell? ⟨w.heap.size + 1 + 1, 2, none⟩ = some (.bool (x == x2)) := fun V hV => ⟨by rw [show w.heap.size + 1 + 1 = w.heap.size + 2 from rfl, blk_cell hV.out]; rfl, by rw [show w.heap.size + 1 + 1 = w.heap.size + 2 from rfl, blk_cell hV.out]; rfl, by rw [show w.heap.size + 1 + 1 = w.heap.size + 2 from rfl, blk_cell hV.out]; rfl⟩
  have hfin := Lib.hid hfin
  clear k1 k2 k3
  by_cases hx : x ≤ x2
  · by_cases hy : y ≤ y2
    · skip
      have e1 : mx = x := by have := HMXE.out; omega
      have e2 : my = y := by have := HMYE.out; omega
      rw [e1, e2] at hX hBX hfin
      have E1 := Lib.hid e1; have E2 := Lib.hid e2
      clear e1 e2
      go_wp2_with fail
      obtain ⟨X, HXQ⟩ : ∃ X, Hid (X = ((w1.setCell ⟨w.heap.size + 2, 0, none⟩ (.int .i64 x)).setCell ⟨w.heap.size + 2, 1, none⟩ (.int .i64 y)).setCell ⟨w.heap.size + 2, 2, none⟩ (.bool (x == x2))) := ⟨_, rfl⟩
      have hX1 := hX.out
      have hBX1 := hBX.out
      rw [← HXQ.out] at hX1 hBX1
      obtain ⟨r0, r1, r2⟩ := hfin.out X (by simpa [Hid] using hX1)
      show bodyPost _ _ _ _ _ (((w1.setCell ⟨w.heap.size + 2, 0, none⟩ (.int .i64 x)).setCell ⟨w.heap.size + 2, 1, none⟩ (.int .i64 y)).setCell ⟨w.heap.size + 2, 2, none⟩ (.bool (x == x2)))
      rw [← HXQ.out]
      exact bodyPost_ret (v := .tuple #[triV x y (x == x2), .bool true]) (by simp [results, Try.results133, go_sem, r0, r1, r2]) rfl ⟨by rw [E1.out, E2.out], hBX1⟩
    · have hy' : y2 < y := by omega
      clear hy
      have e1 : mx = x := by have := HMXE.out; omega
      have e2 : my = y2 := by have := HMYE.out; omega
      rw [e1, e2] at hX hBX hfin
      have E1 := Lib.hid e1; have E2 := Lib.hid e2
      clear e1 e2
      go_wp2_with fail
      obtain ⟨X, HXQ⟩ : ∃ X, Hid (X = ((w1.setCell ⟨w.heap.size + 2, 0, none⟩ (.int .i64 x)).setCell ⟨w.heap.size + 2, 1, none⟩ (.int .i64 y2)).setCell ⟨w.heap.size + 2, 2, none⟩ (.bool (x == x2))) := ⟨_, rfl⟩
      have hX1 := hX.out
      have hBX1 := hBX.out
      rw [← HXQ.out] at hX1 hBX1
      obtain ⟨r0, r1, r2⟩ := hfin.out X (by simpa [Hid] using hX1)
      show bodyPost _ _ _ _ _ (((w1.setCell ⟨w.heap.size + 2, 0, none⟩ (.int .i64 x)).setCell ⟨w.heap.size + 2, 1, none⟩ (.int .i64 y2)).setCell ⟨w.heap.size + 2, 2, none⟩ (.bool (x == x2)))
      rw [← HXQ.out]
      exact bodyPost_ret (v := .tuple #[triV x y2 (x == x2), .bool true]) (by simp [results, Try.results133, go_sem, r0, r1, r2]) rfl ⟨by rw [E1.out, E2.out], hBX1⟩
  · have hx' : x2 < x := by omega
    clear hx
    by_cases hy : y ≤ y2
    · skip
      have e1 : mx = x2 := by have := HMXE.out; omega
      have e2 : my = y := by have := HMYE.out; omega
      rw [e1, e2] at hX hBX hfin
      have E1 := Lib.hid e1; have E2 := Lib.hid e2
      clear e1 e2
      go_wp2_with fail
      obtain ⟨X, HXQ⟩ : ∃ X, Hid (X = ((w1.setCell ⟨w.heap.size + 2, 0, none⟩ (.int .i64 x2)).setCell ⟨w.heap.size + 2, 1, none⟩ (.int .i64 y)).setCell ⟨w.heap.size + 2, 2, none⟩ (.bool (x == x2))) := ⟨_, rfl⟩
      have hX1 := hX.out
      have hBX1 := hBX.out
      rw [← HXQ.out] at hX1 hBX1
      obtain ⟨r0, r1, r2⟩ := hfin.out X (by simpa [Hid] using hX1)
      show bodyPost _ _ _ _ _ (((w1.setCell ⟨w.heap.size + 2, 0, none⟩ (.int .i64 x2)).setCell ⟨w.heap.size + 2, 1, none⟩ (.int .i64 y)).setCell ⟨w.heap.size + 2, 2, none⟩ (.bool (x == x2)))
      rw [← HXQ.out]
      exact bodyPost_ret (v := .tuple #[triV x2 y (x == x2), .bool true]) (by simp [results, Try.results133, go_sem, r0, r1, r2]) rfl ⟨by rw [E1.out, E2.out], hBX1⟩
    · have hy' : y2 < y := by omega
      clear hy
      have e1 : mx = x2 := by have := HMXE.out; omega
      have e2 : my = y2 := by have := HMYE.out; omega
      rw [e1, e2] at hX hBX hfin
      have E1 := Lib.hid e1; have E2 := Lib.hid e2
      clear e1 e2
      go_wp2_with fail
      obtain ⟨X, HXQ⟩ : ∃ X, Hid (X = ((w1.setCell ⟨w.heap.size + 2, 0, none⟩ (.int .i64 x2)).setCell ⟨w.heap.size + 2, 1, none⟩ (.int .i64 y2)).setCell ⟨w.heap.size + 2, 2, none⟩ (.bool (x == x2))) := ⟨_, rfl⟩
      have hX1 := hX.out
      have hBX1 := hBX.out
      rw [← HXQ.out] at hX1 hBX1
      obtain ⟨r0, r1, r2⟩ := hfin.out X (by simpa [Hid] using hX1)
      show bodyPost _ _ _ _ _ (((w1.setCell ⟨w.heap.size + 2, 0, none⟩ (.int .i64 x2)).setCell ⟨w.heap.size + 2, 1, none⟩ (.int .i64 y2)).setCell ⟨w.heap.size + 2, 2, none⟩ (.bool (x == x2)))
      rw [← HXQ.out]
      exact bodyPost_ret (v := .tuple #[triV x2 y2 (x == x2), .bool true]) (by simp [results, Try.results133, go_sem, r0, r1, r2]) rfl ⟨by rw [E1.out, E2.out], hBX1⟩
end Go.Proofs.Ytehnbalbpfmijaa

namespace Go.Proofs.Ytehnbalbpfmijaa
open Go.RowKit
set_option linter.unusedVariables false

/-- The number by which dominoes are ordered. -/
def ordL (l : Lk) : Nat := domO l.1.toNat l.2.1.toNat l.2.2
theorem ordL_inj {l m : Lk} (hl : domL l = true) (hm : domL m = true) (h : ordL l = ordL m) : l = m := by
  obtain ⟨x, y, d⟩ := l
  obtain ⟨x', y', d'⟩ := m
  have h1 := (domB_iff _ _ _).1 hl
  have h2 := (domB_iff _ _ _).1 hm
  dsimp only at h1 h2
  have h3 : x ≤ 7 := by have := h1.2; cases d <;> simp at this <;> omega
  have h4 : x' ≤ 7 := by have := h2.2; cases d' <;> simp at this <;> omega
  unfold ordL domO cix at h
  simp only at h
  have e3 : d = d' := by cases d <;> cases d' <;> simp at h ⊢ <;> omega
  subst e3
  have e1 : x = x' := by omega
  have e2 : y = y' := by omega
  rw [e1, e2]
theorem ordL_lt {l : Lk} (hl : domL l = true) : ordL l < 128 := by
  obtain ⟨x, y, d⟩ := l
  have h1 := (domB_iff _ _ _).1 hl
  have h3 : x ≤ 7 ∧ y ≤ 7 := by have := h1.2; cases d <;> simp at this <;> omega
  unfold ordL domO cix
  simp only
  split <;> omega
/-- From the right: how many are not behind o. -/
def downK (ys : List Lk) (o : Nat) : Nat → Nat
  | 0 => 0
  | k + 1 => if o < ordL (dAt ys k) then downK ys o k else k + 1
/-- From the left: the first that is not before d. -/
def upK (ys : List Lk) (d : Lk) : Nat → Nat → Nat
  | 0, i => i
  | f + 1, i => if decide (i < ys.length) && domLt (dAt ys i) d then upK ys d f (i + 1) else i
def insI (d : Lk) (ys : List Lk) : List Lk :=
  let k := downK ys (ordL d) ys.length
  if decide (0 < k) && (dAt ys (k - 1) == d) then ys else ys.take k ++ d :: ys.drop k
def insS (d : Lk) (ys : List Lk) : List Lk :=
  let k := upK ys d ys.length 0
  if decide (k < ys.length) && (dAt ys k == d) then ys else ys.take k ++ [d] ++ ys.drop k
def sortI (ls : List Lk) : Nat → List Lk
  | 0 => []
  | k + 1 => if domL (dAt ls k) then insI (dAt ls k) (sortI ls k) else sortI ls k
def sortS (ls : List Lk) : Nat → List Lk
  | 0 => []
  | k + 1 => if domL (dAt ls k) then insS (dAt ls k) (sortS ls k) else sortS ls k
theorem downK_spec (ys : List Lk) (o : Nat) : ∀ k, downK ys o k ≤ k ∧ (∀ i, downK ys o k ≤ i → i < k → o < ordL (dAt ys i)) ∧ (0 < downK ys o k → ordL (dAt ys (downK ys o k - 1)) ≤ o)
  | 0 => by simp [downK]
  | k + 1 => by
    rw [downK]
    by_cases h : o < ordL (dAt ys k)
    · rw [if_pos h]
      obtain ⟨h1, h2, h3⟩ := downK_spec ys o k
      refine ⟨by omega, fun i g1 g2 => ?_, h3⟩
      by_cases e : i = k
      · subst e; exact h
      · exact h2 i g1 (by omega)
    · rw [if_neg h]
      exact ⟨Nat.le_refl _, fun i g1 g2 => by omega, fun _ => by simpa using h⟩
theorem upK_spec (ys : List Lk) (d : Lk) : ∀ f i, i ≤ upK ys d f i ∧ upK ys d f i ≤ i + f ∧ (∀ j, i ≤ j → j < upK ys d f i → j < ys.length ∧ domLt (dAt ys j) d = true) ∧ (upK ys d f i < i + f → upK ys d f i < ys.length → domLt (dAt ys (upK ys d f i)) d = false)
  | 0, i => by simp [upK]; intro j h1 h2; omega
  | f + 1, i => by
    rw [upK]
    cases hb : (decide (i < ys.length) && domLt (dAt ys i) d)
    · rw [if_neg (by simp)]
      refine ⟨Nat.le_refl _, by omega, fun j h1 h2 => by omega, fun _ h => ?_⟩
      simpa [h] using hb
    · rw [if_pos rfl]
      obtain ⟨h1, h2, h3, h4⟩ := upK_spec ys d f (i + 1)
      simp only [Bool.and_eq_true, decide_eq_true_eq] at hb
      refine ⟨by omega, by omega, fun j g1 g2 => ?_, fun g => h4 (by omega)⟩
      by_cases e : j = i
      · subst e; exact hb
      · exact h3 j (by omega) g2
/-- In order, each one valid. -/
def Sorted (ys : List Lk) : Prop := ys.Pairwise (fun a b => ordL a < ordL b) ∧ ∀ a ∈ ys, domL a = true
theorem dAt_get (ys : List Lk) (j : Nat) (h : j < ys.length) : dAt ys j = ys[j] := by
  have := lk_get ys j h
  rw [List.getElem?_eq_getElem h] at this
  exact (Option.some.inj this).symm
theorem Sorted.at {ys : List Lk} (h : Sorted ys) {i j : Nat} (hij : i < j) (hj : j < ys.length) : ordL (dAt ys i) < ordL (dAt ys j) := by
  rw [dAt_get ys i (by omega), dAt_get ys j hj]
  exact List.pairwise_iff_getElem.1 h.1 i j (by omega) hj hij
theorem Sorted.ok {ys : List Lk} (h : Sorted ys) {i : Nat} (hi : i < ys.length) : domL (dAt ys i) = true := by
  rw [dAt_get ys i hi]; exact h.2 _ (List.getElem_mem hi)
theorem Sorted.short {ys : List Lk} (h : Sorted ys) : ys.length ≤ 128 := by
  have key : ∀ k, k < ys.length → k ≤ ordL (dAt ys k) := by
    intro k
    induction k with
    | zero => intro _; omega
    | succ k ih => intro hk; have := ih (by omega); have := h.at (i := k) (j := k + 1) (by omega) hk; omega
  by_cases h0 : ys.length = 0
  · omega
  · have := key (ys.length - 1) (by omega)
    have := ordL_lt (h.ok (i := ys.length - 1) (by omega))
    omega
theorem ins_same {ys : List Lk} (h : Sorted ys) {d : Lk} (hd : domL d = true) : insI d ys = insS d ys ∧ Sorted (insI d ys) := by
  obtain ⟨d1, d2, d3⟩ := downK_spec ys (ordL d) ys.length
  obtain ⟨_, u2, u3, u4⟩ := upK_spec ys d ys.length 0
  have hlt : ∀ i, i < ys.length → (domLt (dAt ys i) d = true ↔ ordL (dAt ys i) < ordL d) := fun i hi => by
    have := h.ok hi
    unfold domL at this hd
    unfold domLt
    rw [this, hd]
    simp [ordL]
  unfold insI insS
  generalize downK ys (ordL d) ys.length = k at *
  generalize upK ys d ys.length 0 = k' at *
  simp only
  have hk' : k' ≤ ys.length := by omega
  by_cases hin : 0 < k ∧ dAt ys (k - 1) = d
  · have e : k' = k - 1 := by
      have a1 : ¬ (k - 1 < k') := fun g => by
        have := (hlt _ (by omega)).1 (u3 (k - 1) (Nat.zero_le _) g).2
        rw [hin.2] at this; omega
      have a2 : ¬ (k' < k - 1) := fun g => by
        have q := u4 (by omega) (by omega)
        have := h.at g (by omega)
        rw [hin.2] at this
        rw [(hlt _ (by omega)).2 this] at q
        simp at q
      omega
    rw [if_pos (by simp [hin.1, hin.2]), if_pos (by rw [e]; simp [hin.2]; omega)]
    exact ⟨rfl, h⟩
  · have e : k' = k := by
      have a1 : ¬ (k < k') := fun g => by
        have q1 := (hlt _ (by have := (u3 k (Nat.zero_le _) g).1; omega)).1 (u3 k (Nat.zero_le _) g).2
        have q2 := d2 k (Nat.le_refl _) (u3 k (Nat.zero_le _) g).1
        omega
      have a2 : ¬ (k' < k) := fun g => by
        have q := u4 (by omega) (by omega)
        have q1 : ¬ ordL (dAt ys k') < ordL d := fun g2 => by rw [(hlt _ (by omega)).2 g2] at q; simp at q
        have q2 := d3 (by omega)
        have q3 : ordL (dAt ys k') ≤ ordL (dAt ys (k - 1)) := by
          by_cases e2 : k' = k - 1
          · rw [e2]; exact Nat.le_refl _
          · exact Nat.le_of_lt (h.at (by omega) (by omega))
        exact hin ⟨by omega, ordL_inj (h.ok (by omega)) hd (by omega)⟩
      omega
    have hno : ¬ (k < ys.length ∧ dAt ys k = d) := fun g => by
      have := d2 k (Nat.le_refl _) g.1
      rw [g.2] at this; omega
    rw [if_neg (by simpa using hin), e, if_neg (by simpa using hno)]
    refine ⟨by simp, ?_, ?_⟩
    · rw [List.pairwise_append, List.pairwise_cons]
      have hp := h.1
      refine ⟨hp.sublist (List.take_sublist _ _), ⟨fun a ha => ?_, hp.sublist (List.drop_sublist _ _)⟩, fun a ha b hb => ?_⟩
      · obtain ⟨i, hi, rfl⟩ := List.getElem_of_mem ha
        rw [List.getElem_drop, ← dAt_get]
        simp at hi
        exact d2 _ (by omega) (by omega)
      · obtain ⟨i, hi, rfl⟩ := List.getElem_of_mem ha
        simp at hi
        rw [List.getElem_take, ← dAt_get ys i (by omega)]
        have hb1 : ordL (dAt ys i) < ordL d := (hlt _ (by omega)).1 (u3 i (Nat.zero_le _) (by omega)).2
        rcases List.mem_cons.1 hb with rfl | hb
        · exact hb1
        · obtain ⟨j, hj, rfl⟩ := List.getElem_of_mem hb
          simp at hj
          rw [List.getElem_drop, ← dAt_get]
          have := d2 (k + j) (by omega) (by omega)
          omega
    · intro a ha
      rcases List.mem_append.1 ha with ha | ha
      · exact h.2 _ (List.mem_of_mem_take ha)
      · rcases List.mem_cons.1 ha with rfl | ha
        · exact hd
        · exact h.2 _ (List.mem_of_mem_drop ha)
theorem sort_same (ls : List Lk) : ∀ k, sortI ls k = sortS ls k ∧ Sorted (sortI ls k)
  | 0 => ⟨rfl, by simp [sortI, Sorted]⟩
  | k + 1 => by
    obtain ⟨h1, h2⟩ := sort_same ls k
    rw [sortI, sortS]
    by_cases hd : domL (dAt ls k) = true
    · rw [if_pos hd, if_pos hd, ← h1]
      exact ins_same h2 hd
    · rw [if_neg hd, if_neg hd]
      exact ⟨h1, h2⟩
theorem sortI_short (ls : List Lk) (k : Nat) : (sortI ls k).length ≤ 128 := (sort_same ls k).2.short
end Go.Proofs.Ytehnbalbpfmijaa

namespace Go.Proofs.Ytehnbalbpfmijaa
open Go.RowKit

def duoC (l : Int × Int) : List Value := [.int .i64 l.1, .int .i64 l.2]
theorem duoC_one : ∀ (x : Int × Int), ∀ u ∈ duoC x, u.oneCell' = true := fun x u hu => by simp [duoC] at hu; rcases hu with rfl | rfl <;> rfl
def elCell : El (Int × Int) := ⟨44, 36, 2, 16, .agg #[.int .i64 0, .int .i64 0], duoC⟩
theorem okCell : elCell.Ok Try.prog := ⟨Try.underlying36, by kernel_rfl, rfl, by decide, by decide, fun _ => rfl, duoC_one⟩
def dx (ls : List (Int × Int)) (j : Nat) : Int := (ls.getD j (0, 0)).1
def dy (ls : List (Int × Int)) (j : Nat) : Int := (ls.getD j (0, 0)).2
theorem duo_get (ls : List (Int × Int)) (j : Nat) (h : j < ls.length) : ls[j]? = some (dx ls j, dy ls j) := by simp [dx, dy, h]
theorem addOne2 (a : Addr) : (⟨a.block, a.off + 1, none⟩ : Addr) = a.add 1 := by simp [Addr.add]
theorem RdD.of {E : El (Int × Int)} {w : World} {B : Nat} {v : Value} {ls : List (Int × Int)} (hs : E.s = 2) (hf : ∀ l, E.f l = duoC l) (h : RdF E w B v ls) :
    ∃ A c, v = .slice A ls.length c ∧ ls.length ≤ c ∧ c ≤ maxLen ∧ Hid (∀ j, j < ls.length → ∃ ad, A = some ad ∧ ad.block < B ∧ w.cell? (ad.add (j * 2)) = some (.int .i64 (dx ls j)) ∧
      w.cell? ⟨(ad.add (j * 2)).block, (ad.add (j * 2)).off + 1, none⟩ = some (.int .i64 (dy ls j))) := by
  obtain ⟨A, c, e, h1, h2, h3⟩ := h
  refine ⟨A, c, e, h1, h2, fun j hj => ?_⟩
  obtain ⟨ad, e2, hb, hc⟩ := h3 j _ (duo_get ls j hj)
  rw [hf, hs] at hc
  refine ⟨ad, e2, hb, hc 0 _ rfl, ?_⟩
  rw [addOne2, addAdd]; exact hc 1 _ rfl

abbrev FourS (w w' : World) (p q : Addr) (x y : Int) : Prop :=
  w'.cell? p = some (.int .i64 x) ∧ w'.cell? ⟨p.block, p.off + 1, none⟩ = some (.int .i64 y) ∧
  w'.cell? q = some (.int .i64 x) ∧ w'.cell? ⟨q.block, q.off + 1, none⟩ = some (.int .i64 y) ∧ w.heap.size ≤ w'.heap.size ∧ Below w.heap.size w w'
theorem keepFourB {w W0 w1 : World} {p q : Addr} {x y : Int} (hb : Below W0.heap.size W0 w1) (hp : p.block < w.heap.size) (hq : q.block < w.heap.size) (h : FourS w W0 p q x y) : FourS w w1 p q x y := by
  obtain ⟨h1, h2, h4, h5, h7, h8⟩ := h
  exact ⟨(hb.cell (by omega)).trans h1, (hb.cell (p := ⟨p.block, p.off + 1, none⟩) (by show p.block < _; omega)).trans h2, (hb.cell (by omega)).trans h4, (hb.cell (p := ⟨q.block, q.off + 1, none⟩) (by show q.block < _; omega)).trans h5, Nat.le_trans h7 hb.size, h8.trans (hb.mono h7)⟩
theorem drewFourB {w W0 : World} {p q : Addr} {x y : Int} (h : FourS w W0 p q x y) : FourS w W0.drew p q x y := by
  obtain ⟨h1, h2, h4, h5, h7, h8⟩ := h
  exact ⟨h1, h2, h4, h5, h7, h8.drew⟩

/-! ### The marks -/
def duoMk (k : Int) (i : Nat) : Int × Int := (k + 2 * (i : Int), k + 2 * (i : Int) + 1)
def duoIota (k : Int) (n : Nat) : List (Int × Int) := (List.range n).map (duoMk k)
theorem duoIota_length (k : Int) (n : Nat) : (duoIota k n).length = n := by simp [duoIota]
theorem duoIota_x (k : Int) (n j : Nat) (h : j < n) : dx (duoIota k n) j = k + 2 * (j : Int) := by simp [dx, duoIota, h, duoMk]
theorem duoIota_y (k : Int) (n j : Nat) (h : j < n) : dy (duoIota k n) j = k + 2 * (j : Int) + 1 := by simp [dy, duoIota, h, duoMk]
def duoTo (ls : List (Int × Int)) (k : Int) (j : Nat) : List (Int × Int) := (List.range ls.length).map fun (i : Nat) => if i < j then duoMk k i else ls.getD i (0, 0)
theorem duoTo_length (ls : List (Int × Int)) (k : Int) (j : Nat) : (duoTo ls k j).length = ls.length := by simp [duoTo]
theorem duoTo_zero (ls : List (Int × Int)) (k : Int) : duoTo ls k 0 = ls := by
  apply List.ext_getElem
  · exact duoTo_length _ _ _
  · intro i h1 h2; simp [duoTo, h2]
theorem duoTo_all (ls : List (Int × Int)) (k : Int) : duoTo ls k ls.length = duoIota k ls.length := by
  unfold duoTo duoIota
  apply List.map_congr_left
  intro i hi
  rw [if_pos (by simpa using hi)]
theorem duoTo_set (ls : List (Int × Int)) (k : Int) (j : Nat) (_h : j < ls.length) : (duoTo ls k j).set j (k + 2 * (j : Int), k + 2 * (j : Int) + 1) = duoTo ls k (j + 1) := by
  apply List.ext_getElem
  · simp [duoTo]
  · intro i h1 h2
    rw [List.getElem_set]
    by_cases e : j = i
    · subst e; simp [duoTo, duoMk]
    · by_cases e2 : i < j
      · simp [duoTo, e, e2, show i < j + 1 by omega]
      · simp [duoTo, e, e2, show ¬ i < j + 1 by omega]
/-- One struct is written, field by field. -/
theorem duoStore {P : Program} {E : El (Int × Int)} (hE : E.Ok P) (hs : E.s = 2) (hf : ∀ l, E.f l = duoC l) {w : World} {lo g cap : Nat} {ls : List (Int × Int)} (h : OwnF E w lo (.slice (some ⟨g, 0, none⟩) ls.length cap) ls) {j : Nat} (hj : j < ls.length) :
    w.cell? ⟨g, j * 2, none⟩ = some (.int .i64 (dx ls j)) ∧ w.cell? ⟨g, j * 2 + 1, none⟩ = some (.int .i64 (dy ls j)) ∧ (∀ o, w.frozen? ⟨g, o, none⟩ = false) ∧
      ∀ (a b : Int), OwnF E ((w.setCell ⟨g, j * 2, none⟩ (.int .i64 a)).setCell ⟨g, j * 2 + 1, none⟩ (.int .i64 b)) lo (.slice (some ⟨g, 0, none⟩) (ls.set j (a, b)).length cap) (ls.set j (a, b)) ∧
        w.grownBy ((w.setCell ⟨g, j * 2, none⟩ (.int .i64 a)).setCell ⟨g, j * 2 + 1, none⟩ (.int .i64 b)) (some g) := by
  have hc : ∀ i u, (duoC (dx ls j, dy ls j))[i]? = some u → w.cell? ⟨g, j * 2 + i, none⟩ = some u := fun i u hu => by
    have hi : i < 2 := (List.getElem?_eq_some_iff.1 hu).1
    have := World.ownsRow.cellAt h (j * 2 + i) (by rw [hs]; omega)
    rw [this, ← hs, flat_get hE.len ls j i _ (duo_get ls j hj) (by omega), hf]; exact hu
  refine ⟨hc 0 _ rfl, hc 1 _ rfl, World.ownsRow.frozenAt h, fun a b => ?_⟩
  obtain ⟨s1, t1, _⟩ := OwnF.store hE (x' := (a, dy ls j)) (u := .int .i64 a) h (duo_get ls j hj) (i := 0) (by omega) (by rw [hf, hf]; rfl)
  obtain ⟨s2, t2, _⟩ := OwnF.store hE (x' := (a, b)) (x := (a, dy ls j)) (u := .int .i64 b) s1 (j := j) (by simp [hj]) (i := 1) (by omega) (by rw [hf, hf]; rfl)
  rw [hs] at s2 t1 t2
  simp only [List.set_set, Nat.add_zero] at s2 t1 t2
  exact ⟨s2, t1.trans t2⟩
end Go.Proofs.Ytehnbalbpfmijaa
