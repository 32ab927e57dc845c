/- What the claim's walk rests on: parts Over, StpP. -/
import Derived.Test.YtehnbalbpfmijaaKt5
import Derived.Test.YtehnbalbpfmijaaKt9
import Derived.Deep.RegionHeld3
namespace Go.Proofs.Ytehnbalbpfmijaa
open Go.RowKit
set_option linter.unusedVariables false

/-- Two cells of the floor, side by side. -/
def nextB (x y x2 y2 : Int) : Prop := (0 ≤ x ∧ x ≤ 7) ∧ (0 ≤ y ∧ y ≤ 7) ∧ (0 ≤ x2 ∧ x2 ≤ 7) ∧ (0 ≤ y2 ∧ y2 ≤ 7) ∧ ((x = x2 ∧ (y2 = y + 1 ∨ y = y2 + 1)) ∨ (y = y2 ∧ (x2 = x + 1 ∨ x = x2 + 1)))
def overL (x y x2 y2 : Int) : Lk := (min x x2, min y y2, x == x2)
theorem size_any (n : Int) (h : -100 ≤ n ∧ n ≤ 100) (w : World) :
    Calls Try.prog 171 #[.int .i64 n] w fun e w' => e = .returned (.int .i64 (max n (-n))) ∧ Below w.heap.size w w' := by
  obtain ⟨h1, h2⟩ := h
  go_enter Try.func171, Try.ntmps171
  go_wp2_with fail
  all_goals
    go_ret
    exact ⟨ret_int (by omega), Below.refl _ _⟩
set_option maxRecDepth 100000 in
set_option maxHeartbeats 4000000 in
theorem AreN_yes (x y x2 y2 : Int) (h : nextB x y x2 y2) (w : World) :
    Calls Try.prog 152 #[spotV x y, spotV x2 y2] w fun e w' => e = .returned (.bool true) ∧ Below w.heap.size w w' := by
  obtain ⟨W, hW, k1, k2, hb⟩ := two_alloc w (.cells #[.int .i64 x, .int .i64 y] 44) (.cells #[.int .i64 x2, .int .i64 y2] 44)
  have HW := Lib.hid hW
  have HB := Lib.hid hb
  have HS : Hid (TwoC W W w.heap.size (w.heap.size + 1) x y x2 y2) := ⟨by rw [blk_cell k1]; rfl, by rw [blk_cell k1]; rfl, by rw [blk_cell k2]; rfl, by rw [blk_cell k2]; rfl, Nat.le_refl _, Below.refl _ _⟩
  have L1 := Lib.hid (lt_of_block k1)
  have L2 := Lib.hid (lt_of_block k2)
  obtain ⟨⟨a1, a2⟩, ⟨b1, b2⟩, ⟨c1, c2⟩, ⟨d1, d2⟩, hh⟩ := h
  have h1 : spotB 7 x y = true := (spotB_iff _ _ _).2 ⟨⟨a1, a2⟩, ⟨b1, b2⟩⟩
  have h2 : spotB 7 x2 y2 = true := (spotB_iff _ _ _).2 ⟨⟨c1, c2⟩, ⟨d1, d2⟩⟩
  have e1 : IntKind.i64.wrap (x - x2) = x - x2 := IntWalk.i64_in _ (by omega)
  have e2 : IntKind.i64.wrap (y - y2) = y - y2 := IntWalk.i64_in _ (by omega)
  have hC1 := Lib.hid fun V => size_any (x - x2) (by omega) V
  have hC2 := Lib.hid fun V => size_any (y - y2) (by omega) V
  have e3 : max (x - x2) (-(x - x2)) + max (y - y2) (-(y - y2)) = 1 := by omega
  generalize max (x - x2) (-(x - x2)) = m1 at *
  generalize max (y - y2) (-(y - y2)) = m2 at *
  have H1 := Lib.hid h1; have H2 := Lib.hid h2
  clear hW hb k1 k2 h1 h2 hh
  go_enter Try.func152, Try.ntmps152
  go_wp2_with fail
  rw [← HW.out]
  go_region_held3 (fun w' => TwoC W w' w.heap.size (w.heap.size + 1) x y x2 y2)
    (first
      | exact HS.out.drew
      | exact TwoC.keep hb1 L1.out L2.out (by assumption))
    (first
      | (go_at_call 138; (with_reducible refine (CellOk_any x y _).mono ?_); rintro e w1 ⟨rfl, hb1⟩; rw [H1.out])
      | (go_at_call 138; (with_reducible refine (CellOk_any x2 y2 _).mono ?_); rintro e w1 ⟨rfl, hb1⟩; rw [H2.out])
      | (go_at_call 171; (with_reducible refine (hC1.out _).mono ?_); rintro e w1 ⟨rfl, hb1⟩)
      | (go_at_call 171; (with_reducible refine (hC2.out _).mono ?_); rintro e w1 ⟨rfl, hb1⟩))
  have HB4 := Lib.hid (HB.out.trans ((show TwoC W _ w.heap.size (w.heap.size + 1) x y x2 y2 from by assumption).2.2.2.2.2.mono HB.out.size))
  go_wp2_with fail
  go_ret
  exact ⟨rfl, HB4.out⟩
set_option maxRecDepth 100000 in
set_option maxHeartbeats 4000000 in
theorem specAreN_yes (x y x2 y2 : Int) (h : nextB x y x2 y2) (w : World) :
    Calls Try.prog 165 #[spotV x y, spotV x2 y2] w fun e w' => e = .returned (.bool true) ∧ Below w.heap.size w w' := by
  obtain ⟨W, hW, k1, k2, hb⟩ := two_alloc w (.cells #[.int .i64 x, .int .i64 y] 44) (.cells #[.int .i64 x2, .int .i64 y2] 44)
  have HW := Lib.hid hW
  have HB := Lib.hid hb
  have HS : Hid (TwoC W W w.heap.size (w.heap.size + 1) x y x2 y2) := ⟨by rw [blk_cell k1]; rfl, by rw [blk_cell k1]; rfl, by rw [blk_cell k2]; rfl, by rw [blk_cell k2]; rfl, Nat.le_refl _, Below.refl _ _⟩
  have L1 := Lib.hid (lt_of_block k1)
  have L2 := Lib.hid (lt_of_block k2)
  obtain ⟨⟨a1, a2⟩, ⟨b1, b2⟩, ⟨c1, c2⟩, ⟨d1, d2⟩, hh⟩ := h
  have H1 := Lib.hid (show spotB 7 x y = true from (spotB_iff _ _ _).2 ⟨⟨a1, a2⟩, ⟨b1, b2⟩⟩)
  have H2 := Lib.hid (show spotB 7 x2 y2 = true from (spotB_iff _ _ _).2 ⟨⟨c1, c2⟩, ⟨d1, d2⟩⟩)
  have hs : (x - x2 = 0 ∧ y - y2 = 1) ∨ (x - x2 = 0 ∧ y - y2 = -1) ∨ (x - x2 = 1 ∧ y - y2 = 0) ∨ (x - x2 = -1 ∧ y - y2 = 0) := by omega
  clear hW hb k1 k2 hh
  rcases hs with ⟨s1, s2⟩ | ⟨s1, s2⟩ | ⟨s1, s2⟩ | ⟨s1, s2⟩
  all_goals
    obtain ⟨f1, f2, f3, f4, _⟩ := HS.out
    go_enter Try.func165, Try.ntmps165
    go_upto_region 1 with (fail)
    rw [← HW.out]
    go_wp2_with fail
    refine (specCellOk_any _ _ _).mono ?_
    rintro e w3 ⟨rfl, hb3⟩
    rw [H1.out]
    have HT3 := Lib.hid (TwoC.keep hb3 L1.out L2.out HS.out)
    clear f1 f2 f3 f4 hb3
    obtain ⟨f1, f2, f3, f4, _⟩ := HT3.out
    go_wp2_with fail
    refine (specCellOk_any _ _ _).mono ?_
    rintro e w4 ⟨rfl, hb4⟩
    rw [H2.out]
    have HT4 := Lib.hid (TwoC.keep hb4 L1.out L2.out HT3.out)
    clear f1 f2 f3 f4 hb4
    obtain ⟨f1, f2, f3, f4, _⟩ := HT4.out
    have HB4 := Lib.hid (HB.out.trans (HT4.out.2.2.2.2.2.mono HB.out.size))
    go_wp2_with fail
    go_ret
    exact ⟨rfl, HB4.out⟩
set_option maxRecDepth 100000 in
set_option maxHeartbeats 4000000 in
theorem DominoOver_yes (x y x2 y2 : Int) (h : nextB x y x2 y2) (w : World) :
    Calls Try.prog 101 #[spotV x y, spotV x2 y2] w fun e w' => e = .returned (.tuple #[triV (overL x y x2 y2).1 (overL x y x2 y2).2.1 (overL x y x2 y2).2.2, .bool true]) ∧ Below w.heap.size w w' := by
  obtain ⟨W, hW, k1, k2, k3, hb⟩ := three_alloc w (.cells #[.int .i64 x, .int .i64 y] 44) (.cells #[.int .i64 x2, .int .i64 y2] 44) (triO 0 0 false 46)
  have HW := Lib.hid hW
  have HB := Lib.hid hb
  have HK1 := Lib.hid k1; have HK2 := Lib.hid k2; have HK3 := Lib.hid k3
  have a0 : W.cell? ⟨w.heap.size, 0, none⟩ = some (.int .i64 x) := by rw [blk_cell k1]; rfl
  have a1 : W.cell? ⟨w.heap.size, 1, none⟩ = some (.int .i64 y) := by rw [blk_cell k1]; rfl
  have a2 : W.cell? ⟨w.heap.size + 1, 0, none⟩ = some (.int .i64 x2) := by rw [blk_cell k2]; rfl
  have a3 : W.cell? ⟨w.heap.size + 1, 1, none⟩ = some (.int .i64 y2) := by rw [blk_cell k2]; rfl
  have HN := Lib.hid (fun V => AreN_yes x y x2 y2 h V)
  obtain ⟨mx, HMX⟩ : ∃ mx, Hid ((overL x y x2 y2).1 = mx) := ⟨_, rfl⟩
  obtain ⟨my, HMY⟩ : ∃ my, Hid ((overL x y x2 y2).2.1 = my) := ⟨_, rfl⟩
  have HMD : Hid ((overL x y x2 y2).2.2 = (x == x2)) := rfl
  have HMXE : Hid (mx = min x x2) := HMX.out.symm
  have HMYE : Hid (my = min y y2) := HMY.out.symm
  rw [HMX.out, HMY.out, HMD.out]
  clear hW hb k1 k2 k3 HMX HMY HMD h
  go_enter Try.func101, Try.ntmps101
  go_upto_region 1 with (fail)
  rw [← HW.out]
  go_wp2_with fail
  refine (HN.out _).mono ?_
  rintro e w1 ⟨rfl, hb1⟩
  have k1 := blk_below HK1.out hb1
  have k2 := blk_below HK2.out hb1
  have k3 := blk_below HK3.out hb1
  have HB1 := Lib.hid (HB.out.trans (hb1.mono HB.out.size))
  clear a0 a1 a2 a3 hb1
  have a0 : w1.cell? ⟨w.heap.size, 0, none⟩ = some (.int .i64 x) := by rw [blk_cell k1]; rfl
  have a1 : w1.cell? ⟨w.heap.size, 1, none⟩ = some (.int .i64 y) := by rw [blk_cell k1]; rfl
  have a2 : w1.cell? ⟨w.heap.size + 1, 0, none⟩ = some (.int .i64 x2) := by rw [blk_cell k2]; rfl
  have a3 : w1.cell? ⟨w.heap.size + 1, 1, none⟩ = some (.int .i64 y2) := by rw [blk_cell k2]; rfl
  have b0 : w1.cell? ⟨w.heap.size + 1 + 1, 0, none⟩ = some (.int .i64 0) := by rw [blk_cell k3]; rfl
  have b1 : w1.cell? ⟨w.heap.size + 1 + 1, 1, none⟩ = some (.int .i64 0) := by rw [blk_cell k3]; rfl
  have b2 : w1.cell? ⟨w.heap.size + 1 + 1, 2, none⟩ = some (.bool false) := by rw [blk_cell k3]; rfl
  have fr : ∀ o, w1.frozen? ⟨w.heap.size + 1 + 1, o, none⟩ = false := fun o => blk_free k3
  have hX := Lib.hid (blk_setCell (k := 2) (blk_setCell (k := 1) (blk_setCell (k := 0) k3 (.int .i64 mx)) (.int .i64 my)) (.bool (x == x2)))
  have hBX : Hid (Below w.heap.size w (((w1.setCell ⟨w.heap.size + 2, 0, none⟩ (.int .i64 mx)).setCell ⟨w.heap.size + 2, 1, none⟩ (.int .i64 my)).setCell ⟨w.heap.size + 2, 2, none⟩ (.bool (x == x2)))) := ((HB1.out.setCell (p := ⟨w.heap.size + 2, 0, none⟩) (by simp) _).setCell (p := ⟨w.heap.size + 2, 1, none⟩) (by simp) _).setCell (p := ⟨w.heap.size + 2, 2, none⟩) (by simp) _
  have hfin : ∀ V : World, Hid (V.heap[w.heap.size + 2]? = some (triO mx my (x == x2) 46)) → V.cell? ⟨w.heap.size + 1 + 1, 0, none⟩ = some (.int .i64 mx) ∧ V.cell? ⟨w.heap.size + 1 + 1, 1, none⟩ = some (.int .i64 my) ∧ V.cell? ⟨w.heap.size + 1 + 1, 2, none⟩ = some (.bool (x == x2)) := fun V hV => ⟨by rw [show w.heap.size + 1 + 1 = w.heap.size + 2 from rfl, blk_cell hV.out]; rfl, by rw [show w.heap.size + 1 + 1 = w.heap.size + 2 from rfl, blk_cell hV.out]; rfl, by rw [show w.heap.size + 1 + 1 = w.heap.size + 2 from rfl, blk_cell hV.out]; rfl⟩
  have hfin := Lib.hid hfin
  clear k1 k2 k3
  by_cases hx : x ≤ x2
  · by_cases hy : y ≤ y2
    · skip
      have e1 : mx = x := by have := HMXE.out; omega
      have e2 : my = y := by have := HMYE.out; omega
      rw [e1, e2] at hX hBX hfin
      have E1 := Lib.hid e1; have E2 := Lib.hid e2
      clear e1 e2
      go_wp2_with fail
      obtain ⟨X, HXQ⟩ : ∃ X, Hid (X = ((w1.setCell ⟨w.heap.size + 2, 0, none⟩ (.int .i64 x)).setCell ⟨w.heap.size + 2, 1, none⟩ (.int .i64 y)).setCell ⟨w.heap.size + 2, 2, none⟩ (.bool (x == x2))) := ⟨_, rfl⟩
      have hX1 := hX.out
      have hBX1 := hBX.out
      rw [← HXQ.out] at hX1 hBX1
      obtain ⟨r0, r1, r2⟩ := hfin.out X (by simpa [Hid] using hX1)
      show bodyPost _ _ _ _ _ (((w1.setCell ⟨w.heap.size + 2, 0, none⟩ (.int .i64 x)).setCell ⟨w.heap.size + 2, 1, none⟩ (.int .i64 y)).setCell ⟨w.heap.size + 2, 2, none⟩ (.bool (x == x2)))
      rw [← HXQ.out]
      exact bodyPost_ret (v := .tuple #[triV x y (x == x2), .bool true]) (by simp [results, Try.results101, go_sem, r0, r1, r2]) rfl ⟨by rw [E1.out, E2.out], hBX1⟩
    · have hy' : y2 < y := by omega
      clear hy
      have e1 : mx = x := by have := HMXE.out; omega
      have e2 : my = y2 := by have := HMYE.out; omega
      rw [e1, e2] at hX hBX hfin
      have E1 := Lib.hid e1; have E2 := Lib.hid e2
      clear e1 e2
      go_wp2_with fail
      obtain ⟨X, HXQ⟩ : ∃ X, Hid (X = ((w1.setCell ⟨w.heap.size + 2, 0, none⟩ (.int .i64 x)).setCell ⟨w.heap.size + 2, 1, none⟩ (.int .i64 y2)).setCell ⟨w.heap.size + 2, 2, none⟩ (.bool (x == x2))) := ⟨_, rfl⟩
      have hX1 := hX.out
      have hBX1 := hBX.out
      rw [← HXQ.out] at hX1 hBX1
      obtain ⟨r0, r1, r2⟩ := hfin.out X (by simpa [Hid] using hX1)
      show bodyPost _ _ _ _ _ (((w1.setCell ⟨w.heap.size + 2, 0, none⟩ (.int .i64 x)).setCell ⟨w.heap.size + 2, 1, none⟩ (.int .i64 y2)).setCell ⟨w.heap.size + 2, 2, none⟩ (.bool (x == x2)))
      rw [← HXQ.out]
      exact bodyPost_ret (v := .tuple #[triV x y2 (x == x2), .bool true]) (by simp [results, Try.results101, go_sem, r0, r1, r2]) rfl ⟨by rw [E1.out, E2.out], hBX1⟩
  · have hx' : x2 < x := by omega
    clear hx
    by_cases hy : y ≤ y2
    · skip
      have e1 : mx = x2 := by have := HMXE.out; omega
      have e2 : my = y := by have := HMYE.out; omega
      rw [e1, e2] at hX hBX hfin
      have E1 := Lib.hid e1; have E2 := Lib.hid e2
      clear e1 e2
      go_wp2_with fail
      obtain ⟨X, HXQ⟩ : ∃ X, Hid (X = ((w1.setCell ⟨w.heap.size + 2, 0, none⟩ (.int .i64 x2)).setCell ⟨w.heap.size + 2, 1, none⟩ (.int .i64 y)).setCell ⟨w.heap.size + 2, 2, none⟩ (.bool (x == x2))) := ⟨_, rfl⟩
      have hX1 := hX.out
      have hBX1 := hBX.out
      rw [← HXQ.out] at hX1 hBX1
      obtain ⟨r0, r1, r2⟩ := hfin.out X (by simpa [Hid] using hX1)
      show bodyPost _ _ _ _ _ (((w1.setCell ⟨w.heap.size + 2, 0, none⟩ (.int .i64 x2)).setCell ⟨w.heap.size + 2, 1, none⟩ (.int .i64 y)).setCell ⟨w.heap.size + 2, 2, none⟩ (.bool (x == x2)))
      rw [← HXQ.out]
      exact bodyPost_ret (v := .tuple #[triV x2 y (x == x2), .bool true]) (by simp [results, Try.results101, go_sem, r0, r1, r2]) rfl ⟨by rw [E1.out, E2.out], hBX1⟩
    · have hy' : y2 < y := by omega
      clear hy
      have e1 : mx = x2 := by have := HMXE.out; omega
      have e2 : my = y2 := by have := HMYE.out; omega
      rw [e1, e2] at hX hBX hfin
      have E1 := Lib.hid e1; have E2 := Lib.hid e2
      clear e1 e2
      go_wp2_with fail
      obtain ⟨X, HXQ⟩ : ∃ X, Hid (X = ((w1.setCell ⟨w.heap.size + 2, 0, none⟩ (.int .i64 x2)).setCell ⟨w.heap.size + 2, 1, none⟩ (.int .i64 y2)).setCell ⟨w.heap.size + 2, 2, none⟩ (.bool (x == x2))) := ⟨_, rfl⟩
      have hX1 := hX.out
      have hBX1 := hBX.out
      rw [← HXQ.out] at hX1 hBX1
      obtain ⟨r0, r1, r2⟩ := hfin.out X (by simpa [Hid] using hX1)
      show bodyPost _ _ _ _ _ (((w1.setCell ⟨w.heap.size + 2, 0, none⟩ (.int .i64 x2)).setCell ⟨w.heap.size + 2, 1, none⟩ (.int .i64 y2)).setCell ⟨w.heap.size + 2, 2, none⟩ (.bool (x == x2)))
      rw [← HXQ.out]
      exact bodyPost_ret (v := .tuple #[triV x2 y2 (x == x2), .bool true]) (by simp [results, Try.results101, go_sem, r0, r1, r2]) rfl ⟨by rw [E1.out, E2.out], hBX1⟩
set_option maxRecDepth 100000 in
set_option maxHeartbeats 4000000 in
theorem specDominoOver_yes (x y x2 y2 : Int) (h : nextB x y x2 y2) (w : World) :
    Calls Try.prog 133 #[spotV x y, spotV x2 y2] w fun e w' => e = .returned (.tuple #[triV (overL x y x2 y2).1 (overL x y x2 y2).2.1 (overL x y x2 y2).2.2, .bool true]) ∧ Below w.heap.size w w' := by
  obtain ⟨W, hW, k1, k2, k3, hb⟩ := three_alloc w (.cells #[.int .i64 x, .int .i64 y] 44) (.cells #[.int .i64 x2, .int .i64 y2] 44) (triO 0 0 false 46)
  have HW := Lib.hid hW
  have HB := Lib.hid hb
  have HK1 := Lib.hid k1; have HK2 := Lib.hid k2; have HK3 := Lib.hid k3
  have a0 : W.cell? ⟨w.heap.size, 0, none⟩ = some (.int .i64 x) := by rw [blk_cell k1]; rfl
  have a1 : W.cell? ⟨w.heap.size, 1, none⟩ = some (.int .i64 y) := by rw [blk_cell k1]; rfl
  have a2 : W.cell? ⟨w.heap.size + 1, 0, none⟩ = some (.int .i64 x2) := by rw [blk_cell k2]; rfl
  have a3 : W.cell? ⟨w.heap.size + 1, 1, none⟩ = some (.int .i64 y2) := by rw [blk_cell k2]; rfl
  have HN := Lib.hid (fun V => specAreN_yes x y x2 y2 h V)
  obtain ⟨mx, HMX⟩ : ∃ mx, Hid ((overL x y x2 y2).1 = mx) := ⟨_, rfl⟩
  obtain ⟨my, HMY⟩ : ∃ my, Hid ((overL x y x2 y2).2.1 = my) := ⟨_, rfl⟩
  have HMD : Hid ((overL x y x2 y2).2.2 = (x == x2)) := rfl
  have HMXE : Hid (mx = min x x2) := HMX.out.symm
  have HMYE : Hid (my = min y y2) := HMY.out.symm
  rw [HMX.out, HMY.out, HMD.out]
  clear hW hb k1 k2 k3 HMX HMY HMD h
  go_enter Try.func133, Try.ntmps133
  go_upto_region 1 with (fail)
  rw [← HW.out]
  go_wp2_with fail
  refine (HN.out _).mono ?_
  rintro e w1 ⟨rfl, hb1⟩
  have k1 := blk_below HK1.out hb1
  have k2 := blk_below HK2.out hb1
  have k3 := blk_below HK3.out hb1
  have HB1 := Lib.hid (HB.out.trans (hb1.mono HB.out.size))
  clear a0 a1 a2 a3 hb1
  have a0 : w1.cell? ⟨w.heap.size, 0, none⟩ = some (.int .i64 x) := by rw [blk_cell k1]; rfl
  have a1 : w1.cell? ⟨w.heap.size, 1, none⟩ = some (.int .i64 y) := by rw [blk_cell k1]; rfl
  have a2 : w1.cell? ⟨w.heap.size + 1, 0, none⟩ = some (.int .i64 x2) := by rw [blk_cell k2]; rfl
  have a3 : w1.cell? ⟨w.heap.size + 1, 1, none⟩ = some (.int .i64 y2) := by rw [blk_cell k2]; rfl
  have b0 : w1.cell? ⟨w.heap.size + 1 + 1, 0, none⟩ = some (.int .i64 0) := by rw [blk_cell k3]; rfl
  have b1 : w1.cell? ⟨w.heap.size + 1 + 1, 1, none⟩ = some (.int .i64 0) := by rw [blk_cell k3]; rfl
  have b2 : w1.cell? ⟨w.heap.size + 1 + 1, 2, none⟩ = some (.bool false) := by rw [blk_cell k3]; rfl
  have fr : ∀ o, w1.frozen? ⟨w.heap.size + 1 + 1, o, none⟩ = false := fun o => blk_free k3
  have hX := Lib.hid (blk_setCell (k := 2) (blk_setCell (k := 1) (blk_setCell (k := 0) k3 (.int .i64 mx)) (.int .i64 my)) (.bool (x == x2)))
  have hBX : Hid (Below w.heap.size w (((w1.setCell ⟨w.heap.size + 2, 0, none⟩ (.int .i64 mx)).setCell ⟨w.heap.size + 2, 1, none⟩ (.int .i64 my)).setCell ⟨w.heap.size + 2, 2, none⟩ (.bool (x == x2)))) := ((HB1.out.setCell (p := ⟨w.heap.size + 2, 0, none⟩) (by simp) _).setCell (p := ⟨w.heap.size + 2, 1, none⟩) (by simp) _).setCell (p := ⟨w.heap.size + 2, 2, none⟩) (by simp) _
  have hfin : ∀ V : World, Hid (V.heap[w.heap.size + 2]? = some (triO mx my (x == x2) 46)) → V.cell? ⟨w.heap.size + 1 + 1, 0, none⟩ = some (.int .i64 mx) ∧ V.cell? ⟨w.heap.size + 1 + 1, 1, none⟩ = some (.int .i64 my) ∧ V.cell? ⟨w.heap.size + 1 + 1, 2, none⟩ = some (.bool (x == x2)) := fun V hV => ⟨by rw [show w.heap.size + 1 + 1 = w.heap.size + 2 from rfl, blk_cell hV.out]; rfl, by rw [show w.heap.size + 1 + 1 = w.heap.size + 2 from rfl, blk_cell hV.out]; rfl, by rw [show w.heap.size + 1 + 1 = w.heap.size + 2 from rfl, blk_cell hV.out]; rfl⟩
  have hfin := Lib.hid hfin
  clear k1 k2 k3
  by_cases hx : x ≤ x2
  · by_cases hy : y ≤ y2
    · skip
      have e1 : mx = x := by have := HMXE.out; omega
      have e2 : my = y := by have := HMYE.out; omega
      rw [e1, e2] at hX hBX hfin
      have E1 := Lib.hid e1; have E2 := Lib.hid e2
      clear e1 e2
      go_wp2_with fail
      obtain ⟨X, HXQ⟩ : ∃ X, Hid (X = ((w1.setCell ⟨w.heap.size + 2, 0, none⟩ (.int .i64 x)).setCell ⟨w.heap.size + 2, 1, none⟩ (.int .i64 y)).setCell ⟨w.heap.size + 2, 2, none⟩ (.bool (x == x2))) := ⟨_, rfl⟩
      have hX1 := hX.out
      have hBX1 := hBX.out
      rw [← HXQ.out] at hX1 hBX1
      obtain ⟨r0, r1, r2⟩ := hfin.out X (by simpa [Hid] using hX1)
      show bodyPost _ _ _ _ _ (((w1.setCell ⟨w.heap.size + 2, 0, none⟩ (.int .i64 x)).setCell ⟨w.heap.size + 2, 1, none⟩ (.int .i64 y)).setCell ⟨w.heap.size + 2, 2, none⟩ (.bool (x == x2)))
      rw [← HXQ.out]
      exact bodyPost_ret (v := .tuple #[triV x y (x == x2), .bool true]) (by simp [results, Try.results133, go_sem, r0, r1, r2]) rfl ⟨by rw [E1.out, E2.out], hBX1⟩
    · have hy' : y2 < y := by omega
      clear hy
      have e1 : mx = x := by have := HMXE.out; omega
      have e2 : my = y2 := by have := HMYE.out; omega
      rw [e1, e2] at hX hBX hfin
      have E1 := Lib.hid e1; have E2 := Lib.hid e2
      clear e1 e2
      go_wp2_with fail
      obtain ⟨X, HXQ⟩ : ∃ X, Hid (X = ((w1.setCell ⟨w.heap.size + 2, 0, none⟩ (.int .i64 x)).setCell ⟨w.heap.size + 2, 1, none⟩ (.int .i64 y2)).setCell ⟨w.heap.size + 2, 2, none⟩ (.bool (x == x2))) := ⟨_, rfl⟩
      have hX1 := hX.out
      have hBX1 := hBX.out
      rw [← HXQ.out] at hX1 hBX1
      obtain ⟨r0, r1, r2⟩ := hfin.out X (by simpa [Hid] using hX1)
      show bodyPost _ _ _ _ _ (((w1.setCell ⟨w.heap.size + 2, 0, none⟩ (.int .i64 x)).setCell ⟨w.heap.size + 2, 1, none⟩ (.int .i64 y2)).setCell ⟨w.heap.size + 2, 2, none⟩ (.bool (x == x2)))
      rw [← HXQ.out]
      exact bodyPost_ret (v := .tuple #[triV x y2 (x == x2), .bool true]) (by simp [results, Try.results133, go_sem, r0, r1, r2]) rfl ⟨by rw [E1.out, E2.out], hBX1⟩
  · have hx' : x2 < x := by omega
    clear hx
    by_cases hy : y ≤ y2
    · skip
      have e1 : mx = x2 := by have := HMXE.out; omega
      have e2 : my = y := by have := HMYE.out; omega
      rw [e1, e2] at hX hBX hfin
      have E1 := Lib.hid e1; have E2 := Lib.hid e2
      clear e1 e2
      go_wp2_with fail
      obtain ⟨X, HXQ⟩ : ∃ X, Hid (X = ((w1.setCell ⟨w.heap.size + 2, 0, none⟩ (.int .i64 x2)).setCell ⟨w.heap.size + 2, 1, none⟩ (.int .i64 y)).setCell ⟨w.heap.size + 2, 2, none⟩ (.bool (x == x2))) := ⟨_, rfl⟩
      have hX1 := hX.out
      have hBX1 := hBX.out
      rw [← HXQ.out] at hX1 hBX1
      obtain ⟨r0, r1, r2⟩ := hfin.out X (by simpa [Hid] using hX1)
      show bodyPost _ _ _ _ _ (((w1.setCell ⟨w.heap.size + 2, 0, none⟩ (.int .i64 x2)).setCell ⟨w.heap.size + 2, 1, none⟩ (.int .i64 y)).setCell ⟨w.heap.size + 2, 2, none⟩ (.bool (x == x2)))
      rw [← HXQ.out]
      exact bodyPost_ret (v := .tuple #[triV x2 y (x == x2), .bool true]) (by simp [results, Try.results133, go_sem, r0, r1, r2]) rfl ⟨by rw [E1.out, E2.out], hBX1⟩
    · have hy' : y2 < y := by omega
      clear hy
      have e1 : mx = x2 := by have := HMXE.out; omega
      have e2 : my = y2 := by have := HMYE.out; omega
      rw [e1, e2] at hX hBX hfin
      have E1 := Lib.hid e1; have E2 := Lib.hid e2
      clear e1 e2
      go_wp2_with fail
      obtain ⟨X, HXQ⟩ : ∃ X, Hid (X = ((w1.setCell ⟨w.heap.size + 2, 0, none⟩ (.int .i64 x2)).setCell ⟨w.heap.size + 2, 1, none⟩ (.int .i64 y2)).setCell ⟨w.heap.size + 2, 2, none⟩ (.bool (x == x2))) := ⟨_, rfl⟩
      have hX1 := hX.out
      have hBX1 := hBX.out
      rw [← HXQ.out] at hX1 hBX1
      obtain ⟨r0, r1, r2⟩ := hfin.out X (by simpa [Hid] using hX1)
      show bodyPost _ _ _ _ _ (((w1.setCell ⟨w.heap.size + 2, 0, none⟩ (.int .i64 x2)).setCell ⟨w.heap.size + 2, 1, none⟩ (.int .i64 y2)).setCell ⟨w.heap.size + 2, 2, none⟩ (.bool (x == x2)))
      rw [← HXQ.out]
      exact bodyPost_ret (v := .tuple #[triV x2 y2 (x == x2), .bool true]) (by simp [results, Try.results133, go_sem, r0, r1, r2]) rfl ⟨by rw [E1.out, E2.out], hBX1⟩
end Go.Proofs.Ytehnbalbpfmijaa

namespace Go.Proofs.Ytehnbalbpfmijaa
open Go.RowKit
set_option linter.unusedVariables false

/-- The number of a cell, with a margin of one around the floor. -/
def ixD (W : Nat) (c : Int × Int) : Nat := ((c.2 + 1) * ((W : Int) + 2) + c.1 + 1).toNat
def extW (W H : Nat) (c : Int × Int) : Prop := (-1 ≤ c.1 ∧ c.1 ≤ W) ∧ -1 ≤ c.2 ∧ c.2 ≤ H
theorem ix_nat {W H : Nat} {c : Int × Int} (h : extW W H c) : ixD W c = (c.2 + 1).toNat * (W + 2) + (c.1 + 1).toNat ∧ (c.1 + 1).toNat < W + 2 ∧ (c.2 + 1).toNat < H + 2 ∧ (ixD W c : Int) = (c.2 + 1) * ((W : Int) + 2) + c.1 + 1 := by
  obtain ⟨⟨h1, h2⟩, h3, h4⟩ := h
  obtain ⟨x, hx⟩ := Int.eq_ofNat_of_zero_le (show 0 ≤ c.1 + 1 by omega)
  obtain ⟨y, hy⟩ := Int.eq_ofNat_of_zero_le (show 0 ≤ c.2 + 1 by omega)
  unfold ixD
  have e : (c.2 + 1) * ((W : Int) + 2) + c.1 + 1 = ((y * (W + 2) + x : Nat) : Int) := by
    rw [hy, Int.add_assoc, hx]; simp
  rw [e, hx, hy, Int.toNat_natCast, Int.toNat_natCast, Int.toNat_natCast]
  omega
theorem ix_lt {W H : Nat} {c : Int × Int} (h : extW W H c) : ixD W c < (W + 2) * (H + 2) := by
  obtain ⟨e, h1, h2, _⟩ := ix_nat h
  rw [e]
  have h5 : ((c.2 + 1).toNat + 1) * (W + 2) ≤ (H + 2) * (W + 2) := Nat.mul_le_mul (by omega) (Nat.le_refl _)
  rw [Nat.succ_mul, Nat.mul_comm (H + 2)] at h5
  omega
theorem ix_inj {W H : Nat} {c e : Int × Int} (h : extW W H c) (h2 : extW W H e) (he : ixD W c = ixD W e) : c = e := by
  obtain ⟨a1, a2, a3, _⟩ := ix_nat h
  obtain ⟨b1, b2, b3, _⟩ := ix_nat h2
  rw [a1, b1] at he
  have m1 : ((c.2 + 1).toNat * (W + 2) + (c.1 + 1).toNat) % (W + 2) = ((e.2 + 1).toNat * (W + 2) + (e.1 + 1).toNat) % (W + 2) := by rw [he]
  have m2 : ((c.2 + 1).toNat * (W + 2) + (c.1 + 1).toNat) / (W + 2) = ((e.2 + 1).toNat * (W + 2) + (e.1 + 1).toNat) / (W + 2) := by rw [he]
  rw [Nat.mul_comm, Nat.mul_add_mod, Nat.mod_eq_of_lt a2, Nat.mul_comm, Nat.mul_add_mod, Nat.mod_eq_of_lt b2] at m1
  rw [Nat.mul_comm, Nat.mul_add_div (by omega), Nat.div_eq_of_lt a2, Nat.mul_comm, Nat.mul_add_div (by omega), Nat.div_eq_of_lt b2] at m2
  obtain ⟨⟨p1, p2⟩, p3, p4⟩ := h
  obtain ⟨⟨q1, q2⟩, q3, q4⟩ := h2
  ext <;> omega
/-- The marks tell what is in the list. -/
def DInv (W H : Nat) (kn : Nat → Bool) (T : List (Int × Int)) : Prop := ∀ c, extW W H c → kn (ixD W c) = decide (c ∈ T)
theorem DInv.start (W H : Nat) : DInv W H (fun _ => false) [] := fun c _ => by simp
theorem DInv.step {W H : Nat} {kn : Nat → Bool} {T : List (Int × Int)} (h : DInv W H kn T) {c : Int × Int} (hc : extW W H c) : DInv W H (updB kn (ixD W c)) (T ++ [c]) := by
  intro e he
  by_cases q : e = c
  · subst q; simp [updB]
  · have : ixD W e ≠ ixD W c := fun q2 => q (ix_inj he hc q2)
    rw [updB, if_neg this, h e he]
    simp [q]
def wy (j : Nat) : Int × Int := (el [1, 0, -1, 0] j, el [0, 1, 0, -1] j)
theorem wy_dir {j : Nat} (h : j < 4) : wy j ∈ dirs4 := by
  rcases show j = 0 ∨ j = 1 ∨ j = 2 ∨ j = 3 by omega with rfl | rfl | rfl | rfl <;> decide
theorem dir_wy {d : Int × Int} (h : d ∈ dirs4) : ∃ j, j < 4 ∧ wy j = d := by
  rcases (dirs4_iff d).1 h with rfl | rfl | rfl | rfl
  · exact ⟨0, by omega, by decide⟩
  · exact ⟨1, by omega, by decide⟩
  · exact ⟨2, by omega, by decide⟩
  · exact ⟨3, by omega, by decide⟩
def domF (p : (Int × Int) × (Int × Int)) : Lk := overL (pad p.1 p.2).1 (pad p.1 p.2).2 p.1.1 p.1.2
/-- What a found cell knows. -/
def StepOk (W H : Int) (hs : Int × Int → Bool) (T : List (Int × Int)) (n : Nat) (p : (Int × Int) × (Int × Int)) : Prop :=
  p.2 ∈ dirs4 ∧ inW W H p.1 ∧ inW W H (pad p.1 p.2) ∧ hs (pad p.1 p.2) = true ∧ pad (pad p.1 p.2) p.2 ∈ T.take n ∧ p.1 ∉ T.take n
def SInv (W H : Int) (hs : Int × Int → Bool) (ini T : List (Int × Int)) (out : List Lk) : Prop :=
  ∃ fd : List ((Int × Int) × (Int × Int)), T = ini ++ fd.map (·.1) ∧ out = fd.map domF ∧ ∀ j p, fd[j]? = some p → StepOk W H hs T (ini.length + j) p
theorem SInv.start (W H : Int) (hs : Int × Int → Bool) (ini : List (Int × Int)) : SInv W H hs ini ini [] := ⟨[], by simp, by simp, fun j p h => by simp at h⟩
theorem SInv.step {W H : Int} {hs : Int × Int → Bool} {ini T : List (Int × Int)} {out : List Lk} (h : SInv W H hs ini T out) {t d : Int × Int} (hd : d ∈ dirs4) (ht : inW W H t) (hm : inW W H (pad t d)) (hh : hs (pad t d) = true) (hn : pad (pad t d) d ∈ T) (hu : t ∉ T) :
    SInv W H hs ini (T ++ [t]) (out ++ [overL (pad t d).1 (pad t d).2 t.1 t.2]) := by
  obtain ⟨fd, e1, e2, e3⟩ := h
  have hl : T.length = ini.length + fd.length := by rw [e1]; simp
  refine ⟨fd ++ [(t, d)], by rw [e1]; simp, by rw [e2]; simp [domF], fun j p hj => ?_⟩
  by_cases q : j < fd.length
  · rw [List.getElem?_append_left q] at hj
    obtain ⟨a, b, c, f, g, k⟩ := e3 j p hj
    have et : (T ++ [t]).take (ini.length + j) = T.take (ini.length + j) := List.take_append_of_le_length (by omega)
    exact ⟨a, b, c, f, by rw [et]; exact g, by rw [et]; exact k⟩
  · have hj2 : j < (fd ++ [(t, d)]).length := (List.getElem?_eq_some_iff.1 hj).1
    have : j = fd.length := by simp at hj2; omega
    subst this
    simp at hj
    subst hj
    have et : (T ++ [t]).take (ini.length + fd.length) = T := by rw [← hl]; simp
    exact ⟨hd, ht, hm, hh, by rw [et]; exact hn, by rw [et]; exact hu⟩
def CloAt (W H : Int) (hs : Int × Int → Bool) (T : List (Int × Int)) (c d : Int × Int) : Prop := inW W H (pad (pad c d) d) → inW W H (pad c d) → hs (pad c d) = true → pad (pad c d) d ∈ T
def Closed (W H : Int) (hs : Int × Int → Bool) (T : List (Int × Int)) (k m : Nat) : Prop :=
  ∀ i c, T[i]? = some c → ∀ j, j < 4 → (i < k ∨ (i = k ∧ j < m)) → CloAt W H hs T c (wy j)
theorem Closed.start (W H : Int) (hs : Int × Int → Bool) (T : List (Int × Int)) : Closed W H hs T 0 0 := fun i c _ j _ h => by omega
theorem Closed.next {W H : Int} {hs : Int × Int → Bool} {T : List (Int × Int)} {k : Nat} (h : Closed W H hs T k 4) : Closed W H hs T (k + 1) 0 := fun i c hi j hj h2 => h i c hi j hj (by omega)
theorem Closed.skip {W H : Int} {hs : Int × Int → Bool} {T : List (Int × Int)} {k m : Nat} (h : Closed W H hs T k m) {c : Int × Int} (hk : T[k]? = some c) (hc : CloAt W H hs T c (wy m)) : Closed W H hs T k (m + 1) := by
  intro i e hi j hj h2
  by_cases q : i = k ∧ j = m
  · obtain ⟨rfl, rfl⟩ := q
    rw [hk] at hi
    rw [← Option.some.inj hi]; exact hc
  · exact h i e hi j hj (by omega)
theorem Closed.grow {W H : Int} {hs : Int × Int → Bool} {T : List (Int × Int)} {k m : Nat} (h : Closed W H hs T k m) {c : Int × Int} (hk : T[k]? = some c) {t : Int × Int} (ht : t = pad (pad c (wy m)) (wy m)) : Closed W H hs (T ++ [t]) k (m + 1) := by
  have hkl : k < T.length := (List.getElem?_eq_some_iff.1 hk).1
  intro i e hi j hj h2 a b d
  have hil : i < T.length := by omega
  rw [List.getElem?_append_left hil] at hi
  by_cases q : i = k ∧ j = m
  · obtain ⟨rfl, rfl⟩ := q
    rw [hk] at hi
    rw [← Option.some.inj hi, ht]; simp
  · exact List.mem_append_left _ (h i e hi j hj (by omega) a b d)
open Classical in
/-- What the search leaves, told as a search of the lattice. -/
theorem stp_reach {r W H : Int} {hs : Int × Int → Bool} {ini T : List (Int × Int)} {out : List Lk} {init : Int × Int → Prop} (h : SInv W H hs ini T out) (hc : Closed W H hs T T.length 0)
    (i1 : ∀ c ∈ ini, init c ∧ c.1 % 2 = r ∧ c.2 % 2 = r) (i2 : ∀ c e, init c → e ∈ dirs4 → inW W H (pad (pad c e) e) → c ∈ ini) (i3 : ∀ v, inW W H v → v ∉ ini → ¬ init v) :
    ∃ (R : Int × Int → Prop) (d : Int × Int → Int × Int) (rk : Int × Int → Nat), Reach r W H (fun c => inW W H c ∧ hs c = true) init R d rk ∧ ∀ x, x ∈ out ↔ ∃ v, R v ∧ x = overL (pad v (d v)).1 (pad v (d v)).2 v.1 v.2 := by
  obtain ⟨fd, e1, e2, e3⟩ := h
  have hu : ∀ (i j : Nat) (p q : (Int × Int) × (Int × Int)), fd[i]? = some p → fd[j]? = some q → p.1 = q.1 → i < j → False := by
    intro i j p q hi hj he hlt
    obtain ⟨_, _, _, _, _, hno⟩ := e3 j q hj
    refine hno ?_
    rw [← he, e1, List.take_append]
    refine List.mem_append_right _ ?_
    rw [show ini.length + j - ini.length = j by omega, List.map_take.symm]
    refine List.mem_map.2 ⟨p, ?_, rfl⟩
    exact List.mem_of_getElem? (i := i) (by rw [List.getElem?_take, if_pos hlt]; exact hi)
  have hch : ∀ v, ∃ jp : Nat × ((Int × Int) × (Int × Int)), (∃ (j : Nat) (p : (Int × Int) × (Int × Int)), fd[j]? = some p ∧ p.1 = v) → fd[jp.1]? = some jp.2 ∧ jp.2.1 = v := by
    intro v
    by_cases q : ∃ (j : Nat) (p : (Int × Int) × (Int × Int)), fd[j]? = some p ∧ p.1 = v
    · obtain ⟨j, p, a, b⟩ := q
      exact ⟨(j, p), fun _ => ⟨a, b⟩⟩
    · exact ⟨(0, ((0, 0), (0, 0))), fun h => absurd h q⟩
  obtain ⟨F, hF⟩ : ∃ F : Int × Int → Nat × ((Int × Int) × (Int × Int)), ∀ v, (∃ (j : Nat) (p : (Int × Int) × (Int × Int)), fd[j]? = some p ∧ p.1 = v) → fd[(F v).1]? = some (F v).2 ∧ (F v).2.1 = v := ⟨fun v => (hch v).choose, fun v => (hch v).choose_spec⟩
  have hFj : ∀ (j : Nat) (p : (Int × Int) × (Int × Int)), fd[j]? = some p → F p.1 = (j, p) := by
    intro j p hj
    obtain ⟨a, b⟩ := hF p.1 ⟨j, p, hj, rfl⟩
    have : (F p.1).1 = j := by
      rcases Nat.lt_trichotomy (F p.1).1 j with q | q | q
      · exact (hu _ _ _ _ a hj b q).elim
      · exact q
      · exact (hu _ _ _ _ hj a b.symm q).elim
    rw [this, hj] at a
    exact Prod.ext this (Option.some.inj a).symm
  have hT : ∀ v, v ∈ T ↔ v ∈ ini ∨ ∃ (j : Nat) (p : (Int × Int) × (Int × Int)), fd[j]? = some p ∧ p.1 = v := by
    intro v
    rw [e1, List.mem_append, List.mem_map]
    constructor
    · rintro (q | ⟨p, hp, rfl⟩)
      · exact .inl q
      · obtain ⟨j, hj⟩ := List.mem_iff_getElem?.1 hp
        exact .inr ⟨j, p, hj, rfl⟩
    · rintro (q | ⟨j, p, hj, rfl⟩)
      · exact .inl q
      · exact .inr ⟨p, List.mem_of_getElem? hj, rfl⟩
  have hnx : ∀ (j : Nat) (p : (Int × Int) × (Int × Int)), fd[j]? = some p → pad (pad p.1 p.2) p.2 ∈ ini ∨ ∃ (i : Nat) (q : (Int × Int) × (Int × Int)), fd[i]? = some q ∧ q.1 = pad (pad p.1 p.2) p.2 ∧ i < j := by
    intro j p hj
    obtain ⟨_, _, _, _, hn, _⟩ := e3 j p hj
    rw [e1, List.take_append, List.mem_append] at hn
    rcases hn with hn | hn
    · exact .inl (List.mem_of_mem_take hn)
    · rw [show ini.length + j - ini.length = j by omega, ← List.map_take] at hn
      obtain ⟨q, hq, e⟩ := List.mem_map.1 hn
      obtain ⟨i, hi⟩ := List.mem_iff_getElem?.1 hq
      rw [List.getElem?_take] at hi
      split at hi
      · exact .inr ⟨i, q, hi, e, by assumption⟩
      · simp at hi
  have hpar : ∀ (n j : Nat) (p : (Int × Int) × (Int × Int)), j < n → fd[j]? = some p → p.1.1 % 2 = r ∧ p.1.2 % 2 = r := by
    intro n
    induction n with
    | zero => intro j p hj; omega
    | succ n ih =>
      intro j p hj hp
      have hd := (e3 j p hp).1
      have hn : (pad (pad p.1 p.2) p.2).1 % 2 = r ∧ (pad (pad p.1 p.2) p.2).2 % 2 = r := by
        rcases hnx j p hp with q | ⟨i, q, hi, e, hij⟩
        · exact (i1 _ q).2
        · rw [← e]; exact ih i q (by omega) hi
      obtain ⟨⟨x, y⟩, d⟩ := p
      rcases (dirs4_iff d).1 hd with rfl | rfl | rfl | rfl <;> simp [pad] at hn ⊢ <;> omega
  have hini : ∀ (j : Nat) (p : (Int × Int) × (Int × Int)), fd[j]? = some p → p.1 ∉ ini := by
    intro j p hj hm
    obtain ⟨_, _, _, _, _, hno⟩ := e3 j p hj
    refine hno ?_
    rw [e1, List.take_append, List.take_of_length_le (by omega)]
    exact List.mem_append_left _ hm
  refine ⟨fun v => ∃ (j : Nat) (p : (Int × Int) × (Int × Int)), fd[j]? = some p ∧ p.1 = v, fun v => (F v).2.2, fun v => (F v).1 + 1, ⟨?_, ?_, ?_, ?_, ?_⟩, ?_⟩
  · rintro v ⟨j, p, hj, rfl⟩
    obtain ⟨_, a, _⟩ := e3 j p hj
    exact ⟨a, hpar (j + 1) j p (by omega) hj, i3 _ a (hini j p hj)⟩
  · rintro v ⟨j, p, hj, rfl⟩
    show (F p.1).2.2 ∈ dirs4
    rw [hFj j p hj]; exact (e3 j p hj).1
  · rintro v ⟨j, p, hj, rfl⟩
    show inW W H (pad p.1 (F p.1).2.2) ∧ hs (pad p.1 (F p.1).2.2) = true
    rw [hFj j p hj]
    obtain ⟨_, _, a, b, _⟩ := e3 j p hj
    exact ⟨a, b⟩
  · rintro v ⟨j, p, hj, rfl⟩
    show init (pad (pad p.1 (F p.1).2.2) (F p.1).2.2) ∨ ((∃ (j' : Nat) (p' : (Int × Int) × (Int × Int)), fd[j']? = some p' ∧ p'.1 = pad (pad p.1 (F p.1).2.2) (F p.1).2.2) ∧ (F (pad (pad p.1 (F p.1).2.2) (F p.1).2.2)).1 + 1 < (F p.1).1 + 1)
    rw [hFj j p hj]
    rcases hnx j p hj with q | ⟨i, q, hi, e, hij⟩
    · exact .inl (i1 _ q).1
    · refine .inr ⟨⟨i, q, hi, e⟩, ?_⟩
      show (F (pad (pad p.1 p.2) p.2)).1 + 1 < j + 1
      rw [← e, hFj i q hi]; omega
  · intro v hv e he hin hh
    have hvT : v ∈ T := by
      rw [hT]
      rcases hv with q | q
      · exact .inl (i2 v e q he hin)
      · exact .inr q
    obtain ⟨i, hi⟩ := List.mem_iff_getElem?.1 hvT
    obtain ⟨k, hk, rfl⟩ := dir_wy he
    have := hc i v hi k hk (.inl (List.getElem?_eq_some_iff.1 hi).1) hin hh.1 hh.2
    rw [hT] at this
    rcases this with q | q
    · exact .inl (i1 _ q).1
    · exact .inr q
  · intro x
    rw [e2, List.mem_map]
    constructor
    · rintro ⟨p, hp, rfl⟩
      obtain ⟨j, hj⟩ := List.mem_iff_getElem?.1 hp
      refine ⟨p.1, ⟨j, p, hj, rfl⟩, ?_⟩
      show domF p = overL (pad p.1 (F p.1).2.2).1 (pad p.1 (F p.1).2.2).2 p.1.1 p.1.2
      rw [hFj j p hj]; rfl
    · rintro ⟨v, ⟨j, p, hj, rfl⟩, rfl⟩
      refine ⟨p, List.mem_of_getElem? hj, ?_⟩
      show domF p = overL (pad p.1 (F p.1).2.2).1 (pad p.1 (F p.1).2.2).2 p.1.1 p.1.2
      rw [hFj j p hj]; rfl
end Go.Proofs.Ytehnbalbpfmijaa
