/- AreNeighbors and DominoOver, of the program and of the reference, at two cells beside each other. -/
import Derived.Test.YtiecphhenpapoaaSDom
import Derived.Deep.RegionHeld3
namespace Go.Proofs.Ytiecphhenpapoaa
open Go.RowKit
set_option linter.unusedVariables false

/-- Two cells of the floor, side by side. -/
def nextB (x y x2 y2 : Int) : Prop := (0 ≤ x ∧ x ≤ 7) ∧ (0 ≤ y ∧ y ≤ 7) ∧ (0 ≤ x2 ∧ x2 ≤ 7) ∧ (0 ≤ y2 ∧ y2 ≤ 7) ∧ ((x = x2 ∧ (y2 = y + 1 ∨ y = y2 + 1)) ∨ (y = y2 ∧ (x2 = x + 1 ∨ x = x2 + 1)))
def overL (x y x2 y2 : Int) : Lk := (min x x2, min y y2, x == x2)
theorem size_any (n : Int) (h : -100 ≤ n ∧ n ≤ 100) (w : World) :
    Calls Try.prog 188 #[.int .i64 n] w fun e w' => e = .returned (.int .i64 (max n (-n))) ∧ Below w.heap.size w w' := by
  obtain ⟨h1, h2⟩ := h
  go_enter Try.func188, Try.ntmps188
  go_wp2_with fail
  all_goals
    go_ret
    exact ⟨ret_int (by omega), Below.refl _ _⟩
set_option maxRecDepth 100000 in
set_option maxHeartbeats 4000000 in
theorem AreN_yes (x y x2 y2 : Int) (h : nextB x y x2 y2) (w : World) :
    Calls Try.prog 173 #[spotV x y, spotV x2 y2] w fun e w' => e = .returned (.bool true) ∧ Below w.heap.size w w' := by
  obtain ⟨W, hW, k1, k2, hb⟩ := two_alloc w (.cells #[.int .i64 x, .int .i64 y] 56) (.cells #[.int .i64 x2, .int .i64 y2] 56)
  have HW := Lib.hid hW
  have HB := Lib.hid hb
  have HS : Hid (TwoC W W w.heap.size (w.heap.size + 1) x y x2 y2) := ⟨by rw [blk_cell k1]; rfl, by rw [blk_cell k1]; rfl, by rw [blk_cell k2]; rfl, by rw [blk_cell k2]; rfl, Nat.le_refl _, Below.refl _ _⟩
  have L1 := Lib.hid (lt_of_block k1)
  have L2 := Lib.hid (lt_of_block k2)
  obtain ⟨⟨a1, a2⟩, ⟨b1, b2⟩, ⟨c1, c2⟩, ⟨d1, d2⟩, hh⟩ := h
  have h1 : spotB 7 x y = true := (spotB_iff _ _ _).2 ⟨⟨a1, a2⟩, ⟨b1, b2⟩⟩
  have h2 : spotB 7 x2 y2 = true := (spotB_iff _ _ _).2 ⟨⟨c1, c2⟩, ⟨d1, d2⟩⟩
  have e1 : IntKind.i64.wrap (x - x2) = x - x2 := IntWalk.i64_in _ (by omega)
  have e2 : IntKind.i64.wrap (y - y2) = y - y2 := IntWalk.i64_in _ (by omega)
  have hC1 := Lib.hid fun V => size_any (x - x2) (by omega) V
  have hC2 := Lib.hid fun V => size_any (y - y2) (by omega) V
  have e3 : max (x - x2) (-(x - x2)) + max (y - y2) (-(y - y2)) = 1 := by omega
  generalize max (x - x2) (-(x - x2)) = m1 at *
  generalize max (y - y2) (-(y - y2)) = m2 at *
  have H1 := Lib.hid h1; have H2 := Lib.hid h2
  clear hW hb k1 k2 h1 h2 hh
  go_enter Try.func173, Try.ntmps173
  go_wp2_with fail
  rw [← HW.out]
  go_region_held3 (fun w' => TwoC W w' w.heap.size (w.heap.size + 1) x y x2 y2)
    (first
      | exact HS.out.drew
      | exact TwoC.keep hb1 L1.out L2.out (by assumption))
    (first
      | (go_at_call 163; (with_reducible refine (CellOk_any x y _).mono ?_); rintro e w1 ⟨rfl, hb1⟩; rw [H1.out])
      | (go_at_call 163; (with_reducible refine (CellOk_any x2 y2 _).mono ?_); rintro e w1 ⟨rfl, hb1⟩; rw [H2.out])
      | (go_at_call 188; (with_reducible refine (hC1.out _).mono ?_); rintro e w1 ⟨rfl, hb1⟩)
      | (go_at_call 188; (with_reducible refine (hC2.out _).mono ?_); rintro e w1 ⟨rfl, hb1⟩))
  have HB4 := Lib.hid (HB.out.trans ((show TwoC W _ w.heap.size (w.heap.size + 1) x y x2 y2 from by assumption).2.2.2.2.2.mono HB.out.size))
  go_wp2_with fail
  go_ret
  exact ⟨rfl, HB4.out⟩
set_option maxRecDepth 100000 in
set_option maxHeartbeats 4000000 in
theorem specAreN_yes (x y x2 y2 : Int) (h : nextB x y x2 y2) (w : World) :
    Calls Try.prog 175 #[spotV x y, spotV x2 y2] w fun e w' => e = .returned (.bool true) ∧ Below w.heap.size w w' := by
  obtain ⟨W, hW, k1, k2, hb⟩ := two_alloc w (.cells #[.int .i64 x, .int .i64 y] 56) (.cells #[.int .i64 x2, .int .i64 y2] 56)
  have HW := Lib.hid hW
  have HB := Lib.hid hb
  have HS : Hid (TwoC W W w.heap.size (w.heap.size + 1) x y x2 y2) := ⟨by rw [blk_cell k1]; rfl, by rw [blk_cell k1]; rfl, by rw [blk_cell k2]; rfl, by rw [blk_cell k2]; rfl, Nat.le_refl _, Below.refl _ _⟩
  have L1 := Lib.hid (lt_of_block k1)
  have L2 := Lib.hid (lt_of_block k2)
  obtain ⟨⟨a1, a2⟩, ⟨b1, b2⟩, ⟨c1, c2⟩, ⟨d1, d2⟩, hh⟩ := h
  have H1 := Lib.hid (show spotB 7 x y = true from (spotB_iff _ _ _).2 ⟨⟨a1, a2⟩, ⟨b1, b2⟩⟩)
  have H2 := Lib.hid (show spotB 7 x2 y2 = true from (spotB_iff _ _ _).2 ⟨⟨c1, c2⟩, ⟨d1, d2⟩⟩)
  have hs : (x - x2 = 0 ∧ y - y2 = 1) ∨ (x - x2 = 0 ∧ y - y2 = -1) ∨ (x - x2 = 1 ∧ y - y2 = 0) ∨ (x - x2 = -1 ∧ y - y2 = 0) := by omega
  clear hW hb k1 k2 hh
  rcases hs with ⟨s1, s2⟩ | ⟨s1, s2⟩ | ⟨s1, s2⟩ | ⟨s1, s2⟩
  all_goals
    obtain ⟨f1, f2, f3, f4, _⟩ := HS.out
    go_enter Try.func175, Try.ntmps175
    go_upto_region 1 with (fail)
    rw [← HW.out]
    go_wp2_with fail
    refine (specCellOk_any _ _ _).mono ?_
    rintro e w3 ⟨rfl, hb3⟩
    rw [H1.out]
    have HT3 := Lib.hid (TwoC.keep hb3 L1.out L2.out HS.out)
    clear f1 f2 f3 f4 hb3
    obtain ⟨f1, f2, f3, f4, _⟩ := HT3.out
    go_wp2_with fail
    refine (specCellOk_any _ _ _).mono ?_
    rintro e w4 ⟨rfl, hb4⟩
    rw [H2.out]
    have HT4 := Lib.hid (TwoC.keep hb4 L1.out L2.out HT3.out)
    clear f1 f2 f3 f4 hb4
    obtain ⟨f1, f2, f3, f4, _⟩ := HT4.out
    have HB4 := Lib.hid (HB.out.trans (HT4.out.2.2.2.2.2.mono HB.out.size))
    go_wp2_with fail
    go_ret
    exact ⟨rfl, HB4.out⟩
set_option maxRecDepth 100000 in
set_option maxHeartbeats 4000000 in
theorem DominoOver_yes (x y x2 y2 : Int) (h : nextB x y x2 y2) (w : World) :
    Calls Try.prog 132 #[spotV x y, spotV x2 y2] w fun e w' => e = .returned (.tuple #[triV (overL x y x2 y2).1 (overL x y x2 y2).2.1 (overL x y x2 y2).2.2, .bool true]) ∧ Below w.heap.size w w' := by
  obtain ⟨W, hW, k1, k2, k3, hb⟩ := three_alloc w (.cells #[.int .i64 x, .int .i64 y] 56) (.cells #[.int .i64 x2, .int .i64 y2] 56) (triO 0 0 false 58)
  have HW := Lib.hid hW
  have HB := Lib.hid hb
  have HK1 := Lib.hid k1; have HK2 := Lib.hid k2; have HK3 := Lib.hid k3
  have a0 : W.cell? ⟨w.heap.size, 0, none⟩ = some (.int .i64 x) := by rw [blk_cell k1]; rfl
  have a1 : W.cell? ⟨w.heap.size, 1, none⟩ = some (.int .i64 y) := by rw [blk_cell k1]; rfl
  have a2 : W.cell? ⟨w.heap.size + 1, 0, none⟩ = some (.int .i64 x2) := by rw [blk_cell k2]; rfl
  have a3 : W.cell? ⟨w.heap.size + 1, 1, none⟩ = some (.int .i64 y2) := by rw [blk_cell k2]; rfl
  have HN := Lib.hid (fun V => AreN_yes x y x2 y2 h V)
  obtain ⟨mx, HMX⟩ : ∃ mx, Hid ((overL x y x2 y2).1 = mx) := ⟨_, rfl⟩
  obtain ⟨my, HMY⟩ : ∃ my, Hid ((overL x y x2 y2).2.1 = my) := ⟨_, rfl⟩
  have HMD : Hid ((overL x y x2 y2).2.2 = (x == x2)) := rfl
  have HMXE : Hid (mx = min x x2) := HMX.out.symm
  have HMYE : Hid (my = min y y2) := HMY.out.symm
  rw [HMX.out, HMY.out, HMD.out]
  clear hW hb k1 k2 k3 HMX HMY HMD h
  go_enter Try.func132, Try.ntmps132
  go_upto_region 1 with (fail)
  rw [← HW.out]
  go_wp2_with fail
  refine (HN.out _).mono ?_
  rintro e w1 ⟨rfl, hb1⟩
  have k1 := blk_below HK1.out hb1
  have k2 := blk_below HK2.out hb1
  have k3 := blk_below HK3.out hb1
  have HB1 := Lib.hid (HB.out.trans (hb1.mono HB.out.size))
  clear a0 a1 a2 a3 hb1
  have a0 : w1.cell? ⟨w.heap.size, 0, none⟩ = some (.int .i64 x) := by rw [blk_cell k1]; rfl
  have a1 : w1.cell? ⟨w.heap.size, 1, none⟩ = some (.int .i64 y) := by rw [blk_cell k1]; rfl
  have a2 : w1.cell? ⟨w.heap.size + 1, 0, none⟩ = some (.int .i64 x2) := by rw [blk_cell k2]; rfl
  have a3 : w1.cell? ⟨w.heap.size + 1, 1, none⟩ = some (.int .i64 y2) := by rw [blk_cell k2]; rfl
  have b0 : w1.cell? ⟨w.heap.size + 1 + 1, 0, none⟩ = some (.int .i64 0) := by rw [blk_cell k3]; rfl
  have b1 : w1.cell? ⟨w.heap.size + 1 + 1, 1, none⟩ = some (.int .i64 0) := by rw [blk_cell k3]; rfl
  have b2 : w1.cell? ⟨w.heap.size + 1 + 1, 2, none⟩ = some (.bool false) := by rw [blk_cell k3]; rfl
  have fr : ∀ o, w1.frozen? ⟨w.heap.size + 1 + 1, o, none⟩ = false := fun o => blk_free k3
  have hX := Lib.hid (blk_setCell (k := 2) (blk_setCell (k := 1) (blk_setCell (k := 0) k3 (.int .i64 mx)) (.int .i64 my)) (.bool (x == x2)))
  have hBX : Hid (Below w.heap.size w (((w1.setCell ⟨w.heap.size + 2, 0, none⟩ (.int .i64 mx)).setCell ⟨w.heap.size + 2, 1, none⟩ (.int .i64 my)).setCell ⟨w.heap.size + 2, 2, none⟩ (.bool (x == x2)))) := ((HB1.out.setCell (p := ⟨w.heap.size + 2, 0, none⟩) (by simp) _).setCell (p := ⟨w.heap.size + 2, 1, none⟩) (by simp) _).setCell (p := ⟨w.heap.size + 2, 2, none⟩) (by simp) _
  have hfin : ∀ V : World, Hid (V.heap[w.heap.size + 2]? = some (triO mx my (x == x2) 58)) → V.cell? ⟨w.heap.size + 1 + 1, 0, none⟩ = some (.int .i64 mx) ∧ V.cell? ⟨w.heap.size + 1 + 1, 1, none⟩ = some (.int .i64 my) ∧ V.cell? ⟨w.heap.size + 1 + 1, 2, none⟩ = some (.bool (x == x2)) := fun V hV => ⟨by rw [show w.heap.size + 1 + 1 = w.heap.size + 2 from rfl, blk_cell hV.out]; rfl, by rw [show w.heap.size + 1 + 1 = w.heap.size + 2 from rfl, blk_cell hV.out]; rfl, by rw [show w.heap.size + 1 + 1 = w.heap.size + 2 from rfl, blk_cell hV.out]; rfl⟩
  have hfin := Lib.hid hfin
  clear k1 k2 k3
  by_cases hx : x ≤ x2
  · by_cases hy : y ≤ y2
    · skip
      have e1 : mx = x := by have := HMXE.out; omega
      have e2 : my = y := by have := HMYE.out; omega
      rw [e1, e2] at hX hBX hfin
      have E1 := Lib.hid e1; have E2 := Lib.hid e2
      clear e1 e2
      go_wp2_with fail
      obtain ⟨X, HXQ⟩ : ∃ X, Hid (X = ((w1.setCell ⟨w.heap.size + 2, 0, none⟩ (.int .i64 x)).setCell ⟨w.heap.size + 2, 1, none⟩ (.int .i64 y)).setCell ⟨w.heap.size + 2, 2, none⟩ (.bool (x == x2))) := ⟨_, rfl⟩
      have hX1 := hX.out
      have hBX1 := hBX.out
      rw [← HXQ.out] at hX1 hBX1
      obtain ⟨r0, r1, r2⟩ := hfin.out X (by simpa [Hid] using hX1)
      show bodyPost _ _ _ _ _ (((w1.setCell ⟨w.heap.size + 2, 0, none⟩ (.int .i64 x)).setCell ⟨w.heap.size + 2, 1, none⟩ (.int .i64 y)).setCell ⟨w.heap.size + 2, 2, none⟩ (.bool (x == x2)))
      rw [← HXQ.out]
      exact bodyPost_ret (v := .tuple #[triV x y (x == x2), .bool true]) (by simp [results, Try.results132, go_sem, r0, r1, r2]) rfl ⟨by rw [E1.out, E2.out], hBX1⟩
    · have hy' : y2 < y := by omega
      clear hy
      have e1 : mx = x := by have := HMXE.out; omega
      have e2 : my = y2 := by have := HMYE.out; omega
      rw [e1, e2] at hX hBX hfin
      have E1 := Lib.hid e1; have E2 := Lib.hid e2
      clear e1 e2
      go_wp2_with fail
      obtain ⟨X, HXQ⟩ : ∃ X, Hid (X = ((w1.setCell ⟨w.heap.size + 2, 0, none⟩ (.int .i64 x)).setCell ⟨w.heap.size + 2, 1, none⟩ (.int .i64 y2)).setCell ⟨w.heap.size + 2, 2, none⟩ (.bool (x == x2))) := ⟨_, rfl⟩
      have hX1 := hX.out
      have hBX1 := hBX.out
      rw [← HXQ.out] at hX1 hBX1
      obtain ⟨r0, r1, r2⟩ := hfin.out X (by simpa [Hid] using hX1)
      show bodyPost _ _ _ _ _ (((w1.setCell ⟨w.heap.size + 2, 0, none⟩ (.int .i64 x)).setCell ⟨w.heap.size + 2, 1, none⟩ (.int .i64 y2)).setCell ⟨w.heap.size + 2, 2, none⟩ (.bool (x == x2)))
      rw [← HXQ.out]
      exact bodyPost_ret (v := .tuple #[triV x y2 (x == x2), .bool true]) (by simp [results, Try.results132, go_sem, r0, r1, r2]) rfl ⟨by rw [E1.out, E2.out], hBX1⟩
  · have hx' : x2 < x := by omega
    clear hx
    by_cases hy : y ≤ y2
    · skip
      have e1 : mx = x2 := by have := HMXE.out; omega
      have e2 : my = y := by have := HMYE.out; omega
      rw [e1, e2] at hX hBX hfin
      have E1 := Lib.hid e1; have E2 := Lib.hid e2
      clear e1 e2
      go_wp2_with fail
      obtain ⟨X, HXQ⟩ : ∃ X, Hid (X = ((w1.setCell ⟨w.heap.size + 2, 0, none⟩ (.int .i64 x2)).setCell ⟨w.heap.size + 2, 1, none⟩ (.int .i64 y)).setCell ⟨w.heap.size + 2, 2, none⟩ (.bool (x == x2))) := ⟨_, rfl⟩
      have hX1 := hX.out
      have hBX1 := hBX.out
      rw [← HXQ.out] at hX1 hBX1
      obtain ⟨r0, r1, r2⟩ := hfin.out X (by simpa [Hid] using hX1)
      show bodyPost _ _ _ _ _ (((w1.setCell ⟨w.heap.size + 2, 0, none⟩ (.int .i64 x2)).setCell ⟨w.heap.size + 2, 1, none⟩ (.int .i64 y)).setCell ⟨w.heap.size + 2, 2, none⟩ (.bool (x == x2)))
      rw [← HXQ.out]
      exact bodyPost_ret (v := .tuple #[triV x2 y (x == x2), .bool true]) (by simp [results, Try.results132, go_sem, r0, r1, r2]) rfl ⟨by rw [E1.out, E2.out], hBX1⟩
    · have hy' : y2 < y := by omega
      clear hy
      have e1 : mx = x2 := by have := HMXE.out; omega
      have e2 : my = y2 := by have := HMYE.out; omega
      rw [e1, e2] at hX hBX hfin
      have E1 := Lib.hid e1; have E2 := Lib.hid e2
      clear e1 e2
      go_wp2_with fail
      obtain ⟨X, HXQ⟩ : ∃ X, Hid (X = ((w1.setCell ⟨w.heap.size + 2, 0, none⟩ (.int .i64 x2)).setCell ⟨w.heap.size + 2, 1, none⟩ (.int .i64 y2)).setCell ⟨w.heap.size + 2, 2, none⟩ (.bool (x == x2))) := ⟨_, rfl⟩
      have hX1 := hX.out
      have hBX1 := hBX.out
      rw [← HXQ.out] at hX1 hBX1
      obtain ⟨r0, r1, r2⟩ := hfin.out X (by simpa [Hid] using hX1)
      show bodyPost _ _ _ _ _ (((w1.setCell ⟨w.heap.size + 2, 0, none⟩ (.int .i64 x2)).setCell ⟨w.heap.size + 2, 1, none⟩ (.int .i64 y2)).setCell ⟨w.heap.size + 2, 2, none⟩ (.bool (x == x2)))
      rw [← HXQ.out]
      exact bodyPost_ret (v := .tuple #[triV x2 y2 (x == x2), .bool true]) (by simp [results, Try.results132, go_sem, r0, r1, r2]) rfl ⟨by rw [E1.out, E2.out], hBX1⟩
set_option maxRecDepth 100000 in
set_option maxHeartbeats 4000000 in
theorem specDominoOver_yes (x y x2 y2 : Int) (h : nextB x y x2 y2) (w : World) :
    Calls Try.prog 144 #[spotV x y, spotV x2 y2] w fun e w' => e = .returned (.tuple #[triV (overL x y x2 y2).1 (overL x y x2 y2).2.1 (overL x y x2 y2).2.2, .bool true]) ∧ Below w.heap.size w w' := by
  obtain ⟨W, hW, k1, k2, k3, hb⟩ := three_alloc w (.cells #[.int .i64 x, .int .i64 y] 56) (.cells #[.int .i64 x2, .int .i64 y2] 56) (triO 0 0 false 58)
  have HW := Lib.hid hW
  have HB := Lib.hid hb
  have HK1 := Lib.hid k1; have HK2 := Lib.hid k2; have HK3 := Lib.hid k3
  have a0 : W.cell? ⟨w.heap.size, 0, none⟩ = some (.int .i64 x) := by rw [blk_cell k1]; rfl
  have a1 : W.cell? ⟨w.heap.size, 1, none⟩ = some (.int .i64 y) := by rw [blk_cell k1]; rfl
  have a2 : W.cell? ⟨w.heap.size + 1, 0, none⟩ = some (.int .i64 x2) := by rw [blk_cell k2]; rfl
  have a3 : W.cell? ⟨w.heap.size + 1, 1, none⟩ = some (.int .i64 y2) := by rw [blk_cell k2]; rfl
  have HN := Lib.hid (fun V => specAreN_yes x y x2 y2 h V)
  obtain ⟨mx, HMX⟩ : ∃ mx, Hid ((overL x y x2 y2).1 = mx) := ⟨_, rfl⟩
  obtain ⟨my, HMY⟩ : ∃ my, Hid ((overL x y x2 y2).2.1 = my) := ⟨_, rfl⟩
  have HMD : Hid ((overL x y x2 y2).2.2 = (x == x2)) := rfl
  have HMXE : Hid (mx = min x x2) := HMX.out.symm
  have HMYE : Hid (my = min y y2) := HMY.out.symm
  rw [HMX.out, HMY.out, HMD.out]
  clear hW hb k1 k2 k3 HMX HMY HMD h
  go_enter Try.func144, Try.ntmps144
  go_upto_region 1 with (fail)
  rw [← HW.out]
  go_wp2_with fail
  refine (HN.out _).mono ?_
  rintro e w1 ⟨rfl, hb1⟩
  have k1 := blk_below HK1.out hb1
  have k2 := blk_below HK2.out hb1
  have k3 := blk_below HK3.out hb1
  have HB1 := Lib.hid (HB.out.trans (hb1.mono HB.out.size))
  clear a0 a1 a2 a3 hb1
  have a0 : w1.cell? ⟨w.heap.size, 0, none⟩ = some (.int .i64 x) := by rw [blk_cell k1]; rfl
  have a1 : w1.cell? ⟨w.heap.size, 1, none⟩ = some (.int .i64 y) := by rw [blk_cell k1]; rfl
  have a2 : w1.cell? ⟨w.heap.size + 1, 0, none⟩ = some (.int .i64 x2) := by rw [blk_cell k2]; rfl
  have a3 : w1.cell? ⟨w.heap.size + 1, 1, none⟩ = some (.int .i64 y2) := by rw [blk_cell k2]; rfl
  have b0 : w1.cell? ⟨w.heap.size + 1 + 1, 0, none⟩ = some (.int .i64 0) := by rw [blk_cell k3]; rfl
  have b1 : w1.cell? ⟨w.heap.size + 1 + 1, 1, none⟩ = some (.int .i64 0) := by rw [blk_cell k3]; rfl
  have b2 : w1.cell? ⟨w.heap.size + 1 + 1, 2, none⟩ = some (.bool false) := by rw [blk_cell k3]; rfl
  have fr : ∀ o, w1.frozen? ⟨w.heap.size + 1 + 1, o, none⟩ = false := fun o => blk_free k3
  have hX := Lib.hid (blk_setCell (k := 2) (blk_setCell (k := 1) (blk_setCell (k := 0) k3 (.int .i64 mx)) (.int .i64 my)) (.bool (x == x2)))
  have hBX : Hid (Below w.heap.size w (((w1.setCell ⟨w.heap.size + 2, 0, none⟩ (.int .i64 mx)).setCell ⟨w.heap.size + 2, 1, none⟩ (.int .i64 my)).setCell ⟨w.heap.size + 2, 2, none⟩ (.bool (x == x2)))) := ((HB1.out.setCell (p := ⟨w.heap.size + 2, 0, none⟩) (by simp) _).setCell (p := ⟨w.heap.size + 2, 1, none⟩) (by simp) _).setCell (p := ⟨w.heap.size + 2, 2, none⟩) (by simp) _
  have hfin : ∀ V : World, Hid (V.heap[w.heap.size + 2]? = some (triO mx my (x == x2) 58)) → V.cell? ⟨w.heap.size + 1 + 1, 0, none⟩ = some (.int .i64 mx) ∧ V.cell? ⟨w.heap.size + 1 + 1, 1, none⟩ = some (.int .i64 my) ∧ V.cell? ⟨w.heap.size + 1 + 1, 2, none⟩ = some (.bool (x == x2)) := fun V hV => ⟨by rw [show w.heap.size + 1 + 1 = w.heap.size + 2 from rfl, blk_cell hV.out]; rfl, by rw [show w.heap.size + 1 + 1 = w.heap.size + 2 from rfl, blk_cell hV.out]; rfl, by rw [show w.heap.size + 1 + 1 = w.heap.size + 2 from rfl, blk_cell hV.out]; rfl⟩
  have hfin := Lib.hid hfin
  clear k1 k2 k3
  by_cases hx : x ≤ x2
  · by_cases hy : y ≤ y2
    · skip
      have e1 : mx = x := by have := HMXE.out; omega
      have e2 : my = y := by have := HMYE.out; omega
      rw [e1, e2] at hX hBX hfin
      have E1 := Lib.hid e1; have E2 := Lib.hid e2
      clear e1 e2
      go_wp2_with fail
      obtain ⟨X, HXQ⟩ : ∃ X, Hid (X = ((w1.setCell ⟨w.heap.size + 2, 0, none⟩ (.int .i64 x)).setCell ⟨w.heap.size + 2, 1, none⟩ (.int .i64 y)).setCell ⟨w.heap.size + 2, 2, none⟩ (.bool (x == x2))) := ⟨_, rfl⟩
      have hX1 := hX.out
      have hBX1 := hBX.out
      rw [← HXQ.out] at hX1 hBX1
      obtain ⟨r0, r1, r2⟩ := hfin.out X (by simpa [Hid] using hX1)
      show bodyPost _ _ _ _ _ (((w1.setCell ⟨w.heap.size + 2, 0, none⟩ (.int .i64 x)).setCell ⟨w.heap.size + 2, 1, none⟩ (.int .i64 y)).setCell ⟨w.heap.size + 2, 2, none⟩ (.bool (x == x2)))
      rw [← HXQ.out]
      exact bodyPost_ret (v := .tuple #[triV x y (x == x2), .bool true]) (by simp [results, Try.results144, go_sem, r0, r1, r2]) rfl ⟨by rw [E1.out, E2.out], hBX1⟩
    · have hy' : y2 < y := by omega
      clear hy
      have e1 : mx = x := by have := HMXE.out; omega
      have e2 : my = y2 := by have := HMYE.out; omega
      rw [e1, e2] at hX hBX hfin
      have E1 := Lib.hid e1; have E2 := Lib.hid e2
      clear e1 e2
      go_wp2_with fail
      obtain ⟨X, HXQ⟩ : ∃ X, Hid (X = ((w1.setCell ⟨w.heap.size + 2, 0, none⟩ (.int .i64 x)).setCell ⟨w.heap.size + 2, 1, none⟩ (.int .i64 y2)).setCell ⟨w.heap.size + 2, 2, none⟩ (.bool (x == x2))) := ⟨_, rfl⟩
      have hX1 := hX.out
      have hBX1 := hBX.out
      rw [← HXQ.out] at hX1 hBX1
      obtain ⟨r0, r1, r2⟩ := hfin.out X (by simpa [Hid] using hX1)
      show bodyPost _ _ _ _ _ (((w1.setCell ⟨w.heap.size + 2, 0, none⟩ (.int .i64 x)).setCell ⟨w.heap.size + 2, 1, none⟩ (.int .i64 y2)).setCell ⟨w.heap.size + 2, 2, none⟩ (.bool (x == x2)))
      rw [← HXQ.out]
      exact bodyPost_ret (v := .tuple #[triV x y2 (x == x2), .bool true]) (by simp [results, Try.results144, go_sem, r0, r1, r2]) rfl ⟨by rw [E1.out, E2.out], hBX1⟩
  · have hx' : x2 < x := by omega
    clear hx
    by_cases hy : y ≤ y2
    · skip
      have e1 : mx = x2 := by have := HMXE.out; omega
      have e2 : my = y := by have := HMYE.out; omega
      rw [e1, e2] at hX hBX hfin
      have E1 := Lib.hid e1; have E2 := Lib.hid e2
      clear e1 e2
      go_wp2_with fail
      obtain ⟨X, HXQ⟩ : ∃ X, Hid (X = ((w1.setCell ⟨w.heap.size + 2, 0, none⟩ (.int .i64 x2)).setCell ⟨w.heap.size + 2, 1, none⟩ (.int .i64 y)).setCell ⟨w.heap.size + 2, 2, none⟩ (.bool (x == x2))) := ⟨_, rfl⟩
      have hX1 := hX.out
      have hBX1 := hBX.out
      rw [← HXQ.out] at hX1 hBX1
      obtain ⟨r0, r1, r2⟩ := hfin.out X (by simpa [Hid] using hX1)
      show bodyPost _ _ _ _ _ (((w1.setCell ⟨w.heap.size + 2, 0, none⟩ (.int .i64 x2)).setCell ⟨w.heap.size + 2, 1, none⟩ (.int .i64 y)).setCell ⟨w.heap.size + 2, 2, none⟩ (.bool (x == x2)))
      rw [← HXQ.out]
      exact bodyPost_ret (v := .tuple #[triV x2 y (x == x2), .bool true]) (by simp [results, Try.results144, go_sem, r0, r1, r2]) rfl ⟨by rw [E1.out, E2.out], hBX1⟩
    · have hy' : y2 < y := by omega
      clear hy
      have e1 : mx = x2 := by have := HMXE.out; omega
      have e2 : my = y2 := by have := HMYE.out; omega
      rw [e1, e2] at hX hBX hfin
      have E1 := Lib.hid e1; have E2 := Lib.hid e2
      clear e1 e2
      go_wp2_with fail
      obtain ⟨X, HXQ⟩ : ∃ X, Hid (X = ((w1.setCell ⟨w.heap.size + 2, 0, none⟩ (.int .i64 x2)).setCell ⟨w.heap.size + 2, 1, none⟩ (.int .i64 y2)).setCell ⟨w.heap.size + 2, 2, none⟩ (.bool (x == x2))) := ⟨_, rfl⟩
      have hX1 := hX.out
      have hBX1 := hBX.out
      rw [← HXQ.out] at hX1 hBX1
      obtain ⟨r0, r1, r2⟩ := hfin.out X (by simpa [Hid] using hX1)
      show bodyPost _ _ _ _ _ (((w1.setCell ⟨w.heap.size + 2, 0, none⟩ (.int .i64 x2)).setCell ⟨w.heap.size + 2, 1, none⟩ (.int .i64 y2)).setCell ⟨w.heap.size + 2, 2, none⟩ (.bool (x == x2)))
      rw [← HXQ.out]
      exact bodyPost_ret (v := .tuple #[triV x2 y2 (x == x2), .bool true]) (by simp [results, Try.results144, go_sem, r0, r1, r2]) rfl ⟨by rw [E1.out, E2.out], hBX1⟩
end Go.Proofs.Ytiecphhenpapoaa
