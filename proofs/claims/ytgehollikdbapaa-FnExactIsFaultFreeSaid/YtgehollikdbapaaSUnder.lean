/- The two cells of a valid domino, in the reference. -/
import Derived.Test.YtgehollikdbapaaSDom2
namespace Go.Proofs.Ytgehollikdbapaa
open Go.RowKit
set_option linter.unusedVariables false

set_option maxRecDepth 100000 in
set_option maxHeartbeats 4000000 in
theorem CellsUnder_yes (x y : Int) (d : Bool) (w : World) (h : domB x y d = true) :
    Calls Try.prog 150 #[triV x y d] w fun e w' => e = .returned (.tuple #[spotV x y, spotV (sndX x d) (sndY y d)]) ∧ Below w.heap.size w w' := by
  have H1 := Lib.hid h
  have HLS := Lib.hid (fun V => l05Second_any x y d V)
  clear h
  generalize sndX x d = x2 at *
  generalize sndY y d = y2 at *
  obtain ⟨W, hW, k0, k1, k2, hb⟩ := three_alloc w (triO x y d 113) (.cells #[.int .i64 0, .int .i64 0] 122) (.cells #[.int .i64 0, .int .i64 0] 122)
  have HW := Lib.hid hW
  have c0 : W.cell? ⟨w.heap.size, 0, none⟩ = some (.int .i64 x) := by rw [blk_cell k0]; rfl
  have c1 : W.cell? ⟨w.heap.size, 1, none⟩ = some (.int .i64 y) := by rw [blk_cell k0]; rfl
  have c2 : W.cell? ⟨w.heap.size, 2, none⟩ = some (.bool d) := by rw [blk_cell k0]; rfl
  have HB0 := Lib.hid hb
  have K0' := Lib.hid k0; have K1' := Lib.hid k1; have K2' := Lib.hid k2
  clear hW hb k0 k1 k2
  go_enter Try.func150, Try.ntmps150
  go_upto_region 1 with (fail)
  rw [← HW.out]
  go_wp2_with fail
  refine (specDominoOk_any _ _ _ _).mono ?_
  rintro e w1 ⟨rfl, hb1⟩
  rw [H1.out]
  have HB := Lib.hid (HB0.out.trans (hb1.mono HB0.out.size))
  have k0 := blk_below K0'.out hb1
  have K1 := Lib.hid (blk_below K1'.out hb1)
  have K2 := Lib.hid (blk_below K2'.out hb1)
  have g0 : w1.cell? ⟨w.heap.size, 0, none⟩ = some (.int .i64 x) := by rw [blk_cell k0]; rfl
  have g1 : w1.cell? ⟨w.heap.size, 1, none⟩ = some (.int .i64 y) := by rw [blk_cell k0]; rfl
  have g2 : w1.cell? ⟨w.heap.size, 2, none⟩ = some (.bool d) := by rw [blk_cell k0]; rfl
  have L0 := Lib.hid (lt_of_block k0)
  clear c0 c1 c2 hb1 k0
  go_wp2_with fail
  refine wp_region_held_drew (S := fun w' => w'.cell? ⟨w.heap.size, 0, none⟩ = some (.int .i64 x) ∧ w'.cell? ⟨w.heap.size, 1, none⟩ = some (.int .i64 y) ∧ w'.cell? ⟨w.heap.size, 2, none⟩ = some (.bool d)) (by kernel_rfl) (by exact ⟨g0, g1, g2⟩) (fun hHeld => ?_)
  refine wpAnyH_take (i := 0) (oi := ⟨_, _, _, _, _, _⟩) (v := ?vap27456q0) rfl (by kernel_rfl) (by kernel_rfl) (by kernel_rfl) (fun _ _ _ h => h) (Or.inl ⟨by rfl, ?hap27456q0⟩) (by assumption) ?_
  case hap27456q0 => (intro w hSw; (try dsimp only at hSw); go_simp; try with_reducible rfl)
  try simp only [Act.put, List.setIfInBounds_toArray, List.set_cons_zero, List.set_cons_succ]
  refine wpAnyH_take (i := 1) (oi := ⟨_, _, _, _, _, _⟩) (v := ?vap27456q1) rfl (by kernel_rfl) (by kernel_rfl) (by kernel_rfl) (fun _ _ _ h => h) (Or.inl ⟨by rfl, ?hap27456q1⟩) (by assumption) ?_
  case hap27456q1 => (intro w hSw; (try dsimp only at hSw); go_simp; try with_reducible rfl)
  try simp only [Act.put, List.setIfInBounds_toArray, List.set_cons_zero, List.set_cons_succ]
  refine wpAnyH_take (i := 2) (oi := ⟨_, _, _, _, _, _⟩) (v := ?vap27456q2) rfl (by kernel_rfl) (by kernel_rfl) (by kernel_rfl) (fun _ _ _ h => h) (Or.inl ⟨by rfl, ?hap27456q2⟩) (by assumption) ?_
  case hap27456q2 => (intro w hSw; (try dsimp only at hSw); go_simp; try with_reducible rfl)
  try simp only [Act.put, List.setIfInBounds_toArray, List.set_cons_zero, List.set_cons_succ]
  refine wpAnyH_take (i := 3) (oi := ⟨_, _, _, _, _, _⟩) (v := ?vap27456q3) rfl (by kernel_rfl) (by kernel_rfl) (by kernel_rfl) (fun _ _ _ h => h) (Or.inl ⟨by rfl, ?hap27456q3⟩) (by assumption) ?_
  case hap27456q3 => (intro w hSw; (try dsimp only at hSw); go_simp; try with_reducible rfl)
  try simp only [Act.put, List.setIfInBounds_toArray, List.set_cons_zero, List.set_cons_succ]
  refine wpAnyH_take (i := 4) (oi := ⟨_, _, _, _, _, _⟩) (v := ?vap27456q4) rfl (by kernel_rfl) (by kernel_rfl) (by kernel_rfl) (fun _ _ _ h => h) (Or.inl ⟨by rfl, ?hap27456q4⟩) (by assumption) ?_
  case hap27456q4 => (intro w hSw; (try dsimp only at hSw); go_simp; try with_reducible rfl)
  try simp only [Act.put, List.setIfInBounds_toArray, List.set_cons_zero, List.set_cons_succ]
  refine wpAnyH_take (i := 5) (oi := ⟨_, _, _, _, _, _⟩) (v := ?vap27456q5) rfl (by kernel_rfl) (by kernel_rfl) (by kernel_rfl) (fun _ _ _ h => h) (Or.inl ⟨by rfl, ?hap27456q5⟩) (by assumption) ?_
  case hap27456q5 => (intro w hSw; (try dsimp only at hSw); go_simp; try with_reducible rfl)
  try simp only [Act.put, List.setIfInBounds_toArray, List.set_cons_zero, List.set_cons_succ]
  refine wpAnyH_ready (rs := [6]) (by kernel_rfl) (by simp) ?_
  refine AllReadyH.cons (o := ⟨_, _, _, _, _, _⟩) rfl (fun K hK => ?_) AllReadyH.nil
  go_simp; go_at_call 173; refine (HLS.out _).mono ?_; rintro e w3 ⟨rfl, hb3⟩
  have j1 := blk_below (w := w1.drew) K1.out hb3
  have j2 := blk_below (w := w1.drew) K2.out hb3
  have d0 : w3.cell? ⟨w.heap.size + 1, 0, none⟩ = some (.int .i64 0) := by rw [blk_cell j1]; rfl
  have d1 : w3.cell? ⟨w.heap.size + 1, 1, none⟩ = some (.int .i64 0) := by rw [blk_cell j1]; rfl
  have d2 : w3.cell? ⟨w.heap.size + 1 + 1, 0, none⟩ = some (.int .i64 0) := by rw [blk_cell j2]; rfl
  have d3 : w3.cell? ⟨w.heap.size + 1 + 1, 1, none⟩ = some (.int .i64 0) := by rw [blk_cell j2]; rfl
  have f0 : ∀ o, w3.frozen? ⟨w.heap.size + 1, o, none⟩ = false := fun o => blk_free j1
  have f2 : ∀ o, w3.frozen? ⟨w.heap.size + 1 + 1, o, none⟩ = false := fun o => blk_free j2
  have J1 := Lib.hid j1; have J2 := Lib.hid j2; have HB3 := Lib.hid (HB.out.drew.trans (hb3.mono HB.out.size))
  clear j1 j2
  refine hK.out _ _ (by first | exact ⟨(hb3.cell (p := ⟨w.heap.size, 0, none⟩) L0.out).trans hHeld.1, (hb3.cell (p := ⟨w.heap.size, 1, none⟩) L0.out).trans hHeld.2.1, (hb3.cell (p := ⟨w.heap.size, 2, none⟩) L0.out).trans hHeld.2.2⟩ | (obtain ⟨hq0, hq1, hq2⟩ := hHeld; refine ⟨?_, ?_, ?_⟩ <;> go_simp)) (fun hHeld => ?_)
  clear hK K
  try simp only [Act.put, List.setIfInBounds_toArray, List.set_cons_zero, List.set_cons_succ]
  refine wpAnyH_ready (rs := [7]) (by kernel_rfl) (by simp) ?_
  refine AllReadyH.cons (o := ⟨_, _, _, _, _, _⟩) rfl (fun K hK => ?_) AllReadyH.nil
  go_simp
  refine hK.out _ _ (by first | exact ⟨(hb3.cell (p := ⟨w.heap.size, 0, none⟩) L0.out).trans hHeld.1, (hb3.cell (p := ⟨w.heap.size, 1, none⟩) L0.out).trans hHeld.2.1, (hb3.cell (p := ⟨w.heap.size, 2, none⟩) L0.out).trans hHeld.2.2⟩ | (obtain ⟨hq0, hq1, hq2⟩ := hHeld; refine ⟨?_, ?_, ?_⟩ <;> go_simp)) (fun hHeld => ?_)
  clear hK K
  try simp only [Act.put, List.setIfInBounds_toArray, List.set_cons_zero, List.set_cons_succ]
  refine wpAnyH_ready (rs := [8]) (by kernel_rfl) (by simp) ?_
  refine AllReadyH.cons (o := ⟨_, _, _, _, _, _⟩) rfl (fun K hK => ?_) AllReadyH.nil
  go_simp
  refine hK.out _ _ (by first | exact ⟨(hb3.cell (p := ⟨w.heap.size, 0, none⟩) L0.out).trans hHeld.1, (hb3.cell (p := ⟨w.heap.size, 1, none⟩) L0.out).trans hHeld.2.1, (hb3.cell (p := ⟨w.heap.size, 2, none⟩) L0.out).trans hHeld.2.2⟩ | (obtain ⟨hq0, hq1, hq2⟩ := hHeld; refine ⟨?_, ?_, ?_⟩ <;> go_simp)) (fun hHeld => ?_)
  clear hK K
  try simp only [Act.put, List.setIfInBounds_toArray, List.set_cons_zero, List.set_cons_succ]
  refine wpAnyH_done (by kernel_rfl) ?_ _
  have T1 := two_stores (w := w) (V := w3) (p := .int .i64 x) (q := .int .i64 y) (r := .int .i64 x2) (t := .int .i64 y2) J1.out J2.out (by omega) (by omega) (by omega) HB3.out
  go_wp2_with fail
  generalize hX : ((((w3.setCell ⟨w.heap.size + 1, 0, none⟩ (.int .i64 x)).setCell ⟨w.heap.size + 1, 1, none⟩ (.int .i64 y)).setCell ⟨w.heap.size + 1 + 1, 0, none⟩ (.int .i64 x2)).setCell ⟨w.heap.size + 1 + 1, 1, none⟩ (.int .i64 y2)) = X
  obtain ⟨r0, r1, r2, r3, r4⟩ := T1 X hX.symm
  refine bodyPost_ret (v := .tuple #[spotV x y, spotV x2 y2]) (by simp [results, Try.results150, go_sem, r0, r1, r2, r3]) rfl ⟨rfl, r4⟩
end Go.Proofs.Ytgehollikdbapaa
