/- Dominoes as the reference sees them: CellOk, l05Second, DominoOk, CellIndex, IsDominoBefore. -/
import Derived.Test.YtgehollikdbapaaRectS
import Derived.Deep.Cut
namespace Go.Proofs.Ytgehollikdbapaa
open Go.RowKit
set_option linter.unusedVariables false

theorem specCellOk_any (x y : Int) (w : World) :
    Calls Try.prog 139 #[spotV x y] w fun e w' => e = .returned (.bool (spotB 7 x y)) ∧ Below w.heap.size w w' := by
  cases h1 : inB x 0 7 <;> cases h2 : inB y 0 7
  all_goals
    go_enter Try.func139, Try.ntmps139
    go_wp2_with (go_at_call 114; refine (l01In_any _ _ _ _).mono ?_; rintro e w' ⟨rfl, rfl⟩)
    go_ret
    exact ⟨by simp [spotB, h1, h2], (Below.refl _ _).alloc (by simp) _⟩

theorem specCellIndex_yes (x y : Nat) (hx : x ≤ 7) (hy : y ≤ 7) (w : World) :
    Calls Try.prog 169 #[spotV x y] w fun e w' => e = .returned (.int .i64 (cix x y : Nat)) ∧ Below w.heap.size w w' := by
  have hok : spotB 7 x y = true := (spotB_iff _ _ _).2 ⟨by omega, by omega⟩
  have HE : Hid ((y : Int) * 8 + (x : Int) = ((cix x y : Nat) : Int)) := by unfold Hid cix; omega
  go_enter Try.func169, Try.ntmps169
  go_wp2_with fail
  refine (specCellOk_any _ _ _).mono ?_
  rintro e w1 ⟨rfl, hb1⟩
  rw [hok]
  obtain ⟨hc, hf⟩ := bcell hb1
  go_wp2_with fail
  go_ret
  exact ⟨ret_int HE.out, ((Below.refl _ _).alloc (Nat.le_refl _) _).trans (hb1.mono (by simp))⟩

set_option maxRecDepth 100000 in
set_option maxHeartbeats 1000000 in
theorem l05Second_any (x y : Int) (d : Bool) (w : World) :
    Calls Try.prog 173 #[triV x y d] w fun e w' => e = .returned (spotV (sndX x d) (sndY y d)) ∧ Below w.heap.size w w' := by
  have hx1 : IntKind.i64.wrap (x + 1) = sndX x false := by rw [IntWalk.i64_left]; rfl
  have hy1 : IntKind.i64.wrap (y + 1) = sndY y true := by rw [IntWalk.i64_left]; rfl
  have HX0 : Hid (sndX x true = x) := rfl
  have HY0 : Hid (sndY y false = y) := rfl
  obtain ⟨W, hW, k0, k1, hb⟩ := two_alloc w (.cells #[.int .i64 x, .int .i64 y, .bool d] 113) (.cells #[.int .i64 0, .int .i64 0] 122)
  have c0 : W.cell? ⟨w.heap.size, 0, none⟩ = some (.int .i64 x) := by rw [blk_cell k0]; rfl
  have c1 : W.cell? ⟨w.heap.size, 1, none⟩ = some (.int .i64 y) := by rw [blk_cell k0]; rfl
  have c2 : W.cell? ⟨w.heap.size, 2, none⟩ = some (.bool d) := by rw [blk_cell k0]; rfl
  have d0 : W.cell? ⟨w.heap.size + 1, 0, none⟩ = some (.int .i64 0) := by rw [blk_cell k1]; rfl
  have d1 : W.cell? ⟨w.heap.size + 1, 1, none⟩ = some (.int .i64 0) := by rw [blk_cell k1]; rfl
  have f0 : ∀ o, W.frozen? ⟨w.heap.size + 1, o, none⟩ = false := fun o => blk_free k1
  have HS : Hid (∀ p q, let X := (W.setCell ⟨w.heap.size + 1, 0, none⟩ p).setCell ⟨w.heap.size + 1, 1, none⟩ q; X.cell? ⟨w.heap.size + 1, 0, none⟩ = some p ∧ X.cell? ⟨w.heap.size + 1, 1, none⟩ = some q ∧ Below w.heap.size w X) := fun p q => by
    have h1 := blk_setCell (k := 1) (blk_setCell (k := 0) k1 p) q
    exact ⟨by rw [blk_cell h1]; rfl, by rw [blk_cell h1]; rfl, (hb.setCell (by show w.heap.size ≤ w.heap.size + 1; omega) _).setCell (by show w.heap.size ≤ w.heap.size + 1; omega) _⟩
  have HW := Lib.hid hW
  clear hW k0 k1 hb
  cases d
  · go_enter Try.func173, Try.ntmps173
    go_upto_region 1 with (fail)
    rw [← HW.out]
    go_wp2_with fail
    obtain ⟨r0, r1, r2⟩ := HS.out (.int .i64 (sndX x false)) (.int .i64 y)
    refine bodyPost_ret (v := spotV (sndX x false) (sndY y false)) (by simp [results, Try.results173, go_sem, r0, r1, HY0.out]) rfl ⟨rfl, r2⟩
  · go_enter Try.func173, Try.ntmps173
    go_upto_region 1 with (fail)
    rw [← HW.out]
    go_wp2_with fail
    obtain ⟨r0, r1, r2⟩ := HS.out (.int .i64 x) (.int .i64 (sndY y true))
    refine bodyPost_ret (v := spotV (sndX x true) (sndY y true)) (by simp [results, Try.results173, go_sem, r0, r1, HX0.out]) rfl ⟨rfl, r2⟩

set_option maxRecDepth 100000 in
set_option maxHeartbeats 1000000 in
theorem specDominoOk_any (x y : Int) (d : Bool) (w : World) :
    Calls Try.prog 166 #[triV x y d] w fun e w' => e = .returned (.bool (domB x y d)) ∧ Below w.heap.size w w' := by
  have HF : Hid ((spotB 7 x y && spotB 7 (sndX x d) (sndY y d)) = domB x y d) := rfl
  generalize domB x y d = r at *
  obtain ⟨W, hW, k1, hb⟩ := one_alloc w (triO x y d 113)
  have HW := Lib.hid hW
  have hT0 := OneT.of k1
  have HT0 := Lib.hid hT0
  obtain ⟨f0, f1, f2, _⟩ := hT0
  have HB := Lib.hid hb
  have HLS := Lib.hid (fun V => l05Second_any x y d V)
  clear hW hb
  generalize hx2 : sndX x d = x2 at *
  generalize hy2 : sndY y d = y2 at *
  clear hx2 hy2
  cases c1 : spotB 7 x y
  · have HQ : Hid (false = r) := by unfold Hid; rw [← HF.out, c1]; rfl
    go_enter Try.func166, Try.ntmps166
    go_upto_region 1 with (fail)
    rw [← HW.out]
    go_wp2_with fail
    refine (specCellOk_any _ _ _).mono ?_
    rintro e w3 ⟨rfl, hb3⟩
    rw [c1]
    go_wp2_with fail
    go_ret
    exact ⟨ret_bool HQ.out, HB.out.trans (hb3.mono HB.out.size)⟩
  · obtain ⟨b, hbb⟩ : ∃ b, spotB 7 x2 y2 = b := ⟨_, rfl⟩
    have HQ : Hid (b = r) := by unfold Hid; rw [← HF.out, c1, hbb]; rfl
    have HBB := Lib.hid hbb
    have K1 := Lib.hid k1
    clear HF hbb k1
    go_enter Try.func166, Try.ntmps166
    go_upto_region 1 with (fail)
    rw [← HW.out]
    go_wp2_with fail
    refine (specCellOk_any _ _ _).mono ?_
    rintro e w3 ⟨rfl, hb3⟩
    rw [c1]
    have hT3 := OneT.keep hb3 (lt_of_block K1.out) HT0.out
    obtain ⟨g0, g1, g2, _⟩ := hT3
    have HB3 := Lib.hid (HB.out.trans (hb3.mono HB.out.size))
    clear f0 f1 f2 hb3
    go_wp2_with fail
    refine (HLS.out _).mono ?_
    rintro e w4 ⟨rfl, hb4⟩
    have HB4 := Lib.hid (HB3.out.trans (hb4.mono HB3.out.size))
    go_wp2_with fail
    refine (specCellOk_any _ _ _).mono ?_
    rintro e w5 ⟨rfl, hb5⟩
    rw [HBB.out]
    go_wp2_with fail
    go_ret
    exact ⟨ret_bool HQ.out, HB4.out.trans (hb5.mono HB4.out.size)⟩
end Go.Proofs.Ytgehollikdbapaa
