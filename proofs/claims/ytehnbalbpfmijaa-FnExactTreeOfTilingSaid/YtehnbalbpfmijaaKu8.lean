/- What the claim's walk rests on: parts SDom, Over, StpP, SReg. -/
import Derived.Test.YtehnbalbpfmijaaKu7
import Derived.Test.YtehnbalbpfmijaaKu6
import Derived.Deep.Cut
import Derived.Deep.RegionHeld3
namespace Go.Proofs.Ytehnbalbpfmijaa
open Go.RowKit
set_option linter.unusedVariables false

theorem specCellOk_any (x y : Int) (w : World) :
    Calls Try.prog 140 #[spotV x y] w fun e w' => e = .returned (.bool (spotB 7 x y)) ∧ Below w.heap.size w w' := by
  cases h1 : inB x 0 7 <;> cases h2 : inB y 0 7
  all_goals
    go_enter Try.func140, Try.ntmps140
    go_wp2_with (go_at_call 90; refine (l01In_any _ _ _ _).mono ?_; rintro e w' ⟨rfl, rfl⟩)
    go_ret
    exact ⟨by simp [spotB, h1, h2], (Below.refl _ _).alloc (by simp) _⟩

theorem specCellIndex_yes (x y : Nat) (hx : x ≤ 7) (hy : y ≤ 7) (w : World) :
    Calls Try.prog 86 #[spotV x y] w fun e w' => e = .returned (.int .i64 (cix x y : Nat)) ∧ Below w.heap.size w w' := by
  have hok : spotB 7 x y = true := (spotB_iff _ _ _).2 ⟨by omega, by omega⟩
  have HE : Hid ((y : Int) * 8 + (x : Int) = ((cix x y : Nat) : Int)) := by unfold Hid cix; omega
  go_enter Try.func86, Try.ntmps86
  go_wp2_with fail
  refine (specCellOk_any _ _ _).mono ?_
  rintro e w1 ⟨rfl, hb1⟩
  rw [hok]
  obtain ⟨hc, hf⟩ := bcell hb1
  go_wp2_with fail
  go_ret
  exact ⟨ret_int HE.out, ((Below.refl _ _).alloc (Nat.le_refl _) _).trans (hb1.mono (by simp))⟩

set_option maxRecDepth 100000 in
set_option maxHeartbeats 1000000 in
theorem l05Second_any (x y : Int) (d : Bool) (w : World) :
    Calls Try.prog 141 #[triV x y d] w fun e w' => e = .returned (spotV (sndX x d) (sndY y d)) ∧ Below w.heap.size w w' := by
  have hx1 : IntKind.i64.wrap (x + 1) = sndX x false := by rw [IntWalk.i64_left]; rfl
  have hy1 : IntKind.i64.wrap (y + 1) = sndY y true := by rw [IntWalk.i64_left]; rfl
  have HX0 : Hid (sndX x true = x) := rfl
  have HY0 : Hid (sndY y false = y) := rfl
  obtain ⟨W, hW, k0, k1, hb⟩ := two_alloc w (.cells #[.int .i64 x, .int .i64 y, .bool d] 46) (.cells #[.int .i64 0, .int .i64 0] 44)
  have c0 : W.cell? ⟨w.heap.size, 0, none⟩ = some (.int .i64 x) := by rw [blk_cell k0]; rfl
  have c1 : W.cell? ⟨w.heap.size, 1, none⟩ = some (.int .i64 y) := by rw [blk_cell k0]; rfl
  have c2 : W.cell? ⟨w.heap.size, 2, none⟩ = some (.bool d) := by rw [blk_cell k0]; rfl
  have d0 : W.cell? ⟨w.heap.size + 1, 0, none⟩ = some (.int .i64 0) := by rw [blk_cell k1]; rfl
  have d1 : W.cell? ⟨w.heap.size + 1, 1, none⟩ = some (.int .i64 0) := by rw [blk_cell k1]; rfl
  have f0 : ∀ o, W.frozen? ⟨w.heap.size + 1, o, none⟩ = false := fun o => blk_free k1
  have HS : Hid (∀ p q, let X := (W.setCell ⟨w.heap.size + 1, 0, none⟩ p).setCell ⟨w.heap.size + 1, 1, none⟩ q; X.cell? ⟨w.heap.size + 1, 0, none⟩ = some p ∧ X.cell? ⟨w.heap.size + 1, 1, none⟩ = some q ∧ Below w.heap.size w X) := fun p q => by
    have h1 := blk_setCell (k := 1) (blk_setCell (k := 0) k1 p) q
    exact ⟨by rw [blk_cell h1]; rfl, by rw [blk_cell h1]; rfl, (hb.setCell (by show w.heap.size ≤ w.heap.size + 1; omega) _).setCell (by show w.heap.size ≤ w.heap.size + 1; omega) _⟩
  have HW := Lib.hid hW
  clear hW k0 k1 hb
  cases d
  · go_enter Try.func141, Try.ntmps141
    go_upto_region 1 with (fail)
    rw [← HW.out]
    go_wp2_with fail
    obtain ⟨r0, r1, r2⟩ := HS.out (.int .i64 (sndX x false)) (.int .i64 y)
    refine bodyPost_ret (v := spotV (sndX x false) (sndY y false)) (by simp [results, Try.results141, go_sem, r0, r1, HY0.out]) rfl ⟨rfl, r2⟩
  · go_enter Try.func141, Try.ntmps141
    go_upto_region 1 with (fail)
    rw [← HW.out]
    go_wp2_with fail
    obtain ⟨r0, r1, r2⟩ := HS.out (.int .i64 x) (.int .i64 (sndY y true))
    refine bodyPost_ret (v := spotV (sndX x true) (sndY y true)) (by simp [results, Try.results141, go_sem, r0, r1, HX0.out]) rfl ⟨rfl, r2⟩

set_option maxRecDepth 100000 in
set_option maxHeartbeats 1000000 in
theorem specDominoOk_any (x y : Int) (d : Bool) (w : World) :
    Calls Try.prog 82 #[triV x y d] w fun e w' => e = .returned (.bool (domB x y d)) ∧ Below w.heap.size w w' := by
  have HF : Hid ((spotB 7 x y && spotB 7 (sndX x d) (sndY y d)) = domB x y d) := rfl
  generalize domB x y d = r at *
  obtain ⟨W, hW, k1, hb⟩ := one_alloc w (triO x y d 46)
  have HW := Lib.hid hW
  have hT0 := OneT.of k1
  have HT0 := Lib.hid hT0
  obtain ⟨f0, f1, f2, _⟩ := hT0
  have HB := Lib.hid hb
  have HLS := Lib.hid (fun V => l05Second_any x y d V)
  clear hW hb
  generalize hx2 : sndX x d = x2 at *
  generalize hy2 : sndY y d = y2 at *
  clear hx2 hy2
  cases c1 : spotB 7 x y
  · have HQ : Hid (false = r) := by unfold Hid; rw [← HF.out, c1]; rfl
    go_enter Try.func82, Try.ntmps82
    go_upto_region 1 with (fail)
    rw [← HW.out]
    go_wp2_with fail
    refine (specCellOk_any _ _ _).mono ?_
    rintro e w3 ⟨rfl, hb3⟩
    rw [c1]
    go_wp2_with fail
    go_ret
    exact ⟨ret_bool HQ.out, HB.out.trans (hb3.mono HB.out.size)⟩
  · obtain ⟨b, hbb⟩ : ∃ b, spotB 7 x2 y2 = b := ⟨_, rfl⟩
    have HQ : Hid (b = r) := by unfold Hid; rw [← HF.out, c1, hbb]; rfl
    have HBB := Lib.hid hbb
    have K1 := Lib.hid k1
    clear HF hbb k1
    go_enter Try.func82, Try.ntmps82
    go_upto_region 1 with (fail)
    rw [← HW.out]
    go_wp2_with fail
    refine (specCellOk_any _ _ _).mono ?_
    rintro e w3 ⟨rfl, hb3⟩
    rw [c1]
    have hT3 := OneT.keep hb3 (lt_of_block K1.out) HT0.out
    obtain ⟨g0, g1, g2, _⟩ := hT3
    have HB3 := Lib.hid (HB.out.trans (hb3.mono HB.out.size))
    clear f0 f1 f2 hb3
    go_wp2_with fail
    refine (HLS.out _).mono ?_
    rintro e w4 ⟨rfl, hb4⟩
    have HB4 := Lib.hid (HB3.out.trans (hb4.mono HB3.out.size))
    go_wp2_with fail
    refine (specCellOk_any _ _ _).mono ?_
    rintro e w5 ⟨rfl, hb5⟩
    rw [HBB.out]
    go_wp2_with fail
    go_ret
    exact ⟨ret_bool HQ.out, HB4.out.trans (hb5.mono HB4.out.size)⟩
end Go.Proofs.Ytehnbalbpfmijaa

namespace Go.Proofs.Ytehnbalbpfmijaa
open Go.RowKit
set_option linter.unusedVariables false

theorem domLt_eq (x y x' y' : Nat) (d d' : Bool) (h : domB x y d = true) (h' : domB x' y' d' = true) : domLt (x, y, d) (x', y', d') = (decide (cix x y < cix x' y') || (decide (cix x y = cix x' y') && (!d && d'))) := by
  have hl : ∀ (a b : Nat) (d : Bool), domO ((a : Int)).toNat ((b : Int)).toNat d = 2 * cix a b + if d then 1 else 0 := fun a b d => by simp [domO]
  unfold domLt
  simp only [h, h', Bool.true_and, hl]
  rw [Bool.eq_iff_iff]
  simp only [decide_eq_true_eq, Bool.or_eq_true, Bool.and_eq_true, Bool.not_eq_true']
  cases d <;> cases d' <;> simp <;> omega

set_option maxRecDepth 100000 in
set_option maxHeartbeats 2000000 in
theorem specBefore_any (x y : Int) (d : Bool) (x' y' : Int) (d' : Bool) (w : World) :
    Calls Try.prog 83 #[triV x y d, triV x' y' d'] w fun e w' => e = .returned (.bool (domLt (x, y, d) (x', y', d'))) ∧ Below w.heap.size w w' := by
  obtain ⟨W, hW, k1, k2, hb⟩ := two_alloc w (triO x y d 46) (triO x' y' d' 46)
  have HW := Lib.hid hW
  have HT0 := Lib.hid (TwoT.of (w := w) (p := (x, y, d)) (q := (x', y', d')) k1 k2)
  have L1 := Lib.hid (lt_of_block k1)
  have L2 := Lib.hid (lt_of_block k2)
  have HB := Lib.hid hb
  clear hW hb k1 k2
  cases c1 : domB x y d
  · have HF : Hid (false = domLt (x, y, d) (x', y', d')) := by unfold Hid domLt; simp [c1]
    obtain ⟨f0, f1, f2, _⟩ := HT0.out
    go_enter Try.func83, Try.ntmps83
    go_upto_region 1 with (fail)
    rw [← HW.out]
    go_wp2_with fail
    refine (specDominoOk_any _ _ _ _).mono ?_
    rintro e w3 ⟨rfl, hb3⟩
    rw [c1]
    go_wp2_with fail
    go_ret
    exact ⟨ret_bool HF.out, HB.out.trans (hb3.mono HB.out.size)⟩
  · cases c2 : domB x' y' d'
    · have HF : Hid (false = domLt (x, y, d) (x', y', d')) := by unfold Hid domLt; simp [c1, c2]
      obtain ⟨f0, f1, f2, _⟩ := HT0.out
      go_enter Try.func83, Try.ntmps83
      go_upto_region 1 with (fail)
      rw [← HW.out]
      go_wp2_with fail
      refine (specDominoOk_any _ _ _ _).mono ?_
      rintro e w3 ⟨rfl, hb3⟩
      rw [c1]
      have HB3 := Lib.hid (HB.out.trans (hb3.mono HB.out.size))
      obtain ⟨_, _, _, g0, g1, g2, _⟩ := TwoT.keep hb3 L1.out L2.out HT0.out
      go_wp2_with fail
      refine (specDominoOk_any _ _ _ _).mono ?_
      rintro e w4 ⟨rfl, hb4⟩
      rw [c2]
      go_wp2_with fail
      go_ret
      exact ⟨ret_bool HF.out, HB3.out.trans (hb4.mono HB3.out.size)⟩
    · have hd := (domB_iff _ _ _).1 c1
      have hd' := (domB_iff _ _ _).1 c2
      obtain ⟨a, rfl⟩ := Int.eq_ofNat_of_zero_le hd.1.1
      obtain ⟨b, rfl⟩ := Int.eq_ofNat_of_zero_le hd.1.2
      obtain ⟨a', rfl⟩ := Int.eq_ofNat_of_zero_le hd'.1.1
      obtain ⟨b', rfl⟩ := Int.eq_ofNat_of_zero_le hd'.1.2
      have HF := Lib.hid (domLt_eq a b a' b' d d' c1 c2)
      have hA : a ≤ 7 ∧ b ≤ 7 := by cases d <;> simp at hd <;> omega
      have hA' : a' ≤ 7 ∧ b' ≤ 7 := by cases d' <;> simp at hd' <;> omega
      have e1 : (b : Int) * 8 + (a : Int) = ((cix a b : Nat) : Int) := by unfold cix; omega
      have e2 : (b' : Int) * 8 + (a' : Int) = ((cix a' b' : Nat) : Int) := by unfold cix; omega
      have e3 : cix a b ≤ 63 ∧ cix a' b' ≤ 63 := by unfold cix; omega
      have C1 := Lib.hid c1; have C2 := Lib.hid c2
      clear hd hd' c1 c2
      generalize cix a b = p at *
      generalize cix a' b' = q at *
      obtain ⟨f0, f1, f2, f3, f4, f5, _⟩ := HT0.out
      go_enter Try.func83, Try.ntmps83
      go_upto_region 1 with (fail)
      rw [← HW.out]
      go_wp2_with fail
      refine (specDominoOk_any _ _ _ _).mono ?_
      rintro e w3 ⟨rfl, hb3⟩
      rw [C1.out]
      have HB3 := Lib.hid (HB.out.trans (hb3.mono HB.out.size))
      have HT3 := Lib.hid (TwoT.keep hb3 L1.out L2.out HT0.out)
      obtain ⟨g0, g1, g2, g3, g4, g5, _⟩ := HT3.out
      clear f0 f1 f2 f3 f4 f5 hb3
      go_wp2_with fail
      refine (specDominoOk_any _ _ _ _).mono ?_
      rintro e w4 ⟨rfl, hb4⟩
      rw [C2.out]
      have HB4 := Lib.hid (HB3.out.trans (hb4.mono HB3.out.size))
      obtain ⟨i0, i1, i2, i3, i4, i5, _⟩ := TwoT.keep hb4 L1.out L2.out HT3.out
      clear g0 g1 g2 g3 g4 g5 hb4
      rcases Nat.lt_trichotomy p q with hl | hl | hl
      · have HR : Hid (true = domLt (a, b, d) (a', b', d')) := by unfold Hid; rw [HF.out]; simp [hl]
        go_wp2_with fail
        go_ret
        exact ⟨ret_bool HR.out, HB4.out⟩
      · have HR : Hid ((!d && d') = domLt (a, b, d) (a', b', d')) := by unfold Hid; rw [HF.out]; simp [hl]
        subst hl
        cases d <;> cases d'
        all_goals
          go_wp2_with fail
          go_ret
          exact ⟨by first | exact ret_bool (show false = _ from HR.out) | exact ret_bool (show true = _ from HR.out), HB4.out⟩
      · have HR : Hid (false = domLt (a, b, d) (a', b', d')) := by unfold Hid; rw [HF.out]; simp [show ¬ p < q by omega, show ¬ p = q by omega]
        have t1 : decide ((p : Int) < (q : Int)) = false := by simp; omega
        have t2 : ((p : Int) == (q : Int)) = false := by simp; omega
        go_wp2_with fail
        go_ret
        exact ⟨ret_bool ((decide_eq_false (show ¬ p < q by omega)).trans HR.out), HB4.out⟩
end Go.Proofs.Ytehnbalbpfmijaa

namespace Go.Proofs.Ytehnbalbpfmijaa
open Go.RowKit
set_option linter.unusedVariables false

set_option maxRecDepth 100000 in
set_option maxHeartbeats 4000000 in
theorem CellsUnder_yes (x y : Int) (d : Bool) (w : World) (h : domB x y d = true) :
    Calls Try.prog 84 #[triV x y d] w fun e w' => e = .returned (.tuple #[spotV x y, spotV (sndX x d) (sndY y d)]) ∧ Below w.heap.size w w' := by
  have H1 := Lib.hid h
  have HLS := Lib.hid (fun V => l05Second_any x y d V)
  clear h
  generalize sndX x d = x2 at *
  generalize sndY y d = y2 at *
  obtain ⟨W, hW, k0, k1, k2, hb⟩ := three_alloc w (triO x y d 46) (.cells #[.int .i64 0, .int .i64 0] 44) (.cells #[.int .i64 0, .int .i64 0] 44)
  have HW := Lib.hid hW
  have c0 : W.cell? ⟨w.heap.size, 0, none⟩ = some (.int .i64 x) := by rw [blk_cell k0]; rfl
  have c1 : W.cell? ⟨w.heap.size, 1, none⟩ = some (.int .i64 y) := by rw [blk_cell k0]; rfl
  have c2 : W.cell? ⟨w.heap.size, 2, none⟩ = some (.bool d) := by rw [blk_cell k0]; rfl
  have HB0 := Lib.hid hb
  have K0' := Lib.hid k0; have K1' := Lib.hid k1; have K2' := Lib.hid k2
  clear hW hb k0 k1 k2
  go_enter Try.func84, Try.ntmps84
  go_upto_region 1 with (fail)
  rw [← HW.out]
  go_wp2_with fail
  refine (specDominoOk_any _ _ _ _).mono ?_
  rintro e w1 ⟨rfl, hb1⟩
  rw [H1.out]
  have HB := Lib.hid (HB0.out.trans (hb1.mono HB0.out.size))
  have k0 := blk_below K0'.out hb1
  have K1 := Lib.hid (blk_below K1'.out hb1)
  have K2 := Lib.hid (blk_below K2'.out hb1)
  have g0 : w1.cell? ⟨w.heap.size, 0, none⟩ = some (.int .i64 x) := by rw [blk_cell k0]; rfl
  have g1 : w1.cell? ⟨w.heap.size, 1, none⟩ = some (.int .i64 y) := by rw [blk_cell k0]; rfl
  have g2 : w1.cell? ⟨w.heap.size, 2, none⟩ = some (.bool d) := by rw [blk_cell k0]; rfl
  have L0 := Lib.hid (lt_of_block k0)
  clear c0 c1 c2 hb1 k0
  go_wp2_with fail
  refine wp_region_held_drew (S := fun w' => w'.cell? ⟨w.heap.size, 0, none⟩ = some (.int .i64 x) ∧ w'.cell? ⟨w.heap.size, 1, none⟩ = some (.int .i64 y) ∧ w'.cell? ⟨w.heap.size, 2, none⟩ = some (.bool d)) (by kernel_rfl) (by exact ⟨g0, g1, g2⟩) (fun hHeld => ?_)
  refine wpAnyH_take (i := 0) (oi := ⟨_, _, _, _, _, _⟩) (v := ?vap27456q0) rfl (by kernel_rfl) (by kernel_rfl) (by kernel_rfl) (fun _ _ _ h => h) (Or.inl ⟨by rfl, ?hap27456q0⟩) (by assumption) ?_
  case hap27456q0 => (intro w hSw; (try dsimp only at hSw); go_simp; try with_reducible rfl)
  try simp only [Act.put, List.setIfInBounds_toArray, List.set_cons_zero, List.set_cons_succ]
  refine wpAnyH_take (i := 1) (oi := ⟨_, _, _, _, _, _⟩) (v := ?vap27456q1) rfl (by kernel_rfl) (by kernel_rfl) (by kernel_rfl) (fun _ _ _ h => h) (Or.inl ⟨by rfl, ?hap27456q1⟩) (by assumption) ?_
  case hap27456q1 => (intro w hSw; (try dsimp only at hSw); go_simp; try with_reducible rfl)
  try simp only [Act.put, List.setIfInBounds_toArray, List.set_cons_zero, List.set_cons_succ]
  refine wpAnyH_take (i := 2) (oi := ⟨_, _, _, _, _, _⟩) (v := ?vap27456q2) rfl (by kernel_rfl) (by kernel_rfl) (by kernel_rfl) (fun _ _ _ h => h) (Or.inl ⟨by rfl, ?hap27456q2⟩) (by assumption) ?_
  case hap27456q2 => (intro w hSw; (try dsimp only at hSw); go_simp; try with_reducible rfl)
  try simp only [Act.put, List.setIfInBounds_toArray, List.set_cons_zero, List.set_cons_succ]
  refine wpAnyH_take (i := 3) (oi := ⟨_, _, _, _, _, _⟩) (v := ?vap27456q3) rfl (by kernel_rfl) (by kernel_rfl) (by kernel_rfl) (fun _ _ _ h => h) (Or.inl ⟨by rfl, ?hap27456q3⟩) (by assumption) ?_
  case hap27456q3 => (intro w hSw; (try dsimp only at hSw); go_simp; try with_reducible rfl)
  try simp only [Act.put, List.setIfInBounds_toArray, List.set_cons_zero, List.set_cons_succ]
  refine wpAnyH_take (i := 4) (oi := ⟨_, _, _, _, _, _⟩) (v := ?vap27456q4) rfl (by kernel_rfl) (by kernel_rfl) (by kernel_rfl) (fun _ _ _ h => h) (Or.inl ⟨by rfl, ?hap27456q4⟩) (by assumption) ?_
  case hap27456q4 => (intro w hSw; (try dsimp only at hSw); go_simp; try with_reducible rfl)
  try simp only [Act.put, List.setIfInBounds_toArray, List.set_cons_zero, List.set_cons_succ]
  refine wpAnyH_take (i := 5) (oi := ⟨_, _, _, _, _, _⟩) (v := ?vap27456q5) rfl (by kernel_rfl) (by kernel_rfl) (by kernel_rfl) (fun _ _ _ h => h) (Or.inl ⟨by rfl, ?hap27456q5⟩) (by assumption) ?_
  case hap27456q5 => (intro w hSw; (try dsimp only at hSw); go_simp; try with_reducible rfl)
  try simp only [Act.put, List.setIfInBounds_toArray, List.set_cons_zero, List.set_cons_succ]
  refine wpAnyH_ready (rs := [6]) (by kernel_rfl) (by simp) ?_
  refine AllReadyH.cons (o := ⟨_, _, _, _, _, _⟩) rfl (fun K hK => ?_) AllReadyH.nil
  go_simp; go_at_call 141; refine (HLS.out _).mono ?_; rintro e w3 ⟨rfl, hb3⟩
  have j1 := blk_below (w := w1.drew) K1.out hb3
  have j2 := blk_below (w := w1.drew) K2.out hb3
  have d0 : w3.cell? ⟨w.heap.size + 1, 0, none⟩ = some (.int .i64 0) := by rw [blk_cell j1]; rfl
  have d1 : w3.cell? ⟨w.heap.size + 1, 1, none⟩ = some (.int .i64 0) := by rw [blk_cell j1]; rfl
  have d2 : w3.cell? ⟨w.heap.size + 1 + 1, 0, none⟩ = some (.int .i64 0) := by rw [blk_cell j2]; rfl
  have d3 : w3.cell? ⟨w.heap.size + 1 + 1, 1, none⟩ = some (.int .i64 0) := by rw [blk_cell j2]; rfl
  have f0 : ∀ o, w3.frozen? ⟨w.heap.size + 1, o, none⟩ = false := fun o => blk_free j1
  have f2 : ∀ o, w3.frozen? ⟨w.heap.size + 1 + 1, o, none⟩ = false := fun o => blk_free j2
  have J1 := Lib.hid j1; have J2 := Lib.hid j2; have HB3 := Lib.hid (HB.out.drew.trans (hb3.mono HB.out.size))
  clear j1 j2
  refine hK.out _ _ (by first | exact ⟨(hb3.cell (p := ⟨w.heap.size, 0, none⟩) L0.out).trans hHeld.1, (hb3.cell (p := ⟨w.heap.size, 1, none⟩) L0.out).trans hHeld.2.1, (hb3.cell (p := ⟨w.heap.size, 2, none⟩) L0.out).trans hHeld.2.2⟩ | (obtain ⟨hq0, hq1, hq2⟩ := hHeld; refine ⟨?_, ?_, ?_⟩ <;> go_simp)) (fun hHeld => ?_)
  clear hK K
  try simp only [Act.put, List.setIfInBounds_toArray, List.set_cons_zero, List.set_cons_succ]
  refine wpAnyH_ready (rs := [7]) (by kernel_rfl) (by simp) ?_
  refine AllReadyH.cons (o := ⟨_, _, _, _, _, _⟩) rfl (fun K hK => ?_) AllReadyH.nil
  go_simp
  refine hK.out _ _ (by first | exact ⟨(hb3.cell (p := ⟨w.heap.size, 0, none⟩) L0.out).trans hHeld.1, (hb3.cell (p := ⟨w.heap.size, 1, none⟩) L0.out).trans hHeld.2.1, (hb3.cell (p := ⟨w.heap.size, 2, none⟩) L0.out).trans hHeld.2.2⟩ | (obtain ⟨hq0, hq1, hq2⟩ := hHeld; refine ⟨?_, ?_, ?_⟩ <;> go_simp)) (fun hHeld => ?_)
  clear hK K
  try simp only [Act.put, List.setIfInBounds_toArray, List.set_cons_zero, List.set_cons_succ]
  refine wpAnyH_ready (rs := [8]) (by kernel_rfl) (by simp) ?_
  refine AllReadyH.cons (o := ⟨_, _, _, _, _, _⟩) rfl (fun K hK => ?_) AllReadyH.nil
  go_simp
  refine hK.out _ _ (by first | exact ⟨(hb3.cell (p := ⟨w.heap.size, 0, none⟩) L0.out).trans hHeld.1, (hb3.cell (p := ⟨w.heap.size, 1, none⟩) L0.out).trans hHeld.2.1, (hb3.cell (p := ⟨w.heap.size, 2, none⟩) L0.out).trans hHeld.2.2⟩ | (obtain ⟨hq0, hq1, hq2⟩ := hHeld; refine ⟨?_, ?_, ?_⟩ <;> go_simp)) (fun hHeld => ?_)
  clear hK K
  try simp only [Act.put, List.setIfInBounds_toArray, List.set_cons_zero, List.set_cons_succ]
  refine wpAnyH_done (by kernel_rfl) ?_ _
  have T1 := two_stores (w := w) (V := w3) (p := .int .i64 x) (q := .int .i64 y) (r := .int .i64 x2) (t := .int .i64 y2) J1.out J2.out (by omega) (by omega) (by omega) HB3.out
  go_wp2_with fail
  generalize hX : ((((w3.setCell ⟨w.heap.size + 1, 0, none⟩ (.int .i64 x)).setCell ⟨w.heap.size + 1, 1, none⟩ (.int .i64 y)).setCell ⟨w.heap.size + 1 + 1, 0, none⟩ (.int .i64 x2)).setCell ⟨w.heap.size + 1 + 1, 1, none⟩ (.int .i64 y2)) = X
  obtain ⟨r0, r1, r2, r3, r4⟩ := T1 X hX.symm
  refine bodyPost_ret (v := .tuple #[spotV x y, spotV x2 y2]) (by simp [results, Try.results84, go_sem, r0, r1, r2, r3]) rfl ⟨rfl, r4⟩
end Go.Proofs.Ytehnbalbpfmijaa

namespace Go.Proofs.Ytehnbalbpfmijaa
open Go.RowKit
set_option linter.unusedVariables false

/-- Two cells of the floor, side by side. -/
def nextB (x y x2 y2 : Int) : Prop := (0 ≤ x ∧ x ≤ 7) ∧ (0 ≤ y ∧ y ≤ 7) ∧ (0 ≤ x2 ∧ x2 ≤ 7) ∧ (0 ≤ y2 ∧ y2 ≤ 7) ∧ ((x = x2 ∧ (y2 = y + 1 ∨ y = y2 + 1)) ∨ (y = y2 ∧ (x2 = x + 1 ∨ x = x2 + 1)))
def overL (x y x2 y2 : Int) : Lk := (min x x2, min y y2, x == x2)
theorem size_any (n : Int) (h : -100 ≤ n ∧ n ≤ 100) (w : World) :
    Calls Try.prog 171 #[.int .i64 n] w fun e w' => e = .returned (.int .i64 (max n (-n))) ∧ Below w.heap.size w w' := by
  obtain ⟨h1, h2⟩ := h
  go_enter Try.func171, Try.ntmps171
  go_wp2_with fail
  all_goals
    go_ret
    exact ⟨ret_int (by omega), Below.refl _ _⟩
set_option maxRecDepth 100000 in
set_option maxHeartbeats 4000000 in
theorem AreN_yes (x y x2 y2 : Int) (h : nextB x y x2 y2) (w : World) :
    Calls Try.prog 152 #[spotV x y, spotV x2 y2] w fun e w' => e = .returned (.bool true) ∧ Below w.heap.size w w' := by
  obtain ⟨W, hW, k1, k2, hb⟩ := two_alloc w (.cells #[.int .i64 x, .int .i64 y] 44) (.cells #[.int .i64 x2, .int .i64 y2] 44)
  have HW := Lib.hid hW
  have HB := Lib.hid hb
  have HS : Hid (TwoC W W w.heap.size (w.heap.size + 1) x y x2 y2) := ⟨by rw [blk_cell k1]; rfl, by rw [blk_cell k1]; rfl, by rw [blk_cell k2]; rfl, by rw [blk_cell k2]; rfl, Nat.le_refl _, Below.refl _ _⟩
  have L1 := Lib.hid (lt_of_block k1)
  have L2 := Lib.hid (lt_of_block k2)
  obtain ⟨⟨a1, a2⟩, ⟨b1, b2⟩, ⟨c1, c2⟩, ⟨d1, d2⟩, hh⟩ := h
  have h1 : spotB 7 x y = true := (spotB_iff _ _ _).2 ⟨⟨a1, a2⟩, ⟨b1, b2⟩⟩
  have h2 : spotB 7 x2 y2 = true := (spotB_iff _ _ _).2 ⟨⟨c1, c2⟩, ⟨d1, d2⟩⟩
  have e1 : IntKind.i64.wrap (x - x2) = x - x2 := IntWalk.i64_in _ (by omega)
  have e2 : IntKind.i64.wrap (y - y2) = y - y2 := IntWalk.i64_in _ (by omega)
  have hC1 := Lib.hid fun V => size_any (x - x2) (by omega) V
  have hC2 := Lib.hid fun V => size_any (y - y2) (by omega) V
  have e3 : max (x - x2) (-(x - x2)) + max (y - y2) (-(y - y2)) = 1 := by omega
  generalize max (x - x2) (-(x - x2)) = m1 at *
  generalize max (y - y2) (-(y - y2)) = m2 at *
  have H1 := Lib.hid h1; have H2 := Lib.hid h2
  clear hW hb k1 k2 h1 h2 hh
  go_enter Try.func152, Try.ntmps152
  go_wp2_with fail
  rw [← HW.out]
  go_region_held3 (fun w' => TwoC W w' w.heap.size (w.heap.size + 1) x y x2 y2)
    (first
      | exact HS.out.drew
      | exact TwoC.keep hb1 L1.out L2.out (by assumption))
    (first
      | (go_at_call 138; (with_reducible refine (CellOk_any x y _).mono ?_); rintro e w1 ⟨rfl, hb1⟩; rw [H1.out])
      | (go_at_call 138; (with_reducible refine (CellOk_any x2 y2 _).mono ?_); rintro e w1 ⟨rfl, hb1⟩; rw [H2.out])
      | (go_at_call 171; (with_reducible refine (hC1.out _).mono ?_); rintro e w1 ⟨rfl, hb1⟩)
      | (go_at_call 171; (with_reducible refine (hC2.out _).mono ?_); rintro e w1 ⟨rfl, hb1⟩))
  have HB4 := Lib.hid (HB.out.trans ((show TwoC W _ w.heap.size (w.heap.size + 1) x y x2 y2 from by assumption).2.2.2.2.2.mono HB.out.size))
  go_wp2_with fail
  go_ret
  exact ⟨rfl, HB4.out⟩
set_option maxRecDepth 100000 in
set_option maxHeartbeats 4000000 in
theorem specAreN_yes (x y x2 y2 : Int) (h : nextB x y x2 y2) (w : World) :
    Calls Try.prog 165 #[spotV x y, spotV x2 y2] w fun e w' => e = .returned (.bool true) ∧ Below w.heap.size w w' := by
  obtain ⟨W, hW, k1, k2, hb⟩ := two_alloc w (.cells #[.int .i64 x, .int .i64 y] 44) (.cells #[.int .i64 x2, .int .i64 y2] 44)
  have HW := Lib.hid hW
  have HB := Lib.hid hb
  have HS : Hid (TwoC W W w.heap.size (w.heap.size + 1) x y x2 y2) := ⟨by rw [blk_cell k1]; rfl, by rw [blk_cell k1]; rfl, by rw [blk_cell k2]; rfl, by rw [blk_cell k2]; rfl, Nat.le_refl _, Below.refl _ _⟩
  have L1 := Lib.hid (lt_of_block k1)
  have L2 := Lib.hid (lt_of_block k2)
  obtain ⟨⟨a1, a2⟩, ⟨b1, b2⟩, ⟨c1, c2⟩, ⟨d1, d2⟩, hh⟩ := h
  have H1 := Lib.hid (show spotB 7 x y = true from (spotB_iff _ _ _).2 ⟨⟨a1, a2⟩, ⟨b1, b2⟩⟩)
  have H2 := Lib.hid (show spotB 7 x2 y2 = true from (spotB_iff _ _ _).2 ⟨⟨c1, c2⟩, ⟨d1, d2⟩⟩)
  have hs : (x - x2 = 0 ∧ y - y2 = 1) ∨ (x - x2 = 0 ∧ y - y2 = -1) ∨ (x - x2 = 1 ∧ y - y2 = 0) ∨ (x - x2 = -1 ∧ y - y2 = 0) := by omega
  clear hW hb k1 k2 hh
  rcases hs with ⟨s1, s2⟩ | ⟨s1, s2⟩ | ⟨s1, s2⟩ | ⟨s1, s2⟩
  all_goals
    obtain ⟨f1, f2, f3, f4, _⟩ := HS.out
    go_enter Try.func165, Try.ntmps165
    go_upto_region 1 with (fail)
    rw [← HW.out]
    go_wp2_with fail
    refine (specCellOk_any _ _ _).mono ?_
    rintro e w3 ⟨rfl, hb3⟩
    rw [H1.out]
    have HT3 := Lib.hid (TwoC.keep hb3 L1.out L2.out HS.out)
    clear f1 f2 f3 f4 hb3
    obtain ⟨f1, f2, f3, f4, _⟩ := HT3.out
    go_wp2_with fail
    refine (specCellOk_any _ _ _).mono ?_
    rintro e w4 ⟨rfl, hb4⟩
    rw [H2.out]
    have HT4 := Lib.hid (TwoC.keep hb4 L1.out L2.out HT3.out)
    clear f1 f2 f3 f4 hb4
    obtain ⟨f1, f2, f3, f4, _⟩ := HT4.out
    have HB4 := Lib.hid (HB.out.trans (HT4.out.2.2.2.2.2.mono HB.out.size))
    go_wp2_with fail
    go_ret
    exact ⟨rfl, HB4.out⟩
set_option maxRecDepth 100000 in
set_option maxHeartbeats 4000000 in
theorem DominoOver_yes (x y x2 y2 : Int) (h : nextB x y x2 y2) (w : World) :
    Calls Try.prog 101 #[spotV x y, spotV x2 y2] w fun e w' => e = .returned (.tuple #[triV (overL x y x2 y2).1 (overL x y x2 y2).2.1 (overL x y x2 y2).2.2, .bool true]) ∧ Below w.heap.size w w' := by
  obtain ⟨W, hW, k1, k2, k3, hb⟩ := three_alloc w (.cells #[.int .i64 x, .int .i64 y] 44) (.cells #[.int .i64 x2, .int .i64 y2] 44) (triO 0 0 false 46)
  have HW := Lib.hid hW
  have HB := Lib.hid hb
  have HK1 := Lib.hid k1; have HK2 := Lib.hid k2; have HK3 := Lib.hid k3
  have a0 : W.cell? ⟨w.heap.size, 0, none⟩ = some (.int .i64 x) := by rw [blk_cell k1]; rfl
  have a1 : W.cell? ⟨w.heap.size, 1, none⟩ = some (.int .i64 y) := by rw [blk_cell k1]; rfl
  have a2 : W.cell? ⟨w.heap.size + 1, 0, none⟩ = some (.int .i64 x2) := by rw [blk_cell k2]; rfl
  have a3 : W.cell? ⟨w.heap.size + 1, 1, none⟩ = some (.int .i64 y2) := by rw [blk_cell k2]; rfl
  have HN := Lib.hid (fun V => AreN_yes x y x2 y2 h V)
  obtain ⟨mx, HMX⟩ : ∃ mx, Hid ((overL x y x2 y2).1 = mx) := ⟨_, rfl⟩
  obtain ⟨my, HMY⟩ : ∃ my, Hid ((overL x y x2 y2).2.1 = my) := ⟨_, rfl⟩
  have HMD : Hid ((overL x y x2 y2).2.2 = (x == x2)) := rfl
  have HMXE : Hid (mx = min x x2) := HMX.out.symm
  have HMYE : Hid (my = min y y2) := HMY.out.symm
  rw [HMX.out, HMY.out, HMD.out]
  clear hW hb k1 k2 k3 HMX HMY HMD h
  go_enter Try.func101, Try.ntmps101
  go_upto_region 1 with (fail)
  rw [← HW.out]
  go_wp2_with fail
  refine (HN.out _).mono ?_
  rintro e w1 ⟨rfl, hb1⟩
  have k1 := blk_below HK1.out hb1
  have k2 := blk_below HK2.out hb1
  have k3 := blk_below HK3.out hb1
  have HB1 := Lib.hid (HB.out.trans (hb1.mono HB.out.size))
  clear a0 a1 a2 a3 hb1
  have a0 : w1.cell? ⟨w.heap.size, 0, none⟩ = some (.int .i64 x) := by rw [blk_cell k1]; rfl
  have a1 : w1.cell? ⟨w.heap.size, 1, none⟩ = some (.int .i64 y) := by rw [blk_cell k1]; rfl
  have a2 : w1.cell? ⟨w.heap.size + 1, 0, none⟩ = some (.int .i64 x2) := by rw [blk_cell k2]; rfl
  have a3 : w1.cell? ⟨w.heap.size + 1, 1, none⟩ = some (.int .i64 y2) := by rw [blk_cell k2]; rfl
  have b0 : w1.cell? ⟨w.heap.size + 1 + 1, 0, none⟩ = some (.int .i64 0) := by rw [blk_cell k3]; rfl
  have b1 : w1.cell? ⟨w.heap.size + 1 + 1, 1, none⟩ = some (.int .i64 0) := by rw [blk_cell k3]; rfl
  have b2 : w1.cell? ⟨w.heap.size + 1 + 1, 2, none⟩ = some (.bool false) := by rw [blk_cell k3]; rfl
  have fr : ∀ o, w1.frozen? ⟨w.heap.size + 1 + 1, o, none⟩ = false := fun o => blk_free k3
  have hX := Lib.hid (blk_setCell (k := 2) (blk_setCell (k := 1) (blk_setCell (k := 0) k3 (.int .i64 mx)) (.int .i64 my)) (.bool (x == x2)))
  have hBX : Hid (Below w.heap.size w (((w1.setCell ⟨w.heap.size + 2, 0, none⟩ (.int .i64 mx)).setCell ⟨w.heap.size + 2, 1, none⟩ (.int .i64 my)).setCell ⟨w.heap.size + 2, 2, none⟩ (.bool (x == x2)))) := ((HB1.out.setCell (p := ⟨w.heap.size + 2, 0, none⟩) (by simp) _).setCell (p := ⟨w.heap.size + 2, 1, none⟩) (by simp) _).setCell (p := ⟨w.heap.size + 2, 2, none⟩) (by simp) _
  have hfin : ∀ V : World, Hid (V.heap[w.heap.size + 2]? = some (triO mx my (x == x2) 46)) → V.cell? ⟨w.heap.size + 1 + 1, 0, none⟩ = some (.int .i64 mx) ∧ V.cell? ⟨w.heap.size + 1 + 1, 1, none⟩ = some (.int .i64 my) ∧ V.cell? ⟨w.heap.size + 1 + 1, 2, none⟩ = some (.bool (x == x2)) := fun V hV => ⟨by rw [show w.heap.size + 1 + 1 = w.heap.size + 2 from rfl, blk_cell hV.out]; rfl, by rw [show w.heap.size + 1 + 1 = w.heap.size + 2 from rfl, blk_cell hV.out]; rfl, by rw [show w.heap.size + 1 + 1 = w.heap.size + 2 from rfl, blk_cell hV.out]; rfl⟩
  have hfin := Lib.hid hfin
  clear k1 k2 k3
  by_cases hx : x ≤ x2
  · by_cases hy : y ≤ y2
    · skip
      have e1 : mx = x := by have := HMXE.out; omega
      have e2 : my = y := by have := HMYE.out; omega
      rw [e1, e2] at hX hBX hfin
      have E1 := Lib.hid e1; have E2 := Lib.hid e2
      clear e1 e2
      go_wp2_with fail
      obtain ⟨X, HXQ⟩ : ∃ X, Hid (X = ((w1.setCell ⟨w.heap.size + 2, 0, none⟩ (.int .i64 x)).setCell ⟨w.heap.size + 2, 1, none⟩ (.int .i64 y)).setCell ⟨w.heap.size + 2, 2, none⟩ (.bool (x == x2))) := ⟨_, rfl⟩
      have hX1 := hX.out
      have hBX1 := hBX.out
      rw [← HXQ.out] at hX1 hBX1
      obtain ⟨r0, r1, r2⟩ := hfin.out X (by simpa [Hid] using hX1)
      show bodyPost _ _ _ _ _ (((w1.setCell ⟨w.heap.size + 2, 0, none⟩ (.int .i64 x)).setCell ⟨w.heap.size + 2, 1, none⟩ (.int .i64 y)).setCell ⟨w.heap.size + 2, 2, none⟩ (.bool (x == x2)))
      rw [← HXQ.out]
      exact bodyPost_ret (v := .tuple #[triV x y (x == x2), .bool true]) (by simp [results, Try.results101, go_sem, r0, r1, r2]) rfl ⟨by rw [E1.out, E2.out], hBX1⟩
    · have hy' : y2 < y := by omega
      clear hy
      have e1 : mx = x := by have := HMXE.out; omega
      have e2 : my = y2 := by have := HMYE.out; omega
      rw [e1, e2] at hX hBX hfin
      have E1 := Lib.hid e1; have E2 := Lib.hid e2
      clear e1 e2
      go_wp2_with fail
      obtain ⟨X, HXQ⟩ : ∃ X, Hid (X = ((w1.setCell ⟨w.heap.size + 2, 0, none⟩ (.int .i64 x)).setCell ⟨w.heap.size + 2, 1, none⟩ (.int .i64 y2)).setCell ⟨w.heap.size + 2, 2, none⟩ (.bool (x == x2))) := ⟨_, rfl⟩
      have hX1 := hX.out
      have hBX1 := hBX.out
      rw [← HXQ.out] at hX1 hBX1
      obtain ⟨r0, r1, r2⟩ := hfin.out X (by simpa [Hid] using hX1)
      show bodyPost _ _ _ _ _ (((w1.setCell ⟨w.heap.size + 2, 0, none⟩ (.int .i64 x)).setCell ⟨w.heap.size + 2, 1, none⟩ (.int .i64 y2)).setCell ⟨w.heap.size + 2, 2, none⟩ (.bool (x == x2)))
      rw [← HXQ.out]
      exact bodyPost_ret (v := .tuple #[triV x y2 (x == x2), .bool true]) (by simp [results, Try.results101, go_sem, r0, r1, r2]) rfl ⟨by rw [E1.out, E2.out], hBX1⟩
  · have hx' : x2 < x := by omega
    clear hx
    by_cases hy : y ≤ y2
    · skip
      have e1 : mx = x2 := by have := HMXE.out; omega
      have e2 : my = y := by have := HMYE.out; omega
      rw [e1, e2] at hX hBX hfin
      have E1 := Lib.hid e1; have E2 := Lib.hid e2
      clear e1 e2
      go_wp2_with fail
      obtain ⟨X, HXQ⟩ : ∃ X, Hid (X = ((w1.setCell ⟨w.heap.size + 2, 0, none⟩ (.int .i64 x2)).setCell ⟨w.heap.size + 2, 1, none⟩ (.int .i64 y)).setCell ⟨w.heap.size + 2, 2, none⟩ (.bool (x == x2))) := ⟨_, rfl⟩
      have hX1 := hX.out
      have hBX1 := hBX.out
      rw [← HXQ.out] at hX1 hBX1
      obtain ⟨r0, r1, r2⟩ := hfin.out X (by simpa [Hid] using hX1)
      show bodyPost _ _ _ _ _ (((w1.setCell ⟨w.heap.size + 2, 0, none⟩ (.int .i64 x2)).setCell ⟨w.heap.size + 2, 1, none⟩ (.int .i64 y)).setCell ⟨w.heap.size + 2, 2, none⟩ (.bool (x == x2)))
      rw [← HXQ.out]
      exact bodyPost_ret (v := .tuple #[triV x2 y (x == x2), .bool true]) (by simp [results, Try.results101, go_sem, r0, r1, r2]) rfl ⟨by rw [E1.out, E2.out], hBX1⟩
    · have hy' : y2 < y := by omega
      clear hy
      have e1 : mx = x2 := by have := HMXE.out; omega
      have e2 : my = y2 := by have := HMYE.out; omega
      rw [e1, e2] at hX hBX hfin
      have E1 := Lib.hid e1; have E2 := Lib.hid e2
      clear e1 e2
      go_wp2_with fail
      obtain ⟨X, HXQ⟩ : ∃ X, Hid (X = ((w1.setCell ⟨w.heap.size + 2, 0, none⟩ (.int .i64 x2)).setCell ⟨w.heap.size + 2, 1, none⟩ (.int .i64 y2)).setCell ⟨w.heap.size + 2, 2, none⟩ (.bool (x == x2))) := ⟨_, rfl⟩
      have hX1 := hX.out
      have hBX1 := hBX.out
      rw [← HXQ.out] at hX1 hBX1
      obtain ⟨r0, r1, r2⟩ := hfin.out X (by simpa [Hid] using hX1)
      show bodyPost _ _ _ _ _ (((w1.setCell ⟨w.heap.size + 2, 0, none⟩ (.int .i64 x2)).setCell ⟨w.heap.size + 2, 1, none⟩ (.int .i64 y2)).setCell ⟨w.heap.size + 2, 2, none⟩ (.bool (x == x2)))
      rw [← HXQ.out]
      exact bodyPost_ret (v := .tuple #[triV x2 y2 (x == x2), .bool true]) (by simp [results, Try.results101, go_sem, r0, r1, r2]) rfl ⟨by rw [E1.out, E2.out], hBX1⟩
set_option maxRecDepth 100000 in
set_option maxHeartbeats 4000000 in
theorem specDominoOver_yes (x y x2 y2 : Int) (h : nextB x y x2 y2) (w : World) :
    Calls Try.prog 133 #[spotV x y, spotV x2 y2] w fun e w' => e = .returned (.tuple #[triV (overL x y x2 y2).1 (overL x y x2 y2).2.1 (overL x y x2 y2).2.2, .bool true]) ∧ Below w.heap.size w w' := by
  obtain ⟨W, hW, k1, k2, k3, hb⟩ := three_alloc w (.cells #[.int .i64 x, .int .i64 y] 44) (.cells #[.int .i64 x2, .int .i64 y2] 44) (triO 0 0 false 46)
  have HW := Lib.hid hW
  have HB := Lib.hid hb
  have HK1 := Lib.hid k1; have HK2 := Lib.hid k2; have HK3 := Lib.hid k3
  have a0 : W.cell? ⟨w.heap.size, 0, none⟩ = some (.int .i64 x) := by rw [blk_cell k1]; rfl
  have a1 : W.cell? ⟨w.heap.size, 1, none⟩ = some (.int .i64 y) := by rw [blk_cell k1]; rfl
  have a2 : W.cell? ⟨w.heap.size + 1, 0, none⟩ = some (.int .i64 x2) := by rw [blk_cell k2]; rfl
  have a3 : W.cell? ⟨w.heap.size + 1, 1, none⟩ = some (.int .i64 y2) := by rw [blk_cell k2]; rfl
  have HN := Lib.hid (fun V => specAreN_yes x y x2 y2 h V)
  obtain ⟨mx, HMX⟩ : ∃ mx, Hid ((overL x y x2 y2).1 = mx) := ⟨_, rfl⟩
  obtain ⟨my, HMY⟩ : ∃ my, Hid ((overL x y x2 y2).2.1 = my) := ⟨_, rfl⟩
  have HMD : Hid ((overL x y x2 y2).2.2 = (x == x2)) := rfl
  have HMXE : Hid (mx = min x x2) := HMX.out.symm
  have HMYE : Hid (my = min y y2) := HMY.out.symm
  rw [HMX.out, HMY.out, HMD.out]
  clear hW hb k1 k2 k3 HMX HMY HMD h
  go_enter Try.func133, Try.ntmps133
  go_upto_region 1 with (fail)
  rw [← HW.out]
  go_wp2_with fail
  refine (HN.out _).mono ?_
  rintro e w1 ⟨rfl, hb1⟩
  have k1 := blk_below HK1.out hb1
  have k2 := blk_below HK2.out hb1
  have k3 := blk_below HK3.out hb1
  have HB1 := Lib.hid (HB.out.trans (hb1.mono HB.out.size))
  clear a0 a1 a2 a3 hb1
  have a0 : w1.cell? ⟨w.heap.size, 0, none⟩ = some (.int .i64 x) := by rw [blk_cell k1]; rfl
  have a1 : w1.cell? ⟨w.heap.size, 1, none⟩ = some (.int .i64 y) := by rw [blk_cell k1]; rfl
  have a2 : w1.cell? ⟨w.heap.size + 1, 0, none⟩ = some (.int .i64 x2) := by rw [blk_cell k2]; rfl
  have a3 : w1.cell? ⟨w.heap.size + 1, 1, none⟩ = some (.int .i64 y2) := by rw [blk_cell k2]; rfl
  have b0 : w1.cell? ⟨w.heap.size + 1 + 1, 0, none⟩ = some (.int .i64 0) := by rw [blk_cell k3]; rfl
  have b1 : w1.cell? ⟨w.heap.size + 1 + 1, 1, none⟩ = some (.int .i64 0) := by rw [blk_cell k3]; rfl
  have b2 : w1.cell? ⟨w.heap.size + 1 + 1, 2, none⟩ = some (.bool false) := by rw [blk_cell k3]; rfl
  have fr : ∀ o, w1.frozen? ⟨w.heap.size + 1 + 1, o, none⟩ = false := fun o => blk_free k3
  have hX := Lib.hid (blk_setCell (k := 2) (blk_setCell (k := 1) (blk_setCell (k := 0) k3 (.int .i64 mx)) (.int .i64 my)) (.bool (x == x2)))
  have hBX : Hid (Below w.heap.size w (((w1.setCell ⟨w.heap.size + 2, 0, none⟩ (.int .i64 mx)).setCell ⟨w.heap.size + 2, 1, none⟩ (.int .i64 my)).setCell ⟨w.heap.size + 2, 2, none⟩ (.bool (x == x2)))) := ((HB1.out.setCell (p := ⟨w.heap.size + 2, 0, none⟩) (by simp) _).setCell (p := ⟨w.heap.size + 2, 1, none⟩) (by simp) _).setCell (p := ⟨w.heap.size + 2, 2, none⟩) (by simp) _
  have hfin : ∀ V : World, Hid (V.heap[w.heap.size + 2]? = some (triO mx my (x == x2) 46)) → V.cell? ⟨w.heap.size + 1 + 1, 0, none⟩ = some (.int .i64 mx) ∧ V.cell? ⟨w.heap.size + 1 + 1, 1, none⟩ = some (.int .i64 my) ∧ V.cell? ⟨w.heap.size + 1 + 1, 2, none⟩ = some (.bool (x == x2)) := fun V hV => ⟨by rw [show w.heap.size + 1 + 1 = w.heap.size + 2 from rfl, blk_cell hV.out]; rfl, by rw [show w.heap.size + 1 + 1 = w.heap.size + 2 from rfl, blk_cell hV.out]; rfl, by rw [show w.heap.size + 1 + 1 = w.heap.size + 2 from rfl, blk_cell hV.out]; rfl⟩
  have hfin := Lib.hid hfin
  clear k1 k2 k3
  by_cases hx : x ≤ x2
  · by_cases hy : y ≤ y2
    · skip
      have e1 : mx = x := by have := HMXE.out; omega
      have e2 : my = y := by have := HMYE.out; omega
      rw [e1, e2] at hX hBX hfin
      have E1 := Lib.hid e1; have E2 := Lib.hid e2
      clear e1 e2
      go_wp2_with fail
      obtain ⟨X, HXQ⟩ : ∃ X, Hid (X = ((w1.setCell ⟨w.heap.size + 2, 0, none⟩ (.int .i64 x)).setCell ⟨w.heap.size + 2, 1, none⟩ (.int .i64 y)).setCell ⟨w.heap.size + 2, 2, none⟩ (.bool (x == x2))) := ⟨_, rfl⟩
      have hX1 := hX.out
      have hBX1 := hBX.out
      rw [← HXQ.out] at hX1 hBX1
      obtain ⟨r0, r1, r2⟩ := hfin.out X (by simpa [Hid] using hX1)
      show bodyPost _ _ _ _ _ (((w1.setCell ⟨w.heap.size + 2, 0, none⟩ (.int .i64 x)).setCell ⟨w.heap.size + 2, 1, none⟩ (.int .i64 y)).setCell ⟨w.heap.size + 2, 2, none⟩ (.bool (x == x2)))
      rw [← HXQ.out]
      exact bodyPost_ret (v := .tuple #[triV x y (x == x2), .bool true]) (by simp [results, Try.results133, go_sem, r0, r1, r2]) rfl ⟨by rw [E1.out, E2.out], hBX1⟩
    · have hy' : y2 < y := by omega
      clear hy
      have e1 : mx = x := by have := HMXE.out; omega
      have e2 : my = y2 := by have := HMYE.out; omega
      rw [e1, e2] at hX hBX hfin
      have E1 := Lib.hid e1; have E2 := Lib.hid e2
      clear e1 e2
      go_wp2_with fail
      obtain ⟨X, HXQ⟩ : ∃ X, Hid (X = ((w1.setCell ⟨w.heap.size + 2, 0, none⟩ (.int .i64 x)).setCell ⟨w.heap.size + 2, 1, none⟩ (.int .i64 y2)).setCell ⟨w.heap.size + 2, 2, none⟩ (.bool (x == x2))) := ⟨_, rfl⟩
      have hX1 := hX.out
      have hBX1 := hBX.out
      rw [← HXQ.out] at hX1 hBX1
      obtain ⟨r0, r1, r2⟩ := hfin.out X (by simpa [Hid] using hX1)
      show bodyPost _ _ _ _ _ (((w1.setCell ⟨w.heap.size + 2, 0, none⟩ (.int .i64 x)).setCell ⟨w.heap.size + 2, 1, none⟩ (.int .i64 y2)).setCell ⟨w.heap.size + 2, 2, none⟩ (.bool (x == x2)))
      rw [← HXQ.out]
      exact bodyPost_ret (v := .tuple #[triV x y2 (x == x2), .bool true]) (by simp [results, Try.results133, go_sem, r0, r1, r2]) rfl ⟨by rw [E1.out, E2.out], hBX1⟩
  · have hx' : x2 < x := by omega
    clear hx
    by_cases hy : y ≤ y2
    · skip
      have e1 : mx = x2 := by have := HMXE.out; omega
      have e2 : my = y := by have := HMYE.out; omega
      rw [e1, e2] at hX hBX hfin
      have E1 := Lib.hid e1; have E2 := Lib.hid e2
      clear e1 e2
      go_wp2_with fail
      obtain ⟨X, HXQ⟩ : ∃ X, Hid (X = ((w1.setCell ⟨w.heap.size + 2, 0, none⟩ (.int .i64 x2)).setCell ⟨w.heap.size + 2, 1, none⟩ (.int .i64 y)).setCell ⟨w.heap.size + 2, 2, none⟩ (.bool (x == x2))) := ⟨_, rfl⟩
      have hX1 := hX.out
      have hBX1 := hBX.out
      rw [← HXQ.out] at hX1 hBX1
      obtain ⟨r0, r1, r2⟩ := hfin.out X (by simpa [Hid] using hX1)
      show bodyPost _ _ _ _ _ (((w1.setCell ⟨w.heap.size + 2, 0, none⟩ (.int .i64 x2)).setCell ⟨w.heap.size + 2, 1, none⟩ (.int .i64 y)).setCell ⟨w.heap.size + 2, 2, none⟩ (.bool (x == x2)))
      rw [← HXQ.out]
      exact bodyPost_ret (v := .tuple #[triV x2 y (x == x2), .bool true]) (by simp [results, Try.results133, go_sem, r0, r1, r2]) rfl ⟨by rw [E1.out, E2.out], hBX1⟩
    · have hy' : y2 < y := by omega
      clear hy
      have e1 : mx = x2 := by have := HMXE.out; omega
      have e2 : my = y2 := by have := HMYE.out; omega
      rw [e1, e2] at hX hBX hfin
      have E1 := Lib.hid e1; have E2 := Lib.hid e2
      clear e1 e2
      go_wp2_with fail
      obtain ⟨X, HXQ⟩ : ∃ X, Hid (X = ((w1.setCell ⟨w.heap.size + 2, 0, none⟩ (.int .i64 x2)).setCell ⟨w.heap.size + 2, 1, none⟩ (.int .i64 y2)).setCell ⟨w.heap.size + 2, 2, none⟩ (.bool (x == x2))) := ⟨_, rfl⟩
      have hX1 := hX.out
      have hBX1 := hBX.out
      rw [← HXQ.out] at hX1 hBX1
      obtain ⟨r0, r1, r2⟩ := hfin.out X (by simpa [Hid] using hX1)
      show bodyPost _ _ _ _ _ (((w1.setCell ⟨w.heap.size + 2, 0, none⟩ (.int .i64 x2)).setCell ⟨w.heap.size + 2, 1, none⟩ (.int .i64 y2)).setCell ⟨w.heap.size + 2, 2, none⟩ (.bool (x == x2)))
      rw [← HXQ.out]
      exact bodyPost_ret (v := .tuple #[triV x2 y2 (x == x2), .bool true]) (by simp [results, Try.results133, go_sem, r0, r1, r2]) rfl ⟨by rw [E1.out, E2.out], hBX1⟩
end Go.Proofs.Ytehnbalbpfmijaa

namespace Go.Proofs.Ytehnbalbpfmijaa
open Go.RowKit
set_option linter.unusedVariables false

/-- The number of a cell, with a margin of one around the floor. -/
def ixD (W : Nat) (c : Int × Int) : Nat := ((c.2 + 1) * ((W : Int) + 2) + c.1 + 1).toNat
def extW (W H : Nat) (c : Int × Int) : Prop := (-1 ≤ c.1 ∧ c.1 ≤ W) ∧ -1 ≤ c.2 ∧ c.2 ≤ H
theorem ix_nat {W H : Nat} {c : Int × Int} (h : extW W H c) : ixD W c = (c.2 + 1).toNat * (W + 2) + (c.1 + 1).toNat ∧ (c.1 + 1).toNat < W + 2 ∧ (c.2 + 1).toNat < H + 2 ∧ (ixD W c : Int) = (c.2 + 1) * ((W : Int) + 2) + c.1 + 1 := by
  obtain ⟨⟨h1, h2⟩, h3, h4⟩ := h
  obtain ⟨x, hx⟩ := Int.eq_ofNat_of_zero_le (show 0 ≤ c.1 + 1 by omega)
  obtain ⟨y, hy⟩ := Int.eq_ofNat_of_zero_le (show 0 ≤ c.2 + 1 by omega)
  unfold ixD
  have e : (c.2 + 1) * ((W : Int) + 2) + c.1 + 1 = ((y * (W + 2) + x : Nat) : Int) := by
    rw [hy, Int.add_assoc, hx]; simp
  rw [e, hx, hy, Int.toNat_natCast, Int.toNat_natCast, Int.toNat_natCast]
  omega
theorem ix_lt {W H : Nat} {c : Int × Int} (h : extW W H c) : ixD W c < (W + 2) * (H + 2) := by
  obtain ⟨e, h1, h2, _⟩ := ix_nat h
  rw [e]
  have h5 : ((c.2 + 1).toNat + 1) * (W + 2) ≤ (H + 2) * (W + 2) := Nat.mul_le_mul (by omega) (Nat.le_refl _)
  rw [Nat.succ_mul, Nat.mul_comm (H + 2)] at h5
  omega
theorem ix_inj {W H : Nat} {c e : Int × Int} (h : extW W H c) (h2 : extW W H e) (he : ixD W c = ixD W e) : c = e := by
  obtain ⟨a1, a2, a3, _⟩ := ix_nat h
  obtain ⟨b1, b2, b3, _⟩ := ix_nat h2
  rw [a1, b1] at he
  have m1 : ((c.2 + 1).toNat * (W + 2) + (c.1 + 1).toNat) % (W + 2) = ((e.2 + 1).toNat * (W + 2) + (e.1 + 1).toNat) % (W + 2) := by rw [he]
  have m2 : ((c.2 + 1).toNat * (W + 2) + (c.1 + 1).toNat) / (W + 2) = ((e.2 + 1).toNat * (W + 2) + (e.1 + 1).toNat) / (W + 2) := by rw [he]
  rw [Nat.mul_comm, Nat.mul_add_mod, Nat.mod_eq_of_lt a2, Nat.mul_comm, Nat.mul_add_mod, Nat.mod_eq_of_lt b2] at m1
  rw [Nat.mul_comm, Nat.mul_add_div (by omega), Nat.div_eq_of_lt a2, Nat.mul_comm, Nat.mul_add_div (by omega), Nat.div_eq_of_lt b2] at m2
  obtain ⟨⟨p1, p2⟩, p3, p4⟩ := h
  obtain ⟨⟨q1, q2⟩, q3, q4⟩ := h2
  ext <;> omega
/-- The marks tell what is in the list. -/
def DInv (W H : Nat) (kn : Nat → Bool) (T : List (Int × Int)) : Prop := ∀ c, extW W H c → kn (ixD W c) = decide (c ∈ T)
theorem DInv.start (W H : Nat) : DInv W H (fun _ => false) [] := fun c _ => by simp
theorem DInv.step {W H : Nat} {kn : Nat → Bool} {T : List (Int × Int)} (h : DInv W H kn T) {c : Int × Int} (hc : extW W H c) : DInv W H (updB kn (ixD W c)) (T ++ [c]) := by
  intro e he
  by_cases q : e = c
  · subst q; simp [updB]
  · have : ixD W e ≠ ixD W c := fun q2 => q (ix_inj he hc q2)
    rw [updB, if_neg this, h e he]
    simp [q]
def wy (j : Nat) : Int × Int := (el [1, 0, -1, 0] j, el [0, 1, 0, -1] j)
theorem wy_dir {j : Nat} (h : j < 4) : wy j ∈ dirs4 := by
  rcases show j = 0 ∨ j = 1 ∨ j = 2 ∨ j = 3 by omega with rfl | rfl | rfl | rfl <;> decide
theorem dir_wy {d : Int × Int} (h : d ∈ dirs4) : ∃ j, j < 4 ∧ wy j = d := by
  rcases (dirs4_iff d).1 h with rfl | rfl | rfl | rfl
  · exact ⟨0, by omega, by decide⟩
  · exact ⟨1, by omega, by decide⟩
  · exact ⟨2, by omega, by decide⟩
  · exact ⟨3, by omega, by decide⟩
def domF (p : (Int × Int) × (Int × Int)) : Lk := overL (pad p.1 p.2).1 (pad p.1 p.2).2 p.1.1 p.1.2
/-- What a found cell knows. -/
def StepOk (W H : Int) (hs : Int × Int → Bool) (T : List (Int × Int)) (n : Nat) (p : (Int × Int) × (Int × Int)) : Prop :=
  p.2 ∈ dirs4 ∧ inW W H p.1 ∧ inW W H (pad p.1 p.2) ∧ hs (pad p.1 p.2) = true ∧ pad (pad p.1 p.2) p.2 ∈ T.take n ∧ p.1 ∉ T.take n
def SInv (W H : Int) (hs : Int × Int → Bool) (ini T : List (Int × Int)) (out : List Lk) : Prop :=
  ∃ fd : List ((Int × Int) × (Int × Int)), T = ini ++ fd.map (·.1) ∧ out = fd.map domF ∧ ∀ j p, fd[j]? = some p → StepOk W H hs T (ini.length + j) p
theorem SInv.start (W H : Int) (hs : Int × Int → Bool) (ini : List (Int × Int)) : SInv W H hs ini ini [] := ⟨[], by simp, by simp, fun j p h => by simp at h⟩
theorem SInv.step {W H : Int} {hs : Int × Int → Bool} {ini T : List (Int × Int)} {out : List Lk} (h : SInv W H hs ini T out) {t d : Int × Int} (hd : d ∈ dirs4) (ht : inW W H t) (hm : inW W H (pad t d)) (hh : hs (pad t d) = true) (hn : pad (pad t d) d ∈ T) (hu : t ∉ T) :
    SInv W H hs ini (T ++ [t]) (out ++ [overL (pad t d).1 (pad t d).2 t.1 t.2]) := by
  obtain ⟨fd, e1, e2, e3⟩ := h
  have hl : T.length = ini.length + fd.length := by rw [e1]; simp
  refine ⟨fd ++ [(t, d)], by rw [e1]; simp, by rw [e2]; simp [domF], fun j p hj => ?_⟩
  by_cases q : j < fd.length
  · rw [List.getElem?_append_left q] at hj
    obtain ⟨a, b, c, f, g, k⟩ := e3 j p hj
    have et : (T ++ [t]).take (ini.length + j) = T.take (ini.length + j) := List.take_append_of_le_length (by omega)
    exact ⟨a, b, c, f, by rw [et]; exact g, by rw [et]; exact k⟩
  · have hj2 : j < (fd ++ [(t, d)]).length := (List.getElem?_eq_some_iff.1 hj).1
    have : j = fd.length := by simp at hj2; omega
    subst this
    simp at hj
    subst hj
    have et : (T ++ [t]).take (ini.length + fd.length) = T := by rw [← hl]; simp
    exact ⟨hd, ht, hm, hh, by rw [et]; exact hn, by rw [et]; exact hu⟩
def CloAt (W H : Int) (hs : Int × Int → Bool) (T : List (Int × Int)) (c d : Int × Int) : Prop := inW W H (pad (pad c d) d) → inW W H (pad c d) → hs (pad c d) = true → pad (pad c d) d ∈ T
def Closed (W H : Int) (hs : Int × Int → Bool) (T : List (Int × Int)) (k m : Nat) : Prop :=
  ∀ i c, T[i]? = some c → ∀ j, j < 4 → (i < k ∨ (i = k ∧ j < m)) → CloAt W H hs T c (wy j)
theorem Closed.start (W H : Int) (hs : Int × Int → Bool) (T : List (Int × Int)) : Closed W H hs T 0 0 := fun i c _ j _ h => by omega
theorem Closed.next {W H : Int} {hs : Int × Int → Bool} {T : List (Int × Int)} {k : Nat} (h : Closed W H hs T k 4) : Closed W H hs T (k + 1) 0 := fun i c hi j hj h2 => h i c hi j hj (by omega)
theorem Closed.skip {W H : Int} {hs : Int × Int → Bool} {T : List (Int × Int)} {k m : Nat} (h : Closed W H hs T k m) {c : Int × Int} (hk : T[k]? = some c) (hc : CloAt W H hs T c (wy m)) : Closed W H hs T k (m + 1) := by
  intro i e hi j hj h2
  by_cases q : i = k ∧ j = m
  · obtain ⟨rfl, rfl⟩ := q
    rw [hk] at hi
    rw [← Option.some.inj hi]; exact hc
  · exact h i e hi j hj (by omega)
theorem Closed.grow {W H : Int} {hs : Int × Int → Bool} {T : List (Int × Int)} {k m : Nat} (h : Closed W H hs T k m) {c : Int × Int} (hk : T[k]? = some c) {t : Int × Int} (ht : t = pad (pad c (wy m)) (wy m)) : Closed W H hs (T ++ [t]) k (m + 1) := by
  have hkl : k < T.length := (List.getElem?_eq_some_iff.1 hk).1
  intro i e hi j hj h2 a b d
  have hil : i < T.length := by omega
  rw [List.getElem?_append_left hil] at hi
  by_cases q : i = k ∧ j = m
  · obtain ⟨rfl, rfl⟩ := q
    rw [hk] at hi
    rw [← Option.some.inj hi, ht]; simp
  · exact List.mem_append_left _ (h i e hi j hj (by omega) a b d)
open Classical in
/-- What the search leaves, told as a search of the lattice. -/
theorem stp_reach {r W H : Int} {hs : Int × Int → Bool} {ini T : List (Int × Int)} {out : List Lk} {init : Int × Int → Prop} (h : SInv W H hs ini T out) (hc : Closed W H hs T T.length 0)
    (i1 : ∀ c ∈ ini, init c ∧ c.1 % 2 = r ∧ c.2 % 2 = r) (i2 : ∀ c e, init c → e ∈ dirs4 → inW W H (pad (pad c e) e) → c ∈ ini) (i3 : ∀ v, inW W H v → v ∉ ini → ¬ init v) :
    ∃ (R : Int × Int → Prop) (d : Int × Int → Int × Int) (rk : Int × Int → Nat), Reach r W H (fun c => inW W H c ∧ hs c = true) init R d rk ∧ ∀ x, x ∈ out ↔ ∃ v, R v ∧ x = overL (pad v (d v)).1 (pad v (d v)).2 v.1 v.2 := by
  obtain ⟨fd, e1, e2, e3⟩ := h
  have hu : ∀ (i j : Nat) (p q : (Int × Int) × (Int × Int)), fd[i]? = some p → fd[j]? = some q → p.1 = q.1 → i < j → False := by
    intro i j p q hi hj he hlt
    obtain ⟨_, _, _, _, _, hno⟩ := e3 j q hj
    refine hno ?_
    rw [← he, e1, List.take_append]
    refine List.mem_append_right _ ?_
    rw [show ini.length + j - ini.length = j by omega, List.map_take.symm]
    refine List.mem_map.2 ⟨p, ?_, rfl⟩
    exact List.mem_of_getElem? (i := i) (by rw [List.getElem?_take, if_pos hlt]; exact hi)
  have hch : ∀ v, ∃ jp : Nat × ((Int × Int) × (Int × Int)), (∃ (j : Nat) (p : (Int × Int) × (Int × Int)), fd[j]? = some p ∧ p.1 = v) → fd[jp.1]? = some jp.2 ∧ jp.2.1 = v := by
    intro v
    by_cases q : ∃ (j : Nat) (p : (Int × Int) × (Int × Int)), fd[j]? = some p ∧ p.1 = v
    · obtain ⟨j, p, a, b⟩ := q
      exact ⟨(j, p), fun _ => ⟨a, b⟩⟩
    · exact ⟨(0, ((0, 0), (0, 0))), fun h => absurd h q⟩
  obtain ⟨F, hF⟩ : ∃ F : Int × Int → Nat × ((Int × Int) × (Int × Int)), ∀ v, (∃ (j : Nat) (p : (Int × Int) × (Int × Int)), fd[j]? = some p ∧ p.1 = v) → fd[(F v).1]? = some (F v).2 ∧ (F v).2.1 = v := ⟨fun v => (hch v).choose, fun v => (hch v).choose_spec⟩
  have hFj : ∀ (j : Nat) (p : (Int × Int) × (Int × Int)), fd[j]? = some p → F p.1 = (j, p) := by
    intro j p hj
    obtain ⟨a, b⟩ := hF p.1 ⟨j, p, hj, rfl⟩
    have : (F p.1).1 = j := by
      rcases Nat.lt_trichotomy (F p.1).1 j with q | q | q
      · exact (hu _ _ _ _ a hj b q).elim
      · exact q
      · exact (hu _ _ _ _ hj a b.symm q).elim
    rw [this, hj] at a
    exact Prod.ext this (Option.some.inj a).symm
  have hT : ∀ v, v ∈ T ↔ v ∈ ini ∨ ∃ (j : Nat) (p : (Int × Int) × (Int × Int)), fd[j]? = some p ∧ p.1 = v := by
    intro v
    rw [e1, List.mem_append, List.mem_map]
    constructor
    · rintro (q | ⟨p, hp, rfl⟩)
      · exact .inl q
      · obtain ⟨j, hj⟩ := List.mem_iff_getElem?.1 hp
        exact .inr ⟨j, p, hj, rfl⟩
    · rintro (q | ⟨j, p, hj, rfl⟩)
      · exact .inl q
      · exact .inr ⟨p, List.mem_of_getElem? hj, rfl⟩
  have hnx : ∀ (j : Nat) (p : (Int × Int) × (Int × Int)), fd[j]? = some p → pad (pad p.1 p.2) p.2 ∈ ini ∨ ∃ (i : Nat) (q : (Int × Int) × (Int × Int)), fd[i]? = some q ∧ q.1 = pad (pad p.1 p.2) p.2 ∧ i < j := by
    intro j p hj
    obtain ⟨_, _, _, _, hn, _⟩ := e3 j p hj
    rw [e1, List.take_append, List.mem_append] at hn
    rcases hn with hn | hn
    · exact .inl (List.mem_of_mem_take hn)
    · rw [show ini.length + j - ini.length = j by omega, ← List.map_take] at hn
      obtain ⟨q, hq, e⟩ := List.mem_map.1 hn
      obtain ⟨i, hi⟩ := List.mem_iff_getElem?.1 hq
      rw [List.getElem?_take] at hi
      split at hi
      · exact .inr ⟨i, q, hi, e, by assumption⟩
      · simp at hi
  have hpar : ∀ (n j : Nat) (p : (Int × Int) × (Int × Int)), j < n → fd[j]? = some p → p.1.1 % 2 = r ∧ p.1.2 % 2 = r := by
    intro n
    induction n with
    | zero => intro j p hj; omega
    | succ n ih =>
      intro j p hj hp
      have hd := (e3 j p hp).1
      have hn : (pad (pad p.1 p.2) p.2).1 % 2 = r ∧ (pad (pad p.1 p.2) p.2).2 % 2 = r := by
        rcases hnx j p hp with q | ⟨i, q, hi, e, hij⟩
        · exact (i1 _ q).2
        · rw [← e]; exact ih i q (by omega) hi
      obtain ⟨⟨x, y⟩, d⟩ := p
      rcases (dirs4_iff d).1 hd with rfl | rfl | rfl | rfl <;> simp [pad] at hn ⊢ <;> omega
  have hini : ∀ (j : Nat) (p : (Int × Int) × (Int × Int)), fd[j]? = some p → p.1 ∉ ini := by
    intro j p hj hm
    obtain ⟨_, _, _, _, _, hno⟩ := e3 j p hj
    refine hno ?_
    rw [e1, List.take_append, List.take_of_length_le (by omega)]
    exact List.mem_append_left _ hm
  refine ⟨fun v => ∃ (j : Nat) (p : (Int × Int) × (Int × Int)), fd[j]? = some p ∧ p.1 = v, fun v => (F v).2.2, fun v => (F v).1 + 1, ⟨?_, ?_, ?_, ?_, ?_⟩, ?_⟩
  · rintro v ⟨j, p, hj, rfl⟩
    obtain ⟨_, a, _⟩ := e3 j p hj
    exact ⟨a, hpar (j + 1) j p (by omega) hj, i3 _ a (hini j p hj)⟩
  · rintro v ⟨j, p, hj, rfl⟩
    show (F p.1).2.2 ∈ dirs4
    rw [hFj j p hj]; exact (e3 j p hj).1
  · rintro v ⟨j, p, hj, rfl⟩
    show inW W H (pad p.1 (F p.1).2.2) ∧ hs (pad p.1 (F p.1).2.2) = true
    rw [hFj j p hj]
    obtain ⟨_, _, a, b, _⟩ := e3 j p hj
    exact ⟨a, b⟩
  · rintro v ⟨j, p, hj, rfl⟩
    show init (pad (pad p.1 (F p.1).2.2) (F p.1).2.2) ∨ ((∃ (j' : Nat) (p' : (Int × Int) × (Int × Int)), fd[j']? = some p' ∧ p'.1 = pad (pad p.1 (F p.1).2.2) (F p.1).2.2) ∧ (F (pad (pad p.1 (F p.1).2.2) (F p.1).2.2)).1 + 1 < (F p.1).1 + 1)
    rw [hFj j p hj]
    rcases hnx j p hj with q | ⟨i, q, hi, e, hij⟩
    · exact .inl (i1 _ q).1
    · refine .inr ⟨⟨i, q, hi, e⟩, ?_⟩
      show (F (pad (pad p.1 p.2) p.2)).1 + 1 < j + 1
      rw [← e, hFj i q hi]; omega
  · intro v hv e he hin hh
    have hvT : v ∈ T := by
      rw [hT]
      rcases hv with q | q
      · exact .inl (i2 v e q he hin)
      · exact .inr q
    obtain ⟨i, hi⟩ := List.mem_iff_getElem?.1 hvT
    obtain ⟨k, hk, rfl⟩ := dir_wy he
    have := hc i v hi k hk (.inl (List.getElem?_eq_some_iff.1 hi).1) hin hh.1 hh.2
    rw [hT] at this
    rcases this with q | q
    · exact .inl (i1 _ q).1
    · exact .inr q
  · intro x
    rw [e2, List.mem_map]
    constructor
    · rintro ⟨p, hp, rfl⟩
      obtain ⟨j, hj⟩ := List.mem_iff_getElem?.1 hp
      refine ⟨p.1, ⟨j, p, hj, rfl⟩, ?_⟩
      show domF p = overL (pad p.1 (F p.1).2.2).1 (pad p.1 (F p.1).2.2).2 p.1.1 p.1.2
      rw [hFj j p hj]; rfl
    · rintro ⟨v, ⟨j, p, hj, rfl⟩, rfl⟩
      refine ⟨p, List.mem_of_getElem? hj, ?_⟩
      show domF p = overL (pad p.1 (F p.1).2.2).1 (pad p.1 (F p.1).2.2).2 p.1.1 p.1.2
      rw [hFj j p hj]; rfl
end Go.Proofs.Ytehnbalbpfmijaa

namespace Go.Proofs.Ytehnbalbpfmijaa
open Go.RowKit
set_option linter.unusedVariables false

theorem specRegionOk_yes (v : Value) (zs : List Int) (B : Nat) (w : World) (h : RdI w B v zs) (hB : B ≤ w.heap.size) (hok : regOkB zs = true) :
    Calls Try.prog 87 #[.agg #[v]] w fun e w' => e = .returned (.bool true) ∧ Below w.heap.size w w' := by
  have HU := Lib.hid h
  have hl8 := regOk_len hok
  obtain ⟨A, c, rfl, h1, h2, hR⟩ := h
  unfold maxLen at h2
  obtain ⟨W, hW, k1, hb⟩ := one_alloc w (.cells #[.slice A zs.length c] 39)
  have c0 : W.cell? ⟨w.heap.size, 0, none⟩ = some (.slice A zs.length c) := by rw [blk_cell k1]; rfl
  have HR : Hid (Rd W B A (zs.map (Value.int .i64))) := hR.below (hb.mono hB)
  have HB := Lib.hid hb
  have HW := Lib.hid hW
  clear hW k1 hb hR
  have hlt8 : (zs.length : Int) ≤ 8 := by omega
  go_enter Try.func87, Try.ntmps87
  go_upto_region 1 with (fail)
  rw [← HW.out]
  go_wp2_with fail
  go_loop [3] (fun i => ∃ k : Nat, k ≤ zs.length ∧ i = .int .i64 k) (fun i => zs.length - (intOf i).toNat)
  case atStart => exact ⟨0, Nat.zero_le _, rfl⟩
  case round =>
    obtain ⟨k, hk, rfl⟩ := hrel
    by_cases hlt : k < zs.length
    · obtain ⟨ad, rfl, hbl, hc⟩ := HR.out.int hlt
      rw [← el_get zs k hlt] at hc
      obtain ⟨x0, x1⟩ := regOk_el hok hlt
      have t1 : inB (el zs k) 0 255 = true := inB_true x0 x1
      have t2 : decide ((k : Int) < (zs.length : Int)) = true := by simp only [decide_eq_true_eq]; omega
      go_wp2_with fail
      refine (l01In_any _ _ _ _).mono ?_
      rintro e w' ⟨rfl, rfl⟩
      rw [t1]
      go_wp2_with fail
      go_round
      case rel => exact ⟨k + 1, by omega, by go_num⟩
      case measure => simp [intOf]; omega
    · have t2 : decide ((k : Int) < (zs.length : Int)) = false := by simp only [decide_eq_false_iff_not]; omega
      go_wp2_with fail
      go_ret
      exact ⟨by first | rfl | (exact ret_bool (decide_eq_true hlt8)), HB.out⟩

theorem bit_tab : ((List.range 256).all fun r => (List.range 8).all fun x => (bits .and .i64 ((r : Int) / 2 ^ x) 1 == 1) == r.testBit x) = true := by decide +kernel
theorem bit_shr (r x : Nat) (hr : r ≤ 255) (hx : x ≤ 7) : (bits .and .i64 ((r : Int) / 2 ^ x) 1 == 1) = r.testBit x := by
  have h := bit_tab
  simp only [List.all_eq_true, List.mem_range] at h
  exact beq_iff_eq.1 (h r (by omega) x (by omega))
set_option maxRecDepth 100000 in
set_option maxHeartbeats 1000000 in
theorem l03Has_yes (v : Value) (zs : List Int) (B : Nat) (w : World) (h : RdI w B v zs) (hB : B ≤ w.heap.size) (hok : regOkB zs = true) (x y : Nat) (hx : x ≤ 7) (hy : y ≤ 7) :
    Calls Try.prog 142 #[.agg #[v], spotV x y] w fun e w' => e = .returned (.bool (hasB (setZ zs) x y)) ∧ Below w.heap.size w w' := by
  have hbit := setZ_bit hok x y hx
  have hl8 := regOk_len hok
  obtain ⟨A, c, rfl, h1, h2, hR⟩ := h
  unfold maxLen at h2
  obtain ⟨W, hW, k1, k2, hb⟩ := two_alloc w (.cells #[.slice A zs.length c] 39) (.cells #[.int .i64 (x : Int), .int .i64 (y : Int)] 44)
  have c0 : W.cell? ⟨w.heap.size, 0, none⟩ = some (.slice A zs.length c) := by rw [blk_cell k1]; rfl
  have c1 : W.cell? ⟨w.heap.size + 1, 0, none⟩ = some (.int .i64 (x : Int)) := by rw [blk_cell k2]; rfl
  have c2 : W.cell? ⟨w.heap.size + 1, 1, none⟩ = some (.int .i64 (y : Int)) := by rw [blk_cell k2]; rfl
  have HR : Hid (Rd W B A (zs.map (Value.int .i64))) := hR.below (hb.mono hB)
  have HB := Lib.hid hb
  have HW := Lib.hid hW
  clear hW k1 k2 hb hR
  by_cases hlt : y < zs.length
  · obtain ⟨ad, rfl, hbl, hc⟩ := HR.out.int hlt
    rw [← el_get zs y hlt] at hc
    obtain ⟨x0, x1⟩ := regOk_el hok hlt
    obtain ⟨r, hr⟩ := Int.eq_ofNat_of_zero_le x0
    rw [hr] at hc x1
    have HF : Hid (r.testBit x = hasB (setZ zs) x y) := by unfold Hid; rw [hbit, hr]; simp [hlt]
    have hsh := bit_shr r x (by omega) hx
    have t0 : decide ((y : Int) < (zs.length : Int)) = true := by simp only [decide_eq_true_eq]; omega
    clear hr x0 hbit
    go_enter Try.func142, Try.ntmps142
    go_upto_region 1 with (fail)
    rw [← HW.out]
    refine wp_region_held_drew (S := fun w' => w' = W.drew) (by kernel_rfl) (by rfl) (fun hHeld => ?_)
    refine wpAnyH_take (i := 0) (oi := ⟨_, _, _, _, _, _⟩) (v := ?vap30318q0) rfl (by kernel_rfl) (by kernel_rfl) (by kernel_rfl) (fun _ _ _ h => h) (Or.inl ⟨by rfl, ?hap30318q0⟩) (by assumption) ?_
    case hap30318q0 => (intro w hSw; (try dsimp only at hSw); go_simp; try with_reducible rfl)
    try simp only [Act.put, List.setIfInBounds_toArray, List.set_cons_zero, List.set_cons_succ]
    refine wpAnyH_take (i := 1) (oi := ⟨_, _, _, _, _, _⟩) (v := ?vap30318q1) rfl (by kernel_rfl) (by kernel_rfl) (by kernel_rfl) (fun _ _ _ h => h) (Or.inl ⟨by rfl, ?hap30318q1⟩) (by assumption) ?_
    case hap30318q1 => (intro w hSw; (try dsimp only at hSw); go_simp; try with_reducible rfl)
    try simp only [Act.put, List.setIfInBounds_toArray, List.set_cons_zero, List.set_cons_succ]
    refine wpAnyH_take (i := 2) (oi := ⟨_, _, _, _, _, _⟩) (v := ?vap30318q2) rfl (by kernel_rfl) (by kernel_rfl) (by kernel_rfl) (fun _ _ _ h => h) (Or.inl ⟨by rfl, ?hap30318q2⟩) (by assumption) ?_
    case hap30318q2 => (intro w hSw; (try dsimp only at hSw); go_simp; try with_reducible rfl)
    try simp only [Act.put, List.setIfInBounds_toArray, List.set_cons_zero, List.set_cons_succ]
    refine wpAnyH_take (i := 3) (oi := ⟨_, _, _, _, _, _⟩) (v := ?vap30318q3) rfl (by kernel_rfl) (by kernel_rfl) (by kernel_rfl) (fun _ _ _ h => h) (Or.inl ⟨by rfl, ?hap30318q3⟩) (by assumption) ?_
    case hap30318q3 => (intro w hSw; (try dsimp only at hSw); go_simp; try with_reducible rfl)
    try simp only [Act.put, List.setIfInBounds_toArray, List.set_cons_zero, List.set_cons_succ]
    refine wpAnyH_ready (rs := [4]) (by kernel_rfl) (by simp) ?_
    refine AllReadyH.cons (o := ⟨_, _, _, _, _, _⟩) rfl (fun K hK => ?_) AllReadyH.nil
    go_simp
    refine hK.out _ _ (by exact hHeld) (fun hHeld => ?_)
    clear hK K
    try simp only [Act.put, List.setIfInBounds_toArray, List.set_cons_zero, List.set_cons_succ]
    refine wpAnyH_take (i := 5) (oi := ⟨_, _, _, _, _, _⟩) (v := ?vap30318q5) rfl (by kernel_rfl) (by kernel_rfl) (by kernel_rfl) (fun _ _ _ h => h) (Or.inl ⟨by rfl, ?hap30318q5⟩) (by assumption) ?_
    case hap30318q5 => (intro w hSw; (try dsimp only at hSw); go_simp; try with_reducible rfl)
    try simp only [Act.put, List.setIfInBounds_toArray, List.set_cons_zero, List.set_cons_succ]
    refine wpAnyH_take (i := 6) (oi := ⟨_, _, _, _, _, _⟩) (v := ?vap30318q6) rfl (by kernel_rfl) (by kernel_rfl) (by kernel_rfl) (fun _ _ _ h => h) (Or.inl ⟨by rfl, ?hap30318q6⟩) (by assumption) ?_
    case hap30318q6 => (intro w hSw; (try dsimp only at hSw); go_simp; try with_reducible rfl)
    try simp only [Act.put, List.setIfInBounds_toArray, List.set_cons_zero, List.set_cons_succ]
    refine wpAnyH_take (i := 7) (oi := ⟨_, _, _, _, _, _⟩) (v := ?vap30318q7) rfl (by kernel_rfl) (by kernel_rfl) (by kernel_rfl) (fun _ _ _ h => h) (Or.inl ⟨by rfl, ?hap30318q7⟩) (by assumption) ?_
    case hap30318q7 => (intro w hSw; (try dsimp only at hSw); go_simp; try with_reducible rfl)
    try simp only [Act.put, List.setIfInBounds_toArray, List.set_cons_zero, List.set_cons_succ]
    refine wpAnyH_take (i := 8) (oi := ⟨_, _, _, _, _, _⟩) (v := ?vap30318q8) rfl (by kernel_rfl) (by kernel_rfl) (by kernel_rfl) (fun _ _ _ h => h) (Or.inl ⟨by rfl, ?hap30318q8⟩) (by assumption) ?_
    case hap30318q8 => (intro w hSw; (try dsimp only at hSw); go_simp; try with_reducible rfl)
    try simp only [Act.put, List.setIfInBounds_toArray, List.set_cons_zero, List.set_cons_succ]
    refine wpAnyH_take (i := 9) (oi := ⟨_, _, _, _, _, _⟩) (v := ?vap30318q9) rfl (by kernel_rfl) (by kernel_rfl) (by kernel_rfl) (fun _ _ _ h => h) (Or.inl ⟨by rfl, ?hap30318q9⟩) (by assumption) ?_
    case hap30318q9 => (intro w hSw; (try dsimp only at hSw); go_simp; try with_reducible rfl)
    try simp only [Act.put, List.setIfInBounds_toArray, List.set_cons_zero, List.set_cons_succ]
    refine wpAnyH_take (i := 10) (oi := ⟨_, _, _, _, _, _⟩) (v := ?vap30318q10) rfl (by kernel_rfl) (by kernel_rfl) (by kernel_rfl) (fun _ _ _ h => h) (Or.inl ⟨by rfl, ?hap30318q10⟩) (by assumption) ?_
    case hap30318q10 => (intro w hSw; (try dsimp only at hSw); go_simp; try with_reducible rfl)
    try simp only [Act.put, List.setIfInBounds_toArray, List.set_cons_zero, List.set_cons_succ]
    refine wpAnyH_take (i := 11) (oi := ⟨_, _, _, _, _, _⟩) (v := ?vap30318q11) rfl (by kernel_rfl) (by kernel_rfl) (by kernel_rfl) (fun _ _ _ h => h) (Or.inl ⟨by rfl, ?hap30318q11⟩) (by assumption) ?_
    case hap30318q11 => (intro w hSw; (try dsimp only at hSw); go_simp; try with_reducible rfl)
    try simp only [Act.put, List.setIfInBounds_toArray, List.set_cons_zero, List.set_cons_succ]
    refine wpAnyH_take (i := 12) (oi := ⟨_, _, _, _, _, _⟩) (v := ?vap30318q12) rfl (by kernel_rfl) (by kernel_rfl) (by kernel_rfl) (fun _ _ _ h => h) (Or.inl ⟨by rfl, ?hap30318q12⟩) (by assumption) ?_
    case hap30318q12 => (intro w hSw; (try dsimp only at hSw); go_simp; try with_reducible rfl)
    try simp only [Act.put, List.setIfInBounds_toArray, List.set_cons_zero, List.set_cons_succ]
    refine wpAnyH_take (i := 13) (oi := ⟨_, _, _, _, _, _⟩) (v := ?vap30318q13) rfl (by kernel_rfl) (by kernel_rfl) (by kernel_rfl) (fun _ _ _ h => h) (Or.inl ⟨by rfl, ?hap30318q13⟩) (by assumption) ?_
    case hap30318q13 => (intro w hSw; (try dsimp only at hSw); go_simp; try with_reducible rfl)
    try simp only [Act.put, List.setIfInBounds_toArray, List.set_cons_zero, List.set_cons_succ]
    refine wpAnyH_take (i := 14) (oi := ⟨_, _, _, _, _, _⟩) (v := ?vap30318q14) rfl (by kernel_rfl) (by kernel_rfl) (by kernel_rfl) (fun _ _ _ h => h) (Or.inl ⟨by rfl, ?hap30318q14⟩) (by assumption) ?_
    case hap30318q14 => (intro w hSw; (try dsimp only at hSw); go_simp; try with_reducible rfl)
    try simp only [Act.put, List.setIfInBounds_toArray, List.set_cons_zero, List.set_cons_succ]
    refine wpAnyH_take (i := 15) (oi := ⟨_, _, _, _, _, _⟩) (v := ?vap30318q15) rfl (by kernel_rfl) (by kernel_rfl) (by kernel_rfl) (fun _ _ _ h => h) (Or.inl ⟨by rfl, ?hap30318q15⟩) (by assumption) ?_
    case hap30318q15 => (intro w hSw; (try dsimp only at hSw); go_simp; try with_reducible rfl)
    try simp only [Act.put, List.setIfInBounds_toArray, List.set_cons_zero, List.set_cons_succ]
    refine wpAnyH_take (i := 16) (oi := ⟨_, _, _, _, _, _⟩) (v := ?vap30318q16) rfl (by kernel_rfl) (by kernel_rfl) (by kernel_rfl) (fun _ _ _ h => h) (Or.inl ⟨by rfl, ?hap30318q16⟩) (by assumption) ?_
    case hap30318q16 => (intro w hSw; (try dsimp only at hSw); go_simp; try with_reducible rfl)
    try simp only [Act.put, List.setIfInBounds_toArray, List.set_cons_zero, List.set_cons_succ]
    refine wpAnyH_take (i := 17) (oi := ⟨_, _, _, _, _, _⟩) (v := ?vap30318q17) rfl (by kernel_rfl) (by kernel_rfl) (by kernel_rfl) (fun _ _ _ h => h) (Or.inl ⟨by rfl, ?hap30318q17⟩) (by assumption) ?_
    case hap30318q17 => (intro w hSw; (try dsimp only at hSw); go_simp; try with_reducible rfl)
    try simp only [Act.put, List.setIfInBounds_toArray, List.set_cons_zero, List.set_cons_succ]
    refine wpAnyH_take (i := 18) (oi := ⟨_, _, _, _, _, _⟩) (v := ?vap30318q18) rfl (by kernel_rfl) (by kernel_rfl) (by kernel_rfl) (fun _ _ _ h => h) (Or.inl ⟨by rfl, ?hap30318q18⟩) (by assumption) ?_
    case hap30318q18 => (intro w hSw; (try dsimp only at hSw); go_simp; try with_reducible rfl)
    try simp only [Act.put, List.setIfInBounds_toArray, List.set_cons_zero, List.set_cons_succ]
    refine wpAnyH_take (i := 19) (oi := ⟨_, _, _, _, _, _⟩) (v := ?vap30318q19) rfl (by kernel_rfl) (by kernel_rfl) (by kernel_rfl) (fun _ _ _ h => h) (Or.inl ⟨by rfl, ?hap30318q19⟩) (by assumption) ?_
    case hap30318q19 => (intro w hSw; (try dsimp only at hSw); go_simp; try with_reducible rfl)
    try simp only [Act.put, List.setIfInBounds_toArray, List.set_cons_zero, List.set_cons_succ]
    refine wpAnyH_done (by kernel_rfl) ?_ _
    go_wp2_with fail
    go_ret
    exact ⟨ret_bool HF.out, HB.out.drew⟩
  · have HF : Hid (false = hasB (setZ zs) x y) := by unfold Hid; rw [hbit]; simp [hlt]
    have t0 : decide ((y : Int) < (zs.length : Int)) = false := by simp only [decide_eq_false_iff_not]; omega
    clear hbit
    go_enter Try.func142, Try.ntmps142
    go_upto_region 1 with (fail)
    rw [← HW.out]
    refine wp_region_held_drew (S := fun w' => w' = W.drew) (by kernel_rfl) (by rfl) (fun hHeld => ?_)
    refine wpAnyH_take (i := 0) (oi := ⟨_, _, _, _, _, _⟩) (v := ?vap30319q0) rfl (by kernel_rfl) (by kernel_rfl) (by kernel_rfl) (fun _ _ _ h => h) (Or.inl ⟨by rfl, ?hap30319q0⟩) (by assumption) ?_
    case hap30319q0 => (intro w hSw; (try dsimp only at hSw); go_simp; try with_reducible rfl)
    try simp only [Act.put, List.setIfInBounds_toArray, List.set_cons_zero, List.set_cons_succ]
    refine wpAnyH_take (i := 1) (oi := ⟨_, _, _, _, _, _⟩) (v := ?vap30319q1) rfl (by kernel_rfl) (by kernel_rfl) (by kernel_rfl) (fun _ _ _ h => h) (Or.inl ⟨by rfl, ?hap30319q1⟩) (by assumption) ?_
    case hap30319q1 => (intro w hSw; (try dsimp only at hSw); go_simp; try with_reducible rfl)
    try simp only [Act.put, List.setIfInBounds_toArray, List.set_cons_zero, List.set_cons_succ]
    refine wpAnyH_take (i := 2) (oi := ⟨_, _, _, _, _, _⟩) (v := ?vap30319q2) rfl (by kernel_rfl) (by kernel_rfl) (by kernel_rfl) (fun _ _ _ h => h) (Or.inl ⟨by rfl, ?hap30319q2⟩) (by assumption) ?_
    case hap30319q2 => (intro w hSw; (try dsimp only at hSw); go_simp; try with_reducible rfl)
    try simp only [Act.put, List.setIfInBounds_toArray, List.set_cons_zero, List.set_cons_succ]
    refine wpAnyH_take (i := 3) (oi := ⟨_, _, _, _, _, _⟩) (v := ?vap30319q3) rfl (by kernel_rfl) (by kernel_rfl) (by kernel_rfl) (fun _ _ _ h => h) (Or.inl ⟨by rfl, ?hap30319q3⟩) (by assumption) ?_
    case hap30319q3 => (intro w hSw; (try dsimp only at hSw); go_simp; try with_reducible rfl)
    try simp only [Act.put, List.setIfInBounds_toArray, List.set_cons_zero, List.set_cons_succ]
    refine wpAnyH_ready (rs := [4]) (by kernel_rfl) (by simp) ?_
    refine AllReadyH.cons (o := ⟨_, _, _, _, _, _⟩) rfl (fun K hK => ?_) AllReadyH.nil
    go_simp
    refine hK.out _ _ (by exact hHeld) (fun hHeld => ?_)
    clear hK K
    try simp only [Act.put, List.setIfInBounds_toArray, List.set_cons_zero, List.set_cons_succ]
    refine wpAnyH_take (i := 5) (oi := ⟨_, _, _, _, _, _⟩) (v := ?vap30319q5) rfl (by kernel_rfl) (by kernel_rfl) (by kernel_rfl) (fun _ _ _ h => h) (Or.inl ⟨by rfl, ?hap30319q5⟩) (by assumption) ?_
    case hap30319q5 => (intro w hSw; (try dsimp only at hSw); go_simp; try with_reducible rfl)
    try simp only [Act.put, List.setIfInBounds_toArray, List.set_cons_zero, List.set_cons_succ]
    refine wpAnyH_take (i := 6) (oi := ⟨_, _, _, _, _, _⟩) (v := ?vap30319q6) rfl (by kernel_rfl) (by kernel_rfl) (by kernel_rfl) (fun _ _ _ h => h) (Or.inl ⟨by rfl, ?hap30319q6⟩) (by assumption) ?_
    case hap30319q6 => (intro w hSw; (try dsimp only at hSw); go_simp; try with_reducible rfl)
    try simp only [Act.put, List.setIfInBounds_toArray, List.set_cons_zero, List.set_cons_succ]
    refine wpAnyH_take (i := 7) (oi := ⟨_, _, _, _, _, _⟩) (v := undef) rfl (by kernel_rfl) (by kernel_rfl) (by kernel_rfl) (fun _ _ _ h => h) (Or.inr ⟨by rfl, rfl⟩) (by assumption) ?_
    try simp only [Act.put, List.setIfInBounds_toArray, List.set_cons_zero, List.set_cons_succ]
    refine wpAnyH_take (i := 8) (oi := ⟨_, _, _, _, _, _⟩) (v := undef) rfl (by kernel_rfl) (by kernel_rfl) (by kernel_rfl) (fun _ _ _ h => h) (Or.inr ⟨by rfl, rfl⟩) (by assumption) ?_
    try simp only [Act.put, List.setIfInBounds_toArray, List.set_cons_zero, List.set_cons_succ]
    refine wpAnyH_take (i := 9) (oi := ⟨_, _, _, _, _, _⟩) (v := undef) rfl (by kernel_rfl) (by kernel_rfl) (by kernel_rfl) (fun _ _ _ h => h) (Or.inr ⟨by rfl, rfl⟩) (by assumption) ?_
    try simp only [Act.put, List.setIfInBounds_toArray, List.set_cons_zero, List.set_cons_succ]
    refine wpAnyH_take (i := 10) (oi := ⟨_, _, _, _, _, _⟩) (v := undef) rfl (by kernel_rfl) (by kernel_rfl) (by kernel_rfl) (fun _ _ _ h => h) (Or.inr ⟨by rfl, rfl⟩) (by assumption) ?_
    try simp only [Act.put, List.setIfInBounds_toArray, List.set_cons_zero, List.set_cons_succ]
    refine wpAnyH_take (i := 11) (oi := ⟨_, _, _, _, _, _⟩) (v := undef) rfl (by kernel_rfl) (by kernel_rfl) (by kernel_rfl) (fun _ _ _ h => h) (Or.inr ⟨by rfl, rfl⟩) (by assumption) ?_
    try simp only [Act.put, List.setIfInBounds_toArray, List.set_cons_zero, List.set_cons_succ]
    refine wpAnyH_take (i := 12) (oi := ⟨_, _, _, _, _, _⟩) (v := undef) rfl (by kernel_rfl) (by kernel_rfl) (by kernel_rfl) (fun _ _ _ h => h) (Or.inr ⟨by rfl, rfl⟩) (by assumption) ?_
    try simp only [Act.put, List.setIfInBounds_toArray, List.set_cons_zero, List.set_cons_succ]
    refine wpAnyH_take (i := 13) (oi := ⟨_, _, _, _, _, _⟩) (v := undef) rfl (by kernel_rfl) (by kernel_rfl) (by kernel_rfl) (fun _ _ _ h => h) (Or.inr ⟨by rfl, rfl⟩) (by assumption) ?_
    try simp only [Act.put, List.setIfInBounds_toArray, List.set_cons_zero, List.set_cons_succ]
    refine wpAnyH_take (i := 14) (oi := ⟨_, _, _, _, _, _⟩) (v := undef) rfl (by kernel_rfl) (by kernel_rfl) (by kernel_rfl) (fun _ _ _ h => h) (Or.inr ⟨by rfl, rfl⟩) (by assumption) ?_
    try simp only [Act.put, List.setIfInBounds_toArray, List.set_cons_zero, List.set_cons_succ]
    refine wpAnyH_take (i := 15) (oi := ⟨_, _, _, _, _, _⟩) (v := undef) rfl (by kernel_rfl) (by kernel_rfl) (by kernel_rfl) (fun _ _ _ h => h) (Or.inr ⟨by rfl, rfl⟩) (by assumption) ?_
    try simp only [Act.put, List.setIfInBounds_toArray, List.set_cons_zero, List.set_cons_succ]
    refine wpAnyH_take (i := 16) (oi := ⟨_, _, _, _, _, _⟩) (v := undef) rfl (by kernel_rfl) (by kernel_rfl) (by kernel_rfl) (fun _ _ _ h => h) (Or.inr ⟨by rfl, rfl⟩) (by assumption) ?_
    try simp only [Act.put, List.setIfInBounds_toArray, List.set_cons_zero, List.set_cons_succ]
    refine wpAnyH_take (i := 17) (oi := ⟨_, _, _, _, _, _⟩) (v := undef) rfl (by kernel_rfl) (by kernel_rfl) (by kernel_rfl) (fun _ _ _ h => h) (Or.inr ⟨by rfl, rfl⟩) (by assumption) ?_
    try simp only [Act.put, List.setIfInBounds_toArray, List.set_cons_zero, List.set_cons_succ]
    refine wpAnyH_take (i := 18) (oi := ⟨_, _, _, _, _, _⟩) (v := ?vap30319q18) rfl (by kernel_rfl) (by kernel_rfl) (by kernel_rfl) (fun _ _ _ h => h) (Or.inl ⟨by rfl, ?hap30319q18⟩) (by assumption) ?_
    case hap30319q18 => (intro w hSw; (try dsimp only at hSw); go_simp; try with_reducible rfl)
    try simp only [Act.put, List.setIfInBounds_toArray, List.set_cons_zero, List.set_cons_succ]
    refine wpAnyH_take (i := 19) (oi := ⟨_, _, _, _, _, _⟩) (v := ?vap30319q19) rfl (by kernel_rfl) (by kernel_rfl) (by kernel_rfl) (fun _ _ _ h => h) (Or.inl ⟨by rfl, ?hap30319q19⟩) (by assumption) ?_
    case hap30319q19 => (intro w hSw; (try dsimp only at hSw); go_simp; try with_reducible rfl)
    try simp only [Act.put, List.setIfInBounds_toArray, List.set_cons_zero, List.set_cons_succ]
    refine wpAnyH_done (by kernel_rfl) ?_ _
    go_wp2_with fail
    go_ret
    exact ⟨ret_bool HF.out, HB.out.drew⟩

set_option maxRecDepth 100000 in
theorem HasCell_yes (v : Value) (zs : List Int) (B : Nat) (w : World) (h : RdI w B v zs) (hB : B ≤ w.heap.size) (hok : regOkB zs = true) (x y : Nat) (hx : x ≤ 7) (hy : y ≤ 7) :
    Calls Try.prog 85 #[.agg #[v], spotV x y] w fun e w' => e = .returned (.bool (hasB (setZ zs) x y)) ∧ Below w.heap.size w w' := by
  have HU := Lib.hid h
  have HOK := Lib.hid hok
  have HHC := Lib.hid (fun V hV hB' => l03Has_yes v zs B V hV hB' hok x y hx hy)
  have hcok : spotB 7 (x : Int) (y : Int) = true := (spotB_iff _ _ _).2 ⟨by omega, by omega⟩
  generalize hasB (setZ zs) x y = r at *
  obtain ⟨A, c, rfl, h1, h2, hR⟩ := h
  unfold maxLen at h2
  obtain ⟨W, hW, k1, k2, hb⟩ := two_alloc w (.cells #[.slice A zs.length c] 39) (.cells #[.int .i64 (x : Int), .int .i64 (y : Int)] 44)
  have c0 : W.cell? ⟨w.heap.size, 0, none⟩ = some (.slice A zs.length c) := by rw [blk_cell k1]; rfl
  have K1 := Lib.hid k1
  have K2 := Lib.hid k2
  have HB := Lib.hid hb
  have HW := Lib.hid hW
  clear hW k1 k2 hb hR hok
  go_enter Try.func85, Try.ntmps85
  go_upto_region 1 with (fail)
  rw [← HW.out]
  go_wp2_with fail
  refine (specRegionOk_yes _ zs B _ (HU.out.below (HB.out.mono hB)) (Nat.le_trans hB HB.out.size) HOK.out).mono ?_
  rintro e w3 ⟨rfl, hb3⟩
  have HB3 := Lib.hid (HB.out.trans (hb3.mono HB.out.size))
  have K13 := Lib.hid (blk_below K1.out hb3)
  have K23 := Lib.hid (blk_below K2.out hb3)
  have d1 : w3.cell? ⟨w.heap.size + 1, 0, none⟩ = some (.int .i64 (x : Int)) := by rw [blk_cell K23.out]; rfl
  have d2 : w3.cell? ⟨w.heap.size + 1, 1, none⟩ = some (.int .i64 (y : Int)) := by rw [blk_cell K23.out]; rfl
  clear hb3 c0
  go_wp2_with fail
  refine (specCellOk_any _ _ _).mono ?_
  rintro e w4 ⟨rfl, hb4⟩
  rw [hcok]
  have HB4 := Lib.hid (HB3.out.trans (hb4.mono HB3.out.size))
  have K14 := Lib.hid (blk_below K13.out hb4)
  have K24 := Lib.hid (blk_below K23.out hb4)
  have c4 : w4.cell? ⟨w.heap.size, 0, none⟩ = some (.slice A zs.length c) := by rw [blk_cell K14.out]; rfl
  have e1 : w4.cell? ⟨w.heap.size + 1, 0, none⟩ = some (.int .i64 (x : Int)) := by rw [blk_cell K24.out]; rfl
  have e2 : w4.cell? ⟨w.heap.size + 1, 1, none⟩ = some (.int .i64 (y : Int)) := by rw [blk_cell K24.out]; rfl
  clear hb4 d1 d2
  go_wp2_with fail
  refine (HHC.out _ (HU.out.below (HB4.out.mono hB)) (Nat.le_trans hB HB4.out.size)).mono ?_
  rintro e w5 ⟨rfl, hb5⟩
  have HB5 := Lib.hid (HB4.out.trans (hb5.mono HB4.out.size))
  clear hb5
  go_wp2_with fail
  go_ret
  exact ⟨rfl, HB5.out⟩

set_option maxRecDepth 100000 in
theorem CellAt_yes (k : Nat) (hk : k ≤ 63) (w : World) :
    Calls Try.prog 113 #[.int .i64 (k : Int)] w fun e w' => e = .returned (.tuple #[spotV ((k % 8 : Nat) : Int) ((k / 8 : Nat) : Int), .bool true]) ∧ Below w.heap.size w w' := by
  have t0 : inB (k : Int) 0 63 = true := inB_true (by omega) (by omega)
  have e1 : (k : Int) % 8 = ((k % 8 : Nat) : Int) := by omega
  have e2 : (k : Int) / 8 = ((k / 8 : Nat) : Int) := by omega
  have hb1 : k / 8 ≤ 7 := by omega
  generalize k % 8 = x at *
  generalize k / 8 = y at *
  obtain ⟨W, hW, k1, hb⟩ := one_alloc w (.cells #[.int .i64 0, .int .i64 0] 44)
  have c0 : W.cell? ⟨w.heap.size, 0, none⟩ = some (.int .i64 0) := by rw [blk_cell k1]; rfl
  have c1 : W.cell? ⟨w.heap.size, 1, none⟩ = some (.int .i64 0) := by rw [blk_cell k1]; rfl
  have f0 : ∀ o, W.frozen? ⟨w.heap.size, o, none⟩ = false := fun o => blk_free k1
  have HX : Hid (∀ X, X = (W.setCell ⟨w.heap.size, 0, none⟩ (.int .i64 (x : Int))).setCell ⟨w.heap.size, 1, none⟩ (.int .i64 (y : Int)) → X.cell? ⟨w.heap.size, 0, none⟩ = some (.int .i64 (x : Int)) ∧ X.cell? ⟨w.heap.size, 1, none⟩ = some (.int .i64 (y : Int)) ∧ Below w.heap.size w X) := by
    rintro X rfl
    have h1 := blk_setCell (k := 1) (blk_setCell (k := 0) k1 (.int .i64 (x : Int))) (.int .i64 (y : Int))
    exact ⟨by rw [blk_cell h1]; rfl, by rw [blk_cell h1]; rfl, (hb.setCell (Nat.le_refl _) _).setCell (Nat.le_refl _) _⟩
  have HW := Lib.hid hW
  clear hW k1 hb
  go_enter Try.func113, Try.ntmps113
  go_upto_region 1 with (fail)
  rw [← HW.out]
  go_wp2_with fail
  refine (l01In_any _ _ _ _).mono ?_
  rintro e w' ⟨rfl, rfl⟩
  rw [t0]
  go_wp2_with fail
  generalize hX : (W.setCell ⟨w.heap.size, 0, none⟩ (.int .i64 (x : Int))).setCell ⟨w.heap.size, 1, none⟩ (.int .i64 (y : Int)) = X
  obtain ⟨r0, r1, r2⟩ := HX.out X hX.symm
  refine bodyPost_ret (v := .tuple #[spotV (x : Int) (y : Int), .bool true]) (by simp [results, Try.results113, go_sem, r0, r1]) rfl ⟨rfl, r2⟩
end Go.Proofs.Ytehnbalbpfmijaa

namespace Go.Proofs.Ytehnbalbpfmijaa
open Go.RowKit
set_option linter.unusedVariables false

/-- How many of the first n numbers are in a set. -/
def cntB (T : Nat) : Nat → Nat
  | 0 => 0
  | n + 1 => cntB T n + (if T.testBit n then 1 else 0)
theorem cntB_le (T : Nat) : ∀ n, cntB T n ≤ n
  | 0 => Nat.le_refl _
  | n + 1 => by have := cntB_le T n; rw [cntB]; split <;> omega
/-- The cells of a set, in order. -/
def cellsTo (T : Nat) : Nat → List (Int × Int)
  | 0 => []
  | n + 1 => cellsTo T n ++ (if T.testBit n then [(((n % 8 : Nat) : Int), ((n / 8 : Nat) : Int))] else [])
theorem cellsTo_len (T : Nat) : ∀ n, (cellsTo T n).length = cntB T n
  | 0 => rfl
  | n + 1 => by rw [cellsTo, List.length_append, cellsTo_len T n, cntB]; split <;> rfl

set_option maxRecDepth 100000 in
set_option maxHeartbeats 2000000 in
theorem CellsOf_list (v : Value) (zs : List Int) (B : Nat) (w : World) (h : RdI w B v zs) (hB : B ≤ w.heap.size) (hok : regOkB zs = true) :
    Calls Try.prog 88 #[.agg #[v]] w fun e w' => ∃ u, e = .returned u ∧ OwnF elCell w' w.heap.size u (cellsTo (setZ zs) 64) ∧ Below w.heap.size w w' := by
  have HU := Lib.hid h
  have HOK := Lib.hid hok
  have HHC := Lib.hid (fun x y hx hy V hV hB' => l03Has_yes v zs B V hV hB' hok x y hx hy)
  obtain ⟨A, c, rfl, h1, h2, hR⟩ := h
  unfold maxLen at h2
  obtain ⟨W, hW, k1, hb⟩ := one_alloc w (.cells #[.slice A zs.length c] 39)
  have K1 := Lib.hid k1
  have L1 := Lib.hid (lt_of_block k1)
  have HB := Lib.hid hb
  have HW := Lib.hid hW
  have HUW := Lib.hid (HU.out.below (hb.mono hB))
  have hBW : B ≤ W.heap.size := Nat.le_trans hB hb.size
  have HS0 : Hid (Acc elCell W W.heap.size (W.alloc (.cells #[] 44)) (.slice (some ⟨W.heap.size, 0, none⟩) 0 0) []) := Acc.start W
  clear hW k1 hb hR hok
  go_enter Try.func88, Try.ntmps88
  go_upto_region 1 with (fail)
  rw [← HW.out]
  go_wp2_with fail
  go_loopw [3, 4] (fun o i wr => ∃ (k : Nat) (v : Value) (cs : List (Int × Int)), k ≤ 64 ∧ i = .int .i64 k ∧ v = o ∧ cs.length = cntB (setZ zs) k ∧ Hid (cs = cellsTo (setZ zs) k) ∧ Hid (Acc elCell W W.heap.size wr v cs)) (fun _ i _ => 64 - (intOf i).toNat)
  case atStart => exact ⟨0, _, [], Nat.zero_le _, rfl, rfl, rfl, rfl, HS0⟩
  case round =>
    obtain ⟨k, v, cs, hk, rfl, rfl, hcs, HCS, HA⟩ := hrel
    obtain ⟨A1, ca, hv, q1, q2, _⟩ := HA.out.1.rd okCell
    subst hv
    unfold maxLen at q2
    have HC := Lib.hid hcs
    have HLE := Lib.hid (cntB_le (setZ zs) k)
    have HBW := Lib.hid HA.out.2.1
    have c0 : wr.cell? ⟨w.heap.size, 0, none⟩ = some (.slice A zs.length c) := by rw [blk_cell (blk_below K1.out HBW.out)]; rfl
    have hcl : cs.length ≤ 64 := by have := HLE.out; omega
    by_cases hlt : k < 64
    · have ht : decide ((k : Int) < 64) = true := by simp only [decide_eq_true_eq]; omega
      clear hcs
      go_wp2_with fail
      refine (specRegionOk_yes _ zs B _ (HUW.out.below (HBW.out.mono hBW)) (Nat.le_trans hBW HBW.out.size) HOK.out).mono ?_
      rintro e w3 ⟨rfl, hb3⟩
      have HA3 := Lib.hid (HA.out.below hb3)
      clear hb3 c0
      go_wp2_with fail
      refine (CellAt_yes k (by omega) _).mono ?_
      rintro e w4 ⟨rfl, hb4⟩
      have HA4 := Lib.hid (HA3.out.below hb4)
      clear hb4
      have hx8 : k % 8 ≤ 7 := by omega
      have hy8 : k / 8 ≤ 7 := by omega
      have HXY : Hid (cix (k % 8) (k / 8) = k) := by unfold Hid cix; omega
      have HCN : Hid (cntB (setZ zs) (k + 1) = cntB (setZ zs) k + (if hasB (setZ zs) (k % 8) (k / 8) then 1 else 0)) := by unfold Hid hasB; rw [HXY.out]; rfl
      have HCT : Hid (cellsTo (setZ zs) (k + 1) = cellsTo (setZ zs) k ++ (if hasB (setZ zs) (k % 8) (k / 8) then [(((k % 8 : Nat) : Int), ((k / 8 : Nat) : Int))] else [])) := by unfold Hid hasB; rw [HXY.out]; rfl
      generalize k % 8 = x at *
      generalize k / 8 = y at *
      go_upto_region 6 with (fail)
      obtain ⟨X, hX, kx, hbx⟩ := one_alloc w4 (.cells #[.int .i64 (x : Int), .int .i64 (y : Int)] 44)
      rw [← hX]
      have HA5 := Lib.hid (HA4.out.below hbx)
      have e1 : X.cell? ⟨w4.heap.size, 0, none⟩ = some (.int .i64 (x : Int)) := by rw [blk_cell kx]; rfl
      have e2 : X.cell? ⟨w4.heap.size, 1, none⟩ = some (.int .i64 (y : Int)) := by rw [blk_cell kx]; rfl
      have c5 : X.cell? ⟨w.heap.size, 0, none⟩ = some (.slice A zs.length c) := by rw [blk_cell (blk_below K1.out HA5.out.2.1)]; rfl
      have KX := Lib.hid kx
      clear hX kx hbx
      go_wp2_with fail
      refine (HHC.out x y hx8 hy8 _ (HUW.out.below (HA5.out.2.1.mono hBW)) (Nat.le_trans hBW HA5.out.2.1.size)).mono ?_
      rintro e w6 ⟨rfl, hb6⟩
      have HA6 := Lib.hid (HA5.out.below hb6)
      have kx6 := blk_below KX.out hb6
      have g1 : w6.cell? ⟨w4.heap.size, 0, none⟩ = some (.int .i64 (x : Int)) := by rw [blk_cell kx6]; rfl
      have g2 : w6.cell? ⟨w4.heap.size, 1, none⟩ = some (.int .i64 (y : Int)) := by rw [blk_cell kx6]; rfl
      clear hb6 e1 e2 c5 kx6
      cases hh : hasB (setZ zs) x y
      · have HN : Hid (cs.length = cntB (setZ zs) (k + 1)) := by unfold Hid; rw [HCN.out, hh]; exact HC.out
        have HC2 : Hid (cs = cellsTo (setZ zs) (k + 1)) := by unfold Hid; rw [HCT.out, hh, HCS.out]; simp
        clear HCN hh
        go_wp2_with fail
        go_roundw
        case rel => exact ⟨k + 1, _, cs, by omega, by go_num, rfl, HN.out, HC2, HA6⟩
        case measure => simp [intOf]; omega
      · have HN : Hid (cs.length + 1 = cntB (setZ zs) (k + 1)) := by unfold Hid; rw [HCN.out, hh, HC.out]; rfl
        have HC2 : Hid (cs ++ [((x : Int), (y : Int))] = cellsTo (setZ zs) (k + 1)) := by unfold Hid; rw [HCT.out, hh, HCS.out]; rfl
        clear HCN hh
        go_wp2_with (at_builtin; refine wpList_push okCell rfl _ _ rfl HA6.out rfl ((x : Int), (y : Int)) _ rfl _ rfl (by simp) (by omega) ?_; intro u2 w7 HA7 HG7; obtain ⟨A7, c7, hu7, _⟩ := HA7.out.1.rd okCell; rw [List.length_append, List.length_singleton] at hu7; rw [hu7] at HA7; rw [hu7]; clear hu7 HG7)
        go_roundw
        case rel => exact ⟨k + 1, _, _, by omega, by go_num, rfl, by (rw [List.length_append, List.length_singleton]; exact HN.out), HC2, HA7⟩
        case measure => simp [intOf]; omega
    · have HK : Hid (cs = cellsTo (setZ zs) 64) := by unfold Hid; rw [HCS.out, show k = 64 by omega]
      have ht : decide ((k : Int) < 64) = false := by simp only [decide_eq_false_iff_not]; omega
      have HQ := Lib.hid (HB.out.trans (HBW.out.mono HB.out.size))
      clear hcs
      go_wp2_with fail
      go_ret
      exact ⟨_, rfl, by rw [← HK.out]; exact HA.out.1.mono HB.out.size, HQ.out⟩
theorem CellsOf_yes (v : Value) (zs : List Int) (B : Nat) (w : World) (h : RdI w B v zs) (hB : B ≤ w.heap.size) (hok : regOkB zs = true) :
    Calls Try.prog 88 #[.agg #[v]] w fun e w' => ∃ A c, e = .returned (.slice A (cntB (setZ zs) 64) c) ∧ Below w.heap.size w w' := by
  refine (CellsOf_list v zs B w h hB hok).mono ?_
  rintro e w' ⟨u, rfl, ho, hb⟩
  obtain ⟨A, c, rfl, _⟩ := ho.rd okCell
  rw [cellsTo_len]
  exact ⟨A, c, rfl, hb⟩

theorem CountCells_yes (v : Value) (zs : List Int) (B : Nat) (w : World) (h : RdI w B v zs) (hB : B ≤ w.heap.size) (hok : regOkB zs = true) :
    Calls Try.prog 26 #[.agg #[v]] w fun e w' => e = .returned (.int .i64 ((cntB (setZ zs) 64 : Nat) : Int)) ∧ Below w.heap.size w w' := by
  have HU := Lib.hid h
  have HOK := Lib.hid hok
  have HLE := Lib.hid (cntB_le (setZ zs) 64)
  obtain ⟨A, c, rfl, h1, h2, hR⟩ := h
  unfold maxLen at h2
  obtain ⟨W, hW, k1, hb⟩ := one_alloc w (.cells #[.slice A zs.length c] 39)
  have c0 : W.cell? ⟨w.heap.size, 0, none⟩ = some (.slice A zs.length c) := by rw [blk_cell k1]; rfl
  have HB := Lib.hid hb
  have HW := Lib.hid hW
  clear hW k1 hb hR hok
  go_enter Try.func26, Try.ntmps26
  go_upto_region 1 with (fail)
  rw [← HW.out]
  go_wp2_with fail
  refine (CellsOf_yes _ zs B _ (HU.out.below (HB.out.mono hB)) (Nat.le_trans hB HB.out.size) HOK.out).mono ?_
  rintro e w3 ⟨A3, c3, rfl, hb3⟩
  have HB3 := Lib.hid (HB.out.trans (hb3.mono HB.out.size))
  clear hb3
  go_wp2_with fail
  go_ret
  exact ⟨rfl, HB3.out⟩
end Go.Proofs.Ytehnbalbpfmijaa
