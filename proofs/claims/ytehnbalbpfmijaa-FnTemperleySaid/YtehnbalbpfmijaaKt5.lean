/- What the claim's walk rests on: parts SDom, SReg. -/
import Derived.Test.YtehnbalbpfmijaaKt4
import Derived.Test.YtehnbalbpfmijaaKt2
import Derived.Deep.Cut
namespace Go.Proofs.Ytehnbalbpfmijaa
open Go.RowKit
set_option linter.unusedVariables false

theorem specCellOk_any (x y : Int) (w : World) :
    Calls Try.prog 140 #[spotV x y] w fun e w' => e = .returned (.bool (spotB 7 x y)) ∧ Below w.heap.size w w' := by
  cases h1 : inB x 0 7 <;> cases h2 : inB y 0 7
  all_goals
    go_enter Try.func140, Try.ntmps140
    go_wp2_with (go_at_call 90; refine (l01In_any _ _ _ _).mono ?_; rintro e w' ⟨rfl, rfl⟩)
    go_ret
    exact ⟨by simp [spotB, h1, h2], (Below.refl _ _).alloc (by simp) _⟩

theorem specCellIndex_yes (x y : Nat) (hx : x ≤ 7) (hy : y ≤ 7) (w : World) :
    Calls Try.prog 86 #[spotV x y] w fun e w' => e = .returned (.int .i64 (cix x y : Nat)) ∧ Below w.heap.size w w' := by
  have hok : spotB 7 x y = true := (spotB_iff _ _ _).2 ⟨by omega, by omega⟩
  have HE : Hid ((y : Int) * 8 + (x : Int) = ((cix x y : Nat) : Int)) := by unfold Hid cix; omega
  go_enter Try.func86, Try.ntmps86
  go_wp2_with fail
  refine (specCellOk_any _ _ _).mono ?_
  rintro e w1 ⟨rfl, hb1⟩
  rw [hok]
  obtain ⟨hc, hf⟩ := bcell hb1
  go_wp2_with fail
  go_ret
  exact ⟨ret_int HE.out, ((Below.refl _ _).alloc (Nat.le_refl _) _).trans (hb1.mono (by simp))⟩

set_option maxRecDepth 100000 in
set_option maxHeartbeats 1000000 in
theorem l05Second_any (x y : Int) (d : Bool) (w : World) :
    Calls Try.prog 141 #[triV x y d] w fun e w' => e = .returned (spotV (sndX x d) (sndY y d)) ∧ Below w.heap.size w w' := by
  have hx1 : IntKind.i64.wrap (x + 1) = sndX x false := by rw [IntWalk.i64_left]; rfl
  have hy1 : IntKind.i64.wrap (y + 1) = sndY y true := by rw [IntWalk.i64_left]; rfl
  have HX0 : Hid (sndX x true = x) := rfl
  have HY0 : Hid (sndY y false = y) := rfl
  obtain ⟨W, hW, k0, k1, hb⟩ := two_alloc w (.cells #[.int .i64 x, .int .i64 y, .bool d] 46) (.cells #[.int .i64 0, .int .i64 0] 44)
  have c0 : W.cell? ⟨w.heap.size, 0, none⟩ = some (.int .i64 x) := by rw [blk_cell k0]; rfl
  have c1 : W.cell? ⟨w.heap.size, 1, none⟩ = some (.int .i64 y) := by rw [blk_cell k0]; rfl
  have c2 : W.cell? ⟨w.heap.size, 2, none⟩ = some (.bool d) := by rw [blk_cell k0]; rfl
  have d0 : W.cell? ⟨w.heap.size + 1, 0, none⟩ = some (.int .i64 0) := by rw [blk_cell k1]; rfl
  have d1 : W.cell? ⟨w.heap.size + 1, 1, none⟩ = some (.int .i64 0) := by rw [blk_cell k1]; rfl
  have f0 : ∀ o, W.frozen? ⟨w.heap.size + 1, o, none⟩ = false := fun o => blk_free k1
  have HS : Hid (∀ p q, let X := (W.setCell ⟨w.heap.size + 1, 0, none⟩ p).setCell ⟨w.heap.size + 1, 1, none⟩ q; X.cell? ⟨w.heap.size + 1, 0, none⟩ = some p ∧ X.cell? ⟨w.heap.size + 1, 1, none⟩ = some q ∧ Below w.heap.size w X) := fun p q => by
    have h1 := blk_setCell (k := 1) (blk_setCell (k := 0) k1 p) q
    exact ⟨by rw [blk_cell h1]; rfl, by rw [blk_cell h1]; rfl, (hb.setCell (by show w.heap.size ≤ w.heap.size + 1; omega) _).setCell (by show w.heap.size ≤ w.heap.size + 1; omega) _⟩
  have HW := Lib.hid hW
  clear hW k0 k1 hb
  cases d
  · go_enter Try.func141, Try.ntmps141
    go_upto_region 1 with (fail)
    rw [← HW.out]
    go_wp2_with fail
    obtain ⟨r0, r1, r2⟩ := HS.out (.int .i64 (sndX x false)) (.int .i64 y)
    refine bodyPost_ret (v := spotV (sndX x false) (sndY y false)) (by simp [results, Try.results141, go_sem, r0, r1, HY0.out]) rfl ⟨rfl, r2⟩
  · go_enter Try.func141, Try.ntmps141
    go_upto_region 1 with (fail)
    rw [← HW.out]
    go_wp2_with fail
    obtain ⟨r0, r1, r2⟩ := HS.out (.int .i64 x) (.int .i64 (sndY y true))
    refine bodyPost_ret (v := spotV (sndX x true) (sndY y true)) (by simp [results, Try.results141, go_sem, r0, r1, HX0.out]) rfl ⟨rfl, r2⟩

set_option maxRecDepth 100000 in
set_option maxHeartbeats 1000000 in
theorem specDominoOk_any (x y : Int) (d : Bool) (w : World) :
    Calls Try.prog 82 #[triV x y d] w fun e w' => e = .returned (.bool (domB x y d)) ∧ Below w.heap.size w w' := by
  have HF : Hid ((spotB 7 x y && spotB 7 (sndX x d) (sndY y d)) = domB x y d) := rfl
  generalize domB x y d = r at *
  obtain ⟨W, hW, k1, hb⟩ := one_alloc w (triO x y d 46)
  have HW := Lib.hid hW
  have hT0 := OneT.of k1
  have HT0 := Lib.hid hT0
  obtain ⟨f0, f1, f2, _⟩ := hT0
  have HB := Lib.hid hb
  have HLS := Lib.hid (fun V => l05Second_any x y d V)
  clear hW hb
  generalize hx2 : sndX x d = x2 at *
  generalize hy2 : sndY y d = y2 at *
  clear hx2 hy2
  cases c1 : spotB 7 x y
  · have HQ : Hid (false = r) := by unfold Hid; rw [← HF.out, c1]; rfl
    go_enter Try.func82, Try.ntmps82
    go_upto_region 1 with (fail)
    rw [← HW.out]
    go_wp2_with fail
    refine (specCellOk_any _ _ _).mono ?_
    rintro e w3 ⟨rfl, hb3⟩
    rw [c1]
    go_wp2_with fail
    go_ret
    exact ⟨ret_bool HQ.out, HB.out.trans (hb3.mono HB.out.size)⟩
  · obtain ⟨b, hbb⟩ : ∃ b, spotB 7 x2 y2 = b := ⟨_, rfl⟩
    have HQ : Hid (b = r) := by unfold Hid; rw [← HF.out, c1, hbb]; rfl
    have HBB := Lib.hid hbb
    have K1 := Lib.hid k1
    clear HF hbb k1
    go_enter Try.func82, Try.ntmps82
    go_upto_region 1 with (fail)
    rw [← HW.out]
    go_wp2_with fail
    refine (specCellOk_any _ _ _).mono ?_
    rintro e w3 ⟨rfl, hb3⟩
    rw [c1]
    have hT3 := OneT.keep hb3 (lt_of_block K1.out) HT0.out
    obtain ⟨g0, g1, g2, _⟩ := hT3
    have HB3 := Lib.hid (HB.out.trans (hb3.mono HB.out.size))
    clear f0 f1 f2 hb3
    go_wp2_with fail
    refine (HLS.out _).mono ?_
    rintro e w4 ⟨rfl, hb4⟩
    have HB4 := Lib.hid (HB3.out.trans (hb4.mono HB3.out.size))
    go_wp2_with fail
    refine (specCellOk_any _ _ _).mono ?_
    rintro e w5 ⟨rfl, hb5⟩
    rw [HBB.out]
    go_wp2_with fail
    go_ret
    exact ⟨ret_bool HQ.out, HB4.out.trans (hb5.mono HB4.out.size)⟩
end Go.Proofs.Ytehnbalbpfmijaa

namespace Go.Proofs.Ytehnbalbpfmijaa
open Go.RowKit
set_option linter.unusedVariables false

theorem domLt_eq (x y x' y' : Nat) (d d' : Bool) (h : domB x y d = true) (h' : domB x' y' d' = true) : domLt (x, y, d) (x', y', d') = (decide (cix x y < cix x' y') || (decide (cix x y = cix x' y') && (!d && d'))) := by
  have hl : ∀ (a b : Nat) (d : Bool), domO ((a : Int)).toNat ((b : Int)).toNat d = 2 * cix a b + if d then 1 else 0 := fun a b d => by simp [domO]
  unfold domLt
  simp only [h, h', Bool.true_and, hl]
  rw [Bool.eq_iff_iff]
  simp only [decide_eq_true_eq, Bool.or_eq_true, Bool.and_eq_true, Bool.not_eq_true']
  cases d <;> cases d' <;> simp <;> omega

set_option maxRecDepth 100000 in
set_option maxHeartbeats 2000000 in
theorem specBefore_any (x y : Int) (d : Bool) (x' y' : Int) (d' : Bool) (w : World) :
    Calls Try.prog 83 #[triV x y d, triV x' y' d'] w fun e w' => e = .returned (.bool (domLt (x, y, d) (x', y', d'))) ∧ Below w.heap.size w w' := by
  obtain ⟨W, hW, k1, k2, hb⟩ := two_alloc w (triO x y d 46) (triO x' y' d' 46)
  have HW := Lib.hid hW
  have HT0 := Lib.hid (TwoT.of (w := w) (p := (x, y, d)) (q := (x', y', d')) k1 k2)
  have L1 := Lib.hid (lt_of_block k1)
  have L2 := Lib.hid (lt_of_block k2)
  have HB := Lib.hid hb
  clear hW hb k1 k2
  cases c1 : domB x y d
  · have HF : Hid (false = domLt (x, y, d) (x', y', d')) := by unfold Hid domLt; simp [c1]
    obtain ⟨f0, f1, f2, _⟩ := HT0.out
    go_enter Try.func83, Try.ntmps83
    go_upto_region 1 with (fail)
    rw [← HW.out]
    go_wp2_with fail
    refine (specDominoOk_any _ _ _ _).mono ?_
    rintro e w3 ⟨rfl, hb3⟩
    rw [c1]
    go_wp2_with fail
    go_ret
    exact ⟨ret_bool HF.out, HB.out.trans (hb3.mono HB.out.size)⟩
  · cases c2 : domB x' y' d'
    · have HF : Hid (false = domLt (x, y, d) (x', y', d')) := by unfold Hid domLt; simp [c1, c2]
      obtain ⟨f0, f1, f2, _⟩ := HT0.out
      go_enter Try.func83, Try.ntmps83
      go_upto_region 1 with (fail)
      rw [← HW.out]
      go_wp2_with fail
      refine (specDominoOk_any _ _ _ _).mono ?_
      rintro e w3 ⟨rfl, hb3⟩
      rw [c1]
      have HB3 := Lib.hid (HB.out.trans (hb3.mono HB.out.size))
      obtain ⟨_, _, _, g0, g1, g2, _⟩ := TwoT.keep hb3 L1.out L2.out HT0.out
      go_wp2_with fail
      refine (specDominoOk_any _ _ _ _).mono ?_
      rintro e w4 ⟨rfl, hb4⟩
      rw [c2]
      go_wp2_with fail
      go_ret
      exact ⟨ret_bool HF.out, HB3.out.trans (hb4.mono HB3.out.size)⟩
    · have hd := (domB_iff _ _ _).1 c1
      have hd' := (domB_iff _ _ _).1 c2
      obtain ⟨a, rfl⟩ := Int.eq_ofNat_of_zero_le hd.1.1
      obtain ⟨b, rfl⟩ := Int.eq_ofNat_of_zero_le hd.1.2
      obtain ⟨a', rfl⟩ := Int.eq_ofNat_of_zero_le hd'.1.1
      obtain ⟨b', rfl⟩ := Int.eq_ofNat_of_zero_le hd'.1.2
      have HF := Lib.hid (domLt_eq a b a' b' d d' c1 c2)
      have hA : a ≤ 7 ∧ b ≤ 7 := by cases d <;> simp at hd <;> omega
      have hA' : a' ≤ 7 ∧ b' ≤ 7 := by cases d' <;> simp at hd' <;> omega
      have e1 : (b : Int) * 8 + (a : Int) = ((cix a b : Nat) : Int) := by unfold cix; omega
      have e2 : (b' : Int) * 8 + (a' : Int) = ((cix a' b' : Nat) : Int) := by unfold cix; omega
      have e3 : cix a b ≤ 63 ∧ cix a' b' ≤ 63 := by unfold cix; omega
      have C1 := Lib.hid c1; have C2 := Lib.hid c2
      clear hd hd' c1 c2
      generalize cix a b = p at *
      generalize cix a' b' = q at *
      obtain ⟨f0, f1, f2, f3, f4, f5, _⟩ := HT0.out
      go_enter Try.func83, Try.ntmps83
      go_upto_region 1 with (fail)
      rw [← HW.out]
      go_wp2_with fail
      refine (specDominoOk_any _ _ _ _).mono ?_
      rintro e w3 ⟨rfl, hb3⟩
      rw [C1.out]
      have HB3 := Lib.hid (HB.out.trans (hb3.mono HB.out.size))
      have HT3 := Lib.hid (TwoT.keep hb3 L1.out L2.out HT0.out)
      obtain ⟨g0, g1, g2, g3, g4, g5, _⟩ := HT3.out
      clear f0 f1 f2 f3 f4 f5 hb3
      go_wp2_with fail
      refine (specDominoOk_any _ _ _ _).mono ?_
      rintro e w4 ⟨rfl, hb4⟩
      rw [C2.out]
      have HB4 := Lib.hid (HB3.out.trans (hb4.mono HB3.out.size))
      obtain ⟨i0, i1, i2, i3, i4, i5, _⟩ := TwoT.keep hb4 L1.out L2.out HT3.out
      clear g0 g1 g2 g3 g4 g5 hb4
      rcases Nat.lt_trichotomy p q with hl | hl | hl
      · have HR : Hid (true = domLt (a, b, d) (a', b', d')) := by unfold Hid; rw [HF.out]; simp [hl]
        go_wp2_with fail
        go_ret
        exact ⟨ret_bool HR.out, HB4.out⟩
      · have HR : Hid ((!d && d') = domLt (a, b, d) (a', b', d')) := by unfold Hid; rw [HF.out]; simp [hl]
        subst hl
        cases d <;> cases d'
        all_goals
          go_wp2_with fail
          go_ret
          exact ⟨by first | exact ret_bool (show false = _ from HR.out) | exact ret_bool (show true = _ from HR.out), HB4.out⟩
      · have HR : Hid (false = domLt (a, b, d) (a', b', d')) := by unfold Hid; rw [HF.out]; simp [show ¬ p < q by omega, show ¬ p = q by omega]
        have t1 : decide ((p : Int) < (q : Int)) = false := by simp; omega
        have t2 : ((p : Int) == (q : Int)) = false := by simp; omega
        go_wp2_with fail
        go_ret
        exact ⟨ret_bool ((decide_eq_false (show ¬ p < q by omega)).trans HR.out), HB4.out⟩
end Go.Proofs.Ytehnbalbpfmijaa

namespace Go.Proofs.Ytehnbalbpfmijaa
open Go.RowKit
set_option linter.unusedVariables false

set_option maxRecDepth 100000 in
set_option maxHeartbeats 4000000 in
theorem CellsUnder_yes (x y : Int) (d : Bool) (w : World) (h : domB x y d = true) :
    Calls Try.prog 84 #[triV x y d] w fun e w' => e = .returned (.tuple #[spotV x y, spotV (sndX x d) (sndY y d)]) ∧ Below w.heap.size w w' := by
  have H1 := Lib.hid h
  have HLS := Lib.hid (fun V => l05Second_any x y d V)
  clear h
  generalize sndX x d = x2 at *
  generalize sndY y d = y2 at *
  obtain ⟨W, hW, k0, k1, k2, hb⟩ := three_alloc w (triO x y d 46) (.cells #[.int .i64 0, .int .i64 0] 44) (.cells #[.int .i64 0, .int .i64 0] 44)
  have HW := Lib.hid hW
  have c0 : W.cell? ⟨w.heap.size, 0, none⟩ = some (.int .i64 x) := by rw [blk_cell k0]; rfl
  have c1 : W.cell? ⟨w.heap.size, 1, none⟩ = some (.int .i64 y) := by rw [blk_cell k0]; rfl
  have c2 : W.cell? ⟨w.heap.size, 2, none⟩ = some (.bool d) := by rw [blk_cell k0]; rfl
  have HB0 := Lib.hid hb
  have K0' := Lib.hid k0; have K1' := Lib.hid k1; have K2' := Lib.hid k2
  clear hW hb k0 k1 k2
  go_enter Try.func84, Try.ntmps84
  go_upto_region 1 with (fail)
  rw [← HW.out]
  go_wp2_with fail
  refine (specDominoOk_any _ _ _ _).mono ?_
  rintro e w1 ⟨rfl, hb1⟩
  rw [H1.out]
  have HB := Lib.hid (HB0.out.trans (hb1.mono HB0.out.size))
  have k0 := blk_below K0'.out hb1
  have K1 := Lib.hid (blk_below K1'.out hb1)
  have K2 := Lib.hid (blk_below K2'.out hb1)
  have g0 : w1.cell? ⟨w.heap.size, 0, none⟩ = some (.int .i64 x) := by rw [blk_cell k0]; rfl
  have g1 : w1.cell? ⟨w.heap.size, 1, none⟩ = some (.int .i64 y) := by rw [blk_cell k0]; rfl
  have g2 : w1.cell? ⟨w.heap.size, 2, none⟩ = some (.bool d) := by rw [blk_cell k0]; rfl
  have L0 := Lib.hid (lt_of_block k0)
  clear c0 c1 c2 hb1 k0
  go_wp2_with fail
  refine wp_region_held_drew (S := fun w' => w'.cell? ⟨w.heap.size, 0, none⟩ = some (.int .i64 x) ∧ w'.cell? ⟨w.heap.size, 1, none⟩ = some (.int .i64 y) ∧ w'.cell? ⟨w.heap.size, 2, none⟩ = some (.bool d)) (by kernel_rfl) (by exact ⟨g0, g1, g2⟩) (fun hHeld => ?_)
  refine wpAnyH_take (i := 0) (oi := ⟨_, _, _, _, _, _⟩) (v := ?vap27456q0) rfl (by kernel_rfl) (by kernel_rfl) (by kernel_rfl) (fun _ _ _ h => h) (Or.inl ⟨by rfl, ?hap27456q0⟩) (by assumption) ?_
  case hap27456q0 => (intro w hSw; (try dsimp only at hSw); go_simp; try with_reducible rfl)
  try simp only [Act.put, List.setIfInBounds_toArray, List.set_cons_zero, List.set_cons_succ]
  refine wpAnyH_take (i := 1) (oi := ⟨_, _, _, _, _, _⟩) (v := ?vap27456q1) rfl (by kernel_rfl) (by kernel_rfl) (by kernel_rfl) (fun _ _ _ h => h) (Or.inl ⟨by rfl, ?hap27456q1⟩) (by assumption) ?_
  case hap27456q1 => (intro w hSw; (try dsimp only at hSw); go_simp; try with_reducible rfl)
  try simp only [Act.put, List.setIfInBounds_toArray, List.set_cons_zero, List.set_cons_succ]
  refine wpAnyH_take (i := 2) (oi := ⟨_, _, _, _, _, _⟩) (v := ?vap27456q2) rfl (by kernel_rfl) (by kernel_rfl) (by kernel_rfl) (fun _ _ _ h => h) (Or.inl ⟨by rfl, ?hap27456q2⟩) (by assumption) ?_
  case hap27456q2 => (intro w hSw; (try dsimp only at hSw); go_simp; try with_reducible rfl)
  try simp only [Act.put, List.setIfInBounds_toArray, List.set_cons_zero, List.set_cons_succ]
  refine wpAnyH_take (i := 3) (oi := ⟨_, _, _, _, _, _⟩) (v := ?vap27456q3) rfl (by kernel_rfl) (by kernel_rfl) (by kernel_rfl) (fun _ _ _ h => h) (Or.inl ⟨by rfl, ?hap27456q3⟩) (by assumption) ?_
  case hap27456q3 => (intro w hSw; (try dsimp only at hSw); go_simp; try with_reducible rfl)
  try simp only [Act.put, List.setIfInBounds_toArray, List.set_cons_zero, List.set_cons_succ]
  refine wpAnyH_take (i := 4) (oi := ⟨_, _, _, _, _, _⟩) (v := ?vap27456q4) rfl (by kernel_rfl) (by kernel_rfl) (by kernel_rfl) (fun _ _ _ h => h) (Or.inl ⟨by rfl, ?hap27456q4⟩) (by assumption) ?_
  case hap27456q4 => (intro w hSw; (try dsimp only at hSw); go_simp; try with_reducible rfl)
  try simp only [Act.put, List.setIfInBounds_toArray, List.set_cons_zero, List.set_cons_succ]
  refine wpAnyH_take (i := 5) (oi := ⟨_, _, _, _, _, _⟩) (v := ?vap27456q5) rfl (by kernel_rfl) (by kernel_rfl) (by kernel_rfl) (fun _ _ _ h => h) (Or.inl ⟨by rfl, ?hap27456q5⟩) (by assumption) ?_
  case hap27456q5 => (intro w hSw; (try dsimp only at hSw); go_simp; try with_reducible rfl)
  try simp only [Act.put, List.setIfInBounds_toArray, List.set_cons_zero, List.set_cons_succ]
  refine wpAnyH_ready (rs := [6]) (by kernel_rfl) (by simp) ?_
  refine AllReadyH.cons (o := ⟨_, _, _, _, _, _⟩) rfl (fun K hK => ?_) AllReadyH.nil
  go_simp; go_at_call 141; refine (HLS.out _).mono ?_; rintro e w3 ⟨rfl, hb3⟩
  have j1 := blk_below (w := w1.drew) K1.out hb3
  have j2 := blk_below (w := w1.drew) K2.out hb3
  have d0 : w3.cell? ⟨w.heap.size + 1, 0, none⟩ = some (.int .i64 0) := by rw [blk_cell j1]; rfl
  have d1 : w3.cell? ⟨w.heap.size + 1, 1, none⟩ = some (.int .i64 0) := by rw [blk_cell j1]; rfl
  have d2 : w3.cell? ⟨w.heap.size + 1 + 1, 0, none⟩ = some (.int .i64 0) := by rw [blk_cell j2]; rfl
  have d3 : w3.cell? ⟨w.heap.size + 1 + 1, 1, none⟩ = some (.int .i64 0) := by rw [blk_cell j2]; rfl
  have f0 : ∀ o, w3.frozen? ⟨w.heap.size + 1, o, none⟩ = false := fun o => blk_free j1
  have f2 : ∀ o, w3.frozen? ⟨w.heap.size + 1 + 1, o, none⟩ = false := fun o => blk_free j2
  have J1 := Lib.hid j1; have J2 := Lib.hid j2; have HB3 := Lib.hid (HB.out.drew.trans (hb3.mono HB.out.size))
  clear j1 j2
  refine hK.out _ _ (by first | exact ⟨(hb3.cell (p := ⟨w.heap.size, 0, none⟩) L0.out).trans hHeld.1, (hb3.cell (p := ⟨w.heap.size, 1, none⟩) L0.out).trans hHeld.2.1, (hb3.cell (p := ⟨w.heap.size, 2, none⟩) L0.out).trans hHeld.2.2⟩ | (obtain ⟨hq0, hq1, hq2⟩ := hHeld; refine ⟨?_, ?_, ?_⟩ <;> go_simp)) (fun hHeld => ?_)
  clear hK K
  try simp only [Act.put, List.setIfInBounds_toArray, List.set_cons_zero, List.set_cons_succ]
  refine wpAnyH_ready (rs := [7]) (by kernel_rfl) (by simp) ?_
  refine AllReadyH.cons (o := ⟨_, _, _, _, _, _⟩) rfl (fun K hK => ?_) AllReadyH.nil
  go_simp
  refine hK.out _ _ (by first | exact ⟨(hb3.cell (p := ⟨w.heap.size, 0, none⟩) L0.out).trans hHeld.1, (hb3.cell (p := ⟨w.heap.size, 1, none⟩) L0.out).trans hHeld.2.1, (hb3.cell (p := ⟨w.heap.size, 2, none⟩) L0.out).trans hHeld.2.2⟩ | (obtain ⟨hq0, hq1, hq2⟩ := hHeld; refine ⟨?_, ?_, ?_⟩ <;> go_simp)) (fun hHeld => ?_)
  clear hK K
  try simp only [Act.put, List.setIfInBounds_toArray, List.set_cons_zero, List.set_cons_succ]
  refine wpAnyH_ready (rs := [8]) (by kernel_rfl) (by simp) ?_
  refine AllReadyH.cons (o := ⟨_, _, _, _, _, _⟩) rfl (fun K hK => ?_) AllReadyH.nil
  go_simp
  refine hK.out _ _ (by first | exact ⟨(hb3.cell (p := ⟨w.heap.size, 0, none⟩) L0.out).trans hHeld.1, (hb3.cell (p := ⟨w.heap.size, 1, none⟩) L0.out).trans hHeld.2.1, (hb3.cell (p := ⟨w.heap.size, 2, none⟩) L0.out).trans hHeld.2.2⟩ | (obtain ⟨hq0, hq1, hq2⟩ := hHeld; refine ⟨?_, ?_, ?_⟩ <;> go_simp)) (fun hHeld => ?_)
  clear hK K
  try simp only [Act.put, List.setIfInBounds_toArray, List.set_cons_zero, List.set_cons_succ]
  refine wpAnyH_done (by kernel_rfl) ?_ _
  have T1 := two_stores (w := w) (V := w3) (p := .int .i64 x) (q := .int .i64 y) (r := .int .i64 x2) (t := .int .i64 y2) J1.out J2.out (by omega) (by omega) (by omega) HB3.out
  go_wp2_with fail
  generalize hX : ((((w3.setCell ⟨w.heap.size + 1, 0, none⟩ (.int .i64 x)).setCell ⟨w.heap.size + 1, 1, none⟩ (.int .i64 y)).setCell ⟨w.heap.size + 1 + 1, 0, none⟩ (.int .i64 x2)).setCell ⟨w.heap.size + 1 + 1, 1, none⟩ (.int .i64 y2)) = X
  obtain ⟨r0, r1, r2, r3, r4⟩ := T1 X hX.symm
  refine bodyPost_ret (v := .tuple #[spotV x y, spotV x2 y2]) (by simp [results, Try.results84, go_sem, r0, r1, r2, r3]) rfl ⟨rfl, r4⟩
end Go.Proofs.Ytehnbalbpfmijaa

namespace Go.Proofs.Ytehnbalbpfmijaa
open Go.RowKit
set_option linter.unusedVariables false

theorem specRegionOk_yes (v : Value) (zs : List Int) (B : Nat) (w : World) (h : RdI w B v zs) (hB : B ≤ w.heap.size) (hok : regOkB zs = true) :
    Calls Try.prog 87 #[.agg #[v]] w fun e w' => e = .returned (.bool true) ∧ Below w.heap.size w w' := by
  have HU := Lib.hid h
  have hl8 := regOk_len hok
  obtain ⟨A, c, rfl, h1, h2, hR⟩ := h
  unfold maxLen at h2
  obtain ⟨W, hW, k1, hb⟩ := one_alloc w (.cells #[.slice A zs.length c] 39)
  have c0 : W.cell? ⟨w.heap.size, 0, none⟩ = some (.slice A zs.length c) := by rw [blk_cell k1]; rfl
  have HR : Hid (Rd W B A (zs.map (Value.int .i64))) := hR.below (hb.mono hB)
  have HB := Lib.hid hb
  have HW := Lib.hid hW
  clear hW k1 hb hR
  have hlt8 : (zs.length : Int) ≤ 8 := by omega
  go_enter Try.func87, Try.ntmps87
  go_upto_region 1 with (fail)
  rw [← HW.out]
  go_wp2_with fail
  go_loop [3] (fun i => ∃ k : Nat, k ≤ zs.length ∧ i = .int .i64 k) (fun i => zs.length - (intOf i).toNat)
  case atStart => exact ⟨0, Nat.zero_le _, rfl⟩
  case round =>
    obtain ⟨k, hk, rfl⟩ := hrel
    by_cases hlt : k < zs.length
    · obtain ⟨ad, rfl, hbl, hc⟩ := HR.out.int hlt
      rw [← el_get zs k hlt] at hc
      obtain ⟨x0, x1⟩ := regOk_el hok hlt
      have t1 : inB (el zs k) 0 255 = true := inB_true x0 x1
      have t2 : decide ((k : Int) < (zs.length : Int)) = true := by simp only [decide_eq_true_eq]; omega
      go_wp2_with fail
      refine (l01In_any _ _ _ _).mono ?_
      rintro e w' ⟨rfl, rfl⟩
      rw [t1]
      go_wp2_with fail
      go_round
      case rel => exact ⟨k + 1, by omega, by go_num⟩
      case measure => simp [intOf]; omega
    · have t2 : decide ((k : Int) < (zs.length : Int)) = false := by simp only [decide_eq_false_iff_not]; omega
      go_wp2_with fail
      go_ret
      exact ⟨by first | rfl | (exact ret_bool (decide_eq_true hlt8)), HB.out⟩

theorem bit_tab : ((List.range 256).all fun r => (List.range 8).all fun x => (bits .and .i64 ((r : Int) / 2 ^ x) 1 == 1) == r.testBit x) = true := by decide +kernel
theorem bit_shr (r x : Nat) (hr : r ≤ 255) (hx : x ≤ 7) : (bits .and .i64 ((r : Int) / 2 ^ x) 1 == 1) = r.testBit x := by
  have h := bit_tab
  simp only [List.all_eq_true, List.mem_range] at h
  exact beq_iff_eq.1 (h r (by omega) x (by omega))
set_option maxRecDepth 100000 in
set_option maxHeartbeats 1000000 in
theorem l03Has_yes (v : Value) (zs : List Int) (B : Nat) (w : World) (h : RdI w B v zs) (hB : B ≤ w.heap.size) (hok : regOkB zs = true) (x y : Nat) (hx : x ≤ 7) (hy : y ≤ 7) :
    Calls Try.prog 142 #[.agg #[v], spotV x y] w fun e w' => e = .returned (.bool (hasB (setZ zs) x y)) ∧ Below w.heap.size w w' := by
  have hbit := setZ_bit hok x y hx
  have hl8 := regOk_len hok
  obtain ⟨A, c, rfl, h1, h2, hR⟩ := h
  unfold maxLen at h2
  obtain ⟨W, hW, k1, k2, hb⟩ := two_alloc w (.cells #[.slice A zs.length c] 39) (.cells #[.int .i64 (x : Int), .int .i64 (y : Int)] 44)
  have c0 : W.cell? ⟨w.heap.size, 0, none⟩ = some (.slice A zs.length c) := by rw [blk_cell k1]; rfl
  have c1 : W.cell? ⟨w.heap.size + 1, 0, none⟩ = some (.int .i64 (x : Int)) := by rw [blk_cell k2]; rfl
  have c2 : W.cell? ⟨w.heap.size + 1, 1, none⟩ = some (.int .i64 (y : Int)) := by rw [blk_cell k2]; rfl
  have HR : Hid (Rd W B A (zs.map (Value.int .i64))) := hR.below (hb.mono hB)
  have HB := Lib.hid hb
  have HW := Lib.hid hW
  clear hW k1 k2 hb hR
  by_cases hlt : y < zs.length
  · obtain ⟨ad, rfl, hbl, hc⟩ := HR.out.int hlt
    rw [← el_get zs y hlt] at hc
    obtain ⟨x0, x1⟩ := regOk_el hok hlt
    obtain ⟨r, hr⟩ := Int.eq_ofNat_of_zero_le x0
    rw [hr] at hc x1
    have HF : Hid (r.testBit x = hasB (setZ zs) x y) := by unfold Hid; rw [hbit, hr]; simp [hlt]
    have hsh := bit_shr r x (by omega) hx
    have t0 : decide ((y : Int) < (zs.length : Int)) = true := by simp only [decide_eq_true_eq]; omega
    clear hr x0 hbit
    go_enter Try.func142, Try.ntmps142
    go_upto_region 1 with (fail)
    rw [← HW.out]
    refine wp_region_held_drew (S := fun w' => w' = W.drew) (by kernel_rfl) (by rfl) (fun hHeld => ?_)
    refine wpAnyH_take (i := 0) (oi := ⟨_, _, _, _, _, _⟩) (v := ?vap30318q0) rfl (by kernel_rfl) (by kernel_rfl) (by kernel_rfl) (fun _ _ _ h => h) (Or.inl ⟨by rfl, ?hap30318q0⟩) (by assumption) ?_
    case hap30318q0 => (intro w hSw; (try dsimp only at hSw); go_simp; try with_reducible rfl)
    try simp only [Act.put, List.setIfInBounds_toArray, List.set_cons_zero, List.set_cons_succ]
    refine wpAnyH_take (i := 1) (oi := ⟨_, _, _, _, _, _⟩) (v := ?vap30318q1) rfl (by kernel_rfl) (by kernel_rfl) (by kernel_rfl) (fun _ _ _ h => h) (Or.inl ⟨by rfl, ?hap30318q1⟩) (by assumption) ?_
    case hap30318q1 => (intro w hSw; (try dsimp only at hSw); go_simp; try with_reducible rfl)
    try simp only [Act.put, List.setIfInBounds_toArray, List.set_cons_zero, List.set_cons_succ]
    refine wpAnyH_take (i := 2) (oi := ⟨_, _, _, _, _, _⟩) (v := ?vap30318q2) rfl (by kernel_rfl) (by kernel_rfl) (by kernel_rfl) (fun _ _ _ h => h) (Or.inl ⟨by rfl, ?hap30318q2⟩) (by assumption) ?_
    case hap30318q2 => (intro w hSw; (try dsimp only at hSw); go_simp; try with_reducible rfl)
    try simp only [Act.put, List.setIfInBounds_toArray, List.set_cons_zero, List.set_cons_succ]
    refine wpAnyH_take (i := 3) (oi := ⟨_, _, _, _, _, _⟩) (v := ?vap30318q3) rfl (by kernel_rfl) (by kernel_rfl) (by kernel_rfl) (fun _ _ _ h => h) (Or.inl ⟨by rfl, ?hap30318q3⟩) (by assumption) ?_
    case hap30318q3 => (intro w hSw; (try dsimp only at hSw); go_simp; try with_reducible rfl)
    try simp only [Act.put, List.setIfInBounds_toArray, List.set_cons_zero, List.set_cons_succ]
    refine wpAnyH_ready (rs := [4]) (by kernel_rfl) (by simp) ?_
    refine AllReadyH.cons (o := ⟨_, _, _, _, _, _⟩) rfl (fun K hK => ?_) AllReadyH.nil
    go_simp
    refine hK.out _ _ (by exact hHeld) (fun hHeld => ?_)
    clear hK K
    try simp only [Act.put, List.setIfInBounds_toArray, List.set_cons_zero, List.set_cons_succ]
    refine wpAnyH_take (i := 5) (oi := ⟨_, _, _, _, _, _⟩) (v := ?vap30318q5) rfl (by kernel_rfl) (by kernel_rfl) (by kernel_rfl) (fun _ _ _ h => h) (Or.inl ⟨by rfl, ?hap30318q5⟩) (by assumption) ?_
    case hap30318q5 => (intro w hSw; (try dsimp only at hSw); go_simp; try with_reducible rfl)
    try simp only [Act.put, List.setIfInBounds_toArray, List.set_cons_zero, List.set_cons_succ]
    refine wpAnyH_take (i := 6) (oi := ⟨_, _, _, _, _, _⟩) (v := ?vap30318q6) rfl (by kernel_rfl) (by kernel_rfl) (by kernel_rfl) (fun _ _ _ h => h) (Or.inl ⟨by rfl, ?hap30318q6⟩) (by assumption) ?_
    case hap30318q6 => (intro w hSw; (try dsimp only at hSw); go_simp; try with_reducible rfl)
    try simp only [Act.put, List.setIfInBounds_toArray, List.set_cons_zero, List.set_cons_succ]
    refine wpAnyH_take (i := 7) (oi := ⟨_, _, _, _, _, _⟩) (v := ?vap30318q7) rfl (by kernel_rfl) (by kernel_rfl) (by kernel_rfl) (fun _ _ _ h => h) (Or.inl ⟨by rfl, ?hap30318q7⟩) (by assumption) ?_
    case hap30318q7 => (intro w hSw; (try dsimp only at hSw); go_simp; try with_reducible rfl)
    try simp only [Act.put, List.setIfInBounds_toArray, List.set_cons_zero, List.set_cons_succ]
    refine wpAnyH_take (i := 8) (oi := ⟨_, _, _, _, _, _⟩) (v := ?vap30318q8) rfl (by kernel_rfl) (by kernel_rfl) (by kernel_rfl) (fun _ _ _ h => h) (Or.inl ⟨by rfl, ?hap30318q8⟩) (by assumption) ?_
    case hap30318q8 => (intro w hSw; (try dsimp only at hSw); go_simp; try with_reducible rfl)
    try simp only [Act.put, List.setIfInBounds_toArray, List.set_cons_zero, List.set_cons_succ]
    refine wpAnyH_take (i := 9) (oi := ⟨_, _, _, _, _, _⟩) (v := ?vap30318q9) rfl (by kernel_rfl) (by kernel_rfl) (by kernel_rfl) (fun _ _ _ h => h) (Or.inl ⟨by rfl, ?hap30318q9⟩) (by assumption) ?_
    case hap30318q9 => (intro w hSw; (try dsimp only at hSw); go_simp; try with_reducible rfl)
    try simp only [Act.put, List.setIfInBounds_toArray, List.set_cons_zero, List.set_cons_succ]
    refine wpAnyH_take (i := 10) (oi := ⟨_, _, _, _, _, _⟩) (v := ?vap30318q10) rfl (by kernel_rfl) (by kernel_rfl) (by kernel_rfl) (fun _ _ _ h => h) (Or.inl ⟨by rfl, ?hap30318q10⟩) (by assumption) ?_
    case hap30318q10 => (intro w hSw; (try dsimp only at hSw); go_simp; try with_reducible rfl)
    try simp only [Act.put, List.setIfInBounds_toArray, List.set_cons_zero, List.set_cons_succ]
    refine wpAnyH_take (i := 11) (oi := ⟨_, _, _, _, _, _⟩) (v := ?vap30318q11) rfl (by kernel_rfl) (by kernel_rfl) (by kernel_rfl) (fun _ _ _ h => h) (Or.inl ⟨by rfl, ?hap30318q11⟩) (by assumption) ?_
    case hap30318q11 => (intro w hSw; (try dsimp only at hSw); go_simp; try with_reducible rfl)
    try simp only [Act.put, List.setIfInBounds_toArray, List.set_cons_zero, List.set_cons_succ]
    refine wpAnyH_take (i := 12) (oi := ⟨_, _, _, _, _, _⟩) (v := ?vap30318q12) rfl (by kernel_rfl) (by kernel_rfl) (by kernel_rfl) (fun _ _ _ h => h) (Or.inl ⟨by rfl, ?hap30318q12⟩) (by assumption) ?_
    case hap30318q12 => (intro w hSw; (try dsimp only at hSw); go_simp; try with_reducible rfl)
    try simp only [Act.put, List.setIfInBounds_toArray, List.set_cons_zero, List.set_cons_succ]
    refine wpAnyH_take (i := 13) (oi := ⟨_, _, _, _, _, _⟩) (v := ?vap30318q13) rfl (by kernel_rfl) (by kernel_rfl) (by kernel_rfl) (fun _ _ _ h => h) (Or.inl ⟨by rfl, ?hap30318q13⟩) (by assumption) ?_
    case hap30318q13 => (intro w hSw; (try dsimp only at hSw); go_simp; try with_reducible rfl)
    try simp only [Act.put, List.setIfInBounds_toArray, List.set_cons_zero, List.set_cons_succ]
    refine wpAnyH_take (i := 14) (oi := ⟨_, _, _, _, _, _⟩) (v := ?vap30318q14) rfl (by kernel_rfl) (by kernel_rfl) (by kernel_rfl) (fun _ _ _ h => h) (Or.inl ⟨by rfl, ?hap30318q14⟩) (by assumption) ?_
    case hap30318q14 => (intro w hSw; (try dsimp only at hSw); go_simp; try with_reducible rfl)
    try simp only [Act.put, List.setIfInBounds_toArray, List.set_cons_zero, List.set_cons_succ]
    refine wpAnyH_take (i := 15) (oi := ⟨_, _, _, _, _, _⟩) (v := ?vap30318q15) rfl (by kernel_rfl) (by kernel_rfl) (by kernel_rfl) (fun _ _ _ h => h) (Or.inl ⟨by rfl, ?hap30318q15⟩) (by assumption) ?_
    case hap30318q15 => (intro w hSw; (try dsimp only at hSw); go_simp; try with_reducible rfl)
    try simp only [Act.put, List.setIfInBounds_toArray, List.set_cons_zero, List.set_cons_succ]
    refine wpAnyH_take (i := 16) (oi := ⟨_, _, _, _, _, _⟩) (v := ?vap30318q16) rfl (by kernel_rfl) (by kernel_rfl) (by kernel_rfl) (fun _ _ _ h => h) (Or.inl ⟨by rfl, ?hap30318q16⟩) (by assumption) ?_
    case hap30318q16 => (intro w hSw; (try dsimp only at hSw); go_simp; try with_reducible rfl)
    try simp only [Act.put, List.setIfInBounds_toArray, List.set_cons_zero, List.set_cons_succ]
    refine wpAnyH_take (i := 17) (oi := ⟨_, _, _, _, _, _⟩) (v := ?vap30318q17) rfl (by kernel_rfl) (by kernel_rfl) (by kernel_rfl) (fun _ _ _ h => h) (Or.inl ⟨by rfl, ?hap30318q17⟩) (by assumption) ?_
    case hap30318q17 => (intro w hSw; (try dsimp only at hSw); go_simp; try with_reducible rfl)
    try simp only [Act.put, List.setIfInBounds_toArray, List.set_cons_zero, List.set_cons_succ]
    refine wpAnyH_take (i := 18) (oi := ⟨_, _, _, _, _, _⟩) (v := ?vap30318q18) rfl (by kernel_rfl) (by kernel_rfl) (by kernel_rfl) (fun _ _ _ h => h) (Or.inl ⟨by rfl, ?hap30318q18⟩) (by assumption) ?_
    case hap30318q18 => (intro w hSw; (try dsimp only at hSw); go_simp; try with_reducible rfl)
    try simp only [Act.put, List.setIfInBounds_toArray, List.set_cons_zero, List.set_cons_succ]
    refine wpAnyH_take (i := 19) (oi := ⟨_, _, _, _, _, _⟩) (v := ?vap30318q19) rfl (by kernel_rfl) (by kernel_rfl) (by kernel_rfl) (fun _ _ _ h => h) (Or.inl ⟨by rfl, ?hap30318q19⟩) (by assumption) ?_
    case hap30318q19 => (intro w hSw; (try dsimp only at hSw); go_simp; try with_reducible rfl)
    try simp only [Act.put, List.setIfInBounds_toArray, List.set_cons_zero, List.set_cons_succ]
    refine wpAnyH_done (by kernel_rfl) ?_ _
    go_wp2_with fail
    go_ret
    exact ⟨ret_bool HF.out, HB.out.drew⟩
  · have HF : Hid (false = hasB (setZ zs) x y) := by unfold Hid; rw [hbit]; simp [hlt]
    have t0 : decide ((y : Int) < (zs.length : Int)) = false := by simp only [decide_eq_false_iff_not]; omega
    clear hbit
    go_enter Try.func142, Try.ntmps142
    go_upto_region 1 with (fail)
    rw [← HW.out]
    refine wp_region_held_drew (S := fun w' => w' = W.drew) (by kernel_rfl) (by rfl) (fun hHeld => ?_)
    refine wpAnyH_take (i := 0) (oi := ⟨_, _, _, _, _, _⟩) (v := ?vap30319q0) rfl (by kernel_rfl) (by kernel_rfl) (by kernel_rfl) (fun _ _ _ h => h) (Or.inl ⟨by rfl, ?hap30319q0⟩) (by assumption) ?_
    case hap30319q0 => (intro w hSw; (try dsimp only at hSw); go_simp; try with_reducible rfl)
    try simp only [Act.put, List.setIfInBounds_toArray, List.set_cons_zero, List.set_cons_succ]
    refine wpAnyH_take (i := 1) (oi := ⟨_, _, _, _, _, _⟩) (v := ?vap30319q1) rfl (by kernel_rfl) (by kernel_rfl) (by kernel_rfl) (fun _ _ _ h => h) (Or.inl ⟨by rfl, ?hap30319q1⟩) (by assumption) ?_
    case hap30319q1 => (intro w hSw; (try dsimp only at hSw); go_simp; try with_reducible rfl)
    try simp only [Act.put, List.setIfInBounds_toArray, List.set_cons_zero, List.set_cons_succ]
    refine wpAnyH_take (i := 2) (oi := ⟨_, _, _, _, _, _⟩) (v := ?vap30319q2) rfl (by kernel_rfl) (by kernel_rfl) (by kernel_rfl) (fun _ _ _ h => h) (Or.inl ⟨by rfl, ?hap30319q2⟩) (by assumption) ?_
    case hap30319q2 => (intro w hSw; (try dsimp only at hSw); go_simp; try with_reducible rfl)
    try simp only [Act.put, List.setIfInBounds_toArray, List.set_cons_zero, List.set_cons_succ]
    refine wpAnyH_take (i := 3) (oi := ⟨_, _, _, _, _, _⟩) (v := ?vap30319q3) rfl (by kernel_rfl) (by kernel_rfl) (by kernel_rfl) (fun _ _ _ h => h) (Or.inl ⟨by rfl, ?hap30319q3⟩) (by assumption) ?_
    case hap30319q3 => (intro w hSw; (try dsimp only at hSw); go_simp; try with_reducible rfl)
    try simp only [Act.put, List.setIfInBounds_toArray, List.set_cons_zero, List.set_cons_succ]
    refine wpAnyH_ready (rs := [4]) (by kernel_rfl) (by simp) ?_
    refine AllReadyH.cons (o := ⟨_, _, _, _, _, _⟩) rfl (fun K hK => ?_) AllReadyH.nil
    go_simp
    refine hK.out _ _ (by exact hHeld) (fun hHeld => ?_)
    clear hK K
    try simp only [Act.put, List.setIfInBounds_toArray, List.set_cons_zero, List.set_cons_succ]
    refine wpAnyH_take (i := 5) (oi := ⟨_, _, _, _, _, _⟩) (v := ?vap30319q5) rfl (by kernel_rfl) (by kernel_rfl) (by kernel_rfl) (fun _ _ _ h => h) (Or.inl ⟨by rfl, ?hap30319q5⟩) (by assumption) ?_
    case hap30319q5 => (intro w hSw; (try dsimp only at hSw); go_simp; try with_reducible rfl)
    try simp only [Act.put, List.setIfInBounds_toArray, List.set_cons_zero, List.set_cons_succ]
    refine wpAnyH_take (i := 6) (oi := ⟨_, _, _, _, _, _⟩) (v := ?vap30319q6) rfl (by kernel_rfl) (by kernel_rfl) (by kernel_rfl) (fun _ _ _ h => h) (Or.inl ⟨by rfl, ?hap30319q6⟩) (by assumption) ?_
    case hap30319q6 => (intro w hSw; (try dsimp only at hSw); go_simp; try with_reducible rfl)
    try simp only [Act.put, List.setIfInBounds_toArray, List.set_cons_zero, List.set_cons_succ]
    refine wpAnyH_take (i := 7) (oi := ⟨_, _, _, _, _, _⟩) (v := undef) rfl (by kernel_rfl) (by kernel_rfl) (by kernel_rfl) (fun _ _ _ h => h) (Or.inr ⟨by rfl, rfl⟩) (by assumption) ?_
    try simp only [Act.put, List.setIfInBounds_toArray, List.set_cons_zero, List.set_cons_succ]
    refine wpAnyH_take (i := 8) (oi := ⟨_, _, _, _, _, _⟩) (v := undef) rfl (by kernel_rfl) (by kernel_rfl) (by kernel_rfl) (fun _ _ _ h => h) (Or.inr ⟨by rfl, rfl⟩) (by assumption) ?_
    try simp only [Act.put, List.setIfInBounds_toArray, List.set_cons_zero, List.set_cons_succ]
    refine wpAnyH_take (i := 9) (oi := ⟨_, _, _, _, _, _⟩) (v := undef) rfl (by kernel_rfl) (by kernel_rfl) (by kernel_rfl) (fun _ _ _ h => h) (Or.inr ⟨by rfl, rfl⟩) (by assumption) ?_
    try simp only [Act.put, List.setIfInBounds_toArray, List.set_cons_zero, List.set_cons_succ]
    refine wpAnyH_take (i := 10) (oi := ⟨_, _, _, _, _, _⟩) (v := undef) rfl (by kernel_rfl) (by kernel_rfl) (by kernel_rfl) (fun _ _ _ h => h) (Or.inr ⟨by rfl, rfl⟩) (by assumption) ?_
    try simp only [Act.put, List.setIfInBounds_toArray, List.set_cons_zero, List.set_cons_succ]
    refine wpAnyH_take (i := 11) (oi := ⟨_, _, _, _, _, _⟩) (v := undef) rfl (by kernel_rfl) (by kernel_rfl) (by kernel_rfl) (fun _ _ _ h => h) (Or.inr ⟨by rfl, rfl⟩) (by assumption) ?_
    try simp only [Act.put, List.setIfInBounds_toArray, List.set_cons_zero, List.set_cons_succ]
    refine wpAnyH_take (i := 12) (oi := ⟨_, _, _, _, _, _⟩) (v := undef) rfl (by kernel_rfl) (by kernel_rfl) (by kernel_rfl) (fun _ _ _ h => h) (Or.inr ⟨by rfl, rfl⟩) (by assumption) ?_
    try simp only [Act.put, List.setIfInBounds_toArray, List.set_cons_zero, List.set_cons_succ]
    refine wpAnyH_take (i := 13) (oi := ⟨_, _, _, _, _, _⟩) (v := undef) rfl (by kernel_rfl) (by kernel_rfl) (by kernel_rfl) (fun _ _ _ h => h) (Or.inr ⟨by rfl, rfl⟩) (by assumption) ?_
    try simp only [Act.put, List.setIfInBounds_toArray, List.set_cons_zero, List.set_cons_succ]
    refine wpAnyH_take (i := 14) (oi := ⟨_, _, _, _, _, _⟩) (v := undef) rfl (by kernel_rfl) (by kernel_rfl) (by kernel_rfl) (fun _ _ _ h => h) (Or.inr ⟨by rfl, rfl⟩) (by assumption) ?_
    try simp only [Act.put, List.setIfInBounds_toArray, List.set_cons_zero, List.set_cons_succ]
    refine wpAnyH_take (i := 15) (oi := ⟨_, _, _, _, _, _⟩) (v := undef) rfl (by kernel_rfl) (by kernel_rfl) (by kernel_rfl) (fun _ _ _ h => h) (Or.inr ⟨by rfl, rfl⟩) (by assumption) ?_
    try simp only [Act.put, List.setIfInBounds_toArray, List.set_cons_zero, List.set_cons_succ]
    refine wpAnyH_take (i := 16) (oi := ⟨_, _, _, _, _, _⟩) (v := undef) rfl (by kernel_rfl) (by kernel_rfl) (by kernel_rfl) (fun _ _ _ h => h) (Or.inr ⟨by rfl, rfl⟩) (by assumption) ?_
    try simp only [Act.put, List.setIfInBounds_toArray, List.set_cons_zero, List.set_cons_succ]
    refine wpAnyH_take (i := 17) (oi := ⟨_, _, _, _, _, _⟩) (v := undef) rfl (by kernel_rfl) (by kernel_rfl) (by kernel_rfl) (fun _ _ _ h => h) (Or.inr ⟨by rfl, rfl⟩) (by assumption) ?_
    try simp only [Act.put, List.setIfInBounds_toArray, List.set_cons_zero, List.set_cons_succ]
    refine wpAnyH_take (i := 18) (oi := ⟨_, _, _, _, _, _⟩) (v := ?vap30319q18) rfl (by kernel_rfl) (by kernel_rfl) (by kernel_rfl) (fun _ _ _ h => h) (Or.inl ⟨by rfl, ?hap30319q18⟩) (by assumption) ?_
    case hap30319q18 => (intro w hSw; (try dsimp only at hSw); go_simp; try with_reducible rfl)
    try simp only [Act.put, List.setIfInBounds_toArray, List.set_cons_zero, List.set_cons_succ]
    refine wpAnyH_take (i := 19) (oi := ⟨_, _, _, _, _, _⟩) (v := ?vap30319q19) rfl (by kernel_rfl) (by kernel_rfl) (by kernel_rfl) (fun _ _ _ h => h) (Or.inl ⟨by rfl, ?hap30319q19⟩) (by assumption) ?_
    case hap30319q19 => (intro w hSw; (try dsimp only at hSw); go_simp; try with_reducible rfl)
    try simp only [Act.put, List.setIfInBounds_toArray, List.set_cons_zero, List.set_cons_succ]
    refine wpAnyH_done (by kernel_rfl) ?_ _
    go_wp2_with fail
    go_ret
    exact ⟨ret_bool HF.out, HB.out.drew⟩

set_option maxRecDepth 100000 in
theorem HasCell_yes (v : Value) (zs : List Int) (B : Nat) (w : World) (h : RdI w B v zs) (hB : B ≤ w.heap.size) (hok : regOkB zs = true) (x y : Nat) (hx : x ≤ 7) (hy : y ≤ 7) :
    Calls Try.prog 85 #[.agg #[v], spotV x y] w fun e w' => e = .returned (.bool (hasB (setZ zs) x y)) ∧ Below w.heap.size w w' := by
  have HU := Lib.hid h
  have HOK := Lib.hid hok
  have HHC := Lib.hid (fun V hV hB' => l03Has_yes v zs B V hV hB' hok x y hx hy)
  have hcok : spotB 7 (x : Int) (y : Int) = true := (spotB_iff _ _ _).2 ⟨by omega, by omega⟩
  generalize hasB (setZ zs) x y = r at *
  obtain ⟨A, c, rfl, h1, h2, hR⟩ := h
  unfold maxLen at h2
  obtain ⟨W, hW, k1, k2, hb⟩ := two_alloc w (.cells #[.slice A zs.length c] 39) (.cells #[.int .i64 (x : Int), .int .i64 (y : Int)] 44)
  have c0 : W.cell? ⟨w.heap.size, 0, none⟩ = some (.slice A zs.length c) := by rw [blk_cell k1]; rfl
  have K1 := Lib.hid k1
  have K2 := Lib.hid k2
  have HB := Lib.hid hb
  have HW := Lib.hid hW
  clear hW k1 k2 hb hR hok
  go_enter Try.func85, Try.ntmps85
  go_upto_region 1 with (fail)
  rw [← HW.out]
  go_wp2_with fail
  refine (specRegionOk_yes _ zs B _ (HU.out.below (HB.out.mono hB)) (Nat.le_trans hB HB.out.size) HOK.out).mono ?_
  rintro e w3 ⟨rfl, hb3⟩
  have HB3 := Lib.hid (HB.out.trans (hb3.mono HB.out.size))
  have K13 := Lib.hid (blk_below K1.out hb3)
  have K23 := Lib.hid (blk_below K2.out hb3)
  have d1 : w3.cell? ⟨w.heap.size + 1, 0, none⟩ = some (.int .i64 (x : Int)) := by rw [blk_cell K23.out]; rfl
  have d2 : w3.cell? ⟨w.heap.size + 1, 1, none⟩ = some (.int .i64 (y : Int)) := by rw [blk_cell K23.out]; rfl
  clear hb3 c0
  go_wp2_with fail
  refine (specCellOk_any _ _ _).mono ?_
  rintro e w4 ⟨rfl, hb4⟩
  rw [hcok]
  have HB4 := Lib.hid (HB3.out.trans (hb4.mono HB3.out.size))
  have K14 := Lib.hid (blk_below K13.out hb4)
  have K24 := Lib.hid (blk_below K23.out hb4)
  have c4 : w4.cell? ⟨w.heap.size, 0, none⟩ = some (.slice A zs.length c) := by rw [blk_cell K14.out]; rfl
  have e1 : w4.cell? ⟨w.heap.size + 1, 0, none⟩ = some (.int .i64 (x : Int)) := by rw [blk_cell K24.out]; rfl
  have e2 : w4.cell? ⟨w.heap.size + 1, 1, none⟩ = some (.int .i64 (y : Int)) := by rw [blk_cell K24.out]; rfl
  clear hb4 d1 d2
  go_wp2_with fail
  refine (HHC.out _ (HU.out.below (HB4.out.mono hB)) (Nat.le_trans hB HB4.out.size)).mono ?_
  rintro e w5 ⟨rfl, hb5⟩
  have HB5 := Lib.hid (HB4.out.trans (hb5.mono HB4.out.size))
  clear hb5
  go_wp2_with fail
  go_ret
  exact ⟨rfl, HB5.out⟩

set_option maxRecDepth 100000 in
theorem CellAt_yes (k : Nat) (hk : k ≤ 63) (w : World) :
    Calls Try.prog 113 #[.int .i64 (k : Int)] w fun e w' => e = .returned (.tuple #[spotV ((k % 8 : Nat) : Int) ((k / 8 : Nat) : Int), .bool true]) ∧ Below w.heap.size w w' := by
  have t0 : inB (k : Int) 0 63 = true := inB_true (by omega) (by omega)
  have e1 : (k : Int) % 8 = ((k % 8 : Nat) : Int) := by omega
  have e2 : (k : Int) / 8 = ((k / 8 : Nat) : Int) := by omega
  have hb1 : k / 8 ≤ 7 := by omega
  generalize k % 8 = x at *
  generalize k / 8 = y at *
  obtain ⟨W, hW, k1, hb⟩ := one_alloc w (.cells #[.int .i64 0, .int .i64 0] 44)
  have c0 : W.cell? ⟨w.heap.size, 0, none⟩ = some (.int .i64 0) := by rw [blk_cell k1]; rfl
  have c1 : W.cell? ⟨w.heap.size, 1, none⟩ = some (.int .i64 0) := by rw [blk_cell k1]; rfl
  have f0 : ∀ o, W.frozen? ⟨w.heap.size, o, none⟩ = false := fun o => blk_free k1
  have HX : Hid (∀ X, X = (W.setCell ⟨w.heap.size, 0, none⟩ (.int .i64 (x : Int))).setCell ⟨w.heap.size, 1, none⟩ (.int .i64 (y : Int)) → X.cell? ⟨w.heap.size, 0, none⟩ = some (.int .i64 (x : Int)) ∧ X.cell? ⟨w.heap.size, 1, none⟩ = some (.int .i64 (y : Int)) ∧ Below w.heap.size w X) := by
    rintro X rfl
    have h1 := blk_setCell (k := 1) (blk_setCell (k := 0) k1 (.int .i64 (x : Int))) (.int .i64 (y : Int))
    exact ⟨by rw [blk_cell h1]; rfl, by rw [blk_cell h1]; rfl, (hb.setCell (Nat.le_refl _) _).setCell (Nat.le_refl _) _⟩
  have HW := Lib.hid hW
  clear hW k1 hb
  go_enter Try.func113, Try.ntmps113
  go_upto_region 1 with (fail)
  rw [← HW.out]
  go_wp2_with fail
  refine (l01In_any _ _ _ _).mono ?_
  rintro e w' ⟨rfl, rfl⟩
  rw [t0]
  go_wp2_with fail
  generalize hX : (W.setCell ⟨w.heap.size, 0, none⟩ (.int .i64 (x : Int))).setCell ⟨w.heap.size, 1, none⟩ (.int .i64 (y : Int)) = X
  obtain ⟨r0, r1, r2⟩ := HX.out X hX.symm
  refine bodyPost_ret (v := .tuple #[spotV (x : Int) (y : Int), .bool true]) (by simp [results, Try.results113, go_sem, r0, r1]) rfl ⟨rfl, r2⟩
end Go.Proofs.Ytehnbalbpfmijaa

namespace Go.Proofs.Ytehnbalbpfmijaa
open Go.RowKit
set_option linter.unusedVariables false

/-- How many of the first n numbers are in a set. -/
def cntB (T : Nat) : Nat → Nat
  | 0 => 0
  | n + 1 => cntB T n + (if T.testBit n then 1 else 0)
theorem cntB_le (T : Nat) : ∀ n, cntB T n ≤ n
  | 0 => Nat.le_refl _
  | n + 1 => by have := cntB_le T n; rw [cntB]; split <;> omega
/-- The cells of a set, in order. -/
def cellsTo (T : Nat) : Nat → List (Int × Int)
  | 0 => []
  | n + 1 => cellsTo T n ++ (if T.testBit n then [(((n % 8 : Nat) : Int), ((n / 8 : Nat) : Int))] else [])
theorem cellsTo_len (T : Nat) : ∀ n, (cellsTo T n).length = cntB T n
  | 0 => rfl
  | n + 1 => by rw [cellsTo, List.length_append, cellsTo_len T n, cntB]; split <;> rfl

set_option maxRecDepth 100000 in
set_option maxHeartbeats 2000000 in
theorem CellsOf_list (v : Value) (zs : List Int) (B : Nat) (w : World) (h : RdI w B v zs) (hB : B ≤ w.heap.size) (hok : regOkB zs = true) :
    Calls Try.prog 88 #[.agg #[v]] w fun e w' => ∃ u, e = .returned u ∧ OwnF elCell w' w.heap.size u (cellsTo (setZ zs) 64) ∧ Below w.heap.size w w' := by
  have HU := Lib.hid h
  have HOK := Lib.hid hok
  have HHC := Lib.hid (fun x y hx hy V hV hB' => l03Has_yes v zs B V hV hB' hok x y hx hy)
  obtain ⟨A, c, rfl, h1, h2, hR⟩ := h
  unfold maxLen at h2
  obtain ⟨W, hW, k1, hb⟩ := one_alloc w (.cells #[.slice A zs.length c] 39)
  have K1 := Lib.hid k1
  have L1 := Lib.hid (lt_of_block k1)
  have HB := Lib.hid hb
  have HW := Lib.hid hW
  have HUW := Lib.hid (HU.out.below (hb.mono hB))
  have hBW : B ≤ W.heap.size := Nat.le_trans hB hb.size
  have HS0 : Hid (Acc elCell W W.heap.size (W.alloc (.cells #[] 44)) (.slice (some ⟨W.heap.size, 0, none⟩) 0 0) []) := Acc.start W
  clear hW k1 hb hR hok
  go_enter Try.func88, Try.ntmps88
  go_upto_region 1 with (fail)
  rw [← HW.out]
  go_wp2_with fail
  go_loopw [3, 4] (fun o i wr => ∃ (k : Nat) (v : Value) (cs : List (Int × Int)), k ≤ 64 ∧ i = .int .i64 k ∧ v = o ∧ cs.length = cntB (setZ zs) k ∧ Hid (cs = cellsTo (setZ zs) k) ∧ Hid (Acc elCell W W.heap.size wr v cs)) (fun _ i _ => 64 - (intOf i).toNat)
  case atStart => exact ⟨0, _, [], Nat.zero_le _, rfl, rfl, rfl, rfl, HS0⟩
  case round =>
    obtain ⟨k, v, cs, hk, rfl, rfl, hcs, HCS, HA⟩ := hrel
    obtain ⟨A1, ca, hv, q1, q2, _⟩ := HA.out.1.rd okCell
    subst hv
    unfold maxLen at q2
    have HC := Lib.hid hcs
    have HLE := Lib.hid (cntB_le (setZ zs) k)
    have HBW := Lib.hid HA.out.2.1
    have c0 : wr.cell? ⟨w.heap.size, 0, none⟩ = some (.slice A zs.length c) := by rw [blk_cell (blk_below K1.out HBW.out)]; rfl
    have hcl : cs.length ≤ 64 := by have := HLE.out; omega
    by_cases hlt : k < 64
    · have ht : decide ((k : Int) < 64) = true := by simp only [decide_eq_true_eq]; omega
      clear hcs
      go_wp2_with fail
      refine (specRegionOk_yes _ zs B _ (HUW.out.below (HBW.out.mono hBW)) (Nat.le_trans hBW HBW.out.size) HOK.out).mono ?_
      rintro e w3 ⟨rfl, hb3⟩
      have HA3 := Lib.hid (HA.out.below hb3)
      clear hb3 c0
      go_wp2_with fail
      refine (CellAt_yes k (by omega) _).mono ?_
      rintro e w4 ⟨rfl, hb4⟩
      have HA4 := Lib.hid (HA3.out.below hb4)
      clear hb4
      have hx8 : k % 8 ≤ 7 := by omega
      have hy8 : k / 8 ≤ 7 := by omega
      have HXY : Hid (cix (k % 8) (k / 8) = k) := by unfold Hid cix; omega
      have HCN : Hid (cntB (setZ zs) (k + 1) = cntB (setZ zs) k + (if hasB (setZ zs) (k % 8) (k / 8) then 1 else 0)) := by unfold Hid hasB; rw [HXY.out]; rfl
      have HCT : Hid (cellsTo (setZ zs) (k + 1) = cellsTo (setZ zs) k ++ (if hasB (setZ zs) (k % 8) (k / 8) then [(((k % 8 : Nat) : Int), ((k / 8 : Nat) : Int))] else [])) := by unfold Hid hasB; rw [HXY.out]; rfl
      generalize k % 8 = x at *
      generalize k / 8 = y at *
      go_upto_region 6 with (fail)
      obtain ⟨X, hX, kx, hbx⟩ := one_alloc w4 (.cells #[.int .i64 (x : Int), .int .i64 (y : Int)] 44)
      rw [← hX]
      have HA5 := Lib.hid (HA4.out.below hbx)
      have e1 : X.cell? ⟨w4.heap.size, 0, none⟩ = some (.int .i64 (x : Int)) := by rw [blk_cell kx]; rfl
      have e2 : X.cell? ⟨w4.heap.size, 1, none⟩ = some (.int .i64 (y : Int)) := by rw [blk_cell kx]; rfl
      have c5 : X.cell? ⟨w.heap.size, 0, none⟩ = some (.slice A zs.length c) := by rw [blk_cell (blk_below K1.out HA5.out.2.1)]; rfl
      have KX := Lib.hid kx
      clear hX kx hbx
      go_wp2_with fail
      refine (HHC.out x y hx8 hy8 _ (HUW.out.below (HA5.out.2.1.mono hBW)) (Nat.le_trans hBW HA5.out.2.1.size)).mono ?_
      rintro e w6 ⟨rfl, hb6⟩
      have HA6 := Lib.hid (HA5.out.below hb6)
      have kx6 := blk_below KX.out hb6
      have g1 : w6.cell? ⟨w4.heap.size, 0, none⟩ = some (.int .i64 (x : Int)) := by rw [blk_cell kx6]; rfl
      have g2 : w6.cell? ⟨w4.heap.size, 1, none⟩ = some (.int .i64 (y : Int)) := by rw [blk_cell kx6]; rfl
      clear hb6 e1 e2 c5 kx6
      cases hh : hasB (setZ zs) x y
      · have HN : Hid (cs.length = cntB (setZ zs) (k + 1)) := by unfold Hid; rw [HCN.out, hh]; exact HC.out
        have HC2 : Hid (cs = cellsTo (setZ zs) (k + 1)) := by unfold Hid; rw [HCT.out, hh, HCS.out]; simp
        clear HCN hh
        go_wp2_with fail
        go_roundw
        case rel => exact ⟨k + 1, _, cs, by omega, by go_num, rfl, HN.out, HC2, HA6⟩
        case measure => simp [intOf]; omega
      · have HN : Hid (cs.length + 1 = cntB (setZ zs) (k + 1)) := by unfold Hid; rw [HCN.out, hh, HC.out]; rfl
        have HC2 : Hid (cs ++ [((x : Int), (y : Int))] = cellsTo (setZ zs) (k + 1)) := by unfold Hid; rw [HCT.out, hh, HCS.out]; rfl
        clear HCN hh
        go_wp2_with (at_builtin; refine wpList_push okCell rfl _ _ rfl HA6.out rfl ((x : Int), (y : Int)) _ rfl _ rfl (by simp) (by omega) ?_; intro u2 w7 HA7 HG7; obtain ⟨A7, c7, hu7, _⟩ := HA7.out.1.rd okCell; rw [List.length_append, List.length_singleton] at hu7; rw [hu7] at HA7; rw [hu7]; clear hu7 HG7)
        go_roundw
        case rel => exact ⟨k + 1, _, _, by omega, by go_num, rfl, by (rw [List.length_append, List.length_singleton]; exact HN.out), HC2, HA7⟩
        case measure => simp [intOf]; omega
    · have HK : Hid (cs = cellsTo (setZ zs) 64) := by unfold Hid; rw [HCS.out, show k = 64 by omega]
      have ht : decide ((k : Int) < 64) = false := by simp only [decide_eq_false_iff_not]; omega
      have HQ := Lib.hid (HB.out.trans (HBW.out.mono HB.out.size))
      clear hcs
      go_wp2_with fail
      go_ret
      exact ⟨_, rfl, by rw [← HK.out]; exact HA.out.1.mono HB.out.size, HQ.out⟩
theorem CellsOf_yes (v : Value) (zs : List Int) (B : Nat) (w : World) (h : RdI w B v zs) (hB : B ≤ w.heap.size) (hok : regOkB zs = true) :
    Calls Try.prog 88 #[.agg #[v]] w fun e w' => ∃ A c, e = .returned (.slice A (cntB (setZ zs) 64) c) ∧ Below w.heap.size w w' := by
  refine (CellsOf_list v zs B w h hB hok).mono ?_
  rintro e w' ⟨u, rfl, ho, hb⟩
  obtain ⟨A, c, rfl, _⟩ := ho.rd okCell
  rw [cellsTo_len]
  exact ⟨A, c, rfl, hb⟩

theorem CountCells_yes (v : Value) (zs : List Int) (B : Nat) (w : World) (h : RdI w B v zs) (hB : B ≤ w.heap.size) (hok : regOkB zs = true) :
    Calls Try.prog 26 #[.agg #[v]] w fun e w' => e = .returned (.int .i64 ((cntB (setZ zs) 64 : Nat) : Int)) ∧ Below w.heap.size w w' := by
  have HU := Lib.hid h
  have HOK := Lib.hid hok
  have HLE := Lib.hid (cntB_le (setZ zs) 64)
  obtain ⟨A, c, rfl, h1, h2, hR⟩ := h
  unfold maxLen at h2
  obtain ⟨W, hW, k1, hb⟩ := one_alloc w (.cells #[.slice A zs.length c] 39)
  have c0 : W.cell? ⟨w.heap.size, 0, none⟩ = some (.slice A zs.length c) := by rw [blk_cell k1]; rfl
  have HB := Lib.hid hb
  have HW := Lib.hid hW
  clear hW k1 hb hR hok
  go_enter Try.func26, Try.ntmps26
  go_upto_region 1 with (fail)
  rw [← HW.out]
  go_wp2_with fail
  refine (CellsOf_yes _ zs B _ (HU.out.below (HB.out.mono hB)) (Nat.le_trans hB HB.out.size) HOK.out).mono ?_
  rintro e w3 ⟨A3, c3, rfl, hb3⟩
  have HB3 := Lib.hid (HB.out.trans (hb3.mono HB.out.size))
  clear hb3
  go_wp2_with fail
  go_ret
  exact ⟨rfl, HB3.out⟩
end Go.Proofs.Ytehnbalbpfmijaa
