/- What the claim's walk rests on: parts Num, SDom, Over, SortL, Duo, SReg. -/
import Derived.Test.YtehnbalbpfmijaaGreatDoorKb3
import Derived.Test.YtehnbalbpfmijaaGreatDoorKb5
import Derived.Test.YtehnbalbpfmijaaGreatDoorKb1
import Derived.Deep.Cut
import Derived.Deep.RegionHeld3
namespace Go.Proofs.YtehnbalbpfmijaaGreatDoor
open Go.RowKit

section
variable {α : Type} (sz : α → Nat) (mk : Int → α → α)
/-- How many numbers stand ahead of the i-th element. -/
def cntTo (xs : List α) : Nat → Nat
  | 0 => 0
  | i + 1 => cntTo xs i + (xs[i]?.elim 0 sz)
/-- The first j elements marked. -/
def mixN (k : Int) (xs : List α) (j : Nat) : List α := xs.mapIdx fun i x => if i < j then mk (k + (cntTo sz xs i : Int)) x else x
def iotaN (k : Int) (xs : List α) : List α := xs.mapIdx fun i x => mk (k + (cntTo sz xs i : Int)) x
variable {sz mk}
theorem cntTo_mono (xs : List α) (i : Nat) : ∀ n, i ≤ n → cntTo sz xs i ≤ cntTo sz xs n := by
  intro n
  induction n with
  | zero => intro h; obtain rfl : i = 0 := by omega
            exact Nat.le_refl _
  | succ n ih => intro h
                 by_cases e : i = n + 1
                 · subst e; exact Nat.le_refl _
                 · exact Nat.le_trans (ih (by omega)) (Nat.le_add_right _ _)
theorem cntTo_succ (xs : List α) (i : Nat) (h : i < xs.length) : cntTo sz xs (i + 1) = cntTo sz xs i + sz xs[i] := by
  simp [cntTo, h]
theorem mixN_length (k : Int) (xs : List α) (j : Nat) : (mixN sz mk k xs j).length = xs.length := by simp [mixN]
theorem iotaN_length (k : Int) (xs : List α) : (iotaN sz mk k xs).length = xs.length := by simp [iotaN]
theorem mixN_at (k : Int) (xs : List α) (j : Nat) (h : j < xs.length) : (mixN sz mk k xs j)[j]? = some xs[j] := by simp [mixN, h]
theorem iotaN_at (k : Int) (xs : List α) (j : Nat) (h : j < xs.length) : (iotaN sz mk k xs)[j]? = some (mk (k + (cntTo sz xs j : Int)) xs[j]) := by simp [iotaN, h]
theorem mixN_zero (k : Int) (xs : List α) : mixN sz mk k xs 0 = xs := by
  apply List.ext_getElem
  · simp [mixN]
  · intro i h1 h2; simp [mixN]
theorem mixN_all (k : Int) (xs : List α) : mixN sz mk k xs xs.length = iotaN sz mk k xs := by
  apply List.ext_getElem
  · simp [mixN, iotaN]
  · intro i h1 h2
    have : i < xs.length := by simpa [iotaN] using h2
    simp [mixN, iotaN, this]
theorem mixN_set (k : Int) (xs : List α) (j : Nat) (h : j < xs.length) : (mixN sz mk k xs j).set j (mk (k + (cntTo sz xs j : Int)) xs[j]) = mixN sz mk k xs (j + 1) := by
  apply List.ext_getElem
  · simp [mixN]
  · intro i h1 h2
    rw [List.getElem_set]
    by_cases e : j = i
    · subst e; simp [mixN]
    · by_cases e2 : i < j
      · simp [mixN, e, e2, show i < j + 1 by omega]
      · simp [mixN, e, e2, show ¬ i < j + 1 by omega]
end
theorem RdN.open_ {α : Type} {R : World → Nat → Value → α → Prop} {w : World} {B : Nat} {v : Value} {xs : List α} (h : RdN R w B v xs) : ∃ A c, v = .slice A xs.length c ∧ xs.length ≤ c ∧ c ≤ maxLen ∧ ∀ i, (hi : i < xs.length) → ∃ (ad : Addr) (s : Sl), A = some ad ∧ ad.block < B ∧ w.cell? (ad.add i) = some (slV s) ∧ R w B (slV s) xs[i] := by
  obtain ⟨A, c, e, h1, h2, h3⟩ := h
  exact ⟨A, c, e, h1, h2, fun i hi => h3 i _ (List.getElem?_eq_getElem hi)⟩
end Go.Proofs.YtehnbalbpfmijaaGreatDoor

namespace Go.Proofs.YtehnbalbpfmijaaGreatDoor
open Go.RowKit
set_option linter.unusedVariables false

theorem specCellOk_any (x y : Int) (w : World) :
    Calls Tryz.prog 52 #[spotV x y] w fun e w' => e = .returned (.bool (spotB 7 x y)) ∧ Below w.heap.size w w' := by
  cases h1 : inB x 0 7 <;> cases h2 : inB y 0 7
  all_goals
    go_enter Tryz.func52, Tryz.ntmps52
    go_wp2_with (go_at_call 26; refine (l01In_any _ _ _ _).mono ?_; rintro e w' ⟨rfl, rfl⟩)
    go_ret
    exact ⟨by simp [spotB, h1, h2], (Below.refl _ _).alloc (by simp) _⟩

theorem specCellIndex_yes (x y : Nat) (hx : x ≤ 7) (hy : y ≤ 7) (w : World) :
    Calls Tryz.prog 47 #[spotV x y] w fun e w' => e = .returned (.int .i64 (cix x y : Nat)) ∧ Below w.heap.size w w' := by
  have hok : spotB 7 x y = true := (spotB_iff _ _ _).2 ⟨by omega, by omega⟩
  have HE : Hid ((y : Int) * 8 + (x : Int) = ((cix x y : Nat) : Int)) := by unfold Hid cix; omega
  go_enter Tryz.func47, Tryz.ntmps47
  go_wp2_with fail
  refine (specCellOk_any _ _ _).mono ?_
  rintro e w1 ⟨rfl, hb1⟩
  rw [hok]
  obtain ⟨hc, hf⟩ := bcell hb1
  go_wp2_with fail
  go_ret
  exact ⟨ret_int HE.out, ((Below.refl _ _).alloc (Nat.le_refl _) _).trans (hb1.mono (by simp))⟩

set_option maxRecDepth 100000 in
set_option maxHeartbeats 1000000 in
theorem l05Second_any (x y : Int) (d : Bool) (w : World) :
    Calls Tryz.prog 72 #[triV x y d] w fun e w' => e = .returned (spotV (sndX x d) (sndY y d)) ∧ Below w.heap.size w w' := by
  have hx1 : IntKind.i64.wrap (x + 1) = sndX x false := by rw [IntWalk.i64_left]; rfl
  have hy1 : IntKind.i64.wrap (y + 1) = sndY y true := by rw [IntWalk.i64_left]; rfl
  have HX0 : Hid (sndX x true = x) := rfl
  have HY0 : Hid (sndY y false = y) := rfl
  obtain ⟨W, hW, k0, k1, hb⟩ := two_alloc w (.cells #[.int .i64 x, .int .i64 y, .bool d] 51) (.cells #[.int .i64 0, .int .i64 0] 44)
  have c0 : W.cell? ⟨w.heap.size, 0, none⟩ = some (.int .i64 x) := by rw [blk_cell k0]; rfl
  have c1 : W.cell? ⟨w.heap.size, 1, none⟩ = some (.int .i64 y) := by rw [blk_cell k0]; rfl
  have c2 : W.cell? ⟨w.heap.size, 2, none⟩ = some (.bool d) := by rw [blk_cell k0]; rfl
  have d0 : W.cell? ⟨w.heap.size + 1, 0, none⟩ = some (.int .i64 0) := by rw [blk_cell k1]; rfl
  have d1 : W.cell? ⟨w.heap.size + 1, 1, none⟩ = some (.int .i64 0) := by rw [blk_cell k1]; rfl
  have f0 : ∀ o, W.frozen? ⟨w.heap.size + 1, o, none⟩ = false := fun o => blk_free k1
  have HS : Hid (∀ p q, let X := (W.setCell ⟨w.heap.size + 1, 0, none⟩ p).setCell ⟨w.heap.size + 1, 1, none⟩ q; X.cell? ⟨w.heap.size + 1, 0, none⟩ = some p ∧ X.cell? ⟨w.heap.size + 1, 1, none⟩ = some q ∧ Below w.heap.size w X) := fun p q => by
    have h1 := blk_setCell (k := 1) (blk_setCell (k := 0) k1 p) q
    exact ⟨by rw [blk_cell h1]; rfl, by rw [blk_cell h1]; rfl, (hb.setCell (by show w.heap.size ≤ w.heap.size + 1; omega) _).setCell (by show w.heap.size ≤ w.heap.size + 1; omega) _⟩
  have HW := Lib.hid hW
  clear hW k0 k1 hb
  cases d
  · go_enter Tryz.func72, Tryz.ntmps72
    go_upto_region 1 with (fail)
    rw [← HW.out]
    go_wp2_with fail
    obtain ⟨r0, r1, r2⟩ := HS.out (.int .i64 (sndX x false)) (.int .i64 y)
    refine bodyPost_ret (v := spotV (sndX x false) (sndY y false)) (by simp [results, Tryz.results72, go_sem, r0, r1, HY0.out]) rfl ⟨rfl, r2⟩
  · go_enter Tryz.func72, Tryz.ntmps72
    go_upto_region 1 with (fail)
    rw [← HW.out]
    go_wp2_with fail
    obtain ⟨r0, r1, r2⟩ := HS.out (.int .i64 x) (.int .i64 (sndY y true))
    refine bodyPost_ret (v := spotV (sndX x true) (sndY y true)) (by simp [results, Tryz.results72, go_sem, r0, r1, HX0.out]) rfl ⟨rfl, r2⟩

set_option maxRecDepth 100000 in
set_option maxHeartbeats 1000000 in
theorem specDominoOk_any (x y : Int) (d : Bool) (w : World) :
    Calls Tryz.prog 43 #[triV x y d] w fun e w' => e = .returned (.bool (domB x y d)) ∧ Below w.heap.size w w' := by
  have HF : Hid ((spotB 7 x y && spotB 7 (sndX x d) (sndY y d)) = domB x y d) := rfl
  generalize domB x y d = r at *
  obtain ⟨W, hW, k1, hb⟩ := one_alloc w (triO x y d 51)
  have HW := Lib.hid hW
  have hT0 := OneT.of k1
  have HT0 := Lib.hid hT0
  obtain ⟨f0, f1, f2, _⟩ := hT0
  have HB := Lib.hid hb
  have HLS := Lib.hid (fun V => l05Second_any x y d V)
  clear hW hb
  generalize hx2 : sndX x d = x2 at *
  generalize hy2 : sndY y d = y2 at *
  clear hx2 hy2
  cases c1 : spotB 7 x y
  · have HQ : Hid (false = r) := by unfold Hid; rw [← HF.out, c1]; rfl
    go_enter Tryz.func43, Tryz.ntmps43
    go_upto_region 1 with (fail)
    rw [← HW.out]
    go_wp2_with fail
    refine (specCellOk_any _ _ _).mono ?_
    rintro e w3 ⟨rfl, hb3⟩
    rw [c1]
    go_wp2_with fail
    go_ret
    exact ⟨ret_bool HQ.out, HB.out.trans (hb3.mono HB.out.size)⟩
  · obtain ⟨b, hbb⟩ : ∃ b, spotB 7 x2 y2 = b := ⟨_, rfl⟩
    have HQ : Hid (b = r) := by unfold Hid; rw [← HF.out, c1, hbb]; rfl
    have HBB := Lib.hid hbb
    have K1 := Lib.hid k1
    clear HF hbb k1
    go_enter Tryz.func43, Tryz.ntmps43
    go_upto_region 1 with (fail)
    rw [← HW.out]
    go_wp2_with fail
    refine (specCellOk_any _ _ _).mono ?_
    rintro e w3 ⟨rfl, hb3⟩
    rw [c1]
    have hT3 := OneT.keep hb3 (lt_of_block K1.out) HT0.out
    obtain ⟨g0, g1, g2, _⟩ := hT3
    have HB3 := Lib.hid (HB.out.trans (hb3.mono HB.out.size))
    clear f0 f1 f2 hb3
    go_wp2_with fail
    refine (HLS.out _).mono ?_
    rintro e w4 ⟨rfl, hb4⟩
    have HB4 := Lib.hid (HB3.out.trans (hb4.mono HB3.out.size))
    go_wp2_with fail
    refine (specCellOk_any _ _ _).mono ?_
    rintro e w5 ⟨rfl, hb5⟩
    rw [HBB.out]
    go_wp2_with fail
    go_ret
    exact ⟨ret_bool HQ.out, HB4.out.trans (hb5.mono HB4.out.size)⟩
end Go.Proofs.YtehnbalbpfmijaaGreatDoor

namespace Go.Proofs.YtehnbalbpfmijaaGreatDoor
open Go.RowKit
set_option linter.unusedVariables false

theorem domLt_eq (x y x' y' : Nat) (d d' : Bool) (h : domB x y d = true) (h' : domB x' y' d' = true) : domLt (x, y, d) (x', y', d') = (decide (cix x y < cix x' y') || (decide (cix x y = cix x' y') && (!d && d'))) := by
  have hl : ∀ (a b : Nat) (d : Bool), domO ((a : Int)).toNat ((b : Int)).toNat d = 2 * cix a b + if d then 1 else 0 := fun a b d => by simp [domO]
  unfold domLt
  simp only [h, h', Bool.true_and, hl]
  rw [Bool.eq_iff_iff]
  simp only [decide_eq_true_eq, Bool.or_eq_true, Bool.and_eq_true, Bool.not_eq_true']
  cases d <;> cases d' <;> simp <;> omega

set_option maxRecDepth 100000 in
set_option maxHeartbeats 2000000 in
theorem specBefore_any (x y : Int) (d : Bool) (x' y' : Int) (d' : Bool) (w : World) :
    Calls Tryz.prog 44 #[triV x y d, triV x' y' d'] w fun e w' => e = .returned (.bool (domLt (x, y, d) (x', y', d'))) ∧ Below w.heap.size w w' := by
  obtain ⟨W, hW, k1, k2, hb⟩ := two_alloc w (triO x y d 51) (triO x' y' d' 51)
  have HW := Lib.hid hW
  have HT0 := Lib.hid (TwoT.of (w := w) (p := (x, y, d)) (q := (x', y', d')) k1 k2)
  have L1 := Lib.hid (lt_of_block k1)
  have L2 := Lib.hid (lt_of_block k2)
  have HB := Lib.hid hb
  clear hW hb k1 k2
  cases c1 : domB x y d
  · have HF : Hid (false = domLt (x, y, d) (x', y', d')) := by unfold Hid domLt; simp [c1]
    obtain ⟨f0, f1, f2, _⟩ := HT0.out
    go_enter Tryz.func44, Tryz.ntmps44
    go_upto_region 1 with (fail)
    rw [← HW.out]
    go_wp2_with fail
    refine (specDominoOk_any _ _ _ _).mono ?_
    rintro e w3 ⟨rfl, hb3⟩
    rw [c1]
    go_wp2_with fail
    go_ret
    exact ⟨ret_bool HF.out, HB.out.trans (hb3.mono HB.out.size)⟩
  · cases c2 : domB x' y' d'
    · have HF : Hid (false = domLt (x, y, d) (x', y', d')) := by unfold Hid domLt; simp [c1, c2]
      obtain ⟨f0, f1, f2, _⟩ := HT0.out
      go_enter Tryz.func44, Tryz.ntmps44
      go_upto_region 1 with (fail)
      rw [← HW.out]
      go_wp2_with fail
      refine (specDominoOk_any _ _ _ _).mono ?_
      rintro e w3 ⟨rfl, hb3⟩
      rw [c1]
      have HB3 := Lib.hid (HB.out.trans (hb3.mono HB.out.size))
      obtain ⟨_, _, _, g0, g1, g2, _⟩ := TwoT.keep hb3 L1.out L2.out HT0.out
      go_wp2_with fail
      refine (specDominoOk_any _ _ _ _).mono ?_
      rintro e w4 ⟨rfl, hb4⟩
      rw [c2]
      go_wp2_with fail
      go_ret
      exact ⟨ret_bool HF.out, HB3.out.trans (hb4.mono HB3.out.size)⟩
    · have hd := (domB_iff _ _ _).1 c1
      have hd' := (domB_iff _ _ _).1 c2
      obtain ⟨a, rfl⟩ := Int.eq_ofNat_of_zero_le hd.1.1
      obtain ⟨b, rfl⟩ := Int.eq_ofNat_of_zero_le hd.1.2
      obtain ⟨a', rfl⟩ := Int.eq_ofNat_of_zero_le hd'.1.1
      obtain ⟨b', rfl⟩ := Int.eq_ofNat_of_zero_le hd'.1.2
      have HF := Lib.hid (domLt_eq a b a' b' d d' c1 c2)
      have hA : a ≤ 7 ∧ b ≤ 7 := by cases d <;> simp at hd <;> omega
      have hA' : a' ≤ 7 ∧ b' ≤ 7 := by cases d' <;> simp at hd' <;> omega
      have e1 : (b : Int) * 8 + (a : Int) = ((cix a b : Nat) : Int) := by unfold cix; omega
      have e2 : (b' : Int) * 8 + (a' : Int) = ((cix a' b' : Nat) : Int) := by unfold cix; omega
      have e3 : cix a b ≤ 63 ∧ cix a' b' ≤ 63 := by unfold cix; omega
      have C1 := Lib.hid c1; have C2 := Lib.hid c2
      clear hd hd' c1 c2
      generalize cix a b = p at *
      generalize cix a' b' = q at *
      obtain ⟨f0, f1, f2, f3, f4, f5, _⟩ := HT0.out
      go_enter Tryz.func44, Tryz.ntmps44
      go_upto_region 1 with (fail)
      rw [← HW.out]
      go_wp2_with fail
      refine (specDominoOk_any _ _ _ _).mono ?_
      rintro e w3 ⟨rfl, hb3⟩
      rw [C1.out]
      have HB3 := Lib.hid (HB.out.trans (hb3.mono HB.out.size))
      have HT3 := Lib.hid (TwoT.keep hb3 L1.out L2.out HT0.out)
      obtain ⟨g0, g1, g2, g3, g4, g5, _⟩ := HT3.out
      clear f0 f1 f2 f3 f4 f5 hb3
      go_wp2_with fail
      refine (specDominoOk_any _ _ _ _).mono ?_
      rintro e w4 ⟨rfl, hb4⟩
      rw [C2.out]
      have HB4 := Lib.hid (HB3.out.trans (hb4.mono HB3.out.size))
      obtain ⟨i0, i1, i2, i3, i4, i5, _⟩ := TwoT.keep hb4 L1.out L2.out HT3.out
      clear g0 g1 g2 g3 g4 g5 hb4
      rcases Nat.lt_trichotomy p q with hl | hl | hl
      · have HR : Hid (true = domLt (a, b, d) (a', b', d')) := by unfold Hid; rw [HF.out]; simp [hl]
        go_wp2_with fail
        go_ret
        exact ⟨ret_bool HR.out, HB4.out⟩
      · have HR : Hid ((!d && d') = domLt (a, b, d) (a', b', d')) := by unfold Hid; rw [HF.out]; simp [hl]
        subst hl
        cases d <;> cases d'
        all_goals
          go_wp2_with fail
          go_ret
          exact ⟨by first | exact ret_bool (show false = _ from HR.out) | exact ret_bool (show true = _ from HR.out), HB4.out⟩
      · have HR : Hid (false = domLt (a, b, d) (a', b', d')) := by unfold Hid; rw [HF.out]; simp [show ¬ p < q by omega, show ¬ p = q by omega]
        have t1 : decide ((p : Int) < (q : Int)) = false := by simp; omega
        have t2 : ((p : Int) == (q : Int)) = false := by simp; omega
        go_wp2_with fail
        go_ret
        exact ⟨ret_bool ((decide_eq_false (show ¬ p < q by omega)).trans HR.out), HB4.out⟩
end Go.Proofs.YtehnbalbpfmijaaGreatDoor

namespace Go.Proofs.YtehnbalbpfmijaaGreatDoor
open Go.RowKit
set_option linter.unusedVariables false

set_option maxRecDepth 100000 in
set_option maxHeartbeats 4000000 in
theorem CellsUnder_yes (x y : Int) (d : Bool) (w : World) (h : domB x y d = true) :
    Calls Tryz.prog 45 #[triV x y d] w fun e w' => e = .returned (.tuple #[spotV x y, spotV (sndX x d) (sndY y d)]) ∧ Below w.heap.size w w' := by
  have H1 := Lib.hid h
  have HLS := Lib.hid (fun V => l05Second_any x y d V)
  clear h
  generalize sndX x d = x2 at *
  generalize sndY y d = y2 at *
  obtain ⟨W, hW, k0, k1, k2, hb⟩ := three_alloc w (triO x y d 51) (.cells #[.int .i64 0, .int .i64 0] 44) (.cells #[.int .i64 0, .int .i64 0] 44)
  have HW := Lib.hid hW
  have c0 : W.cell? ⟨w.heap.size, 0, none⟩ = some (.int .i64 x) := by rw [blk_cell k0]; rfl
  have c1 : W.cell? ⟨w.heap.size, 1, none⟩ = some (.int .i64 y) := by rw [blk_cell k0]; rfl
  have c2 : W.cell? ⟨w.heap.size, 2, none⟩ = some (.bool d) := by rw [blk_cell k0]; rfl
  have HB0 := Lib.hid hb
  have K0' := Lib.hid k0; have K1' := Lib.hid k1; have K2' := Lib.hid k2
  clear hW hb k0 k1 k2
  go_enter Tryz.func45, Tryz.ntmps45
  go_upto_region 1 with (fail)
  rw [← HW.out]
  go_wp2_with fail
  refine (specDominoOk_any _ _ _ _).mono ?_
  rintro e w1 ⟨rfl, hb1⟩
  rw [H1.out]
  have HB := Lib.hid (HB0.out.trans (hb1.mono HB0.out.size))
  have k0 := blk_below K0'.out hb1
  have K1 := Lib.hid (blk_below K1'.out hb1)
  have K2 := Lib.hid (blk_below K2'.out hb1)
  have g0 : w1.cell? ⟨w.heap.size, 0, none⟩ = some (.int .i64 x) := by rw [blk_cell k0]; rfl
  have g1 : w1.cell? ⟨w.heap.size, 1, none⟩ = some (.int .i64 y) := by rw [blk_cell k0]; rfl
  have g2 : w1.cell? ⟨w.heap.size, 2, none⟩ = some (.bool d) := by rw [blk_cell k0]; rfl
  have L0 := Lib.hid (lt_of_block k0)
  clear c0 c1 c2 hb1 k0
  go_wp2_with fail
  refine wp_region_held_drew (S := fun w' => w'.cell? ⟨w.heap.size, 0, none⟩ = some (.int .i64 x) ∧ w'.cell? ⟨w.heap.size, 1, none⟩ = some (.int .i64 y) ∧ w'.cell? ⟨w.heap.size, 2, none⟩ = some (.bool d)) (by kernel_rfl) (by exact ⟨g0, g1, g2⟩) (fun hHeld => ?_)
  refine wpAnyH_take (i := 0) (oi := ⟨_, _, _, _, _, _⟩) (v := ?vap27456q0) rfl (by kernel_rfl) (by kernel_rfl) (by kernel_rfl) (fun _ _ _ h => h) (Or.inl ⟨by rfl, ?hap27456q0⟩) (by assumption) ?_
  case hap27456q0 => (intro w hSw; (try dsimp only at hSw); go_simp; try with_reducible rfl)
  try simp only [Act.put, List.setIfInBounds_toArray, List.set_cons_zero, List.set_cons_succ]
  refine wpAnyH_take (i := 1) (oi := ⟨_, _, _, _, _, _⟩) (v := ?vap27456q1) rfl (by kernel_rfl) (by kernel_rfl) (by kernel_rfl) (fun _ _ _ h => h) (Or.inl ⟨by rfl, ?hap27456q1⟩) (by assumption) ?_
  case hap27456q1 => (intro w hSw; (try dsimp only at hSw); go_simp; try with_reducible rfl)
  try simp only [Act.put, List.setIfInBounds_toArray, List.set_cons_zero, List.set_cons_succ]
  refine wpAnyH_take (i := 2) (oi := ⟨_, _, _, _, _, _⟩) (v := ?vap27456q2) rfl (by kernel_rfl) (by kernel_rfl) (by kernel_rfl) (fun _ _ _ h => h) (Or.inl ⟨by rfl, ?hap27456q2⟩) (by assumption) ?_
  case hap27456q2 => (intro w hSw; (try dsimp only at hSw); go_simp; try with_reducible rfl)
  try simp only [Act.put, List.setIfInBounds_toArray, List.set_cons_zero, List.set_cons_succ]
  refine wpAnyH_take (i := 3) (oi := ⟨_, _, _, _, _, _⟩) (v := ?vap27456q3) rfl (by kernel_rfl) (by kernel_rfl) (by kernel_rfl) (fun _ _ _ h => h) (Or.inl ⟨by rfl, ?hap27456q3⟩) (by assumption) ?_
  case hap27456q3 => (intro w hSw; (try dsimp only at hSw); go_simp; try with_reducible rfl)
  try simp only [Act.put, List.setIfInBounds_toArray, List.set_cons_zero, List.set_cons_succ]
  refine wpAnyH_take (i := 4) (oi := ⟨_, _, _, _, _, _⟩) (v := ?vap27456q4) rfl (by kernel_rfl) (by kernel_rfl) (by kernel_rfl) (fun _ _ _ h => h) (Or.inl ⟨by rfl, ?hap27456q4⟩) (by assumption) ?_
  case hap27456q4 => (intro w hSw; (try dsimp only at hSw); go_simp; try with_reducible rfl)
  try simp only [Act.put, List.setIfInBounds_toArray, List.set_cons_zero, List.set_cons_succ]
  refine wpAnyH_take (i := 5) (oi := ⟨_, _, _, _, _, _⟩) (v := ?vap27456q5) rfl (by kernel_rfl) (by kernel_rfl) (by kernel_rfl) (fun _ _ _ h => h) (Or.inl ⟨by rfl, ?hap27456q5⟩) (by assumption) ?_
  case hap27456q5 => (intro w hSw; (try dsimp only at hSw); go_simp; try with_reducible rfl)
  try simp only [Act.put, List.setIfInBounds_toArray, List.set_cons_zero, List.set_cons_succ]
  refine wpAnyH_ready (rs := [6]) (by kernel_rfl) (by simp) ?_
  refine AllReadyH.cons (o := ⟨_, _, _, _, _, _⟩) rfl (fun K hK => ?_) AllReadyH.nil
  go_simp; go_at_call 72; refine (HLS.out _).mono ?_; rintro e w3 ⟨rfl, hb3⟩
  have j1 := blk_below (w := w1.drew) K1.out hb3
  have j2 := blk_below (w := w1.drew) K2.out hb3
  have d0 : w3.cell? ⟨w.heap.size + 1, 0, none⟩ = some (.int .i64 0) := by rw [blk_cell j1]; rfl
  have d1 : w3.cell? ⟨w.heap.size + 1, 1, none⟩ = some (.int .i64 0) := by rw [blk_cell j1]; rfl
  have d2 : w3.cell? ⟨w.heap.size + 1 + 1, 0, none⟩ = some (.int .i64 0) := by rw [blk_cell j2]; rfl
  have d3 : w3.cell? ⟨w.heap.size + 1 + 1, 1, none⟩ = some (.int .i64 0) := by rw [blk_cell j2]; rfl
  have f0 : ∀ o, w3.frozen? ⟨w.heap.size + 1, o, none⟩ = false := fun o => blk_free j1
  have f2 : ∀ o, w3.frozen? ⟨w.heap.size + 1 + 1, o, none⟩ = false := fun o => blk_free j2
  have J1 := Lib.hid j1; have J2 := Lib.hid j2; have HB3 := Lib.hid (HB.out.drew.trans (hb3.mono HB.out.size))
  clear j1 j2
  refine hK.out _ _ (by first | exact ⟨(hb3.cell (p := ⟨w.heap.size, 0, none⟩) L0.out).trans hHeld.1, (hb3.cell (p := ⟨w.heap.size, 1, none⟩) L0.out).trans hHeld.2.1, (hb3.cell (p := ⟨w.heap.size, 2, none⟩) L0.out).trans hHeld.2.2⟩ | (obtain ⟨hq0, hq1, hq2⟩ := hHeld; refine ⟨?_, ?_, ?_⟩ <;> go_simp)) (fun hHeld => ?_)
  clear hK K
  try simp only [Act.put, List.setIfInBounds_toArray, List.set_cons_zero, List.set_cons_succ]
  refine wpAnyH_ready (rs := [7]) (by kernel_rfl) (by simp) ?_
  refine AllReadyH.cons (o := ⟨_, _, _, _, _, _⟩) rfl (fun K hK => ?_) AllReadyH.nil
  go_simp
  refine hK.out _ _ (by first | exact ⟨(hb3.cell (p := ⟨w.heap.size, 0, none⟩) L0.out).trans hHeld.1, (hb3.cell (p := ⟨w.heap.size, 1, none⟩) L0.out).trans hHeld.2.1, (hb3.cell (p := ⟨w.heap.size, 2, none⟩) L0.out).trans hHeld.2.2⟩ | (obtain ⟨hq0, hq1, hq2⟩ := hHeld; refine ⟨?_, ?_, ?_⟩ <;> go_simp)) (fun hHeld => ?_)
  clear hK K
  try simp only [Act.put, List.setIfInBounds_toArray, List.set_cons_zero, List.set_cons_succ]
  refine wpAnyH_ready (rs := [8]) (by kernel_rfl) (by simp) ?_
  refine AllReadyH.cons (o := ⟨_, _, _, _, _, _⟩) rfl (fun K hK => ?_) AllReadyH.nil
  go_simp
  refine hK.out _ _ (by first | exact ⟨(hb3.cell (p := ⟨w.heap.size, 0, none⟩) L0.out).trans hHeld.1, (hb3.cell (p := ⟨w.heap.size, 1, none⟩) L0.out).trans hHeld.2.1, (hb3.cell (p := ⟨w.heap.size, 2, none⟩) L0.out).trans hHeld.2.2⟩ | (obtain ⟨hq0, hq1, hq2⟩ := hHeld; refine ⟨?_, ?_, ?_⟩ <;> go_simp)) (fun hHeld => ?_)
  clear hK K
  try simp only [Act.put, List.setIfInBounds_toArray, List.set_cons_zero, List.set_cons_succ]
  refine wpAnyH_done (by kernel_rfl) ?_ _
  have T1 := two_stores (w := w) (V := w3) (p := .int .i64 x) (q := .int .i64 y) (r := .int .i64 x2) (t := .int .i64 y2) J1.out J2.out (by omega) (by omega) (by omega) HB3.out
  go_wp2_with fail
  generalize hX : ((((w3.setCell ⟨w.heap.size + 1, 0, none⟩ (.int .i64 x)).setCell ⟨w.heap.size + 1, 1, none⟩ (.int .i64 y)).setCell ⟨w.heap.size + 1 + 1, 0, none⟩ (.int .i64 x2)).setCell ⟨w.heap.size + 1 + 1, 1, none⟩ (.int .i64 y2)) = X
  obtain ⟨r0, r1, r2, r3, r4⟩ := T1 X hX.symm
  refine bodyPost_ret (v := .tuple #[spotV x y, spotV x2 y2]) (by simp [results, Tryz.results45, go_sem, r0, r1, r2, r3]) rfl ⟨rfl, r4⟩
end Go.Proofs.YtehnbalbpfmijaaGreatDoor

namespace Go.Proofs.YtehnbalbpfmijaaGreatDoor
open Go.RowKit
set_option linter.unusedVariables false

/-- Two cells of the floor, side by side. -/
def nextB (x y x2 y2 : Int) : Prop := (0 ≤ x ∧ x ≤ 7) ∧ (0 ≤ y ∧ y ≤ 7) ∧ (0 ≤ x2 ∧ x2 ≤ 7) ∧ (0 ≤ y2 ∧ y2 ≤ 7) ∧ ((x = x2 ∧ (y2 = y + 1 ∨ y = y2 + 1)) ∨ (y = y2 ∧ (x2 = x + 1 ∨ x = x2 + 1)))
def overL (x y x2 y2 : Int) : Lk := (min x x2, min y y2, x == x2)
theorem size_any (n : Int) (h : -100 ≤ n ∧ n ≤ 100) (w : World) :
    Calls Tryz.prog 81 #[.int .i64 n] w fun e w' => e = .returned (.int .i64 (max n (-n))) ∧ Below w.heap.size w w' := by
  obtain ⟨h1, h2⟩ := h
  go_enter Tryz.func81, Tryz.ntmps81
  go_wp2_with fail
  all_goals
    go_ret
    exact ⟨ret_int (by omega), Below.refl _ _⟩
set_option maxRecDepth 100000 in
set_option maxHeartbeats 4000000 in
theorem AreN_yes (x y x2 y2 : Int) (h : nextB x y x2 y2) (w : World) :
    Calls Tryz.prog 65 #[spotV x y, spotV x2 y2] w fun e w' => e = .returned (.bool true) ∧ Below w.heap.size w w' := by
  obtain ⟨W, hW, k1, k2, hb⟩ := two_alloc w (.cells #[.int .i64 x, .int .i64 y] 44) (.cells #[.int .i64 x2, .int .i64 y2] 44)
  have HW := Lib.hid hW
  have HB := Lib.hid hb
  have HS : Hid (TwoC W W w.heap.size (w.heap.size + 1) x y x2 y2) := ⟨by rw [blk_cell k1]; rfl, by rw [blk_cell k1]; rfl, by rw [blk_cell k2]; rfl, by rw [blk_cell k2]; rfl, Nat.le_refl _, Below.refl _ _⟩
  have L1 := Lib.hid (lt_of_block k1)
  have L2 := Lib.hid (lt_of_block k2)
  obtain ⟨⟨a1, a2⟩, ⟨b1, b2⟩, ⟨c1, c2⟩, ⟨d1, d2⟩, hh⟩ := h
  have h1 : spotB 7 x y = true := (spotB_iff _ _ _).2 ⟨⟨a1, a2⟩, ⟨b1, b2⟩⟩
  have h2 : spotB 7 x2 y2 = true := (spotB_iff _ _ _).2 ⟨⟨c1, c2⟩, ⟨d1, d2⟩⟩
  have e1 : IntKind.i64.wrap (x - x2) = x - x2 := IntWalk.i64_in _ (by omega)
  have e2 : IntKind.i64.wrap (y - y2) = y - y2 := IntWalk.i64_in _ (by omega)
  have hC1 := Lib.hid fun V => size_any (x - x2) (by omega) V
  have hC2 := Lib.hid fun V => size_any (y - y2) (by omega) V
  have e3 : max (x - x2) (-(x - x2)) + max (y - y2) (-(y - y2)) = 1 := by omega
  generalize max (x - x2) (-(x - x2)) = m1 at *
  generalize max (y - y2) (-(y - y2)) = m2 at *
  have H1 := Lib.hid h1; have H2 := Lib.hid h2
  clear hW hb k1 k2 h1 h2 hh
  go_enter Tryz.func65, Tryz.ntmps65
  go_wp2_with fail
  rw [← HW.out]
  go_region_held3 (fun w' => TwoC W w' w.heap.size (w.heap.size + 1) x y x2 y2)
    (first
      | exact HS.out.drew
      | exact TwoC.keep hb1 L1.out L2.out (by assumption))
    (first
      | (go_at_call 73; (with_reducible refine (CellOk_any x y _).mono ?_); rintro e w1 ⟨rfl, hb1⟩; rw [H1.out])
      | (go_at_call 73; (with_reducible refine (CellOk_any x2 y2 _).mono ?_); rintro e w1 ⟨rfl, hb1⟩; rw [H2.out])
      | (go_at_call 81; (with_reducible refine (hC1.out _).mono ?_); rintro e w1 ⟨rfl, hb1⟩)
      | (go_at_call 81; (with_reducible refine (hC2.out _).mono ?_); rintro e w1 ⟨rfl, hb1⟩))
  have HB4 := Lib.hid (HB.out.trans ((show TwoC W _ w.heap.size (w.heap.size + 1) x y x2 y2 from by assumption).2.2.2.2.2.mono HB.out.size))
  go_wp2_with fail
  go_ret
  exact ⟨rfl, HB4.out⟩
set_option maxRecDepth 100000 in
set_option maxHeartbeats 4000000 in
theorem DominoOver_yes (x y x2 y2 : Int) (h : nextB x y x2 y2) (w : World) :
    Calls Tryz.prog 36 #[spotV x y, spotV x2 y2] w fun e w' => e = .returned (.tuple #[triV (overL x y x2 y2).1 (overL x y x2 y2).2.1 (overL x y x2 y2).2.2, .bool true]) ∧ Below w.heap.size w w' := by
  obtain ⟨W, hW, k1, k2, k3, hb⟩ := three_alloc w (.cells #[.int .i64 x, .int .i64 y] 44) (.cells #[.int .i64 x2, .int .i64 y2] 44) (triO 0 0 false 51)
  have HW := Lib.hid hW
  have HB := Lib.hid hb
  have HK1 := Lib.hid k1; have HK2 := Lib.hid k2; have HK3 := Lib.hid k3
  have a0 : W.cell? ⟨w.heap.size, 0, none⟩ = some (.int .i64 x) := by rw [blk_cell k1]; rfl
  have a1 : W.cell? ⟨w.heap.size, 1, none⟩ = some (.int .i64 y) := by rw [blk_cell k1]; rfl
  have a2 : W.cell? ⟨w.heap.size + 1, 0, none⟩ = some (.int .i64 x2) := by rw [blk_cell k2]; rfl
  have a3 : W.cell? ⟨w.heap.size + 1, 1, none⟩ = some (.int .i64 y2) := by rw [blk_cell k2]; rfl
  have HN := Lib.hid (fun V => AreN_yes x y x2 y2 h V)
  obtain ⟨mx, HMX⟩ : ∃ mx, Hid ((overL x y x2 y2).1 = mx) := ⟨_, rfl⟩
  obtain ⟨my, HMY⟩ : ∃ my, Hid ((overL x y x2 y2).2.1 = my) := ⟨_, rfl⟩
  have HMD : Hid ((overL x y x2 y2).2.2 = (x == x2)) := rfl
  have HMXE : Hid (mx = min x x2) := HMX.out.symm
  have HMYE : Hid (my = min y y2) := HMY.out.symm
  rw [HMX.out, HMY.out, HMD.out]
  clear hW hb k1 k2 k3 HMX HMY HMD h
  go_enter Tryz.func36, Tryz.ntmps36
  go_upto_region 1 with (fail)
  rw [← HW.out]
  go_wp2_with fail
  refine (HN.out _).mono ?_
  rintro e w1 ⟨rfl, hb1⟩
  have k1 := blk_below HK1.out hb1
  have k2 := blk_below HK2.out hb1
  have k3 := blk_below HK3.out hb1
  have HB1 := Lib.hid (HB.out.trans (hb1.mono HB.out.size))
  clear a0 a1 a2 a3 hb1
  have a0 : w1.cell? ⟨w.heap.size, 0, none⟩ = some (.int .i64 x) := by rw [blk_cell k1]; rfl
  have a1 : w1.cell? ⟨w.heap.size, 1, none⟩ = some (.int .i64 y) := by rw [blk_cell k1]; rfl
  have a2 : w1.cell? ⟨w.heap.size + 1, 0, none⟩ = some (.int .i64 x2) := by rw [blk_cell k2]; rfl
  have a3 : w1.cell? ⟨w.heap.size + 1, 1, none⟩ = some (.int .i64 y2) := by rw [blk_cell k2]; rfl
  have b0 : w1.cell? ⟨w.heap.size + 1 + 1, 0, none⟩ = some (.int .i64 0) := by rw [blk_cell k3]; rfl
  have b1 : w1.cell? ⟨w.heap.size + 1 + 1, 1, none⟩ = some (.int .i64 0) := by rw [blk_cell k3]; rfl
  have b2 : w1.cell? ⟨w.heap.size + 1 + 1, 2, none⟩ = some (.bool false) := by rw [blk_cell k3]; rfl
  have fr : ∀ o, w1.frozen? ⟨w.heap.size + 1 + 1, o, none⟩ = false := fun o => blk_free k3
  have hX := Lib.hid (blk_setCell (k := 2) (blk_setCell (k := 1) (blk_setCell (k := 0) k3 (.int .i64 mx)) (.int .i64 my)) (.bool (x == x2)))
  have hBX : Hid (Below w.heap.size w (((w1.setCell ⟨w.heap.size + 2, 0, none⟩ (.int .i64 mx)).setCell ⟨w.heap.size + 2, 1, none⟩ (.int .i64 my)).setCell ⟨w.heap.size + 2, 2, none⟩ (.bool (x == x2)))) := ((HB1.out.setCell (p := ⟨w.heap.size + 2, 0, none⟩) (by simp) _).setCell (p := ⟨w.heap.size + 2, 1, none⟩) (by simp) _).setCell (p := ⟨w.heap.size + 2, 2, none⟩) (by simp) _
  have hfin : ∀ V : World, Hid (V.heap[w.heap.size + 2]? = some (triO mx my (x == x2) 51)) → V.cell? ⟨w.heap.size + 1 + 1, 0, none⟩ = some (.int .i64 mx) ∧ V.cell? ⟨w.heap.size + 1 + 1, 1, none⟩ = some (.int .i64 my) ∧ V.cell? ⟨w.heap.size + 1 + 1, 2, none⟩ = some (.bool (x == x2)) := fun V hV => ⟨by rw [show w.heap.size + 1 + 1 = w.heap.size + 2 from rfl, blk_cell hV.out]; rfl, by rw [show w.heap.size + 1 + 1 = w.heap.size + 2 from rfl, blk_cell hV.out]; rfl, by rw [show w.heap.size + 1 + 1 = w.heap.size + 2 from rfl, blk_cell hV.out]; rfl⟩
  have hfin := Lib.hid hfin
  clear k1 k2 k3
  by_cases hx : x ≤ x2
  · by_cases hy : y ≤ y2
    · skip
      have e1 : mx = x := by have := HMXE.out; omega
      have e2 : my = y := by have := HMYE.out; omega
      rw [e1, e2] at hX hBX hfin
      have E1 := Lib.hid e1; have E2 := Lib.hid e2
      clear e1 e2
      go_wp2_with fail
      obtain ⟨X, HXQ⟩ : ∃ X, Hid (X = ((w1.setCell ⟨w.heap.size + 2, 0, none⟩ (.int .i64 x)).setCell ⟨w.heap.size + 2, 1, none⟩ (.int .i64 y)).setCell ⟨w.heap.size + 2, 2, none⟩ (.bool (x == x2))) := ⟨_, rfl⟩
      have hX1 := hX.out
      have hBX1 := hBX.out
      rw [← HXQ.out] at hX1 hBX1
      obtain ⟨r0, r1, r2⟩ := hfin.out X (by simpa [Hid] using hX1)
      show bodyPost _ _ _ _ _ (((w1.setCell ⟨w.heap.size + 2, 0, none⟩ (.int .i64 x)).setCell ⟨w.heap.size + 2, 1, none⟩ (.int .i64 y)).setCell ⟨w.heap.size + 2, 2, none⟩ (.bool (x == x2)))
      rw [← HXQ.out]
      exact bodyPost_ret (v := .tuple #[triV x y (x == x2), .bool true]) (by simp [results, Tryz.results36, go_sem, r0, r1, r2]) rfl ⟨by rw [E1.out, E2.out], hBX1⟩
    · have hy' : y2 < y := by omega
      clear hy
      have e1 : mx = x := by have := HMXE.out; omega
      have e2 : my = y2 := by have := HMYE.out; omega
      rw [e1, e2] at hX hBX hfin
      have E1 := Lib.hid e1; have E2 := Lib.hid e2
      clear e1 e2
      go_wp2_with fail
      obtain ⟨X, HXQ⟩ : ∃ X, Hid (X = ((w1.setCell ⟨w.heap.size + 2, 0, none⟩ (.int .i64 x)).setCell ⟨w.heap.size + 2, 1, none⟩ (.int .i64 y2)).setCell ⟨w.heap.size + 2, 2, none⟩ (.bool (x == x2))) := ⟨_, rfl⟩
      have hX1 := hX.out
      have hBX1 := hBX.out
      rw [← HXQ.out] at hX1 hBX1
      obtain ⟨r0, r1, r2⟩ := hfin.out X (by simpa [Hid] using hX1)
      show bodyPost _ _ _ _ _ (((w1.setCell ⟨w.heap.size + 2, 0, none⟩ (.int .i64 x)).setCell ⟨w.heap.size + 2, 1, none⟩ (.int .i64 y2)).setCell ⟨w.heap.size + 2, 2, none⟩ (.bool (x == x2)))
      rw [← HXQ.out]
      exact bodyPost_ret (v := .tuple #[triV x y2 (x == x2), .bool true]) (by simp [results, Tryz.results36, go_sem, r0, r1, r2]) rfl ⟨by rw [E1.out, E2.out], hBX1⟩
  · have hx' : x2 < x := by omega
    clear hx
    by_cases hy : y ≤ y2
    · skip
      have e1 : mx = x2 := by have := HMXE.out; omega
      have e2 : my = y := by have := HMYE.out; omega
      rw [e1, e2] at hX hBX hfin
      have E1 := Lib.hid e1; have E2 := Lib.hid e2
      clear e1 e2
      go_wp2_with fail
      obtain ⟨X, HXQ⟩ : ∃ X, Hid (X = ((w1.setCell ⟨w.heap.size + 2, 0, none⟩ (.int .i64 x2)).setCell ⟨w.heap.size + 2, 1, none⟩ (.int .i64 y)).setCell ⟨w.heap.size + 2, 2, none⟩ (.bool (x == x2))) := ⟨_, rfl⟩
      have hX1 := hX.out
      have hBX1 := hBX.out
      rw [← HXQ.out] at hX1 hBX1
      obtain ⟨r0, r1, r2⟩ := hfin.out X (by simpa [Hid] using hX1)
      show bodyPost _ _ _ _ _ (((w1.setCell ⟨w.heap.size + 2, 0, none⟩ (.int .i64 x2)).setCell ⟨w.heap.size + 2, 1, none⟩ (.int .i64 y)).setCell ⟨w.heap.size + 2, 2, none⟩ (.bool (x == x2)))
      rw [← HXQ.out]
      exact bodyPost_ret (v := .tuple #[triV x2 y (x == x2), .bool true]) (by simp [results, Tryz.results36, go_sem, r0, r1, r2]) rfl ⟨by rw [E1.out, E2.out], hBX1⟩
    · have hy' : y2 < y := by omega
      clear hy
      have e1 : mx = x2 := by have := HMXE.out; omega
      have e2 : my = y2 := by have := HMYE.out; omega
      rw [e1, e2] at hX hBX hfin
      have E1 := Lib.hid e1; have E2 := Lib.hid e2
      clear e1 e2
      go_wp2_with fail
      obtain ⟨X, HXQ⟩ : ∃ X, Hid (X = ((w1.setCell ⟨w.heap.size + 2, 0, none⟩ (.int .i64 x2)).setCell ⟨w.heap.size + 2, 1, none⟩ (.int .i64 y2)).setCell ⟨w.heap.size + 2, 2, none⟩ (.bool (x == x2))) := ⟨_, rfl⟩
      have hX1 := hX.out
      have hBX1 := hBX.out
      rw [← HXQ.out] at hX1 hBX1
      obtain ⟨r0, r1, r2⟩ := hfin.out X (by simpa [Hid] using hX1)
      show bodyPost _ _ _ _ _ (((w1.setCell ⟨w.heap.size + 2, 0, none⟩ (.int .i64 x2)).setCell ⟨w.heap.size + 2, 1, none⟩ (.int .i64 y2)).setCell ⟨w.heap.size + 2, 2, none⟩ (.bool (x == x2)))
      rw [← HXQ.out]
      exact bodyPost_ret (v := .tuple #[triV x2 y2 (x == x2), .bool true]) (by simp [results, Tryz.results36, go_sem, r0, r1, r2]) rfl ⟨by rw [E1.out, E2.out], hBX1⟩
end Go.Proofs.YtehnbalbpfmijaaGreatDoor

namespace Go.Proofs.YtehnbalbpfmijaaGreatDoor
open Go.RowKit
set_option linter.unusedVariables false

/-- The number by which dominoes are ordered. -/
def ordL (l : Lk) : Nat := domO l.1.toNat l.2.1.toNat l.2.2
theorem ordL_inj {l m : Lk} (hl : domL l = true) (hm : domL m = true) (h : ordL l = ordL m) : l = m := by
  obtain ⟨x, y, d⟩ := l
  obtain ⟨x', y', d'⟩ := m
  have h1 := (domB_iff _ _ _).1 hl
  have h2 := (domB_iff _ _ _).1 hm
  dsimp only at h1 h2
  have h3 : x ≤ 7 := by have := h1.2; cases d <;> simp at this <;> omega
  have h4 : x' ≤ 7 := by have := h2.2; cases d' <;> simp at this <;> omega
  unfold ordL domO cix at h
  simp only at h
  have e3 : d = d' := by cases d <;> cases d' <;> simp at h ⊢ <;> omega
  subst e3
  have e1 : x = x' := by omega
  have e2 : y = y' := by omega
  rw [e1, e2]
theorem ordL_lt {l : Lk} (hl : domL l = true) : ordL l < 128 := by
  obtain ⟨x, y, d⟩ := l
  have h1 := (domB_iff _ _ _).1 hl
  have h3 : x ≤ 7 ∧ y ≤ 7 := by have := h1.2; cases d <;> simp at this <;> omega
  unfold ordL domO cix
  simp only
  split <;> omega
/-- From the right: how many are not behind o. -/
def downK (ys : List Lk) (o : Nat) : Nat → Nat
  | 0 => 0
  | k + 1 => if o < ordL (dAt ys k) then downK ys o k else k + 1
/-- From the left: the first that is not before d. -/
def upK (ys : List Lk) (d : Lk) : Nat → Nat → Nat
  | 0, i => i
  | f + 1, i => if decide (i < ys.length) && domLt (dAt ys i) d then upK ys d f (i + 1) else i
def insI (d : Lk) (ys : List Lk) : List Lk :=
  let k := downK ys (ordL d) ys.length
  if decide (0 < k) && (dAt ys (k - 1) == d) then ys else ys.take k ++ d :: ys.drop k
def insS (d : Lk) (ys : List Lk) : List Lk :=
  let k := upK ys d ys.length 0
  if decide (k < ys.length) && (dAt ys k == d) then ys else ys.take k ++ [d] ++ ys.drop k
def sortI (ls : List Lk) : Nat → List Lk
  | 0 => []
  | k + 1 => if domL (dAt ls k) then insI (dAt ls k) (sortI ls k) else sortI ls k
def sortS (ls : List Lk) : Nat → List Lk
  | 0 => []
  | k + 1 => if domL (dAt ls k) then insS (dAt ls k) (sortS ls k) else sortS ls k
theorem downK_spec (ys : List Lk) (o : Nat) : ∀ k, downK ys o k ≤ k ∧ (∀ i, downK ys o k ≤ i → i < k → o < ordL (dAt ys i)) ∧ (0 < downK ys o k → ordL (dAt ys (downK ys o k - 1)) ≤ o)
  | 0 => by simp [downK]
  | k + 1 => by
    rw [downK]
    by_cases h : o < ordL (dAt ys k)
    · rw [if_pos h]
      obtain ⟨h1, h2, h3⟩ := downK_spec ys o k
      refine ⟨by omega, fun i g1 g2 => ?_, h3⟩
      by_cases e : i = k
      · subst e; exact h
      · exact h2 i g1 (by omega)
    · rw [if_neg h]
      exact ⟨Nat.le_refl _, fun i g1 g2 => by omega, fun _ => by simpa using h⟩
theorem upK_spec (ys : List Lk) (d : Lk) : ∀ f i, i ≤ upK ys d f i ∧ upK ys d f i ≤ i + f ∧ (∀ j, i ≤ j → j < upK ys d f i → j < ys.length ∧ domLt (dAt ys j) d = true) ∧ (upK ys d f i < i + f → upK ys d f i < ys.length → domLt (dAt ys (upK ys d f i)) d = false)
  | 0, i => by simp [upK]; intro j h1 h2; omega
  | f + 1, i => by
    rw [upK]
    cases hb : (decide (i < ys.length) && domLt (dAt ys i) d)
    · rw [if_neg (by simp)]
      refine ⟨Nat.le_refl _, by omega, fun j h1 h2 => by omega, fun _ h => ?_⟩
      simpa [h] using hb
    · rw [if_pos rfl]
      obtain ⟨h1, h2, h3, h4⟩ := upK_spec ys d f (i + 1)
      simp only [Bool.and_eq_true, decide_eq_true_eq] at hb
      refine ⟨by omega, by omega, fun j g1 g2 => ?_, fun g => h4 (by omega)⟩
      by_cases e : j = i
      · subst e; exact hb
      · exact h3 j (by omega) g2
/-- In order, each one valid. -/
def Sorted (ys : List Lk) : Prop := ys.Pairwise (fun a b => ordL a < ordL b) ∧ ∀ a ∈ ys, domL a = true
theorem dAt_get (ys : List Lk) (j : Nat) (h : j < ys.length) : dAt ys j = ys[j] := by
  have := lk_get ys j h
  rw [List.getElem?_eq_getElem h] at this
  exact (Option.some.inj this).symm
theorem Sorted.at {ys : List Lk} (h : Sorted ys) {i j : Nat} (hij : i < j) (hj : j < ys.length) : ordL (dAt ys i) < ordL (dAt ys j) := by
  rw [dAt_get ys i (by omega), dAt_get ys j hj]
  exact List.pairwise_iff_getElem.1 h.1 i j (by omega) hj hij
theorem Sorted.ok {ys : List Lk} (h : Sorted ys) {i : Nat} (hi : i < ys.length) : domL (dAt ys i) = true := by
  rw [dAt_get ys i hi]; exact h.2 _ (List.getElem_mem hi)
theorem Sorted.short {ys : List Lk} (h : Sorted ys) : ys.length ≤ 128 := by
  have key : ∀ k, k < ys.length → k ≤ ordL (dAt ys k) := by
    intro k
    induction k with
    | zero => intro _; omega
    | succ k ih => intro hk; have := ih (by omega); have := h.at (i := k) (j := k + 1) (by omega) hk; omega
  by_cases h0 : ys.length = 0
  · omega
  · have := key (ys.length - 1) (by omega)
    have := ordL_lt (h.ok (i := ys.length - 1) (by omega))
    omega
theorem ins_same {ys : List Lk} (h : Sorted ys) {d : Lk} (hd : domL d = true) : insI d ys = insS d ys ∧ Sorted (insI d ys) := by
  obtain ⟨d1, d2, d3⟩ := downK_spec ys (ordL d) ys.length
  obtain ⟨_, u2, u3, u4⟩ := upK_spec ys d ys.length 0
  have hlt : ∀ i, i < ys.length → (domLt (dAt ys i) d = true ↔ ordL (dAt ys i) < ordL d) := fun i hi => by
    have := h.ok hi
    unfold domL at this hd
    unfold domLt
    rw [this, hd]
    simp [ordL]
  unfold insI insS
  generalize downK ys (ordL d) ys.length = k at *
  generalize upK ys d ys.length 0 = k' at *
  simp only
  have hk' : k' ≤ ys.length := by omega
  by_cases hin : 0 < k ∧ dAt ys (k - 1) = d
  · have e : k' = k - 1 := by
      have a1 : ¬ (k - 1 < k') := fun g => by
        have := (hlt _ (by omega)).1 (u3 (k - 1) (Nat.zero_le _) g).2
        rw [hin.2] at this; omega
      have a2 : ¬ (k' < k - 1) := fun g => by
        have q := u4 (by omega) (by omega)
        have := h.at g (by omega)
        rw [hin.2] at this
        rw [(hlt _ (by omega)).2 this] at q
        simp at q
      omega
    rw [if_pos (by simp [hin.1, hin.2]), if_pos (by rw [e]; simp [hin.2]; omega)]
    exact ⟨rfl, h⟩
  · have e : k' = k := by
      have a1 : ¬ (k < k') := fun g => by
        have q1 := (hlt _ (by have := (u3 k (Nat.zero_le _) g).1; omega)).1 (u3 k (Nat.zero_le _) g).2
        have q2 := d2 k (Nat.le_refl _) (u3 k (Nat.zero_le _) g).1
        omega
      have a2 : ¬ (k' < k) := fun g => by
        have q := u4 (by omega) (by omega)
        have q1 : ¬ ordL (dAt ys k') < ordL d := fun g2 => by rw [(hlt _ (by omega)).2 g2] at q; simp at q
        have q2 := d3 (by omega)
        have q3 : ordL (dAt ys k') ≤ ordL (dAt ys (k - 1)) := by
          by_cases e2 : k' = k - 1
          · rw [e2]; exact Nat.le_refl _
          · exact Nat.le_of_lt (h.at (by omega) (by omega))
        exact hin ⟨by omega, ordL_inj (h.ok (by omega)) hd (by omega)⟩
      omega
    have hno : ¬ (k < ys.length ∧ dAt ys k = d) := fun g => by
      have := d2 k (Nat.le_refl _) g.1
      rw [g.2] at this; omega
    rw [if_neg (by simpa using hin), e, if_neg (by simpa using hno)]
    refine ⟨by simp, ?_, ?_⟩
    · rw [List.pairwise_append, List.pairwise_cons]
      have hp := h.1
      refine ⟨hp.sublist (List.take_sublist _ _), ⟨fun a ha => ?_, hp.sublist (List.drop_sublist _ _)⟩, fun a ha b hb => ?_⟩
      · obtain ⟨i, hi, rfl⟩ := List.getElem_of_mem ha
        rw [List.getElem_drop, ← dAt_get]
        simp at hi
        exact d2 _ (by omega) (by omega)
      · obtain ⟨i, hi, rfl⟩ := List.getElem_of_mem ha
        simp at hi
        rw [List.getElem_take, ← dAt_get ys i (by omega)]
        have hb1 : ordL (dAt ys i) < ordL d := (hlt _ (by omega)).1 (u3 i (Nat.zero_le _) (by omega)).2
        rcases List.mem_cons.1 hb with rfl | hb
        · exact hb1
        · obtain ⟨j, hj, rfl⟩ := List.getElem_of_mem hb
          simp at hj
          rw [List.getElem_drop, ← dAt_get]
          have := d2 (k + j) (by omega) (by omega)
          omega
    · intro a ha
      rcases List.mem_append.1 ha with ha | ha
      · exact h.2 _ (List.mem_of_mem_take ha)
      · rcases List.mem_cons.1 ha with rfl | ha
        · exact hd
        · exact h.2 _ (List.mem_of_mem_drop ha)
theorem sort_same (ls : List Lk) : ∀ k, sortI ls k = sortS ls k ∧ Sorted (sortI ls k)
  | 0 => ⟨rfl, by simp [sortI, Sorted]⟩
  | k + 1 => by
    obtain ⟨h1, h2⟩ := sort_same ls k
    rw [sortI, sortS]
    by_cases hd : domL (dAt ls k) = true
    · rw [if_pos hd, if_pos hd, ← h1]
      exact ins_same h2 hd
    · rw [if_neg hd, if_neg hd]
      exact ⟨h1, h2⟩
theorem sortI_short (ls : List Lk) (k : Nat) : (sortI ls k).length ≤ 128 := (sort_same ls k).2.short
end Go.Proofs.YtehnbalbpfmijaaGreatDoor

namespace Go.Proofs.YtehnbalbpfmijaaGreatDoor
open Go.RowKit

def duoC (l : Int × Int) : List Value := [.int .i64 l.1, .int .i64 l.2]
theorem duoC_one : ∀ (x : Int × Int), ∀ u ∈ duoC x, u.oneCell' = true := fun x u hu => by simp [duoC] at hu; rcases hu with rfl | rfl <;> rfl
def elCell : El (Int × Int) := ⟨44, 57, 2, 16, .agg #[.int .i64 0, .int .i64 0], duoC⟩
theorem okCell : elCell.Ok Tryz.prog := ⟨Tryz.underlying57, by kernel_rfl, rfl, by decide, by decide, fun _ => rfl, duoC_one⟩
def dx (ls : List (Int × Int)) (j : Nat) : Int := (ls.getD j (0, 0)).1
def dy (ls : List (Int × Int)) (j : Nat) : Int := (ls.getD j (0, 0)).2
theorem duo_get (ls : List (Int × Int)) (j : Nat) (h : j < ls.length) : ls[j]? = some (dx ls j, dy ls j) := by simp [dx, dy, h]
theorem addOne2 (a : Addr) : (⟨a.block, a.off + 1, none⟩ : Addr) = a.add 1 := by simp [Addr.add]
theorem RdD.of {E : El (Int × Int)} {w : World} {B : Nat} {v : Value} {ls : List (Int × Int)} (hs : E.s = 2) (hf : ∀ l, E.f l = duoC l) (h : RdF E w B v ls) :
    ∃ A c, v = .slice A ls.length c ∧ ls.length ≤ c ∧ c ≤ maxLen ∧ Hid (∀ j, j < ls.length → ∃ ad, A = some ad ∧ ad.block < B ∧ w.cell? (ad.add (j * 2)) = some (.int .i64 (dx ls j)) ∧
      w.cell? ⟨(ad.add (j * 2)).block, (ad.add (j * 2)).off + 1, none⟩ = some (.int .i64 (dy ls j))) := by
  obtain ⟨A, c, e, h1, h2, h3⟩ := h
  refine ⟨A, c, e, h1, h2, fun j hj => ?_⟩
  obtain ⟨ad, e2, hb, hc⟩ := h3 j _ (duo_get ls j hj)
  rw [hf, hs] at hc
  refine ⟨ad, e2, hb, hc 0 _ rfl, ?_⟩
  rw [addOne2, addAdd]; exact hc 1 _ rfl

abbrev FourS (w w' : World) (p q : Addr) (x y : Int) : Prop :=
  w'.cell? p = some (.int .i64 x) ∧ w'.cell? ⟨p.block, p.off + 1, none⟩ = some (.int .i64 y) ∧
  w'.cell? q = some (.int .i64 x) ∧ w'.cell? ⟨q.block, q.off + 1, none⟩ = some (.int .i64 y) ∧ w.heap.size ≤ w'.heap.size ∧ Below w.heap.size w w'
theorem keepFourB {w W0 w1 : World} {p q : Addr} {x y : Int} (hb : Below W0.heap.size W0 w1) (hp : p.block < w.heap.size) (hq : q.block < w.heap.size) (h : FourS w W0 p q x y) : FourS w w1 p q x y := by
  obtain ⟨h1, h2, h4, h5, h7, h8⟩ := h
  exact ⟨(hb.cell (by omega)).trans h1, (hb.cell (p := ⟨p.block, p.off + 1, none⟩) (by show p.block < _; omega)).trans h2, (hb.cell (by omega)).trans h4, (hb.cell (p := ⟨q.block, q.off + 1, none⟩) (by show q.block < _; omega)).trans h5, Nat.le_trans h7 hb.size, h8.trans (hb.mono h7)⟩
theorem drewFourB {w W0 : World} {p q : Addr} {x y : Int} (h : FourS w W0 p q x y) : FourS w W0.drew p q x y := by
  obtain ⟨h1, h2, h4, h5, h7, h8⟩ := h
  exact ⟨h1, h2, h4, h5, h7, h8.drew⟩

/-! ### The marks -/
def duoMk (k : Int) (i : Nat) : Int × Int := (k + 2 * (i : Int), k + 2 * (i : Int) + 1)
def duoIota (k : Int) (n : Nat) : List (Int × Int) := (List.range n).map (duoMk k)
theorem duoIota_length (k : Int) (n : Nat) : (duoIota k n).length = n := by simp [duoIota]
theorem duoIota_x (k : Int) (n j : Nat) (h : j < n) : dx (duoIota k n) j = k + 2 * (j : Int) := by simp [dx, duoIota, h, duoMk]
theorem duoIota_y (k : Int) (n j : Nat) (h : j < n) : dy (duoIota k n) j = k + 2 * (j : Int) + 1 := by simp [dy, duoIota, h, duoMk]
def duoTo (ls : List (Int × Int)) (k : Int) (j : Nat) : List (Int × Int) := (List.range ls.length).map fun (i : Nat) => if i < j then duoMk k i else ls.getD i (0, 0)
theorem duoTo_length (ls : List (Int × Int)) (k : Int) (j : Nat) : (duoTo ls k j).length = ls.length := by simp [duoTo]
theorem duoTo_zero (ls : List (Int × Int)) (k : Int) : duoTo ls k 0 = ls := by
  apply List.ext_getElem
  · exact duoTo_length _ _ _
  · intro i h1 h2; simp [duoTo, h2]
theorem duoTo_all (ls : List (Int × Int)) (k : Int) : duoTo ls k ls.length = duoIota k ls.length := by
  unfold duoTo duoIota
  apply List.map_congr_left
  intro i hi
  rw [if_pos (by simpa using hi)]
theorem duoTo_set (ls : List (Int × Int)) (k : Int) (j : Nat) (_h : j < ls.length) : (duoTo ls k j).set j (k + 2 * (j : Int), k + 2 * (j : Int) + 1) = duoTo ls k (j + 1) := by
  apply List.ext_getElem
  · simp [duoTo]
  · intro i h1 h2
    rw [List.getElem_set]
    by_cases e : j = i
    · subst e; simp [duoTo, duoMk]
    · by_cases e2 : i < j
      · simp [duoTo, e, e2, show i < j + 1 by omega]
      · simp [duoTo, e, e2, show ¬ i < j + 1 by omega]
/-- One struct is written, field by field. -/
theorem duoStore {P : Program} {E : El (Int × Int)} (hE : E.Ok P) (hs : E.s = 2) (hf : ∀ l, E.f l = duoC l) {w : World} {lo g cap : Nat} {ls : List (Int × Int)} (h : OwnF E w lo (.slice (some ⟨g, 0, none⟩) ls.length cap) ls) {j : Nat} (hj : j < ls.length) :
    w.cell? ⟨g, j * 2, none⟩ = some (.int .i64 (dx ls j)) ∧ w.cell? ⟨g, j * 2 + 1, none⟩ = some (.int .i64 (dy ls j)) ∧ (∀ o, w.frozen? ⟨g, o, none⟩ = false) ∧
      ∀ (a b : Int), OwnF E ((w.setCell ⟨g, j * 2, none⟩ (.int .i64 a)).setCell ⟨g, j * 2 + 1, none⟩ (.int .i64 b)) lo (.slice (some ⟨g, 0, none⟩) (ls.set j (a, b)).length cap) (ls.set j (a, b)) ∧
        w.grownBy ((w.setCell ⟨g, j * 2, none⟩ (.int .i64 a)).setCell ⟨g, j * 2 + 1, none⟩ (.int .i64 b)) (some g) := by
  have hc : ∀ i u, (duoC (dx ls j, dy ls j))[i]? = some u → w.cell? ⟨g, j * 2 + i, none⟩ = some u := fun i u hu => by
    have hi : i < 2 := (List.getElem?_eq_some_iff.1 hu).1
    have := World.ownsRow.cellAt h (j * 2 + i) (by rw [hs]; omega)
    rw [this, ← hs, flat_get hE.len ls j i _ (duo_get ls j hj) (by omega), hf]; exact hu
  refine ⟨hc 0 _ rfl, hc 1 _ rfl, World.ownsRow.frozenAt h, fun a b => ?_⟩
  obtain ⟨s1, t1, _⟩ := OwnF.store hE (x' := (a, dy ls j)) (u := .int .i64 a) h (duo_get ls j hj) (i := 0) (by omega) (by rw [hf, hf]; rfl)
  obtain ⟨s2, t2, _⟩ := OwnF.store hE (x' := (a, b)) (x := (a, dy ls j)) (u := .int .i64 b) s1 (j := j) (by simp [hj]) (i := 1) (by omega) (by rw [hf, hf]; rfl)
  rw [hs] at s2 t1 t2
  simp only [List.set_set, Nat.add_zero] at s2 t1 t2
  exact ⟨s2, t1.trans t2⟩
end Go.Proofs.YtehnbalbpfmijaaGreatDoor

namespace Go.Proofs.YtehnbalbpfmijaaGreatDoor
open Go.RowKit
set_option linter.unusedVariables false

theorem specRegionOk_yes (v : Value) (zs : List Int) (B : Nat) (w : World) (h : RdI w B v zs) (hB : B ≤ w.heap.size) (hok : regOkB zs = true) :
    Calls Tryz.prog 48 #[.agg #[v]] w fun e w' => e = .returned (.bool true) ∧ Below w.heap.size w w' := by
  have HU := Lib.hid h
  have hl8 := regOk_len hok
  obtain ⟨A, c, rfl, h1, h2, hR⟩ := h
  unfold maxLen at h2
  obtain ⟨W, hW, k1, hb⟩ := one_alloc w (.cells #[.slice A zs.length c] 35)
  have c0 : W.cell? ⟨w.heap.size, 0, none⟩ = some (.slice A zs.length c) := by rw [blk_cell k1]; rfl
  have HR : Hid (Rd W B A (zs.map (Value.int .i64))) := hR.below (hb.mono hB)
  have HB := Lib.hid hb
  have HW := Lib.hid hW
  clear hW k1 hb hR
  have hlt8 : (zs.length : Int) ≤ 8 := by omega
  go_enter Tryz.func48, Tryz.ntmps48
  go_upto_region 1 with (fail)
  rw [← HW.out]
  go_wp2_with fail
  go_loop [3] (fun i => ∃ k : Nat, k ≤ zs.length ∧ i = .int .i64 k) (fun i => zs.length - (intOf i).toNat)
  case atStart => exact ⟨0, Nat.zero_le _, rfl⟩
  case round =>
    obtain ⟨k, hk, rfl⟩ := hrel
    by_cases hlt : k < zs.length
    · obtain ⟨ad, rfl, hbl, hc⟩ := HR.out.int hlt
      rw [← el_get zs k hlt] at hc
      obtain ⟨x0, x1⟩ := regOk_el hok hlt
      have t1 : inB (el zs k) 0 255 = true := inB_true x0 x1
      have t2 : decide ((k : Int) < (zs.length : Int)) = true := by simp only [decide_eq_true_eq]; omega
      go_wp2_with fail
      refine (l01In_any _ _ _ _).mono ?_
      rintro e w' ⟨rfl, rfl⟩
      rw [t1]
      go_wp2_with fail
      go_round
      case rel => exact ⟨k + 1, by omega, by go_num⟩
      case measure => simp [intOf]; omega
    · have t2 : decide ((k : Int) < (zs.length : Int)) = false := by simp only [decide_eq_false_iff_not]; omega
      go_wp2_with fail
      go_ret
      exact ⟨by first | rfl | (exact ret_bool (decide_eq_true hlt8)), HB.out⟩

theorem bit_tab : ((List.range 256).all fun r => (List.range 8).all fun x => (bits .and .i64 ((r : Int) / 2 ^ x) 1 == 1) == r.testBit x) = true := by decide +kernel
theorem bit_shr (r x : Nat) (hr : r ≤ 255) (hx : x ≤ 7) : (bits .and .i64 ((r : Int) / 2 ^ x) 1 == 1) = r.testBit x := by
  have h := bit_tab
  simp only [List.all_eq_true, List.mem_range] at h
  exact beq_iff_eq.1 (h r (by omega) x (by omega))
set_option maxRecDepth 100000 in
set_option maxHeartbeats 1000000 in
theorem l03Has_yes (v : Value) (zs : List Int) (B : Nat) (w : World) (h : RdI w B v zs) (hB : B ≤ w.heap.size) (hok : regOkB zs = true) (x y : Nat) (hx : x ≤ 7) (hy : y ≤ 7) :
    Calls Tryz.prog 51 #[.agg #[v], spotV x y] w fun e w' => e = .returned (.bool (hasB (setZ zs) x y)) ∧ Below w.heap.size w w' := by
  have hbit := setZ_bit hok x y hx
  have hl8 := regOk_len hok
  obtain ⟨A, c, rfl, h1, h2, hR⟩ := h
  unfold maxLen at h2
  obtain ⟨W, hW, k1, k2, hb⟩ := two_alloc w (.cells #[.slice A zs.length c] 35) (.cells #[.int .i64 (x : Int), .int .i64 (y : Int)] 44)
  have c0 : W.cell? ⟨w.heap.size, 0, none⟩ = some (.slice A zs.length c) := by rw [blk_cell k1]; rfl
  have c1 : W.cell? ⟨w.heap.size + 1, 0, none⟩ = some (.int .i64 (x : Int)) := by rw [blk_cell k2]; rfl
  have c2 : W.cell? ⟨w.heap.size + 1, 1, none⟩ = some (.int .i64 (y : Int)) := by rw [blk_cell k2]; rfl
  have HR : Hid (Rd W B A (zs.map (Value.int .i64))) := hR.below (hb.mono hB)
  have HB := Lib.hid hb
  have HW := Lib.hid hW
  clear hW k1 k2 hb hR
  by_cases hlt : y < zs.length
  · obtain ⟨ad, rfl, hbl, hc⟩ := HR.out.int hlt
    rw [← el_get zs y hlt] at hc
    obtain ⟨x0, x1⟩ := regOk_el hok hlt
    obtain ⟨r, hr⟩ := Int.eq_ofNat_of_zero_le x0
    rw [hr] at hc x1
    have HF : Hid (r.testBit x = hasB (setZ zs) x y) := by unfold Hid; rw [hbit, hr]; simp [hlt]
    have hsh := bit_shr r x (by omega) hx
    have t0 : decide ((y : Int) < (zs.length : Int)) = true := by simp only [decide_eq_true_eq]; omega
    clear hr x0 hbit
    go_enter Tryz.func51, Tryz.ntmps51
    go_upto_region 1 with (fail)
    rw [← HW.out]
    refine wp_region_held_drew (S := fun w' => w' = W.drew) (by kernel_rfl) (by rfl) (fun hHeld => ?_)
    refine wpAnyH_take (i := 0) (oi := ⟨_, _, _, _, _, _⟩) (v := ?vap30318q0) rfl (by kernel_rfl) (by kernel_rfl) (by kernel_rfl) (fun _ _ _ h => h) (Or.inl ⟨by rfl, ?hap30318q0⟩) (by assumption) ?_
    case hap30318q0 => (intro w hSw; (try dsimp only at hSw); go_simp; try with_reducible rfl)
    try simp only [Act.put, List.setIfInBounds_toArray, List.set_cons_zero, List.set_cons_succ]
    refine wpAnyH_take (i := 1) (oi := ⟨_, _, _, _, _, _⟩) (v := ?vap30318q1) rfl (by kernel_rfl) (by kernel_rfl) (by kernel_rfl) (fun _ _ _ h => h) (Or.inl ⟨by rfl, ?hap30318q1⟩) (by assumption) ?_
    case hap30318q1 => (intro w hSw; (try dsimp only at hSw); go_simp; try with_reducible rfl)
    try simp only [Act.put, List.setIfInBounds_toArray, List.set_cons_zero, List.set_cons_succ]
    refine wpAnyH_take (i := 2) (oi := ⟨_, _, _, _, _, _⟩) (v := ?vap30318q2) rfl (by kernel_rfl) (by kernel_rfl) (by kernel_rfl) (fun _ _ _ h => h) (Or.inl ⟨by rfl, ?hap30318q2⟩) (by assumption) ?_
    case hap30318q2 => (intro w hSw; (try dsimp only at hSw); go_simp; try with_reducible rfl)
    try simp only [Act.put, List.setIfInBounds_toArray, List.set_cons_zero, List.set_cons_succ]
    refine wpAnyH_take (i := 3) (oi := ⟨_, _, _, _, _, _⟩) (v := ?vap30318q3) rfl (by kernel_rfl) (by kernel_rfl) (by kernel_rfl) (fun _ _ _ h => h) (Or.inl ⟨by rfl, ?hap30318q3⟩) (by assumption) ?_
    case hap30318q3 => (intro w hSw; (try dsimp only at hSw); go_simp; try with_reducible rfl)
    try simp only [Act.put, List.setIfInBounds_toArray, List.set_cons_zero, List.set_cons_succ]
    refine wpAnyH_ready (rs := [4]) (by kernel_rfl) (by simp) ?_
    refine AllReadyH.cons (o := ⟨_, _, _, _, _, _⟩) rfl (fun K hK => ?_) AllReadyH.nil
    go_simp
    refine hK.out _ _ (by exact hHeld) (fun hHeld => ?_)
    clear hK K
    try simp only [Act.put, List.setIfInBounds_toArray, List.set_cons_zero, List.set_cons_succ]
    refine wpAnyH_take (i := 5) (oi := ⟨_, _, _, _, _, _⟩) (v := ?vap30318q5) rfl (by kernel_rfl) (by kernel_rfl) (by kernel_rfl) (fun _ _ _ h => h) (Or.inl ⟨by rfl, ?hap30318q5⟩) (by assumption) ?_
    case hap30318q5 => (intro w hSw; (try dsimp only at hSw); go_simp; try with_reducible rfl)
    try simp only [Act.put, List.setIfInBounds_toArray, List.set_cons_zero, List.set_cons_succ]
    refine wpAnyH_take (i := 6) (oi := ⟨_, _, _, _, _, _⟩) (v := ?vap30318q6) rfl (by kernel_rfl) (by kernel_rfl) (by kernel_rfl) (fun _ _ _ h => h) (Or.inl ⟨by rfl, ?hap30318q6⟩) (by assumption) ?_
    case hap30318q6 => (intro w hSw; (try dsimp only at hSw); go_simp; try with_reducible rfl)
    try simp only [Act.put, List.setIfInBounds_toArray, List.set_cons_zero, List.set_cons_succ]
    refine wpAnyH_take (i := 7) (oi := ⟨_, _, _, _, _, _⟩) (v := ?vap30318q7) rfl (by kernel_rfl) (by kernel_rfl) (by kernel_rfl) (fun _ _ _ h => h) (Or.inl ⟨by rfl, ?hap30318q7⟩) (by assumption) ?_
    case hap30318q7 => (intro w hSw; (try dsimp only at hSw); go_simp; try with_reducible rfl)
    try simp only [Act.put, List.setIfInBounds_toArray, List.set_cons_zero, List.set_cons_succ]
    refine wpAnyH_take (i := 8) (oi := ⟨_, _, _, _, _, _⟩) (v := ?vap30318q8) rfl (by kernel_rfl) (by kernel_rfl) (by kernel_rfl) (fun _ _ _ h => h) (Or.inl ⟨by rfl, ?hap30318q8⟩) (by assumption) ?_
    case hap30318q8 => (intro w hSw; (try dsimp only at hSw); go_simp; try with_reducible rfl)
    try simp only [Act.put, List.setIfInBounds_toArray, List.set_cons_zero, List.set_cons_succ]
    refine wpAnyH_take (i := 9) (oi := ⟨_, _, _, _, _, _⟩) (v := ?vap30318q9) rfl (by kernel_rfl) (by kernel_rfl) (by kernel_rfl) (fun _ _ _ h => h) (Or.inl ⟨by rfl, ?hap30318q9⟩) (by assumption) ?_
    case hap30318q9 => (intro w hSw; (try dsimp only at hSw); go_simp; try with_reducible rfl)
    try simp only [Act.put, List.setIfInBounds_toArray, List.set_cons_zero, List.set_cons_succ]
    refine wpAnyH_take (i := 10) (oi := ⟨_, _, _, _, _, _⟩) (v := ?vap30318q10) rfl (by kernel_rfl) (by kernel_rfl) (by kernel_rfl) (fun _ _ _ h => h) (Or.inl ⟨by rfl, ?hap30318q10⟩) (by assumption) ?_
    case hap30318q10 => (intro w hSw; (try dsimp only at hSw); go_simp; try with_reducible rfl)
    try simp only [Act.put, List.setIfInBounds_toArray, List.set_cons_zero, List.set_cons_succ]
    refine wpAnyH_take (i := 11) (oi := ⟨_, _, _, _, _, _⟩) (v := ?vap30318q11) rfl (by kernel_rfl) (by kernel_rfl) (by kernel_rfl) (fun _ _ _ h => h) (Or.inl ⟨by rfl, ?hap30318q11⟩) (by assumption) ?_
    case hap30318q11 => (intro w hSw; (try dsimp only at hSw); go_simp; try with_reducible rfl)
    try simp only [Act.put, List.setIfInBounds_toArray, List.set_cons_zero, List.set_cons_succ]
    refine wpAnyH_take (i := 12) (oi := ⟨_, _, _, _, _, _⟩) (v := ?vap30318q12) rfl (by kernel_rfl) (by kernel_rfl) (by kernel_rfl) (fun _ _ _ h => h) (Or.inl ⟨by rfl, ?hap30318q12⟩) (by assumption) ?_
    case hap30318q12 => (intro w hSw; (try dsimp only at hSw); go_simp; try with_reducible rfl)
    try simp only [Act.put, List.setIfInBounds_toArray, List.set_cons_zero, List.set_cons_succ]
    refine wpAnyH_take (i := 13) (oi := ⟨_, _, _, _, _, _⟩) (v := ?vap30318q13) rfl (by kernel_rfl) (by kernel_rfl) (by kernel_rfl) (fun _ _ _ h => h) (Or.inl ⟨by rfl, ?hap30318q13⟩) (by assumption) ?_
    case hap30318q13 => (intro w hSw; (try dsimp only at hSw); go_simp; try with_reducible rfl)
    try simp only [Act.put, List.setIfInBounds_toArray, List.set_cons_zero, List.set_cons_succ]
    refine wpAnyH_take (i := 14) (oi := ⟨_, _, _, _, _, _⟩) (v := ?vap30318q14) rfl (by kernel_rfl) (by kernel_rfl) (by kernel_rfl) (fun _ _ _ h => h) (Or.inl ⟨by rfl, ?hap30318q14⟩) (by assumption) ?_
    case hap30318q14 => (intro w hSw; (try dsimp only at hSw); go_simp; try with_reducible rfl)
    try simp only [Act.put, List.setIfInBounds_toArray, List.set_cons_zero, List.set_cons_succ]
    refine wpAnyH_take (i := 15) (oi := ⟨_, _, _, _, _, _⟩) (v := ?vap30318q15) rfl (by kernel_rfl) (by kernel_rfl) (by kernel_rfl) (fun _ _ _ h => h) (Or.inl ⟨by rfl, ?hap30318q15⟩) (by assumption) ?_
    case hap30318q15 => (intro w hSw; (try dsimp only at hSw); go_simp; try with_reducible rfl)
    try simp only [Act.put, List.setIfInBounds_toArray, List.set_cons_zero, List.set_cons_succ]
    refine wpAnyH_take (i := 16) (oi := ⟨_, _, _, _, _, _⟩) (v := ?vap30318q16) rfl (by kernel_rfl) (by kernel_rfl) (by kernel_rfl) (fun _ _ _ h => h) (Or.inl ⟨by rfl, ?hap30318q16⟩) (by assumption) ?_
    case hap30318q16 => (intro w hSw; (try dsimp only at hSw); go_simp; try with_reducible rfl)
    try simp only [Act.put, List.setIfInBounds_toArray, List.set_cons_zero, List.set_cons_succ]
    refine wpAnyH_take (i := 17) (oi := ⟨_, _, _, _, _, _⟩) (v := ?vap30318q17) rfl (by kernel_rfl) (by kernel_rfl) (by kernel_rfl) (fun _ _ _ h => h) (Or.inl ⟨by rfl, ?hap30318q17⟩) (by assumption) ?_
    case hap30318q17 => (intro w hSw; (try dsimp only at hSw); go_simp; try with_reducible rfl)
    try simp only [Act.put, List.setIfInBounds_toArray, List.set_cons_zero, List.set_cons_succ]
    refine wpAnyH_take (i := 18) (oi := ⟨_, _, _, _, _, _⟩) (v := ?vap30318q18) rfl (by kernel_rfl) (by kernel_rfl) (by kernel_rfl) (fun _ _ _ h => h) (Or.inl ⟨by rfl, ?hap30318q18⟩) (by assumption) ?_
    case hap30318q18 => (intro w hSw; (try dsimp only at hSw); go_simp; try with_reducible rfl)
    try simp only [Act.put, List.setIfInBounds_toArray, List.set_cons_zero, List.set_cons_succ]
    refine wpAnyH_take (i := 19) (oi := ⟨_, _, _, _, _, _⟩) (v := ?vap30318q19) rfl (by kernel_rfl) (by kernel_rfl) (by kernel_rfl) (fun _ _ _ h => h) (Or.inl ⟨by rfl, ?hap30318q19⟩) (by assumption) ?_
    case hap30318q19 => (intro w hSw; (try dsimp only at hSw); go_simp; try with_reducible rfl)
    try simp only [Act.put, List.setIfInBounds_toArray, List.set_cons_zero, List.set_cons_succ]
    refine wpAnyH_done (by kernel_rfl) ?_ _
    go_wp2_with fail
    go_ret
    exact ⟨ret_bool HF.out, HB.out.drew⟩
  · have HF : Hid (false = hasB (setZ zs) x y) := by unfold Hid; rw [hbit]; simp [hlt]
    have t0 : decide ((y : Int) < (zs.length : Int)) = false := by simp only [decide_eq_false_iff_not]; omega
    clear hbit
    go_enter Tryz.func51, Tryz.ntmps51
    go_upto_region 1 with (fail)
    rw [← HW.out]
    refine wp_region_held_drew (S := fun w' => w' = W.drew) (by kernel_rfl) (by rfl) (fun hHeld => ?_)
    refine wpAnyH_take (i := 0) (oi := ⟨_, _, _, _, _, _⟩) (v := ?vap30319q0) rfl (by kernel_rfl) (by kernel_rfl) (by kernel_rfl) (fun _ _ _ h => h) (Or.inl ⟨by rfl, ?hap30319q0⟩) (by assumption) ?_
    case hap30319q0 => (intro w hSw; (try dsimp only at hSw); go_simp; try with_reducible rfl)
    try simp only [Act.put, List.setIfInBounds_toArray, List.set_cons_zero, List.set_cons_succ]
    refine wpAnyH_take (i := 1) (oi := ⟨_, _, _, _, _, _⟩) (v := ?vap30319q1) rfl (by kernel_rfl) (by kernel_rfl) (by kernel_rfl) (fun _ _ _ h => h) (Or.inl ⟨by rfl, ?hap30319q1⟩) (by assumption) ?_
    case hap30319q1 => (intro w hSw; (try dsimp only at hSw); go_simp; try with_reducible rfl)
    try simp only [Act.put, List.setIfInBounds_toArray, List.set_cons_zero, List.set_cons_succ]
    refine wpAnyH_take (i := 2) (oi := ⟨_, _, _, _, _, _⟩) (v := ?vap30319q2) rfl (by kernel_rfl) (by kernel_rfl) (by kernel_rfl) (fun _ _ _ h => h) (Or.inl ⟨by rfl, ?hap30319q2⟩) (by assumption) ?_
    case hap30319q2 => (intro w hSw; (try dsimp only at hSw); go_simp; try with_reducible rfl)
    try simp only [Act.put, List.setIfInBounds_toArray, List.set_cons_zero, List.set_cons_succ]
    refine wpAnyH_take (i := 3) (oi := ⟨_, _, _, _, _, _⟩) (v := ?vap30319q3) rfl (by kernel_rfl) (by kernel_rfl) (by kernel_rfl) (fun _ _ _ h => h) (Or.inl ⟨by rfl, ?hap30319q3⟩) (by assumption) ?_
    case hap30319q3 => (intro w hSw; (try dsimp only at hSw); go_simp; try with_reducible rfl)
    try simp only [Act.put, List.setIfInBounds_toArray, List.set_cons_zero, List.set_cons_succ]
    refine wpAnyH_ready (rs := [4]) (by kernel_rfl) (by simp) ?_
    refine AllReadyH.cons (o := ⟨_, _, _, _, _, _⟩) rfl (fun K hK => ?_) AllReadyH.nil
    go_simp
    refine hK.out _ _ (by exact hHeld) (fun hHeld => ?_)
    clear hK K
    try simp only [Act.put, List.setIfInBounds_toArray, List.set_cons_zero, List.set_cons_succ]
    refine wpAnyH_take (i := 5) (oi := ⟨_, _, _, _, _, _⟩) (v := ?vap30319q5) rfl (by kernel_rfl) (by kernel_rfl) (by kernel_rfl) (fun _ _ _ h => h) (Or.inl ⟨by rfl, ?hap30319q5⟩) (by assumption) ?_
    case hap30319q5 => (intro w hSw; (try dsimp only at hSw); go_simp; try with_reducible rfl)
    try simp only [Act.put, List.setIfInBounds_toArray, List.set_cons_zero, List.set_cons_succ]
    refine wpAnyH_take (i := 6) (oi := ⟨_, _, _, _, _, _⟩) (v := ?vap30319q6) rfl (by kernel_rfl) (by kernel_rfl) (by kernel_rfl) (fun _ _ _ h => h) (Or.inl ⟨by rfl, ?hap30319q6⟩) (by assumption) ?_
    case hap30319q6 => (intro w hSw; (try dsimp only at hSw); go_simp; try with_reducible rfl)
    try simp only [Act.put, List.setIfInBounds_toArray, List.set_cons_zero, List.set_cons_succ]
    refine wpAnyH_take (i := 7) (oi := ⟨_, _, _, _, _, _⟩) (v := undef) rfl (by kernel_rfl) (by kernel_rfl) (by kernel_rfl) (fun _ _ _ h => h) (Or.inr ⟨by rfl, rfl⟩) (by assumption) ?_
    try simp only [Act.put, List.setIfInBounds_toArray, List.set_cons_zero, List.set_cons_succ]
    refine wpAnyH_take (i := 8) (oi := ⟨_, _, _, _, _, _⟩) (v := undef) rfl (by kernel_rfl) (by kernel_rfl) (by kernel_rfl) (fun _ _ _ h => h) (Or.inr ⟨by rfl, rfl⟩) (by assumption) ?_
    try simp only [Act.put, List.setIfInBounds_toArray, List.set_cons_zero, List.set_cons_succ]
    refine wpAnyH_take (i := 9) (oi := ⟨_, _, _, _, _, _⟩) (v := undef) rfl (by kernel_rfl) (by kernel_rfl) (by kernel_rfl) (fun _ _ _ h => h) (Or.inr ⟨by rfl, rfl⟩) (by assumption) ?_
    try simp only [Act.put, List.setIfInBounds_toArray, List.set_cons_zero, List.set_cons_succ]
    refine wpAnyH_take (i := 10) (oi := ⟨_, _, _, _, _, _⟩) (v := undef) rfl (by kernel_rfl) (by kernel_rfl) (by kernel_rfl) (fun _ _ _ h => h) (Or.inr ⟨by rfl, rfl⟩) (by assumption) ?_
    try simp only [Act.put, List.setIfInBounds_toArray, List.set_cons_zero, List.set_cons_succ]
    refine wpAnyH_take (i := 11) (oi := ⟨_, _, _, _, _, _⟩) (v := undef) rfl (by kernel_rfl) (by kernel_rfl) (by kernel_rfl) (fun _ _ _ h => h) (Or.inr ⟨by rfl, rfl⟩) (by assumption) ?_
    try simp only [Act.put, List.setIfInBounds_toArray, List.set_cons_zero, List.set_cons_succ]
    refine wpAnyH_take (i := 12) (oi := ⟨_, _, _, _, _, _⟩) (v := undef) rfl (by kernel_rfl) (by kernel_rfl) (by kernel_rfl) (fun _ _ _ h => h) (Or.inr ⟨by rfl, rfl⟩) (by assumption) ?_
    try simp only [Act.put, List.setIfInBounds_toArray, List.set_cons_zero, List.set_cons_succ]
    refine wpAnyH_take (i := 13) (oi := ⟨_, _, _, _, _, _⟩) (v := undef) rfl (by kernel_rfl) (by kernel_rfl) (by kernel_rfl) (fun _ _ _ h => h) (Or.inr ⟨by rfl, rfl⟩) (by assumption) ?_
    try simp only [Act.put, List.setIfInBounds_toArray, List.set_cons_zero, List.set_cons_succ]
    refine wpAnyH_take (i := 14) (oi := ⟨_, _, _, _, _, _⟩) (v := undef) rfl (by kernel_rfl) (by kernel_rfl) (by kernel_rfl) (fun _ _ _ h => h) (Or.inr ⟨by rfl, rfl⟩) (by assumption) ?_
    try simp only [Act.put, List.setIfInBounds_toArray, List.set_cons_zero, List.set_cons_succ]
    refine wpAnyH_take (i := 15) (oi := ⟨_, _, _, _, _, _⟩) (v := undef) rfl (by kernel_rfl) (by kernel_rfl) (by kernel_rfl) (fun _ _ _ h => h) (Or.inr ⟨by rfl, rfl⟩) (by assumption) ?_
    try simp only [Act.put, List.setIfInBounds_toArray, List.set_cons_zero, List.set_cons_succ]
    refine wpAnyH_take (i := 16) (oi := ⟨_, _, _, _, _, _⟩) (v := undef) rfl (by kernel_rfl) (by kernel_rfl) (by kernel_rfl) (fun _ _ _ h => h) (Or.inr ⟨by rfl, rfl⟩) (by assumption) ?_
    try simp only [Act.put, List.setIfInBounds_toArray, List.set_cons_zero, List.set_cons_succ]
    refine wpAnyH_take (i := 17) (oi := ⟨_, _, _, _, _, _⟩) (v := undef) rfl (by kernel_rfl) (by kernel_rfl) (by kernel_rfl) (fun _ _ _ h => h) (Or.inr ⟨by rfl, rfl⟩) (by assumption) ?_
    try simp only [Act.put, List.setIfInBounds_toArray, List.set_cons_zero, List.set_cons_succ]
    refine wpAnyH_take (i := 18) (oi := ⟨_, _, _, _, _, _⟩) (v := ?vap30319q18) rfl (by kernel_rfl) (by kernel_rfl) (by kernel_rfl) (fun _ _ _ h => h) (Or.inl ⟨by rfl, ?hap30319q18⟩) (by assumption) ?_
    case hap30319q18 => (intro w hSw; (try dsimp only at hSw); go_simp; try with_reducible rfl)
    try simp only [Act.put, List.setIfInBounds_toArray, List.set_cons_zero, List.set_cons_succ]
    refine wpAnyH_take (i := 19) (oi := ⟨_, _, _, _, _, _⟩) (v := ?vap30319q19) rfl (by kernel_rfl) (by kernel_rfl) (by kernel_rfl) (fun _ _ _ h => h) (Or.inl ⟨by rfl, ?hap30319q19⟩) (by assumption) ?_
    case hap30319q19 => (intro w hSw; (try dsimp only at hSw); go_simp; try with_reducible rfl)
    try simp only [Act.put, List.setIfInBounds_toArray, List.set_cons_zero, List.set_cons_succ]
    refine wpAnyH_done (by kernel_rfl) ?_ _
    go_wp2_with fail
    go_ret
    exact ⟨ret_bool HF.out, HB.out.drew⟩

set_option maxRecDepth 100000 in
theorem HasCell_yes (v : Value) (zs : List Int) (B : Nat) (w : World) (h : RdI w B v zs) (hB : B ≤ w.heap.size) (hok : regOkB zs = true) (x y : Nat) (hx : x ≤ 7) (hy : y ≤ 7) :
    Calls Tryz.prog 46 #[.agg #[v], spotV x y] w fun e w' => e = .returned (.bool (hasB (setZ zs) x y)) ∧ Below w.heap.size w w' := by
  have HU := Lib.hid h
  have HOK := Lib.hid hok
  have HHC := Lib.hid (fun V hV hB' => l03Has_yes v zs B V hV hB' hok x y hx hy)
  have hcok : spotB 7 (x : Int) (y : Int) = true := (spotB_iff _ _ _).2 ⟨by omega, by omega⟩
  generalize hasB (setZ zs) x y = r at *
  obtain ⟨A, c, rfl, h1, h2, hR⟩ := h
  unfold maxLen at h2
  obtain ⟨W, hW, k1, k2, hb⟩ := two_alloc w (.cells #[.slice A zs.length c] 35) (.cells #[.int .i64 (x : Int), .int .i64 (y : Int)] 44)
  have c0 : W.cell? ⟨w.heap.size, 0, none⟩ = some (.slice A zs.length c) := by rw [blk_cell k1]; rfl
  have K1 := Lib.hid k1
  have K2 := Lib.hid k2
  have HB := Lib.hid hb
  have HW := Lib.hid hW
  clear hW k1 k2 hb hR hok
  go_enter Tryz.func46, Tryz.ntmps46
  go_upto_region 1 with (fail)
  rw [← HW.out]
  go_wp2_with fail
  refine (specRegionOk_yes _ zs B _ (HU.out.below (HB.out.mono hB)) (Nat.le_trans hB HB.out.size) HOK.out).mono ?_
  rintro e w3 ⟨rfl, hb3⟩
  have HB3 := Lib.hid (HB.out.trans (hb3.mono HB.out.size))
  have K13 := Lib.hid (blk_below K1.out hb3)
  have K23 := Lib.hid (blk_below K2.out hb3)
  have d1 : w3.cell? ⟨w.heap.size + 1, 0, none⟩ = some (.int .i64 (x : Int)) := by rw [blk_cell K23.out]; rfl
  have d2 : w3.cell? ⟨w.heap.size + 1, 1, none⟩ = some (.int .i64 (y : Int)) := by rw [blk_cell K23.out]; rfl
  clear hb3 c0
  go_wp2_with fail
  refine (specCellOk_any _ _ _).mono ?_
  rintro e w4 ⟨rfl, hb4⟩
  rw [hcok]
  have HB4 := Lib.hid (HB3.out.trans (hb4.mono HB3.out.size))
  have K14 := Lib.hid (blk_below K13.out hb4)
  have K24 := Lib.hid (blk_below K23.out hb4)
  have c4 : w4.cell? ⟨w.heap.size, 0, none⟩ = some (.slice A zs.length c) := by rw [blk_cell K14.out]; rfl
  have e1 : w4.cell? ⟨w.heap.size + 1, 0, none⟩ = some (.int .i64 (x : Int)) := by rw [blk_cell K24.out]; rfl
  have e2 : w4.cell? ⟨w.heap.size + 1, 1, none⟩ = some (.int .i64 (y : Int)) := by rw [blk_cell K24.out]; rfl
  clear hb4 d1 d2
  go_wp2_with fail
  refine (HHC.out _ (HU.out.below (HB4.out.mono hB)) (Nat.le_trans hB HB4.out.size)).mono ?_
  rintro e w5 ⟨rfl, hb5⟩
  have HB5 := Lib.hid (HB4.out.trans (hb5.mono HB4.out.size))
  clear hb5
  go_wp2_with fail
  go_ret
  exact ⟨rfl, HB5.out⟩

set_option maxRecDepth 100000 in
theorem CellAt_yes (k : Nat) (hk : k ≤ 63) (w : World) :
    Calls Tryz.prog 50 #[.int .i64 (k : Int)] w fun e w' => e = .returned (.tuple #[spotV ((k % 8 : Nat) : Int) ((k / 8 : Nat) : Int), .bool true]) ∧ Below w.heap.size w w' := by
  have t0 : inB (k : Int) 0 63 = true := inB_true (by omega) (by omega)
  have e1 : (k : Int) % 8 = ((k % 8 : Nat) : Int) := by omega
  have e2 : (k : Int) / 8 = ((k / 8 : Nat) : Int) := by omega
  have hb1 : k / 8 ≤ 7 := by omega
  generalize k % 8 = x at *
  generalize k / 8 = y at *
  obtain ⟨W, hW, k1, hb⟩ := one_alloc w (.cells #[.int .i64 0, .int .i64 0] 44)
  have c0 : W.cell? ⟨w.heap.size, 0, none⟩ = some (.int .i64 0) := by rw [blk_cell k1]; rfl
  have c1 : W.cell? ⟨w.heap.size, 1, none⟩ = some (.int .i64 0) := by rw [blk_cell k1]; rfl
  have f0 : ∀ o, W.frozen? ⟨w.heap.size, o, none⟩ = false := fun o => blk_free k1
  have HX : Hid (∀ X, X = (W.setCell ⟨w.heap.size, 0, none⟩ (.int .i64 (x : Int))).setCell ⟨w.heap.size, 1, none⟩ (.int .i64 (y : Int)) → X.cell? ⟨w.heap.size, 0, none⟩ = some (.int .i64 (x : Int)) ∧ X.cell? ⟨w.heap.size, 1, none⟩ = some (.int .i64 (y : Int)) ∧ Below w.heap.size w X) := by
    rintro X rfl
    have h1 := blk_setCell (k := 1) (blk_setCell (k := 0) k1 (.int .i64 (x : Int))) (.int .i64 (y : Int))
    exact ⟨by rw [blk_cell h1]; rfl, by rw [blk_cell h1]; rfl, (hb.setCell (Nat.le_refl _) _).setCell (Nat.le_refl _) _⟩
  have HW := Lib.hid hW
  clear hW k1 hb
  go_enter Tryz.func50, Tryz.ntmps50
  go_upto_region 1 with (fail)
  rw [← HW.out]
  go_wp2_with fail
  refine (l01In_any _ _ _ _).mono ?_
  rintro e w' ⟨rfl, rfl⟩
  rw [t0]
  go_wp2_with fail
  generalize hX : (W.setCell ⟨w.heap.size, 0, none⟩ (.int .i64 (x : Int))).setCell ⟨w.heap.size, 1, none⟩ (.int .i64 (y : Int)) = X
  obtain ⟨r0, r1, r2⟩ := HX.out X hX.symm
  refine bodyPost_ret (v := .tuple #[spotV (x : Int) (y : Int), .bool true]) (by simp [results, Tryz.results50, go_sem, r0, r1]) rfl ⟨rfl, r2⟩
end Go.Proofs.YtehnbalbpfmijaaGreatDoor

namespace Go.Proofs.YtehnbalbpfmijaaGreatDoor
open Go.RowKit
set_option linter.unusedVariables false

/-- How many of the first n numbers are in a set. -/
def cntB (T : Nat) : Nat → Nat
  | 0 => 0
  | n + 1 => cntB T n + (if T.testBit n then 1 else 0)
theorem cntB_le (T : Nat) : ∀ n, cntB T n ≤ n
  | 0 => Nat.le_refl _
  | n + 1 => by have := cntB_le T n; rw [cntB]; split <;> omega
/-- The cells of a set, in order. -/
def cellsTo (T : Nat) : Nat → List (Int × Int)
  | 0 => []
  | n + 1 => cellsTo T n ++ (if T.testBit n then [(((n % 8 : Nat) : Int), ((n / 8 : Nat) : Int))] else [])
theorem cellsTo_len (T : Nat) : ∀ n, (cellsTo T n).length = cntB T n
  | 0 => rfl
  | n + 1 => by rw [cellsTo, List.length_append, cellsTo_len T n, cntB]; split <;> rfl

set_option maxRecDepth 100000 in
set_option maxHeartbeats 2000000 in
theorem CellsOf_list (v : Value) (zs : List Int) (B : Nat) (w : World) (h : RdI w B v zs) (hB : B ≤ w.heap.size) (hok : regOkB zs = true) :
    Calls Tryz.prog 49 #[.agg #[v]] w fun e w' => ∃ u, e = .returned u ∧ OwnF elCell w' w.heap.size u (cellsTo (setZ zs) 64) ∧ Below w.heap.size w w' := by
  have HU := Lib.hid h
  have HOK := Lib.hid hok
  have HHC := Lib.hid (fun x y hx hy V hV hB' => l03Has_yes v zs B V hV hB' hok x y hx hy)
  obtain ⟨A, c, rfl, h1, h2, hR⟩ := h
  unfold maxLen at h2
  obtain ⟨W, hW, k1, hb⟩ := one_alloc w (.cells #[.slice A zs.length c] 35)
  have K1 := Lib.hid k1
  have L1 := Lib.hid (lt_of_block k1)
  have HB := Lib.hid hb
  have HW := Lib.hid hW
  have HUW := Lib.hid (HU.out.below (hb.mono hB))
  have hBW : B ≤ W.heap.size := Nat.le_trans hB hb.size
  have HS0 : Hid (Acc elCell W W.heap.size (W.alloc (.cells #[] 44)) (.slice (some ⟨W.heap.size, 0, none⟩) 0 0) []) := Acc.start W
  clear hW k1 hb hR hok
  go_enter Tryz.func49, Tryz.ntmps49
  go_upto_region 1 with (fail)
  rw [← HW.out]
  go_wp2_with fail
  go_loopw [3, 4] (fun o i wr => ∃ (k : Nat) (v : Value) (cs : List (Int × Int)), k ≤ 64 ∧ i = .int .i64 k ∧ v = o ∧ cs.length = cntB (setZ zs) k ∧ Hid (cs = cellsTo (setZ zs) k) ∧ Hid (Acc elCell W W.heap.size wr v cs)) (fun _ i _ => 64 - (intOf i).toNat)
  case atStart => exact ⟨0, _, [], Nat.zero_le _, rfl, rfl, rfl, rfl, HS0⟩
  case round =>
    obtain ⟨k, v, cs, hk, rfl, rfl, hcs, HCS, HA⟩ := hrel
    obtain ⟨A1, ca, hv, q1, q2, _⟩ := HA.out.1.rd okCell
    subst hv
    unfold maxLen at q2
    have HC := Lib.hid hcs
    have HLE := Lib.hid (cntB_le (setZ zs) k)
    have HBW := Lib.hid HA.out.2.1
    have c0 : wr.cell? ⟨w.heap.size, 0, none⟩ = some (.slice A zs.length c) := by rw [blk_cell (blk_below K1.out HBW.out)]; rfl
    have hcl : cs.length ≤ 64 := by have := HLE.out; omega
    by_cases hlt : k < 64
    · have ht : decide ((k : Int) < 64) = true := by simp only [decide_eq_true_eq]; omega
      clear hcs
      go_wp2_with fail
      refine (specRegionOk_yes _ zs B _ (HUW.out.below (HBW.out.mono hBW)) (Nat.le_trans hBW HBW.out.size) HOK.out).mono ?_
      rintro e w3 ⟨rfl, hb3⟩
      have HA3 := Lib.hid (HA.out.below hb3)
      clear hb3 c0
      go_wp2_with fail
      refine (CellAt_yes k (by omega) _).mono ?_
      rintro e w4 ⟨rfl, hb4⟩
      have HA4 := Lib.hid (HA3.out.below hb4)
      clear hb4
      have hx8 : k % 8 ≤ 7 := by omega
      have hy8 : k / 8 ≤ 7 := by omega
      have HXY : Hid (cix (k % 8) (k / 8) = k) := by unfold Hid cix; omega
      have HCN : Hid (cntB (setZ zs) (k + 1) = cntB (setZ zs) k + (if hasB (setZ zs) (k % 8) (k / 8) then 1 else 0)) := by unfold Hid hasB; rw [HXY.out]; rfl
      have HCT : Hid (cellsTo (setZ zs) (k + 1) = cellsTo (setZ zs) k ++ (if hasB (setZ zs) (k % 8) (k / 8) then [(((k % 8 : Nat) : Int), ((k / 8 : Nat) : Int))] else [])) := by unfold Hid hasB; rw [HXY.out]; rfl
      generalize k % 8 = x at *
      generalize k / 8 = y at *
      go_upto_region 6 with (fail)
      obtain ⟨X, hX, kx, hbx⟩ := one_alloc w4 (.cells #[.int .i64 (x : Int), .int .i64 (y : Int)] 44)
      rw [← hX]
      have HA5 := Lib.hid (HA4.out.below hbx)
      have e1 : X.cell? ⟨w4.heap.size, 0, none⟩ = some (.int .i64 (x : Int)) := by rw [blk_cell kx]; rfl
      have e2 : X.cell? ⟨w4.heap.size, 1, none⟩ = some (.int .i64 (y : Int)) := by rw [blk_cell kx]; rfl
      have c5 : X.cell? ⟨w.heap.size, 0, none⟩ = some (.slice A zs.length c) := by rw [blk_cell (blk_below K1.out HA5.out.2.1)]; rfl
      have KX := Lib.hid kx
      clear hX kx hbx
      go_wp2_with fail
      refine (HHC.out x y hx8 hy8 _ (HUW.out.below (HA5.out.2.1.mono hBW)) (Nat.le_trans hBW HA5.out.2.1.size)).mono ?_
      rintro e w6 ⟨rfl, hb6⟩
      have HA6 := Lib.hid (HA5.out.below hb6)
      have kx6 := blk_below KX.out hb6
      have g1 : w6.cell? ⟨w4.heap.size, 0, none⟩ = some (.int .i64 (x : Int)) := by rw [blk_cell kx6]; rfl
      have g2 : w6.cell? ⟨w4.heap.size, 1, none⟩ = some (.int .i64 (y : Int)) := by rw [blk_cell kx6]; rfl
      clear hb6 e1 e2 c5 kx6
      cases hh : hasB (setZ zs) x y
      · have HN : Hid (cs.length = cntB (setZ zs) (k + 1)) := by unfold Hid; rw [HCN.out, hh]; exact HC.out
        have HC2 : Hid (cs = cellsTo (setZ zs) (k + 1)) := by unfold Hid; rw [HCT.out, hh, HCS.out]; simp
        clear HCN hh
        go_wp2_with fail
        go_roundw
        case rel => exact ⟨k + 1, _, cs, by omega, by go_num, rfl, HN.out, HC2, HA6⟩
        case measure => simp [intOf]; omega
      · have HN : Hid (cs.length + 1 = cntB (setZ zs) (k + 1)) := by unfold Hid; rw [HCN.out, hh, HC.out]; rfl
        have HC2 : Hid (cs ++ [((x : Int), (y : Int))] = cellsTo (setZ zs) (k + 1)) := by unfold Hid; rw [HCT.out, hh, HCS.out]; rfl
        clear HCN hh
        go_wp2_with (at_builtin; refine wpList_push okCell rfl _ _ rfl HA6.out rfl ((x : Int), (y : Int)) _ rfl _ rfl (by simp) (by omega) ?_; intro u2 w7 HA7 HG7; obtain ⟨A7, c7, hu7, _⟩ := HA7.out.1.rd okCell; rw [List.length_append, List.length_singleton] at hu7; rw [hu7] at HA7; rw [hu7]; clear hu7 HG7)
        go_roundw
        case rel => exact ⟨k + 1, _, _, by omega, by go_num, rfl, by (rw [List.length_append, List.length_singleton]; exact HN.out), HC2, HA7⟩
        case measure => simp [intOf]; omega
    · have HK : Hid (cs = cellsTo (setZ zs) 64) := by unfold Hid; rw [HCS.out, show k = 64 by omega]
      have ht : decide ((k : Int) < 64) = false := by simp only [decide_eq_false_iff_not]; omega
      have HQ := Lib.hid (HB.out.trans (HBW.out.mono HB.out.size))
      clear hcs
      go_wp2_with fail
      go_ret
      exact ⟨_, rfl, by rw [← HK.out]; exact HA.out.1.mono HB.out.size, HQ.out⟩
theorem CellsOf_yes (v : Value) (zs : List Int) (B : Nat) (w : World) (h : RdI w B v zs) (hB : B ≤ w.heap.size) (hok : regOkB zs = true) :
    Calls Tryz.prog 49 #[.agg #[v]] w fun e w' => ∃ A c, e = .returned (.slice A (cntB (setZ zs) 64) c) ∧ Below w.heap.size w w' := by
  refine (CellsOf_list v zs B w h hB hok).mono ?_
  rintro e w' ⟨u, rfl, ho, hb⟩
  obtain ⟨A, c, rfl, _⟩ := ho.rd okCell
  rw [cellsTo_len]
  exact ⟨A, c, rfl, hb⟩

theorem CountCells_yes (v : Value) (zs : List Int) (B : Nat) (w : World) (h : RdI w B v zs) (hB : B ≤ w.heap.size) (hok : regOkB zs = true) :
    Calls Tryz.prog 25 #[.agg #[v]] w fun e w' => e = .returned (.int .i64 ((cntB (setZ zs) 64 : Nat) : Int)) ∧ Below w.heap.size w w' := by
  have HU := Lib.hid h
  have HOK := Lib.hid hok
  have HLE := Lib.hid (cntB_le (setZ zs) 64)
  obtain ⟨A, c, rfl, h1, h2, hR⟩ := h
  unfold maxLen at h2
  obtain ⟨W, hW, k1, hb⟩ := one_alloc w (.cells #[.slice A zs.length c] 35)
  have c0 : W.cell? ⟨w.heap.size, 0, none⟩ = some (.slice A zs.length c) := by rw [blk_cell k1]; rfl
  have HB := Lib.hid hb
  have HW := Lib.hid hW
  clear hW k1 hb hR hok
  go_enter Tryz.func25, Tryz.ntmps25
  go_upto_region 1 with (fail)
  rw [← HW.out]
  go_wp2_with fail
  refine (CellsOf_yes _ zs B _ (HU.out.below (HB.out.mono hB)) (Nat.le_trans hB HB.out.size) HOK.out).mono ?_
  rintro e w3 ⟨A3, c3, rfl, hb3⟩
  have HB3 := Lib.hid (HB.out.trans (hb3.mono HB.out.size))
  clear hb3
  go_wp2_with fail
  go_ret
  exact ⟨rfl, HB3.out⟩
end Go.Proofs.YtehnbalbpfmijaaGreatDoor
