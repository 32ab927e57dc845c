/- Dominoes as the program sees them: DominoOk, set, order, IsDominoBefore. -/
import Derived.Test.YtgehollikdbapaaDom
namespace Go.Proofs.Ytgehollikdbapaa
open Go.RowKit
set_option linter.unusedVariables false

/-- The number of a domino in the order. -/
def domM (x y : Nat) (d : Bool) : Nat := 2 ^ cix x y ||| (if d then 2 ^ cix x (y + 1) else 2 ^ cix (x + 1) y)
theorem domB_iff (x y : Int) (d : Bool) : domB x y d = true ↔ (0 ≤ x ∧ 0 ≤ y) ∧ if d then x ≤ 7 ∧ y ≤ 6 else x ≤ 6 ∧ y ≤ 7 := by
  unfold domB sndX sndY
  simp only [Bool.and_eq_true, spotB_iff]
  cases d
  · simp only [Bool.false_eq_true, if_false]
    constructor
    · rintro ⟨⟨⟨a, b⟩, c, e⟩, ⟨f, g⟩, h, i⟩
      have : wrap64 (x + 1) = x + 1 := IntWalk.wrap64_in _ (by omega)
      omega
    · rintro ⟨⟨a, b⟩, c, e⟩
      have : wrap64 (x + 1) = x + 1 := IntWalk.wrap64_in _ (by omega)
      omega
  · simp only [if_true]
    constructor
    · rintro ⟨⟨⟨a, b⟩, c, e⟩, ⟨f, g⟩, h, i⟩
      have : wrap64 (y + 1) = y + 1 := IntWalk.wrap64_in _ (by omega)
      omega
    · rintro ⟨⟨a, b⟩, c, e⟩
      have : wrap64 (y + 1) = y + 1 := IntWalk.wrap64_in _ (by omega)
      omega

set_option maxRecDepth 100000 in
set_option maxHeartbeats 2000000 in
theorem DominoOk_any (x y : Int) (d : Bool) (w : World) :
    Calls Try.prog 144 #[triV x y d] w fun e w' => e = .returned (.bool (domB x y d)) ∧ Below w.heap.size w w' := by
  have HF : Hid ((spotB 7 x y && spotB 7 (sndX x d) (sndY y d)) = domB x y d) := rfl
  generalize domB x y d = r at *
  have HB0 : Hid (Below w.heap.size w (w.alloc (.cells #[.int .i64 x, .int .i64 y, .bool d] 113))) := (Below.refl _ _).alloc (Nat.le_refl _) _
  generalize hx2 : sndX x d = x2 at *
  generalize hy2 : sndY y d = y2 at *
  have HX2 := Lib.hid hx2; have HY2 := Lib.hid hy2
  clear hx2 hy2
  cases c1 : spotB 7 x y
  all_goals cases c2 : spotB 7 x2 y2
  all_goals
    rw [c1, c2] at HF
    go_enter Try.func144, Try.ntmps144
    go_wp2_with fail
    refine (ends_any x y d _).mono ?_
    rintro e w1 ⟨rfl, hb1⟩
    rw [HX2.out, HY2.out]
    have HB1 := Lib.hid (HB0.out.trans (hb1.mono HB0.out.size))
    clear hb1
    go_wp2_with fail
    obtain ⟨W, hW, k1, k2, hb2⟩ := two_alloc w1 (.cells #[.int .i64 x, .int .i64 y] 122) (.cells #[.int .i64 x2, .int .i64 y2] 122)
    rw [← hW]
    have HB2 := Lib.hid (HB1.out.trans (hb2.mono HB1.out.size))
    have K2 := Lib.hid k2
    clear hW hb2 k1 k2
    refine (CellOk_any _ _ _).mono ?_
    rintro e w3 ⟨rfl, hb3⟩
    rw [c1]
    have k3 := blk_below K2.out hb3
    have HB3 := Lib.hid (HB2.out.trans (hb3.mono HB2.out.size))
    have e2 : w3.cell? ⟨w1.heap.size + 1, 0, none⟩ = some (.int .i64 x2) := by rw [blk_cell k3]; rfl
    have e3 : w3.cell? ⟨w1.heap.size + 1, 1, none⟩ = some (.int .i64 y2) := by rw [blk_cell k3]; rfl
    clear k3 hb3
    go_wp2_with fail
    first
      | (go_ret; exact ⟨ret_bool HF.out, HB3.out⟩)
      | (refine (CellOk_any _ _ _).mono ?_
         rintro e w4 ⟨rfl, hb4⟩
         rw [c2]
         go_wp2_with fail
         go_ret
         exact ⟨ret_bool HF.out, HB3.out.trans (hb4.mono HB3.out.size)⟩)

/-- Two cells of two numbers each, in a world that grows. -/
abbrev TwoC (W w' : World) (a b : Nat) (x y x2 y2 : Int) : Prop := w'.cell? ⟨a, 0, none⟩ = some (.int .i64 x) ∧ w'.cell? ⟨a, 1, none⟩ = some (.int .i64 y) ∧ w'.cell? ⟨b, 0, none⟩ = some (.int .i64 x2) ∧ w'.cell? ⟨b, 1, none⟩ = some (.int .i64 y2) ∧ W.heap.size ≤ w'.heap.size ∧ Below W.heap.size W w'
theorem TwoC.keep {W W0 w1 : World} {a b : Nat} {x y x2 y2 : Int} (hb : Below W0.heap.size W0 w1) (ha : a < W.heap.size) (hbb : b < W.heap.size) (h : TwoC W W0 a b x y x2 y2) : TwoC W w1 a b x y x2 y2 := by
  obtain ⟨h1, h2, h3, h4, h5, h6⟩ := h
  exact ⟨(hb.cell (by simp; omega)).trans h1, (hb.cell (by simp; omega)).trans h2, (hb.cell (by simp; omega)).trans h3, (hb.cell (by simp; omega)).trans h4, Nat.le_trans h5 hb.size, h6.trans (hb.mono h5)⟩
theorem TwoC.drew {W W0 : World} {a b : Nat} {x y x2 y2 : Int} (h : TwoC W W0 a b x y x2 y2) : TwoC W W0.drew a b x y x2 y2 := ⟨h.1, h.2.1, h.2.2.1, h.2.2.2.1, h.2.2.2.2.1, h.2.2.2.2.2.drew⟩
theorem orU (a b : Nat) (ha : a < 18446744073709551616) (hb : b < 18446744073709551616) : a ||| b < 18446744073709551616 := Nat.or_lt_two_pow (n := 64) ha hb
theorem domM_lt (x y : Nat) (d : Bool) (h : domB x y d = true) : domM x y d < 18446744073709551616 := by
  have hd := (domB_iff _ _ _).1 h
  have hp : ∀ k, k ≤ 63 → 2 ^ k < 18446744073709551616 := fun k hk => Nat.pow_lt_pow_right (a := 2) (m := k) (n := 64) (by omega) (by omega)
  unfold domM
  refine orU _ _ (hp _ (by unfold cix; cases d <;> simp at hd <;> omega)) ?_
  cases d
  · simp at hd ⊢; exact hp _ (by unfold cix; omega)
  · simp at hd ⊢; exact hp _ (by unfold cix; omega)
set_option maxRecDepth 100000 in
set_option maxHeartbeats 2000000 in
theorem dset_any (x y : Nat) (d : Bool) (w : World) (h : domB x y d = true) :
    Calls Try.prog 145 #[triV x y d] w fun e w' => e = .returned (.int .u64 (domM x y d : Nat)) ∧ Below w.heap.size w w' := by
  have hd := (domB_iff _ _ _).1 h
  obtain ⟨x2, y2, hx2, hy2, b1, b2, b3, b4, HM⟩ : ∃ x2 y2 : Nat, sndX x d = (x2 : Int) ∧ sndY y d = (y2 : Int) ∧ x ≤ 7 ∧ y ≤ 7 ∧ x2 ≤ 7 ∧ y2 ≤ 7 ∧ Hid ((0 ||| 2 ^ cix x y) ||| 2 ^ cix x2 y2 = domM x y d) := by
    cases d
    · simp at hd
      refine ⟨x + 1, y, ?_, rfl, by omega, by omega, by omega, by omega, ?_⟩
      · have : wrap64 ((x : Int) + 1) = (x : Int) + 1 := IntWalk.wrap64_in _ (by omega)
        simp [sndX, this]
      · unfold Hid domM; simp
    · simp at hd
      refine ⟨x, y + 1, rfl, ?_, by omega, by omega, by omega, by omega, ?_⟩
      · have : wrap64 ((y : Int) + 1) = (y : Int) + 1 := IntWalk.wrap64_in _ (by omega)
        simp [sndY, this]
      · unfold Hid domM; simp
  have HX2 := Lib.hid hx2; have HY2 := Lib.hid hy2
  have hk : cix x y ≤ 63 := by unfold cix; omega
  have hT : 0 ||| 2 ^ cix x y < 18446744073709551616 := with_lt (by omega) hk
  have HB0 : Hid (Below w.heap.size w (w.alloc (.cells #[.int .i64 (x : Int), .int .i64 (y : Int), .bool d] 113))) := (Below.refl _ _).alloc (Nat.le_refl _) _
  clear hx2 hy2 hd h
  go_enter Try.func145, Try.ntmps145
  go_wp2_with fail
  refine (ends_any x y d _).mono ?_
  rintro e w1 ⟨rfl, hb1⟩
  rw [HX2.out, HY2.out]
  have HB1 := Lib.hid (HB0.out.trans (hb1.mono HB0.out.size))
  clear hb1
  go_wp2_with fail
  obtain ⟨W, hW, k1, k2, hb2⟩ := two_alloc w1 (.cells #[.int .i64 (x : Int), .int .i64 (y : Int)] 122) (.cells #[.int .i64 (x2 : Int), .int .i64 (y2 : Int)] 122)
  rw [← hW]
  have HB2 := Lib.hid (HB1.out.trans (hb2.mono HB1.out.size))
  have HS : Hid (TwoC W W w1.heap.size (w1.heap.size + 1) x y x2 y2) :=
    ⟨by rw [blk_cell k1]; rfl, by rw [blk_cell k1]; rfl, by rw [blk_cell k2]; rfl, by rw [blk_cell k2]; rfl, Nat.le_refl _, Below.refl _ _⟩
  have L1 := Lib.hid (lt_of_block k1)
  have L2 := Lib.hid (lt_of_block k2)
  clear hW hb2 k1 k2
  obtain ⟨T1, HT1⟩ : ∃ T1 : Nat, Hid ((0 ||| 2 ^ cix x y : Nat) = T1) := ⟨_, rfl⟩
  rw [HT1.out] at HM hT
  have hC1 : Hid (∀ V, Calls Try.prog 136 #[.int .u64 0, spotV x y] V fun e w' => e = .returned (.int .u64 (T1 : Int)) ∧ Below V.heap.size V w') := fun V => by
    have h1 := with_yes 0 x y (by omega) b1 b2 V
    rw [HT1.out] at h1
    exact h1
  have hC2 : Hid (∀ V, Calls Try.prog 136 #[.int .u64 (T1 : Int), spotV x2 y2] V fun e w' => e = .returned (.int .u64 (domM x y d : Nat)) ∧ Below V.heap.size V w') := fun V => by
    have h1 := with_yes T1 x2 y2 hT b3 b4 V
    rw [HM.out] at h1
    exact h1
  go_region_held3 (fun w' => TwoC W w' w1.heap.size (w1.heap.size + 1) x y x2 y2)
      (first
        | exact HS.out.drew
        | exact TwoC.keep hb4 L1.out L2.out (by assumption))
      (first
        | (go_at_call 136; (with_reducible refine (hC1.out _).mono ?_); rintro e w4 ⟨rfl, hb4⟩)
        | (go_at_call 136; (with_reducible refine (hC2.out _).mono ?_); rintro e w4 ⟨rfl, hb4⟩))
  have HB4 := Lib.hid (HB2.out.trans ((show TwoC W w4 w1.heap.size (w1.heap.size + 1) x y x2 y2 from by assumption).2.2.2.2.2.mono HB2.out.size))
  go_wp2_with fail
  go_ret
  exact ⟨rfl, HB4.out⟩

/-- The number of a domino in the order. -/
def domO (x y : Nat) (d : Bool) : Nat := 2 * cix x y + if d then 1 else 0
set_option maxRecDepth 100000 in
set_option maxHeartbeats 2000000 in
theorem order_any (x y : Nat) (d : Bool) (w : World) (h : domB x y d = true) :
    Calls Try.prog 176 #[triV x y d] w fun e w' => e = .returned (.int .i64 (domO x y d : Nat)) ∧ Below w.heap.size w w' := by
  have hd := (domB_iff _ _ _).1 h
  have b1 : x ≤ 7 := by cases d <;> simp at hd <;> omega
  have b2 : y ≤ 7 := by cases d <;> simp at hd <;> omega
  have hk : cix x y ≤ 63 := by unfold cix; omega
  have HM : Hid (2 * ((cix x y : Nat) : Int) + (if d then 1 else 0) = ((domO x y d : Nat) : Int)) := by unfold Hid domO; cases d <;> simp
  obtain ⟨k, HK⟩ : ∃ k, Hid (cix x y = k) := ⟨_, rfl⟩
  rw [HK.out] at hk HM
  clear hd h
  obtain ⟨W, hW, k1, hb⟩ := one_alloc w (.cells #[.int .i64 (x : Int), .int .i64 (y : Int), .bool d] 113)
  have HBW := Lib.hid hb
  have HK1 := Lib.hid k1
  have HWW := Lib.hid hW
  clear hW k1 hb
  go_enter Try.func176, Try.ntmps176
  go_wp2_with fail
  rw [← HWW.out]
  refine (CellIndex_yes x y b1 b2 _).mono ?_
  rintro e w1 ⟨rfl, hb1⟩
  rw [HK.out]
  have k2 := blk_below HK1.out hb1
  have HB := Lib.hid (HBW.out.trans (hb1.mono HBW.out.size))
  have e1 : w1.cell? ⟨w.heap.size, 2, none⟩ = some (.bool d) := by rw [blk_cell k2]; rfl
  clear k2 hb1
  cases d
  all_goals
    go_wp2_with fail
    go_ret
    exact ⟨ret_int (by have := HM.out; simp at this; omega), HB.out⟩
end Go.Proofs.Ytgehollikdbapaa
