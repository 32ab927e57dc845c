/- Dominoes as the program sees them: IsDominoBefore. -/
import Derived.Test.YtgehollikdbapaaDom2
import Derived.Deep.RegionLaw
namespace Go.Proofs.Ytgehollikdbapaa
open Go.RowKit
set_option linter.unusedVariables false

/-- A domino is ahead of another one. -/
def domLt (a b : Lk) : Bool := domB a.1 a.2.1 a.2.2 && domB b.1 b.2.1 b.2.2 && decide (domO a.1.toNat a.2.1.toNat a.2.2 < domO b.1.toNat b.2.1.toNat b.2.2)
theorem order_Z (x y : Int) (d : Bool) (w : World) (h : domB x y d = true) :
    Calls Try.prog 176 #[triV x y d] w fun e w' => e = .returned (.int .i64 (domO x.toNat y.toNat d : Nat)) ∧ Below w.heap.size w w' := by
  have hd := (domB_iff _ _ _).1 h
  obtain ⟨a, rfl⟩ := Int.eq_ofNat_of_zero_le hd.1.1
  obtain ⟨b, rfl⟩ := Int.eq_ofNat_of_zero_le hd.1.2
  exact order_any a b d w h
abbrev triO (x y : Int) (d : Bool) (t : TypeId) : Obj := .cells #[.int .i64 x, .int .i64 y, .bool d] t
/-- Two structs of three fields, in a world that grows. -/
abbrev TwoT (W w' : World) (a b : Nat) (p q : Lk) : Prop :=
  w'.cell? ⟨a, 0, none⟩ = some (.int .i64 p.1) ∧ w'.cell? ⟨a, 1, none⟩ = some (.int .i64 p.2.1) ∧ w'.cell? ⟨a, 2, none⟩ = some (.bool p.2.2) ∧
  w'.cell? ⟨b, 0, none⟩ = some (.int .i64 q.1) ∧ w'.cell? ⟨b, 1, none⟩ = some (.int .i64 q.2.1) ∧ w'.cell? ⟨b, 2, none⟩ = some (.bool q.2.2) ∧ W.heap.size ≤ w'.heap.size ∧ Below W.heap.size W w'
theorem TwoT.keep {W W0 w1 : World} {a b : Nat} {p q : Lk} (hb : Below W0.heap.size W0 w1) (ha : a < W.heap.size) (hbb : b < W.heap.size) (h : TwoT W W0 a b p q) : TwoT W w1 a b p q := by
  obtain ⟨h1, h2, h3, h4, h5, h6, h7, h8⟩ := h
  exact ⟨(hb.cell (by simp; omega)).trans h1, (hb.cell (by simp; omega)).trans h2, (hb.cell (by simp; omega)).trans h3, (hb.cell (by simp; omega)).trans h4, (hb.cell (by simp; omega)).trans h5, (hb.cell (by simp; omega)).trans h6, Nat.le_trans h7 hb.size, h8.trans (hb.mono h7)⟩
theorem TwoT.drew {W W0 : World} {a b : Nat} {p q : Lk} (h : TwoT W W0 a b p q) : TwoT W W0.drew a b p q := ⟨h.1, h.2.1, h.2.2.1, h.2.2.2.1, h.2.2.2.2.1, h.2.2.2.2.2.1, h.2.2.2.2.2.2.1, h.2.2.2.2.2.2.2.drew⟩
theorem TwoT.of {w W : World} {a b : Nat} {p q : Lk} {t t' : TypeId} (k1 : W.heap[a]? = some (triO p.1 p.2.1 p.2.2 t)) (k2 : W.heap[b]? = some (triO q.1 q.2.1 q.2.2 t')) : TwoT W W a b p q :=
  ⟨by rw [blk_cell k1]; rfl, by rw [blk_cell k1]; rfl, by rw [blk_cell k1]; rfl, by rw [blk_cell k2]; rfl, by rw [blk_cell k2]; rfl, by rw [blk_cell k2]; rfl, Nat.le_refl _, Below.refl _ _⟩

set_option maxRecDepth 100000 in
set_option maxHeartbeats 4000000 in
theorem Before_any (x y : Int) (d : Bool) (x' y' : Int) (d' : Bool) (w : World) :
    Calls Try.prog 172 #[triV x y d, triV x' y' d'] w fun e w' => e = .returned (.bool (domLt (x, y, d) (x', y', d'))) ∧ Below w.heap.size w w' := by
  obtain ⟨W, hW, k1, k2, hb⟩ := two_alloc w (triO x y d 113) (triO x' y' d' 113)
  have HW := Lib.hid hW
  have HB := Lib.hid hb
  have HS := Lib.hid (TwoT.of (w := w) (p := (x, y, d)) (q := (x', y', d')) k1 k2)
  have L1 := Lib.hid (lt_of_block k1)
  have L2 := Lib.hid (lt_of_block k2)
  clear hW k1 k2 hb
  cases h1 : domB x y d
  · have HF : Hid (false = domLt (x, y, d) (x', y', d')) := by unfold Hid domLt; simp [h1]
    generalize domLt (x, y, d) (x', y', d') = r at *
    have H1 := Lib.hid h1; clear h1
    go_enter Try.func172, Try.ntmps172
    go_wp2_with fail
    rw [← HW.out]
    obtain ⟨f1, f2, f3, f4, f5, f6, _, _⟩ := HS.out
    go_region_law (first
      | (go_simp; go_at_call 144; refine (DominoOk_any _ _ _ _).mono ?_; rintro e w1 ⟨rfl, hb1⟩; rw [H1.out]))
    all_goals
      go_wp2_with fail
      go_ret
      exact ⟨ret_bool HF.out, HB.out.trans ((Below.refl _ W).drew.trans (hb1.mono (Nat.le_refl _)) |>.mono HB.out.size)⟩
  · have H1 := Lib.hid h1
    cases h2 : domB x' y' d'
    · have HF : Hid (false = domLt (x, y, d) (x', y', d')) := by unfold Hid domLt; simp [h2]
      generalize domLt (x, y, d) (x', y', d') = r at *
      have H2 := Lib.hid h2; clear h1 h2
      go_enter Try.func172, Try.ntmps172
      go_wp2_with fail
      rw [← HW.out]
      obtain ⟨f1, f2, f3, f4, f5, f6, _, _⟩ := HS.out
      have HT0 := Lib.hid HS.out.drew
      go_region_law (first
        | (go_simp; go_at_call 144; (with_reducible refine (DominoOk_any x y d _).mono ?_); rintro e w1 ⟨rfl, hb1⟩; rw [H1.out]; have HT1 := Lib.hid (TwoT.keep hb1 L1.out L2.out HT0.out); obtain ⟨g1, g2, g3, g4, g5, g6, _, _⟩ := HT1.out)
        | (go_simp; go_at_call 144; (with_reducible refine (DominoOk_any x' y' d' _).mono ?_); rintro e w2 ⟨rfl, hb2⟩; rw [H2.out]; have HT2 := Lib.hid (TwoT.keep hb2 L1.out L2.out HT1.out)))
      all_goals
        go_wp2_with fail
        go_ret
        exact ⟨ret_bool HF.out, HB.out.trans (HT2.out.2.2.2.2.2.2.2.mono HB.out.size)⟩
    · have HF : Hid (decide (domO x.toNat y.toNat d < domO x'.toNat y'.toNat d') = domLt (x, y, d) (x', y', d')) := by unfold Hid domLt; simp [h1, h2]
      have H2 := Lib.hid h2
      have hC1 := Lib.hid fun V => order_Z x y d V h1
      have hC2 := Lib.hid fun V => order_Z x' y' d' V h2
      generalize domLt (x, y, d) (x', y', d') = r at *
      generalize domO x.toNat y.toNat d = n1 at *
      generalize domO x'.toNat y'.toNat d' = n2 at *
      clear h1 h2
      go_enter Try.func172, Try.ntmps172
      go_wp2_with fail
      rw [← HW.out]
      go_region_held3 (fun w' => TwoT W w' w.heap.size (w.heap.size + 1) (x, y, d) (x', y', d'))
        (first
          | exact HS.out.drew
          | exact TwoT.keep hb1 L1.out L2.out (by assumption))
        (first
          | (go_at_call 144; (with_reducible refine (DominoOk_any x y d _).mono ?_); rintro e w1 ⟨rfl, hb1⟩; rw [H1.out])
          | (go_at_call 144; (with_reducible refine (DominoOk_any x' y' d' _).mono ?_); rintro e w1 ⟨rfl, hb1⟩; rw [H2.out])
          | (go_at_call 176; (with_reducible refine (hC1.out _).mono ?_); rintro e w1 ⟨rfl, hb1⟩)
          | (go_at_call 176; (with_reducible refine (hC2.out _).mono ?_); rintro e w1 ⟨rfl, hb1⟩))
      have HB4 := Lib.hid (HB.out.trans ((show TwoT W w1 w.heap.size (w.heap.size + 1) (x, y, d) (x', y', d') from by assumption).2.2.2.2.2.2.2.mono HB.out.size))
      go_wp2_with fail
      go_ret
      exact ⟨ret_bool HF.out, HB4.out⟩
end Go.Proofs.Ytgehollikdbapaa
