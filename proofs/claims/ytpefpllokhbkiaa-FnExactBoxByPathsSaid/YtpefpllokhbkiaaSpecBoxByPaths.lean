/- The contract of the reference's BoxByPaths. -/
import Derived.Test.YtpefpllokhbkiaaCof
import Derived.Test.YtpefpllokhbkiaaDrawn
import Derived.Test.YtpefpllokhbkiaaBoxM
namespace Go.Proofs.Ytpefpllokhbkiaa
open Go.RowKit

theorem bmat_row2 (b c : Int) (n i : Nat) : ∀ m, i < m → rw' (bmat b c n m) i = brow b c i n := by
  intro m
  induction m with
  | zero => intro h; omega
  | succ m ih =>
    intro h
    unfold rw' at ih ⊢
    rw [bmat, List.getD_eq_getElem?_getD]
    by_cases e : i = m
    · subst e; rw [List.getElem?_append_right (by rw [bmat_length]; exact Nat.le_refl _), bmat_length]; simp
    · rw [List.getElem?_append_left (by rw [bmat_length]; omega), ← List.getD_eq_getElem?_getD]; exact ih (by omega)
theorem bmatZ_sq (a b c : Int) : (bmatZ a b c).length ≤ 3 ∧ ∀ i, i < (bmatZ a b c).length → (rw' (bmatZ a b c) i).length = (bmatZ a b c).length := by
  unfold bmatZ
  split
  · rename_i h
    have h1 := ((boxB_iff _ _ _).1 h).1
    rw [bmat_length]
    exact ⟨by omega, fun i hi => by rw [bmat_row2 _ _ _ _ _ hi, brow_length]⟩
  · exact ⟨by simp, fun i hi => by simp at hi⟩

set_option maxHeartbeats 4000000 in
theorem specBoxByPaths_any (a b c : Int) (w : World) :
    Calls Try.prog 31 #[.int .i64 a, .int .i64 b, .int .i64 c] w fun e w' => e = .returned (.int .i64 (cofZ (bmatZ a b c))) ∧ Below w.heap.size w w' := by
  have hl := (bmatZ_sq a b c).1
  have hs := (bmatZ_sq a b c).2
  generalize hm : (bmatZ a b c) = m at *
  have HM := Lib.hid hm; clear hm
  go_enter Try.func31, Try.ntmps31
  go_wp2_with fail
  refine (specBoxMatrix_any _ _ _ _).mono ?_
  rintro e w1 ⟨v, hi, rfl, ho, hx, hb⟩
  rw [HM.out] at ho
  rcases (show m.length = 0 ∨ m.length = 1 ∨ m.length = 2 ∨ m.length = 3 by omega) with hn | hn | hn | hn
  · -- no rows
    have hz : m = [] := List.eq_nil_of_length_eq_zero hn
    subst hz
    obtain ⟨A, c, rfl, _⟩ := ho.rd.open_
    clear hs hn hl ho
    go_wp2_with fail
    go_ret
    exact ⟨ret_int rfl, hb⟩
  all_goals (have hs : ∀ i, i < m.length → (rw' m i).length = m.length := hs)
  all_goals (rw [hn] at hs)
  · -- 1 rows
    have hs2 : Shape 1 m := ⟨hn, fun i hi => hs i (by omega)⟩
    obtain ⟨g, cap, rfl, k1, k2, hc⟩ := ownM_cells ho hs2 (by omega)
    obtain ⟨g0, c0, r0, a0, b0, e0⟩ := hc 0 (by omega)
    have e00 := e0 0 (by omega)
    have HF : Hid (cofZ m = elZ m 0 0) := by unfold Hid cofZ; rw [hn]; rfl
    clear hc e0 hs2 hs
    have HN := Lib.hid hn; clear hn
    obtain ⟨x00, X00⟩ : ∃ x, Hid (x = elZ m 0 0) := ⟨_, rfl⟩
    rw [← X00.out] at e00
    clear ho
    go_wp2_with fail
    go_ret
    exact ⟨ret_int (by rw [HF.out, X00.out]), hb⟩
  · -- 2 rows
    have hs2 : Shape 2 m := ⟨hn, fun i hi => hs i (by omega)⟩
    obtain ⟨g, cap, rfl, k1, k2, hc⟩ := ownM_cells ho hs2 (by omega)
    obtain ⟨g0, c0, r0, a0, b0, e0⟩ := hc 0 (by omega)
    have e00 := e0 0 (by omega)
    have e01 := e0 1 (by omega)
    obtain ⟨g1, c1, r1, a1, b1, e1⟩ := hc 1 (by omega)
    have e10 := e1 0 (by omega)
    have e11 := e1 1 (by omega)
    have HF : Hid (cofZ m = cof2 m) := by unfold Hid cofZ; rw [hn]; rfl
    clear hc e0 e1 hs2 hs
    have HN := Lib.hid hn; clear hn
    obtain ⟨x00, X00⟩ : ∃ x, Hid (x = elZ m 0 0) := ⟨_, rfl⟩
    rw [← X00.out] at e00
    obtain ⟨x01, X01⟩ : ∃ x, Hid (x = elZ m 0 1) := ⟨_, rfl⟩
    rw [← X01.out] at e01
    obtain ⟨x10, X10⟩ : ∃ x, Hid (x = elZ m 1 0) := ⟨_, rfl⟩
    rw [← X10.out] at e10
    obtain ⟨x11, X11⟩ : ∃ x, Hid (x = elZ m 1 1) := ⟨_, rfl⟩
    rw [← X11.out] at e11
    clear ho
    go_wp2_with fail
    go_quiet (fail)
    go_wp2_with fail
    go_ret
    exact ⟨ret_int (by rw [HF.out]; unfold cof2; rw [← X00.out, ← X01.out, ← X10.out, ← X11.out]; first | done | (simp only [IntWalk.i64_left])), hb.trans (Drawn.below ⟨_, rfl⟩ _)⟩
  · -- 3 rows
    have hs2 : Shape 3 m := ⟨hn, fun i hi => hs i (by omega)⟩
    obtain ⟨g, cap, rfl, k1, k2, hc⟩ := ownM_cells ho hs2 (by omega)
    obtain ⟨g0, c0, r0, a0, b0, e0⟩ := hc 0 (by omega)
    have e00 := e0 0 (by omega)
    have e01 := e0 1 (by omega)
    have e02 := e0 2 (by omega)
    obtain ⟨g1, c1, r1, a1, b1, e1⟩ := hc 1 (by omega)
    have e10 := e1 0 (by omega)
    have e11 := e1 1 (by omega)
    have e12 := e1 2 (by omega)
    obtain ⟨g2, c2, r2, a2, b2, e2⟩ := hc 2 (by omega)
    have e20 := e2 0 (by omega)
    have e21 := e2 1 (by omega)
    have e22 := e2 2 (by omega)
    have HF : Hid (cofZ m = cof3 m) := by unfold Hid cofZ; rw [hn]; rfl
    clear hc e0 e1 e2 hs2 hs
    have HN := Lib.hid hn; clear hn
    obtain ⟨x00, X00⟩ : ∃ x, Hid (x = elZ m 0 0) := ⟨_, rfl⟩
    rw [← X00.out] at e00
    obtain ⟨x01, X01⟩ : ∃ x, Hid (x = elZ m 0 1) := ⟨_, rfl⟩
    rw [← X01.out] at e01
    obtain ⟨x02, X02⟩ : ∃ x, Hid (x = elZ m 0 2) := ⟨_, rfl⟩
    rw [← X02.out] at e02
    obtain ⟨x10, X10⟩ : ∃ x, Hid (x = elZ m 1 0) := ⟨_, rfl⟩
    rw [← X10.out] at e10
    obtain ⟨x11, X11⟩ : ∃ x, Hid (x = elZ m 1 1) := ⟨_, rfl⟩
    rw [← X11.out] at e11
    obtain ⟨x12, X12⟩ : ∃ x, Hid (x = elZ m 1 2) := ⟨_, rfl⟩
    rw [← X12.out] at e12
    obtain ⟨x20, X20⟩ : ∃ x, Hid (x = elZ m 2 0) := ⟨_, rfl⟩
    rw [← X20.out] at e20
    obtain ⟨x21, X21⟩ : ∃ x, Hid (x = elZ m 2 1) := ⟨_, rfl⟩
    rw [← X21.out] at e21
    obtain ⟨x22, X22⟩ : ∃ x, Hid (x = elZ m 2 2) := ⟨_, rfl⟩
    rw [← X22.out] at e22
    clear ho
    go_wp2_with fail
    go_quiet (fail)
    go_wp2_with fail
    go_ret
    exact ⟨ret_int (by rw [HF.out]; unfold cof3 minor; rw [← X00.out, ← X01.out, ← X02.out, ← X10.out, ← X11.out, ← X12.out, ← X20.out, ← X21.out, ← X22.out]; first | done | (simp only [IntWalk.i64_left])), hb.trans (Drawn.below ⟨_, rfl⟩ _)⟩
end Go.Proofs.Ytpefpllokhbkiaa
