/- The contract of the reference's PathDeterminant. -/
import Derived.Test.YtpockbbfbnaioaaCof
import Derived.Test.YtpockbbfbnaioaaDrawn
import Derived.Test.YtpockbbfbnaioaaPathM
namespace Go.Proofs.Ytpockbbfbnaioaa
open Go.RowKit

set_option maxHeartbeats 4000000 in
theorem specPathDeterminant_any (ps qs : List (Int × Int)) (u v : Value) (B : Nat) (w : World) (hu : RdP w B u ps) (hv : RdP w B v qs) (hB : B ≤ w.heap.size) :
    Calls Try.prog 25 #[u, v] w fun e w' => e = .returned (.int .i64 (cofZ (pmZ ps qs))) ∧ Below w.heap.size w w' := by
  have hl := (pmZ_sq ps qs).1
  have hs := (pmZ_sq ps qs).2
  have HU := Lib.hid hu
  have HV := Lib.hid hv
  obtain ⟨A0, c0, rfl, _⟩ := hu
  obtain ⟨A0', c0', rfl, _⟩ := hv
  generalize hm : (pmZ ps qs) = m at *
  have HM := Lib.hid hm; clear hm
  go_enter Try.func25, Try.ntmps25
  go_wp2_with fail
  refine (specPathMatrix_any _ _ ps qs _ _ HU.out HV.out hB).mono ?_
  rintro e w1 ⟨v, hi, rfl, ho, hx, hb⟩
  rw [HM.out] at ho
  rcases (show m.length = 0 ∨ m.length = 1 ∨ m.length = 2 ∨ m.length = 3 by omega) with hn | hn | hn | hn
  · -- no rows
    have hz : m = [] := List.eq_nil_of_length_eq_zero hn
    subst hz
    obtain ⟨A, c, rfl, _⟩ := ho.rd.open_
    clear hs hn hl ho
    go_wp2_with fail
    go_ret
    exact ⟨ret_int rfl, hb⟩
  all_goals (have hs : ∀ i, i < m.length → (rw' m i).length = m.length := hs)
  all_goals (rw [hn] at hs)
  · -- 1 rows
    have hs2 : Shape 1 m := ⟨hn, fun i hi => hs i (by omega)⟩
    obtain ⟨g, cap, rfl, k1, k2, hc⟩ := ownM_cells ho hs2 (by omega)
    obtain ⟨g0, c0, r0, a0, b0, e0⟩ := hc 0 (by omega)
    have e00 := e0 0 (by omega)
    have HF : Hid (cofZ m = elZ m 0 0) := by unfold Hid cofZ; rw [hn]; rfl
    clear hc e0 hs2 hs
    have HN := Lib.hid hn; clear hn
    obtain ⟨x00, X00⟩ : ∃ x, Hid (x = elZ m 0 0) := ⟨_, rfl⟩
    rw [← X00.out] at e00
    clear ho
    go_wp2_with fail
    go_ret
    exact ⟨ret_int (by rw [HF.out, X00.out]), hb⟩
  · -- 2 rows
    have hs2 : Shape 2 m := ⟨hn, fun i hi => hs i (by omega)⟩
    obtain ⟨g, cap, rfl, k1, k2, hc⟩ := ownM_cells ho hs2 (by omega)
    obtain ⟨g0, c0, r0, a0, b0, e0⟩ := hc 0 (by omega)
    have e00 := e0 0 (by omega)
    have e01 := e0 1 (by omega)
    obtain ⟨g1, c1, r1, a1, b1, e1⟩ := hc 1 (by omega)
    have e10 := e1 0 (by omega)
    have e11 := e1 1 (by omega)
    have HF : Hid (cofZ m = cof2 m) := by unfold Hid cofZ; rw [hn]; rfl
    clear hc e0 e1 hs2 hs
    have HN := Lib.hid hn; clear hn
    obtain ⟨x00, X00⟩ : ∃ x, Hid (x = elZ m 0 0) := ⟨_, rfl⟩
    rw [← X00.out] at e00
    obtain ⟨x01, X01⟩ : ∃ x, Hid (x = elZ m 0 1) := ⟨_, rfl⟩
    rw [← X01.out] at e01
    obtain ⟨x10, X10⟩ : ∃ x, Hid (x = elZ m 1 0) := ⟨_, rfl⟩
    rw [← X10.out] at e10
    obtain ⟨x11, X11⟩ : ∃ x, Hid (x = elZ m 1 1) := ⟨_, rfl⟩
    rw [← X11.out] at e11
    clear ho
    go_wp2_with fail
    go_quiet (fail)
    go_wp2_with fail
    go_ret
    exact ⟨ret_int (by rw [HF.out]; unfold cof2; rw [← X00.out, ← X01.out, ← X10.out, ← X11.out]; first | done | (simp only [IntWalk.i64_left])), hb.trans (Drawn.below ⟨_, rfl⟩ _)⟩
  · -- 3 rows
    have hs2 : Shape 3 m := ⟨hn, fun i hi => hs i (by omega)⟩
    obtain ⟨g, cap, rfl, k1, k2, hc⟩ := ownM_cells ho hs2 (by omega)
    obtain ⟨g0, c0, r0, a0, b0, e0⟩ := hc 0 (by omega)
    have e00 := e0 0 (by omega)
    have e01 := e0 1 (by omega)
    have e02 := e0 2 (by omega)
    obtain ⟨g1, c1, r1, a1, b1, e1⟩ := hc 1 (by omega)
    have e10 := e1 0 (by omega)
    have e11 := e1 1 (by omega)
    have e12 := e1 2 (by omega)
    obtain ⟨g2, c2, r2, a2, b2, e2⟩ := hc 2 (by omega)
    have e20 := e2 0 (by omega)
    have e21 := e2 1 (by omega)
    have e22 := e2 2 (by omega)
    have HF : Hid (cofZ m = cof3 m) := by unfold Hid cofZ; rw [hn]; rfl
    clear hc e0 e1 e2 hs2 hs
    have HN := Lib.hid hn; clear hn
    obtain ⟨x00, X00⟩ : ∃ x, Hid (x = elZ m 0 0) := ⟨_, rfl⟩
    rw [← X00.out] at e00
    obtain ⟨x01, X01⟩ : ∃ x, Hid (x = elZ m 0 1) := ⟨_, rfl⟩
    rw [← X01.out] at e01
    obtain ⟨x02, X02⟩ : ∃ x, Hid (x = elZ m 0 2) := ⟨_, rfl⟩
    rw [← X02.out] at e02
    obtain ⟨x10, X10⟩ : ∃ x, Hid (x = elZ m 1 0) := ⟨_, rfl⟩
    rw [← X10.out] at e10
    obtain ⟨x11, X11⟩ : ∃ x, Hid (x = elZ m 1 1) := ⟨_, rfl⟩
    rw [← X11.out] at e11
    obtain ⟨x12, X12⟩ : ∃ x, Hid (x = elZ m 1 2) := ⟨_, rfl⟩
    rw [← X12.out] at e12
    obtain ⟨x20, X20⟩ : ∃ x, Hid (x = elZ m 2 0) := ⟨_, rfl⟩
    rw [← X20.out] at e20
    obtain ⟨x21, X21⟩ : ∃ x, Hid (x = elZ m 2 1) := ⟨_, rfl⟩
    rw [← X21.out] at e21
    obtain ⟨x22, X22⟩ : ∃ x, Hid (x = elZ m 2 2) := ⟨_, rfl⟩
    rw [← X22.out] at e22
    clear ho
    go_wp2_with fail
    go_quiet (fail)
    go_wp2_with fail
    go_ret
    exact ⟨ret_int (by rw [HF.out]; unfold cof3 minor; rw [← X00.out, ← X01.out, ← X02.out, ← X10.out, ← X11.out, ← X12.out, ← X20.out, ← X21.out, ← X22.out]; first | done | (simp only [IntWalk.i64_left])), hb.trans (Drawn.below ⟨_, rfl⟩ _)⟩
end Go.Proofs.Ytpockbbfbnaioaa
