/- The contract of the program's BoxByPaths. -/
import Derived.Test.YtpockbbfbnaioaaSpecBoxByPaths
import Derived.Test.YtpockbbfbnaioaaDet
namespace Go.Proofs.Ytpockbbfbnaioaa
open Go.RowKit

theorem all3 {a b c : Nat} {p : Nat → Nat → Nat → Bool} (h : ((List.range a).all fun x => (List.range b).all fun y => (List.range c).all fun z => p x y z) = true) (x y z : Nat) (hx : x < a) (hy : y < b) (hz : z < c) : p x y z = true := by
  rw [List.all_eq_true] at h
  have h := h x (by simpa using hx)
  rw [List.all_eq_true] at h
  have h := h y (by simpa using hy)
  rw [List.all_eq_true] at h
  exact h z (by simpa using hz)
theorem det_tab : ((List.range 4).all fun x => (List.range 4).all fun y => (List.range 4).all fun z => !boxB x y z || detZ (bmatZ x y z) == cofZ (bmatZ x y z)) = true := by decide +kernel
theorem det_box (a b c : Int) (hbox : boxB a b c = true) : detZ (bmatZ a b c) = cofZ (bmatZ a b c) := by
  obtain ⟨⟨a1, a2⟩, ⟨b1, b2⟩, c1, c2⟩ := (boxB_iff _ _ _).1 hbox
  obtain ⟨x, rfl⟩ := Int.eq_ofNat_of_zero_le (show 0 ≤ a by omega)
  obtain ⟨y, rfl⟩ := Int.eq_ofNat_of_zero_le (show 0 ≤ b by omega)
  obtain ⟨z, rfl⟩ := Int.eq_ofNat_of_zero_le (show 0 ≤ c by omega)
  have h := all3 det_tab x y z (by omega) (by omega) (by omega)
  rw [hbox] at h
  simpa using h
theorem BoxByPaths_any (a b c : Int) (w : World) :
    Calls Try.prog 60 #[.int .i64 a, .int .i64 b, .int .i64 c] w fun e w' => e = .returned (.int .i64 (cofZ (bmatZ a b c))) ∧ Below w.heap.size w w' := by
  cases hbox : boxB a b c
  · have e0 : bmatZ a b c = [] := by simp [bmatZ, hbox]
    rw [e0]
    go_enter Try.func60, Try.ntmps60
    go_wp2_with fail
    refine (BoxOk_any _ _ _ _).mono ?_
    rintro e w1 ⟨rfl, hB1⟩
    rw [hbox]
    go_wp2_with fail
    go_ret
    exact ⟨rfl, hB1⟩
  · have hd := Lib.hid (det_box a b c hbox)
    have hl := (bmatZ_sq a b c).1
    have HS := Lib.hid (bmatZ_sq a b c).2
    generalize hm : bmatZ a b c = m at *
    have HM := Lib.hid hm; clear hm
    go_enter Try.func60, Try.ntmps60
    go_wp2_with fail
    refine (BoxOk_any _ _ _ _).mono ?_
    rintro e w1 ⟨rfl, hB1⟩
    rw [hbox]
    go_wp2_with fail
    refine (BoxMatrix_any _ _ _ _).mono ?_
    rintro e w2 ⟨v, hi, rfl, ho, hx, hb⟩
    rw [HM.out] at ho
    have hr := ho.rd
    clear ho
    go_wp2_with fail
    refine (determinant_any _ m _ _ hr (Nat.le_refl _) (by omega) HS.out).mono ?_
    rintro e w3 ⟨rfl, hb3⟩
    go_wp2_with fail
    go_ret
    exact ⟨ret_int hd.out, (hB1.trans (hb.mono hB1.size)).trans (hb3.mono (Nat.le_trans hB1.size hb.size))⟩

end Go.Proofs.Ytpockbbfbnaioaa
