/- The contract of PathDeterminant of the program. -/
import Derived.Test.YtpejphholomenaaDet3
import Derived.Test.YtpejphholomenaaDet
import Derived.Test.YtpejphholomenaaSpecPathDeterminant
namespace Go.Proofs.Ytpejphholomenaa
open Go.RowKit

theorem all2p {a b : Nat} {p : Nat → Nat → Bool} (h : ((List.range a).all fun x => (List.range b).all fun y => p x y) = true) (x y : Nat) (hx : x < a) (hy : y < b) : p x y = true := by
  rw [List.all_eq_true] at h
  have := h x (by simpa using hx)
  rw [List.all_eq_true] at this
  exact this y (by simpa using hy)
theorem paths_tab : ((List.range 9).all fun x => (List.range 9).all fun y => decide (0 ≤ chooseZ (x + y) x ∧ chooseZ (x + y) x ≤ 12870)) = true := by decide +kernel
theorem pathsZ_bd (ax ay bx bY : Int) : Bd 12870 (pathsZ ax ay bx bY) := by
  unfold pathsZ
  split
  · rename_i h
    simp only [Bool.and_eq_true, decide_eq_true_eq, spotB_iff] at h
    obtain ⟨⟨⟨⟨⟨a1, a2⟩, a3, a4⟩, ⟨b1, b2⟩, b3, b4⟩, h1⟩, h2⟩ := h
    obtain ⟨x, hx⟩ := Int.eq_ofNat_of_zero_le (show 0 ≤ bx - ax by omega)
    obtain ⟨y, hy⟩ := Int.eq_ofNat_of_zero_le (show 0 ≤ bY - ay by omega)
    rw [show bx - ax + bY - ay = (x : Int) + (y : Int) by omega, hx]
    have := all2p paths_tab x y (by omega) (by omega)
    simp only [decide_eq_true_eq] at this
    unfold Bd; omega
  · unfold Bd; omega
theorem pmZ_el (ps qs : List (Int × Int)) (i j : Nat) : Bd 12870 (elZ (pmZ ps qs) i j) := by
  have h0 : Bd 12870 0 := by unfold Bd; omega
  unfold pmZ
  split
  · by_cases hi : i < ps.length
    · by_cases hj : j < qs.length
      · have : elZ (pmAll ps qs ps.length) i j = pathsZ (px ps i) (py ps i) (px qs j) (py qs j) := by simp [elZ, pmAll, rw', hi, pmRow, el, hj]
        rw [this]; exact pathsZ_bd _ _ _ _
      · have : elZ (pmAll ps qs ps.length) i j = 0 := by simp [elZ, pmAll, rw', hi, pmRow, el, hj]
        rw [this]; exact h0
    · have : elZ (pmAll ps qs ps.length) i j = 0 := by simp [elZ, pmAll, rw', hi, el]
      rw [this]; exact h0
  · have : elZ [] i j = 0 := by simp [elZ, rw', el]
    rw [this]; exact h0

theorem PathDeterminant_any (u v : Value) (ps qs : List (Int × Int)) (B : Nat) (w : World) (hu : RdP w B u ps) (hv : RdP w B v qs) (hB : B ≤ w.heap.size) :
    Calls Try.prog 22 #[u, v] w fun e w' => e = .returned (.int .i64 (cofZ (pmZ ps qs))) ∧ Below w.heap.size w w' := by
  have HU := Lib.hid hu
  have HV := Lib.hid hv
  obtain ⟨A, c, rfl, _⟩ := hu
  obtain ⟨A', c', rfl, _⟩ := hv
  cases ho : spotsOkB ps qs
  · have HF : Hid ((0 : Int) = cofZ (pmZ ps qs)) := by unfold Hid; rw [show pmZ ps qs = [] by simp [pmZ, ho]]; rfl
    generalize cofZ (pmZ ps qs) = r at *
    go_enter Try.func22, Try.ntmps22
    go_wp2_with fail
    refine (SpotsOk_any _ _ ps qs _ _ HU.out HV.out hB).mono ?_
    rintro e w1 ⟨rfl, hb1⟩
    rw [ho]
    go_wp2_with fail
    go_ret
    exact ⟨ret_int HF.out, hb1⟩
  · obtain ⟨hl, hs⟩ := pmZ_sq ps qs
    have hpos : 0 < (pmZ ps qs).length := by have := spotsOk_len ho; simp [pmZ, ho, pmAll]; omega
    have HD := Lib.hid (det_cof (pmZ ps qs) hpos hl hs fun i j _ _ => pmZ_el ps qs i j)
    have HS := Lib.hid hs
    clear hs
    generalize hm : pmZ ps qs = m at *
    have HM := Lib.hid hm; clear hm
    go_enter Try.func22, Try.ntmps22
    go_wp2_with fail
    refine (SpotsOk_any _ _ ps qs _ _ HU.out HV.out hB).mono ?_
    rintro e w1 ⟨rfl, hb1⟩
    rw [ho]
    have hs1 := hb1.size
    go_wp2_with fail
    refine (PathMatrix_any _ _ ps qs _ _ (HU.out.below (hb1.mono hB)) (HV.out.below (hb1.mono hB)) (Nat.le_trans hB hs1)).mono ?_
    rintro e w2 ⟨v2, hi2, rfl, ho2, hx2, hb2⟩
    rw [HM.out] at ho2
    have hr := ho2.rd
    clear ho2
    go_wp2_with fail
    refine (determinant_any _ m _ _ hr (Nat.le_refl _) (by omega) HS.out).mono ?_
    rintro e w3 ⟨rfl, hb3⟩
    go_wp2_with fail
    go_ret
    exact ⟨ret_int HD.out, (hb1.trans (hb2.mono hs1)).trans (hb3.mono (Nat.le_trans hs1 hb2.size))⟩
end Go.Proofs.Ytpejphholomenaa
