/- The reference's ListHeaps, whole; how many heaps there are. -/
import Derived.Test.YtfamjhemecpgnaaLHeapsS
import Derived.Test.YtfamjhemecpgnaaNum
import Derived.Test.YtfamjhemecpgnaaMarkSS
namespace Go.Proofs.Ytfamjhemecpgnaa
open Go.RowKit
set_option linter.unusedVariables false

theorem specListHeaps_any (a b c : Int) (w : World) :
    Calls Try.prog 47 #[.int .i64 a, .int .i64 b, .int .i64 c] w (RetN kdM eMM w (listHZ a b c)) := by
  cases hg : boxB a b c
  · have e0 : listHZ a b c = [] := by simp [listHZ, hg]
    rw [e0]; clear e0
    go_enter Try.func47, Try.ntmps47
    go_wp2_with fail
    refine (specBoxOk_any _ _ _ _).mono ?_
    rintro e w1 ⟨rfl, rfl⟩
    rw [hg]
    go_wp2_with fail
    go_ret
    exact ⟨_, w.heap.size + 1, rfl, [], Acc.start w, Els.nil _ _ _ _, by simp⟩
  · have hb := (boxB_iff _ _ _).1 hg
    obtain ⟨n, rfl⟩ := Int.eq_ofNat_of_zero_le (show 0 ≤ a by omega)
    obtain ⟨m, rfl⟩ := Int.eq_ofNat_of_zero_le (show 0 ≤ b by omega)
    have e0 : listHZ n m c = (heapsN m c (n * m) []).map (rowsOf n m) := by simp [listHZ, hg, allHeaps]
    rw [e0]; clear e0
    have HR : Hid (RdI (w.alloc (.cells #[] 3)) (w.heap.size + 1) (.slice (some ⟨w.heap.size, 0, none⟩) 0 0) []) := ⟨_, 0, rfl, Nat.le_refl _, Nat.zero_le _, Rd.nil⟩
    have HI := Lib.hid (srest_any n m c (by omega) (by omega) (by omega) (n * m) [] (by simp) (InC.nil c) _ _ _ HR.out (by simp))
    have HB : Hid (Below w.heap.size w (w.alloc (.cells #[] 3))) := (Below.refl _ _).alloc (Nat.le_refl _) _
    generalize (heapsN m c (n * m) []).map (rowsOf n m) = xs at *
    go_enter Try.func47, Try.ntmps47
    go_wp2_with fail
    refine (specBoxOk_any _ _ _ _).mono ?_
    rintro e w1 ⟨rfl, rfl⟩
    rw [hg]
    go_wp2_with fail
    refine HI.out.mono ?_
    rintro e w2 ⟨v2, hi2, rfl, hN⟩
    have HN : Hid (NRel kdM eMM w w.heap.size w.heap.size w2 hi2 v2 xs) := by
      obtain ⟨ss, h1, h2, h3⟩ := hN
      have hs := HB.out.size
      exact ⟨ss, ⟨h1.1.mono hs, HB.out.trans (h1.2.1.mono hs), Nat.le_refl _, Nat.le_trans hs h1.2.1.size⟩, h2.more hs (Nat.le_refl _), h3⟩
    clear hN
    go_wp2_with fail
    go_ret
    exact ⟨_, _, rfl, HN.out⟩

/-! ### How many there are -/
theorem heaps_tab : ((List.range 4).all fun a => (List.range 4).all fun b => (List.range 4).all fun c => decide ((allHeaps a b (c : Int)).length ≤ 1000)) = true := by decide +kernel
theorem listHZ_len (a b c : Int) : (listHZ a b c).length ≤ 1000 := by
  unfold listHZ
  split
  · rename_i hg
    have hb := (boxB_iff _ _ _).1 hg
    have h := heaps_tab
    simp only [List.all_eq_true, List.mem_range, decide_eq_true_eq] at h
    have := h a.toNat (by omega) b.toNat (by omega) c.toNat (by omega)
    rw [Int.toNat_of_nonneg (by omega)] at this
    exact this
  · simp
def szMM' (m : List (List Int)) : Nat := flatTo m m.length
theorem flat_le' (b : Nat) (m : List (List Int)) (h : ∀ i, i < m.length → (rw' m i).length ≤ b) : ∀ n, n ≤ m.length → flatTo m n ≤ n * b
  | 0, _ => by simp [flatTo]
  | n + 1, hn => by
    have := flat_le' b m h n (by omega)
    have := h n (by omega)
    rw [flatTo, Nat.succ_mul]; omega
theorem listHZ_mem (a b c : Int) : ∀ m ∈ listHZ a b c, m.length ≤ 3 ∧ flatTo m m.length ≤ 9 := by
  intro m hm
  unfold listHZ at hm
  split at hm
  · rename_i hg
    have hb := (boxB_iff _ _ _).1 hg
    unfold allHeaps at hm
    obtain ⟨hd, _, rfl⟩ := List.mem_map.1 hm
    have hl : (rowsOf a.toNat b.toNat hd).length = a.toNat := by simp [rowsOf]
    refine ⟨by omega, ?_⟩
    have := flat_le' b.toNat (rowsOf a.toNat b.toNat hd) (fun i hi => by
      rw [hl] at hi
      simp [rowsOf, rw', hi]; omega) _ (Nat.le_refl _)
    rw [hl] at this ⊢
    have h2 : a.toNat * b.toNat ≤ 3 * 3 := Nat.mul_le_mul (by omega) (by omega)
    omega
  · simp at hm
theorem cnt_le {α : Type} (sz : α → Nat) (xs : List α) (k : Nat) (h : ∀ x ∈ xs, sz x ≤ k) : ∀ n, n ≤ xs.length → cntTo sz xs n ≤ n * k
  | 0, _ => by simp [cntTo]
  | n + 1, hn => by
    have := cnt_le sz xs k h n (by omega)
    have := h _ (List.getElem_mem (show n < xs.length by omega))
    rw [cntTo_succ _ _ (by omega), Nat.succ_mul]; omega
end Go.Proofs.Ytfamjhemecpgnaa
