/- The plain law of FnHeaps: heaps are counted by a product; what is missing is a heap, too. No function of the program is named here. -/
import Derived.Test.YtgehollikdbapaaLHeapsT
import Derived.Test.YtgehollikdbapaaFull
import Derived.Test.YtgehollikdbapaaAdd
import Derived.Test.YtgehollikdbapaaVolume
import Derived.Test.YtgehollikdbapaaBoxCount
namespace Go.Proofs.Ytgehollikdbapaa
open Go.RowKit

theorem count_tab : ((List.range 4).all fun a => (List.range 4).all fun b => (List.range 4).all fun c => a == 0 || b == 0 || c == 0 ||
    (((allHeaps a b (c : Int)).length : Int) == boxZ a b c) && (boxZ a b c == boxZ c a b) && decide (0 < (allHeaps a b (c : Int)).length) && (volTo ((allHeaps a b (c : Int)).getD 0 []) ((allHeaps a b (c : Int)).getD 0 []).length == 0)) = true := by decide +kernel
theorem count_facts {a b c : Int} (h : boxB a b c = true) : ((listHZ a b c).length : Int) = boxZ a b c ∧ boxZ a b c = boxZ c a b ∧ 0 < (listHZ a b c).length ∧ volTo ((listHZ a b c).getD 0 []) ((listHZ a b c).getD 0 []).length = 0 := by
  have hb := (boxB_iff _ _ _).1 h
  obtain ⟨n, rfl⟩ := Int.eq_ofNat_of_zero_le (show 0 ≤ a by omega)
  obtain ⟨m, rfl⟩ := Int.eq_ofNat_of_zero_le (show 0 ≤ b by omega)
  obtain ⟨k, rfl⟩ := Int.eq_ofNat_of_zero_le (show 0 ≤ c by omega)
  have e : listHZ n m k = allHeaps n m k := by simp [listHZ, h]
  have ht := count_tab
  simp only [List.all_eq_true, List.mem_range, Bool.or_eq_true, Bool.and_eq_true, beq_iff_eq, decide_eq_true_eq] at ht
  have := ht n (by omega) m (by omega) k (by omega)
  rw [e]
  rcases this with ((q | q) | q) | q
  · omega
  · omega
  · omega
  · exact ⟨q.1.1.1, q.1.1.2, q.1.2, q.2⟩

/-- The sum of a row, of rows. -/
def sumN (f : Nat → Int) : Nat → Int | 0 => 0 | k + 1 => sumN f k + f k
theorem sumN_bd (f : Nat → Int) (C : Int) : ∀ n, (∀ k, k < n → 0 ≤ f k ∧ f k ≤ C) → 0 ≤ sumN f n ∧ sumN f n ≤ (n : Int) * C
  | 0, _ => by simp [sumN]
  | n + 1, h => by
    have := sumN_bd f C n fun k hk => h k (by omega)
    have := h n (by omega)
    have e : ((n + 1 : Nat) : Int) * C = (n : Int) * C + C := by rw [Int.natCast_add, Int.add_mul]; simp
    rw [sumN, e]; omega
theorem sumN_congr (f g : Nat → Int) : ∀ n, (∀ k, k < n → f k = g k) → sumN f n = sumN g n
  | 0, _ => rfl
  | n + 1, h => by rw [sumN, sumN, sumN_congr f g n fun k hk => h k (by omega), h n (by omega)]
theorem sumN_first (f : Nat → Int) : ∀ n, sumN f (n + 1) = f 0 + sumN (fun k => f (k + 1)) n
  | 0 => by simp [sumN]
  | n + 1 => by rw [sumN, sumN_first f n, sumN]; omega
theorem sumN_rev (f : Nat → Int) : ∀ n, sumN (fun k => f (n - 1 - k)) n = sumN f n
  | 0 => rfl
  | n + 1 => by
    rw [sumN_first]
    have := sumN_rev f n
    rw [sumN_congr (fun k => f (n + 1 - 1 - (k + 1))) (fun k => f (n - 1 - k)) n fun k hk => by congr 1; omega, this, sumN]
    simp; omega
theorem sumN_sub (f : Nat → Int) (C : Int) : ∀ n, sumN (fun k => C - f k) n = (n : Int) * C - sumN f n
  | 0 => by simp [sumN]
  | n + 1 => by
    have e : ((n + 1 : Nat) : Int) * C = (n : Int) * C + C := by rw [Int.natCast_add, Int.add_mul]; simp
    rw [sumN, sumN_sub f C n, sumN, e]; omega
theorem acc_sum (zs : List Int) (acc : Int) (C : Int) (h0 : 0 ≤ acc) (h1 : acc ≤ 1000) (hC : C ≤ 1000) (h2 : ∀ k, k < 3 → 0 ≤ el zs k ∧ el zs k ≤ C) : ∀ n, n ≤ 3 → accI zs acc n = acc + sumN (el zs) n
  | 0, _ => by simp [accI, sumN]
  | n + 1, hn => by
    have hb := sumN_bd (el zs) C n fun k hk => h2 k (by omega)
    have hz := h2 n (by omega)
    have hc0 : 0 ≤ C := by omega
    have hnc : (n : Int) * C ≤ 3 * 1000 := by
      have := Int.mul_le_mul (show (n : Int) ≤ 3 by omega) hC hc0 (by omega)
      exact this
    rw [accI, acc_sum zs acc C h0 h1 hC h2 n (by omega), sumN, IntWalk.wrap64_in _ (by omega)]; omega
theorem el_out (zs : List Int) (k : Nat) (h : zs.length ≤ k) : el zs k = 0 := by simp [el, h]
/-- The volume of a heap as a double sum. -/
theorem vol_sum {n m : Nat} {c : Int} {zss : List (List Int)} (hn : n ≤ 3) (hm : m ≤ 3) (hc : 0 ≤ c ∧ c ≤ 3) (hs : RShape n m zss) (he : ∀ i k, i < n → k < m → 0 ≤ el (rw' zss i) k ∧ el (rw' zss i) k ≤ c) :
    ∀ i, i ≤ n → volTo zss i = sumN (fun i => sumN (el (rw' zss i)) m) i ∧ 0 ≤ volTo zss i ∧ volTo zss i ≤ (i : Int) * 9
  | 0, _ => by simp [volTo, sumN]
  | i + 1, hi => by
    obtain ⟨h1, h2, h3⟩ := vol_sum hn hm hc hs he i (by omega)
    have hl := hs.2 i (by omega)
    have hel : ∀ k, k < 3 → 0 ≤ el (rw' zss i) k ∧ el (rw' zss i) k ≤ 3 := fun k hk => by
      by_cases e : k < m
      · have := he i k (by omega) e; omega
      · rw [el_out _ _ (by omega)]; omega
    have hb := sumN_bd (el (rw' zss i)) 3 m fun k hk => hel k (by omega)
    have hm3 : (m : Int) * 3 ≤ 9 := by omega
    rw [volTo, hl, acc_sum _ _ 3 h2 (by omega) (by omega) hel m hm, sumN, h1]
    refine ⟨rfl, ?_, ?_⟩
    · rw [← h1]; omega
    · rw [← h1]
      have e : ((i + 1 : Nat) : Int) * 9 = (i : Int) * 9 + 9 := by omega
      omega
theorem full_vol {n m : Nat} {c : Int} {zss : List (List Int)} (h : heapB n m c zss = true) : volTo (gAll c zss n m n) n = (n : Int) * m * c - volTo zss n := by
  obtain ⟨⟨n1, n2⟩, ⟨m1, m2⟩, ⟨c1, c2⟩, hs, he⟩ := heap_facts h
  have hs2 := gAll_shape c zss n m
  have he2 : ∀ i k, i < n → k < m → 0 ≤ el (rw' (gAll c zss n m n) i) k ∧ el (rw' (gAll c zss n m n) i) k ≤ c := fun i k hi hk => by
    rw [gAll_el _ _ _ _ _ _ hi hk]
    have := he (n - 1 - i) (m - 1 - k) (by omega) (by omega); omega
  rw [(vol_sum n2 m2 (by omega) hs2 he2 n (Nat.le_refl _)).1, (vol_sum n2 m2 (by omega) hs he n (Nat.le_refl _)).1]
  rw [sumN_congr _ (fun i => (fun j => (m : Int) * c - sumN (el (rw' zss j)) m) (n - 1 - i)) n fun i hi => ?_]
  · rw [sumN_rev (fun j => (m : Int) * c - sumN (el (rw' zss j)) m) n, sumN_sub, Int.mul_assoc]
  · show sumN (el (rw' (gAll c zss n m n) i)) m = (m : Int) * c - sumN (el (rw' zss (n - 1 - i))) m
    rw [sumN_congr _ (fun k => (fun k => c - el (rw' zss (n - 1 - i)) k) (m - 1 - k)) m fun k hk => gAll_el _ _ _ _ _ _ hi hk, sumN_rev (fun k => c - el (rw' zss (n - 1 - i)) k) m, sumN_sub]
theorem full_heap {n m : Nat} {c : Int} {zss : List (List Int)} (h : heapB n m c zss = true) : heapB n m c (gAll c zss n m n) = true := by
  obtain ⟨⟨n1, n2⟩, ⟨m1, m2⟩, ⟨c1, c2⟩, hs, he⟩ := heap_facts h
  have hr := ((heapB_iff _ _ _ _).1 h).2.2
  have hs2 := gAll_shape c zss n m
  refine (heapB_iff _ _ _ _).2 ⟨⟨by omega, by omega, by omega⟩, by rw [hs2.1], fun i hi => ?_⟩
  rw [hs2.1] at hi
  refine (hrowB_iff _ _ _ _ _).2 ⟨by rw [hs2.2 i hi], fun j hj => ?_, fun j hj => ⟨fun h0 => ?_, fun h0 => ?_⟩⟩
  · rw [hs2.2 i hi] at hj
    rw [gAll_el _ _ _ _ _ _ hi hj]
    have := he (n - 1 - i) (m - 1 - j) (by omega) (by omega); omega
  · rw [hs2.2 i hi] at hj
    rw [gAll_el _ _ _ _ _ _ hi hj, gAll_el _ _ _ _ _ _ hi (by omega)]
    have := ((hrowB_iff _ _ _ _ _).1 (hr (n - 1 - i) (by rw [hs.1]; omega))).2.2 (m - 1 - (j - 1)) (by rw [hs.2 _ (by omega)]; omega)
    have h9 := this.1 (by omega)
    rw [show m - 1 - (j - 1) - 1 = m - 1 - j by omega] at h9
    omega
  · rw [hs2.2 i hi] at hj
    rw [gAll_el _ _ _ _ _ _ hi hj, gAll_el _ _ _ _ _ _ (by omega) hj]
    have := ((hrowB_iff _ _ _ _ _).1 (hr (n - 1 - (i - 1)) (by rw [hs.1]; omega))).2.2 (m - 1 - j) (by rw [hs.2 _ (by omega)]; omega)
    have h9 := this.2 (by omega)
    rw [show n - 1 - (i - 1) - 1 = n - 1 - i by omega] at h9
    omega
/-- All of the missing cubes. -/
theorem full_facts {a b c : Int} {zss : List (List Int)} (h : heapB a b c zss = true) : heapB a b c (fullZ a b c zss) = true ∧ volTo (fullZ a b c zss) (fullZ a b c zss).length = a * b * c - volTo zss zss.length ∧
    volTo (fullZ a b c (fullZ a b c zss)) (fullZ a b c (fullZ a b c zss)).length = volTo zss zss.length ∧ (0 ≤ a * b ∧ a * b ≤ 9) ∧ (0 ≤ a * b * c ∧ a * b * c ≤ 27) ∧ (0 ≤ volTo zss zss.length ∧ volTo zss zss.length ≤ 27) := by
  have hb := ((heapB_iff _ _ _ _).1 h).1
  obtain ⟨n, rfl⟩ := Int.eq_ofNat_of_zero_le (show 0 ≤ a by omega)
  obtain ⟨m, rfl⟩ := Int.eq_ofNat_of_zero_le (show 0 ≤ b by omega)
  obtain ⟨_, _, ⟨c1, c2⟩, hs, he⟩ := heap_facts h
  have e1 : fullZ n m c zss = gAll c zss n m n := by simp [fullZ, h]
  have h2 := full_heap h
  have e2 : fullZ n m c (gAll c zss n m n) = gAll c (gAll c zss n m n) n m n := by simp [fullZ, h2]
  have v1 := full_vol h
  have v2 := full_vol h2
  have hv := vol_sum (show n ≤ 3 by omega) (show m ≤ 3 by omega) (by omega) hs he n (Nat.le_refl _)
  rw [e1, e2, (gAll_shape c zss n m).1, (gAll_shape c (gAll c zss n m n) n m).1, hs.1]
  have q1 := Int.mul_le_mul (show (n : Int) ≤ 3 by omega) (show (m : Int) ≤ 3 by omega) (by omega) (by omega)
  have q0 := Int.mul_nonneg (show (0 : Int) ≤ n by omega) (show (0 : Int) ≤ m by omega)
  have q2 := Int.mul_le_mul q1 c2 (by omega) (by omega)
  have q3 := Int.mul_nonneg q0 (show (0 : Int) ≤ c by omega)
  refine ⟨h2, v1, by omega, ⟨q0, by omega⟩, ⟨q3, by omega⟩, hv.2.1, by omega⟩
theorem sumN_add1 (f g : Nat → Int) (j : Nat) : ∀ n, (∀ k, k < n → g k = if k = j then f k + 1 else f k) → sumN g n = sumN f n + if j < n then 1 else 0
  | 0, _ => by simp [sumN]
  | n + 1, h => by
    rw [sumN, sumN_add1 f g j n fun k hk => h k (by omega), sumN, h n (by omega)]
    by_cases e : n = j
    · subst e; simp; omega
    · by_cases e2 : j < n
      · rw [if_neg e, if_pos e2, if_pos (by omega)]; omega
      · rw [if_neg e, if_neg e2, if_neg (by omega)]; omega
/-- One cube more. -/
theorem add_facts {a b c r q : Int} {zss : List (List Int)} (h : addOk a b c zss r q = true) : heapB a b c (addZ a b c zss r q) = true ∧ volTo (addZ a b c zss r q) (addZ a b c zss r q).length = volTo zss zss.length + 1 := by
  have e0 : addZ a b c zss r q = addM zss r.toNat q.toNat := by simp [addZ, h]
  rw [e0]
  unfold addOk at h
  simp only [Bool.and_eq_true, inB_iff] at h
  obtain ⟨⟨⟨h1, h2⟩, h3⟩, h4⟩ := h
  refine ⟨h4, ?_⟩
  have hb := ((heapB_iff _ _ _ _).1 h1).1
  obtain ⟨n, rfl⟩ := Int.eq_ofNat_of_zero_le (show 0 ≤ a by omega)
  obtain ⟨m, rfl⟩ := Int.eq_ofNat_of_zero_le (show 0 ≤ b by omega)
  obtain ⟨i, rfl⟩ := Int.eq_ofNat_of_zero_le h2.1
  obtain ⟨k, rfl⟩ := Int.eq_ofNat_of_zero_le h3.1
  obtain ⟨_, _, ⟨c1, c2⟩, hs, he⟩ := heap_facts h1
  obtain ⟨_, _, _, hs', he'⟩ := heap_facts h4
  simp only [Int.toNat_natCast] at hs' he' ⊢
  rw [hs.1, hs'.1, (vol_sum (by omega) (by omega) (by omega) hs he n (Nat.le_refl _)).1, (vol_sum (by omega) (by omega) (by omega) hs' he' n (Nat.le_refl _)).1]
  have hin : i < n := by omega
  have hkm : k < m := by omega
  rw [sumN_add1 (fun i => sumN (el (rw' zss i)) m) (fun i' => sumN (el (rw' (addM zss i k) i')) m) i n fun j hj => ?_, if_pos hin]
  have hrow : rw' (addM zss i k) j = if j = i then (rw' zss i).set k (el (rw' zss i) k + 1) else rw' zss j := by
    unfold addM
    exact rw_set zss i _ j (by rw [hs.1]; exact hin)
  by_cases e : j = i
  · subst e
    rw [if_pos rfl, hrow, if_pos rfl]
    rw [sumN_add1 (el (rw' zss j)) _ k m fun t ht => ?_, if_pos hkm]
    have hl : k < (rw' zss j).length := by rw [hs.2 j hin]; exact hkm
    by_cases e2 : t = k
    · subst e2; simp [el, hl]
    · rw [if_neg e2]; simp [el, List.getElem?_set_ne (Ne.symm e2)]
  · rw [if_neg e, hrow, if_neg e]
end Go.Proofs.Ytgehollikdbapaa
