/- The contract of the reference's ListTrees, whole. -/
import Derived.Test.YtpejphholomenaaTreesS
namespace Go.Proofs.Ytpejphholomenaa
open Go.RowKit
set_option linter.unusedVariables false

theorem joinF_length (g : List Nat) (e : Nat × Nat) : (joinF g e).length = g.length := by simp [joinF]
theorem srest_anyT (wd n : Nat) (all : List Lk) (hal : all.length ≤ 20) (hwd : wd ≤ 4) (hn : 0 < n ∧ n ≤ 16) (hin : ∀ l ∈ all, lkIn wd n l = true) : ∀ (d k : Nat) (gs : List Nat) (hd : List Lk), gs.length = n → hd.length + d ≤ 20 → k ≤ all.length → SRestT wd n all d k gs hd
  | 0, k, gs, hd, _, hh, _ => srest_endT wd n all k gs hd (by omega)
  | d + 1, k, gs, hd, hgl, hh, hk => srest_stepT wd n all hal hwd hn hin d k gs hgl hd (by omega) (by omega) hk fun i h => srest_anyT wd n all hal hwd hn hin d (i + 1) (joinF gs (lkN wd all[i])) (hd ++ [all[i]]) (by rw [joinF_length]; exact hgl) (by simp; omega) (by omega)

theorem NRel.rebase {α : Type} {K : Kd α} {E : El Sl} {w w1 w3 : World} {b1 l1 hi : Nat} {v : Value} {xs : List α} (h : NRel K E w1 b1 l1 w3 hi v xs) (hb : Below w.heap.size w w1) (h1 : w.heap.size ≤ b1) (h2 : w.heap.size ≤ l1) : NRel K E w w.heap.size w.heap.size w3 hi v xs := by
  obtain ⟨ss, hA, hE, hh⟩ := h
  have hs := hb.size
  exact ⟨ss, ⟨hA.1.mono h1, hb.trans (hA.2.1.mono hs), Nat.le_refl _, Nat.le_trans hs hA.2.1.size⟩, hE.more h2 (Nat.le_refl _), hh⟩
set_option maxRecDepth 100000 in
set_option maxHeartbeats 8000000 in
theorem specListTrees_yes (a b : Nat) (w : World) (hg : gridB a b = true) (hab : a * b ≤ 9) :
    Calls Try.prog 48 #[.int .i64 a, .int .i64 b] w (RetN (kdF elLink) eLL w (treesZ a b)) := by
  have hb := (gridB_iff _ _).1 hg
  have hab1 : 0 < a * b := Nat.mul_pos (by omega) (by omega)
  have HAL := Lib.hid (links_few a b (by omega) (by omega) hab)
  have HTR := Lib.hid (trees_same hg)
  have HIN := Lib.hid (tree_facts a b hg).1
  have hmul : (a : Int) * (b : Int) = ((a * b : Nat) : Int) := by simp
  obtain ⟨n, HNE⟩ : ∃ n, Hid (a * b = n) := ⟨_, rfl⟩
  rw [HNE.out] at hmul HIN HTR
  have hn9 : 0 < n ∧ n ≤ 9 := by have := HNE.out; omega
  have HMUL := Lib.hid hmul
  have hm0 : 0 ≤ (a : Int) * (b : Int) := by omega
  have hm1 : (a : Int) * (b : Int) ≤ 9 := by omega
  have hm2 : decide (9 < (a : Int) * (b : Int)) = false := by rw [decide_eq_false_iff_not]; omega
  generalize treesZ a b = TT at *
  obtain ⟨all, HALL⟩ : ∃ x, Hid (linksZ (a : Int) b = x) := ⟨_, rfl⟩
  rw [HALL.out] at HAL HTR HIN
  clear hmul hab hab1
  go_enter Try.func48, Try.ntmps48
  go_wp2_with fail
  refine (specGridOk_any _ _ _).mono ?_
  rintro e w1 ⟨rfl, rfl⟩
  rw [hg]
  go_wp2_with fail
  refine (specLinksOf_any _ _ _).mono ?_
  rintro e w1 ⟨v1, rfl, ho1, hb1⟩
  rw [HALL.out] at ho1
  obtain ⟨A1, c1, hv1, gg1, gg2, _⟩ := ho1.rd okLink
  unfold maxLen at gg2
  subst hv1
  have HB1 := Lib.hid hb1
  have HRA := Lib.hid (ho1.rd okLink)
  clear ho1 hb1
  go_wp2_with fail
  rw [HMUL.out]
  refine (l23Groups_any n _ (by omega)).mono ?_
  rintro e w2 ⟨v2, rfl, ho2, hb2⟩
  have HRG := Lib.hid ho2.rd
  have HB2 : Hid (Below w1.heap.size w1 w2) := by
    unfold Hid
    have h : Below w1.heap.size w1 (w1.alloc (.cells #[] 110)) := (Below.refl _ _).alloc (Nat.le_refl _) _
    exact h.trans (hb2.mono h.size)
  have HACC : Hid (RdF elLink w2 w2.heap.size (.slice (some ⟨w1.heap.size, 0, none⟩) 0 0) ([] : List Lk)) := ⟨_, _, rfl, Nat.le_refl _, by unfold maxLen; omega, fun j x hx => by simp at hx⟩
  clear ho2 hb2
  have hs1 : IntKind.i64.wrap ((n : Int) - 1) = ((n - 1 : Nat) : Int) := by rw [IntWalk.i64_in _ (by omega)]; omega
  have hs2 : (n : Int) - 1 = ((n - 1 : Nat) : Int) := by omega
  go_wp2_with fail
  have HQ := Lib.hid (srest_anyT a n all (by have := HAL.out; omega) (by omega) (by omega) HIN.out (n - 1) 0 (List.range n) [] (by simp) (by simp; omega) (Nat.zero_le _) w2 w2.heap.size _ _ _ ((HRA.out.below HB2.out).more HB2.out.size) HACC.out HRG.out (Nat.le_refl _))
  rw [List.drop_zero, HTR.out] at HQ
  have HB12 := Lib.hid (HB1.out.trans (HB2.out.mono HB1.out.size))
  have HLST : Hid ((a : Int) * (b : Int) - 1 = ((n - 1 : Nat) : Int)) := by unfold Hid; rw [HMUL.out]; omega
  rw [HLST.out]
  rw [show ((0 : Nat) : Int) = 0 from rfl] at HQ
  refine HQ.out.mono ?_
  rintro e w3 ⟨v3, hi3, rfl, hN3⟩
  have HN := Lib.hid (hN3.rebase HB12.out HB12.out.size HB12.out.size)
  clear hN3 HQ
  go_wp2_with fail
  go_ret
  exact ⟨_, _, rfl, HN.out⟩
set_option maxRecDepth 100000 in
theorem specListTrees_any (a b : Int) (w : World) :
    Calls Try.prog 48 #[.int .i64 a, .int .i64 b] w (RetN (kdF elLink) eLL w (listTZ a b)) := by
  cases hg : gridB a b
  · have e0 : listTZ a b = [] := by simp [listTZ, hg]
    rw [e0]; clear e0
    go_enter Try.func48, Try.ntmps48
    go_wp2_with fail
    refine (specGridOk_any _ _ _).mono ?_
    rintro e w1 ⟨rfl, rfl⟩
    rw [hg]
    go_wp2_with fail
    go_ret
    exact ⟨_, w.heap.size + 1, rfl, [], Acc.start w, Els.nil _ _ _ _, by simp⟩
  · have hb := (gridB_iff _ _).1 hg
    obtain ⟨n, rfl⟩ := Int.eq_ofNat_of_zero_le (show 0 ≤ a by omega)
    obtain ⟨m, rfl⟩ := Int.eq_ofNat_of_zero_le (show 0 ≤ b by omega)
    have hmul : (n : Int) * (m : Int) = ((n * m : Nat) : Int) := by simp
    have h16 : n * m ≤ 16 := Nat.mul_le_mul (show n ≤ 4 by omega) (show m ≤ 4 by omega)
    by_cases h9 : n * m ≤ 9
    · have e0 : listTZ n m = treesZ n m := by simp only [listTZ, hg, Bool.true_and]; rw [if_pos (by rw [decide_eq_true_iff]; omega)]; simp
      rw [e0]
      exact specListTrees_yes n m w hg h9
    · have e0 : listTZ n m = [] := by simp only [listTZ, hg, Bool.true_and]; rw [if_neg (by rw [decide_eq_true_iff]; omega)]
      rw [e0]; clear e0
      have hm0 : 0 ≤ (n : Int) * (m : Int) := by omega
      have hm1 : (n : Int) * (m : Int) ≤ 16 := by omega
      have hm2 : decide (9 < (n : Int) * (m : Int)) = true := by rw [decide_eq_true_iff]; omega
      clear hmul h16 h9
      go_enter Try.func48, Try.ntmps48
      go_wp2_with fail
      refine (specGridOk_any _ _ _).mono ?_
      rintro e w1 ⟨rfl, rfl⟩
      rw [hg]
      go_wp2_with fail
      go_ret
      exact ⟨_, w.heap.size + 1, rfl, [], Acc.start w, Els.nil _ _ _ _, by simp⟩
theorem listTZ_len (a b : Int) : (listTZ a b).length ≤ 4096 := by
  unfold listTZ
  split
  · rename_i h
    simp only [Bool.and_eq_true, decide_eq_true_eq] at h
    have hb := (gridB_iff _ _).1 h.1
    obtain ⟨n, rfl⟩ := Int.eq_ofNat_of_zero_le (show 0 ≤ a by omega)
    obtain ⟨m, rfl⟩ := Int.eq_ofNat_of_zero_le (show 0 ≤ b by omega)
    have hmul : (n : Int) * (m : Int) = ((n * m : Nat) : Int) := by simp
    exact treesZ_len n m (by omega) (by omega) (by omega)
  · simp
theorem listTZ_mem (a b : Int) : ∀ l ∈ listTZ a b, l.length ≤ 16 := by
  unfold listTZ
  split
  · rename_i h
    simp only [Bool.and_eq_true, decide_eq_true_eq] at h
    have hb := (gridB_iff _ _).1 h.1
    intro l hl
    unfold treesZ tails at hl
    obtain ⟨h1, _⟩ := List.mem_filter.1 hl
    obtain ⟨l', h2, rfl⟩ := List.mem_map.1 h1
    have h3 := (subsN_mem _ _ l' h2).1
    have h16 : a.toNat * b.toNat ≤ 4 * 4 := Nat.mul_le_mul (by omega) (by omega)
    simp only [List.nil_append]
    omega
  · simp
end Go.Proofs.Ytpejphholomenaa
