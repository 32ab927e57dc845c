/- The first cell of a set; what each lists, in plain words. -/
import Derived.Test.YtiecphhenpapoaaCovered
import Derived.Test.YtiecphhenpapoaaBlk
import Derived.Test.YtiecphhenpapoaaProfI
namespace Go.Proofs.Ytiecphhenpapoaa
open Go.RowKit
set_option linter.unusedVariables false

/-- The index of the first cell. -/
def fstTo (s : Nat) : Nat → Nat → Nat
  | 0, i => i
  | d + 1, i => if s.testBit i then i else fstTo s d (i + 1)
def fstN (s : Nat) : Nat := fstTo s 64 0
theorem fstTo_spec (s : Nat) : ∀ d i, (∃ j, i ≤ j ∧ j < i + d ∧ s.testBit j = true) → s.testBit (fstTo s d i) = true ∧ i ≤ fstTo s d i ∧ fstTo s d i < i + d ∧ ∀ j, i ≤ j → j < fstTo s d i → s.testBit j = false
  | 0, i, ⟨j, h1, h2, _⟩ => by omega
  | d + 1, i, ⟨j, h1, h2, h3⟩ => by
    rw [fstTo]
    cases hb : s.testBit i
    · rw [if_neg (by simp)]
      have hij : i ≠ j := fun e => by rw [e, h3] at hb; simp at hb
      obtain ⟨q1, q2, q3, q4⟩ := fstTo_spec s d (i + 1) ⟨j, by omega, by omega, h3⟩
      refine ⟨q1, by omega, by omega, fun k k1 k2 => ?_⟩
      by_cases e : k = i
      · rw [e]; exact hb
      · exact q4 k (by omega) k2
    · rw [if_pos rfl]
      exact ⟨hb, Nat.le_refl _, by omega, fun k k1 k2 => by omega⟩
theorem exists_bit {s : Nat} (hs : s ≠ 0) (hl : s < 18446744073709551616) : ∃ j, j < 64 ∧ s.testBit j = true := by
  refine Classical.byContradiction fun h => hs ?_
  apply Nat.eq_of_testBit_eq
  intro j
  rw [Nat.zero_testBit]
  by_cases hj : j < 64
  · cases hb : s.testBit j
    · rfl
    · exact absurd ⟨j, hj, hb⟩ h
  · exact Nat.testBit_lt_two_pow (Nat.lt_of_lt_of_le hl (Nat.pow_le_pow_right (n := 2) (i := 64) (by omega) (by omega)))
theorem fstN_spec {s : Nat} (hs : s ≠ 0) (hl : s < 18446744073709551616) : s.testBit (fstN s) = true ∧ fstN s < 64 ∧ ∀ j, j < fstN s → s.testBit j = false := by
  obtain ⟨j, h1, h2⟩ := exists_bit hs hl
  obtain ⟨q1, _, q3, q4⟩ := fstTo_spec s 64 0 ⟨j, Nat.zero_le _, by omega, h2⟩
  exact ⟨q1, by unfold fstN; omega, fun j hj => q4 j (Nat.zero_le _) hj⟩

set_option maxHeartbeats 2000000 in
theorem firstCell_any (s : Nat) (hs : s ≠ 0) (hl : s < 18446744073709551616) (w : World) :
    Calls Try.prog 140 #[.int .u64 (s : Int)] w fun e w' => e = .returned (spotV ((fstN s % 8 : Nat) : Int) ((fstN s / 8 : Nat) : Int)) ∧ Below w.heap.size w w' := by
  obtain ⟨f1, f2, f3⟩ := fstN_spec hs hl
  generalize fstN s = m at *
  have HF3 := Lib.hid f3
  have HB0 : Hid (Below w.heap.size w (w.alloc (.cells #[.int .i64 0, .int .i64 0] 56))) := (Below.refl _ _).alloc (Nat.le_refl _) _
  have HN0 := Lib.hid (heap_alloc_new w (.cells #[.int .i64 0, .int .i64 0] 56))
  clear f3
  go_enter Try.func140, Try.ntmps140
  go_wp2_with fail
  generalize w.alloc (.cells #[.int .i64 0, .int .i64 0] 56) = W at *
  go_loop [3] (fun i => ∃ k : Nat, k ≤ m ∧ i = .int .i64 k) (fun i => m - (intOf i).toNat)
  case atStart => exact ⟨0, Nat.zero_le _, rfl⟩
  case round =>
    obtain ⟨k, hk, rfl⟩ := hrel
    have hk64 : k ≤ 63 := by omega
    have hsv : (s : Int) / 2 ^ k = ((s / 2 ^ k : Nat) : Int) := by simp
    have hba := bit_and s k hl
    have hk0 : (0 : Int) ≤ (k : Int) := by omega
    by_cases hlt : k < m
    · rw [HF3.out k hlt] at hba
      have hba2 : (bits .and .u64 ((s : Int) / 2 ^ k) 1 == 0) = true := by rw [hsv, hba]; rfl
      clear hba hsv
      go_wp2_with fail
      go_round
      case rel => exact ⟨k + 1, by omega, by go_num⟩
      case measure => simp [intOf]; omega
    · obtain rfl : k = m := by omega
      rw [f1] at hba
      have hba2 : (bits .and .u64 ((s : Int) / 2 ^ k) 1 == 0) = false := by rw [hsv, hba]; rfl
      clear hba hsv
      go_wp2_with fail
      refine (cellAt_any k hk64 _).mono ?_
      rintro e w2 ⟨rfl, hb2⟩
      have hk2 := blk_below HN0.out hb2
      have c0 : w2.cell? ⟨w.heap.size, 0, none⟩ = some (.int .i64 0) := by rw [blk_cell hk2]; rfl
      have c1 : w2.cell? ⟨w.heap.size, 1, none⟩ = some (.int .i64 0) := by rw [blk_cell hk2]; rfl
      have d0 : w2.frozen? ⟨w.heap.size, 0, none⟩ = false := blk_free hk2
      have d1 : w2.frozen? ⟨w.heap.size, 1, none⟩ = false := blk_free hk2
      have HB2 := Lib.hid (HB0.out.trans (hb2.mono HB0.out.size))
      have HK2 := Lib.hid hk2
      clear hb2 hk2
      go_wp2_with fail
      have hx := blk_setCell (k := 1) (blk_setCell (k := 0) HK2.out (.int .i64 ((k : Int) % 8))) (.int .i64 ((k : Int) / 8))
      have hbx : Below w.heap.size w ((w2.setCell ⟨w.heap.size, 0, none⟩ (.int .i64 ((k : Int) % 8))).setCell ⟨w.heap.size, 1, none⟩ (.int .i64 ((k : Int) / 8))) := (HB2.out.setCell (p := ⟨w.heap.size, 0, none⟩) (Nat.le_refl _) _).setCell (p := ⟨w.heap.size, 1, none⟩) (Nat.le_refl _) _
      generalize (w2.setCell ⟨w.heap.size, 0, none⟩ (.int .i64 ((k : Int) % 8))).setCell ⟨w.heap.size, 1, none⟩ (.int .i64 ((k : Int) / 8)) = X at *
      have r0 : X.cell? ⟨w.heap.size, 0, none⟩ = some (.int .i64 ((k : Int) % 8)) := by rw [blk_cell hx]; rfl
      have r1 : X.cell? ⟨w.heap.size, 1, none⟩ = some (.int .i64 ((k : Int) / 8)) := by rw [blk_cell hx]; rfl
      have e1 : ((k % 8 : Nat) : Int) = (k : Int) % 8 := by omega
      have e2 : ((k / 8 : Nat) : Int) = (k : Int) / 8 := by omega
      rw [e1, e2]
      exact bodyPost_ret (v := spotV ((k : Int) % 8) ((k : Int) / 8)) (by simp [results, Try.results140, go_sem, r0, r1]) rfl ⟨rfl, hbx⟩
end Go.Proofs.Ytiecphhenpapoaa
