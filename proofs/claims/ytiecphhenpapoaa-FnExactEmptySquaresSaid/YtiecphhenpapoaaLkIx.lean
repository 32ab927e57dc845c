/- Contracts of linkIndex and indexOf: the first place of an element, -1 if there is none. -/
import Derived.Test.YtiecphhenpapoaaPosts
import Derived.Test.YtiecphhenpapoaaBlk
import Derived.Test.YtiecphhenpapoaaInts
namespace Go.Proofs.Ytiecphhenpapoaa
open Go.RowKit
set_option linter.unusedVariables false

/-- The first number from k on, among n, with p; -1 if there is none. -/
def fstZ (p : Nat → Bool) : Nat → Nat → Int
  | 0, _ => -1
  | n + 1, k => if p k then (k : Int) else fstZ p n (k + 1)
theorem fstZ_spec (p : Nat → Bool) : ∀ n k, (fstZ p n k = -1 ∧ ∀ i, k ≤ i → i < k + n → p i = false) ∨ ∃ j : Nat, fstZ p n k = (j : Int) ∧ k ≤ j ∧ j < k + n ∧ p j = true ∧ ∀ i, k ≤ i → i < j → p i = false
  | 0, k => .inl ⟨rfl, fun i h1 h2 => by omega⟩
  | n + 1, k => by
    rw [fstZ]
    by_cases h : p k = true
    · rw [if_pos h]; exact .inr ⟨k, rfl, Nat.le_refl _, by omega, h, fun i h1 h2 => by omega⟩
    · rw [if_neg h]
      have hf : p k = false := by simpa using h
      rcases fstZ_spec p n (k + 1) with ⟨h1, h2⟩ | ⟨j, h1, h2, h3, h4, h5⟩
      · refine .inl ⟨h1, fun i q1 q2 => ?_⟩
        by_cases e : i = k
        · rw [e]; exact hf
        · exact h2 i (by omega) (by omega)
      · refine .inr ⟨j, h1, by omega, by omega, h4, fun i q1 q2 => ?_⟩
        by_cases e : i = k
        · rw [e]; exact hf
        · exact h5 i (by omega) q2
def lkEq (ls : List Lk) (x y : Int) (d : Bool) (i : Nat) : Bool := lx ls i == x && (ly ls i == y && ld ls i == d)
set_option maxRecDepth 100000 in
set_option maxHeartbeats 4000000 in
theorem linkIndex_any (v : Value) (ls : List Lk) (x y : Int) (d : Bool) (B : Nat) (w : World) (h : RdF elLink w B v ls) (hB : B ≤ w.heap.size) :
    Calls Try.prog 96 #[v, triV x y d] w fun e w' => e = .returned (.int .i64 (fstZ (lkEq ls x y d) ls.length 0)) ∧ Below w.heap.size w w' := by
  obtain ⟨A, c, rfl, g1, g2, G3⟩ := RdT.of (E := elLink) rfl (fun _ => rfl) h
  unfold maxLen at g2
  clear h
  go_enter Try.func96, Try.ntmps96
  go_wp2_with fail
  obtain ⟨W, hW, k0, hb0⟩ := one_alloc w (.cells #[.int .i64 x, .int .i64 y, .bool d] 101)
  rw [← hW]
  have HK := Lib.hid k0
  have HB0 := Lib.hid hb0
  have hs0 : w.heap.size < W.heap.size := lt_of_block k0
  clear hW k0 hb0
  go_loopw [9] (fun s wr => ∃ k : Nat, k ≤ ls.length ∧ s = .int .i64 k ∧ Hid (Below W.heap.size W wr) ∧ Hid (fstZ (lkEq ls x y d) ls.length 0 = fstZ (lkEq ls x y d) (ls.length - k) k)) (fun s _ => ls.length - (intOf s).toNat)
  case atStart => exact ⟨0, Nat.zero_le _, rfl, Below.refl _ _, rfl⟩
  case round =>
    obtain ⟨k, hk, rfl, HB, HF⟩ := hrel
    by_cases hlt : k < ls.length
    · obtain ⟨ad, rfl, had, hx, hy, hz⟩ := G3.out k hlt
      have hbw := HB0.out.trans (HB.out.mono HB0.out.size)
      have hx' := (hbw.cell (p := ad.add (k * 3)) (by rw [addBlock]; omega)).trans hx
      have hy' := (hbw.cell (p := ⟨(ad.add (k * 3)).block, (ad.add (k * 3)).off + 1, none⟩) (by show (ad.add (k * 3)).block < _; rw [addBlock]; omega)).trans hy
      have hz' := (hbw.cell (p := ⟨(ad.add (k * 3)).block, (ad.add (k * 3)).off + 2, none⟩) (by show (ad.add (k * 3)).block < _; rw [addBlock]; omega)).trans hz
      have hblk := (HB.out.block w.heap.size hs0).trans HK.out
      have ht : decide ((k : Int) < (ls.length : Int)) = true := by simp only [decide_eq_true_eq]; omega
      have hk0 : (0 : Int) ≤ (k : Int) := by omega
      have hk1 : (k : Int) < (ls.length : Int) := by omega
      have hal := (Below.refl wr.heap.size wr).alloc (Nat.le_refl _) (.cells #[.int .i64 (lx ls k), .int .i64 (ly ls k), .bool (ld ls k)] 101)
      have hblk2 := (hal.block w.heap.size (lt_of_block hblk)).trans hblk
      have b0 : (wr.alloc (.cells #[.int .i64 (lx ls k), .int .i64 (ly ls k), .bool (ld ls k)] 101)).cell? ⟨w.heap.size, 0, none⟩ = some (.int .i64 x) := by rw [blk_cell hblk2]; rfl
      have b1 : (wr.alloc (.cells #[.int .i64 (lx ls k), .int .i64 (ly ls k), .bool (ld ls k)] 101)).cell? ⟨w.heap.size, 1, none⟩ = some (.int .i64 y) := by rw [blk_cell hblk2]; rfl
      have b2 : (wr.alloc (.cells #[.int .i64 (lx ls k), .int .i64 (ly ls k), .bool (ld ls k)] 101)).cell? ⟨w.heap.size, 2, none⟩ = some (.bool d) := by rw [blk_cell hblk2]; rfl
      have HBN := Lib.hid (HB.out.trans (hal.mono HB.out.size))
      have HQ := Lib.hid (hbw.trans (hal.mono hbw.size))
      clear hbw hx hy hz hblk hblk2 hal
      have HS : Hid (fstZ (lkEq ls x y d) (ls.length - k) k = if lkEq ls x y d k then (k : Int) else fstZ (lkEq ls x y d) (ls.length - (k + 1)) (k + 1)) := by
        unfold Hid; rw [show ls.length - k = (ls.length - (k + 1)) + 1 by omega, fstZ]
      have HE : Hid (lkEq ls x y d k = (lx ls k == x && (ly ls k == y && ld ls k == d))) := rfl
      generalize lkEq ls x y d k = r at *
      generalize lx ls k = p1 at *
      generalize ly ls k = p2 at *
      generalize ld ls k = p3 at *
      cases r
      · have HS2 : Hid (fstZ (lkEq ls x y d) ls.length 0 = fstZ (lkEq ls x y d) (ls.length - (k + 1)) (k + 1)) := HF.out.trans HS.out
        clear HS HF
        go_wp2_with fail
        all_goals subst_vars
        all_goals first
          | (exfalso; have h9 := HE.out; simp at h9; done)
          | (go_roundw
             case rel => exact ⟨k + 1, by omega, by go_num, HBN, HS2⟩
             case measure => simp [intOf]; omega)
      · have he := HE.out.symm
        simp only [Bool.and_eq_true, beq_iff_eq] at he
        obtain ⟨rfl, rfl, rfl⟩ := he
        have HS2 : Hid (fstZ (lkEq ls p1 p2 p3) ls.length 0 = (k : Int)) := HF.out.trans HS.out
        clear HS HF
        go_wp2_with fail
        go_ret
        exact ⟨ret_int HS2.out.symm, HQ.out⟩
    · have HF2 : Hid (fstZ (lkEq ls x y d) ls.length 0 = -1) := by unfold Hid; rw [HF.out, show ls.length - k = 0 by omega]; rfl
      have ht : decide ((k : Int) < (ls.length : Int)) = false := by simp only [decide_eq_false_iff_not]; omega
      go_wp2_with fail
      go_ret
      exact ⟨ret_int HF2.out.symm, HB0.out.trans (HB.out.mono HB0.out.size)⟩

set_option maxHeartbeats 1000000 in
theorem indexOf_any (v : Value) (zs : List Int) (x : Int) (B : Nat) (w : World) (h : RdI w B v zs) :
    Calls Try.prog 97 #[v, .int .i64 x] w fun e w' => e = .returned (.int .i64 (fstZ (fun i => el zs i == x) zs.length 0)) ∧ w = w' := by
  obtain ⟨A, c, rfl, g1, g2, hr⟩ := h
  unfold maxLen at g2
  have HR := Lib.hid hr
  clear hr
  go_enter Try.func97, Try.ntmps97
  go_wp2_with fail
  go_loop [9] (fun s => ∃ k : Nat, k ≤ zs.length ∧ s = .int .i64 k ∧ Hid (fstZ (fun i => el zs i == x) zs.length 0 = fstZ (fun i => el zs i == x) (zs.length - k) k)) (fun s => zs.length - (intOf s).toNat)
  case atStart => exact ⟨0, Nat.zero_le _, rfl, rfl⟩
  case round =>
    obtain ⟨k, hk, rfl, HF⟩ := hrel
    by_cases hlt : k < zs.length
    · obtain ⟨ad, rfl, had, hc⟩ := HR.out.int hlt
      rw [← el_get _ _ hlt] at hc
      have ht : decide ((k : Int) < (zs.length : Int)) = true := by simp only [decide_eq_true_eq]; omega
      have hk0 : (0 : Int) ≤ (k : Int) := by omega
      have hk1 : (k : Int) < (zs.length : Int) := by omega
      have HS : Hid (fstZ (fun i => el zs i == x) (zs.length - k) k = if el zs k == x then (k : Int) else fstZ (fun i => el zs i == x) (zs.length - (k + 1)) (k + 1)) := by
        unfold Hid; rw [show zs.length - k = (zs.length - (k + 1)) + 1 by omega, fstZ]
      cases he : el zs k == x
      · have HS2 : Hid (fstZ (fun i => el zs i == x) zs.length 0 = fstZ (fun i => el zs i == x) (zs.length - (k + 1)) (k + 1)) := HF.out.trans (by rw [HS.out, he]; rfl)
        clear HS HF
        generalize el zs k = y at *
        go_wp2_with fail
        go_round
        case rel => exact ⟨k + 1, by omega, by go_num, HS2⟩
        case measure => simp [intOf]; omega
      · have HS2 : Hid (fstZ (fun i => el zs i == x) zs.length 0 = (k : Int)) := HF.out.trans (by rw [HS.out, he]; rfl)
        clear HS HF
        generalize el zs k = y at *
        go_wp2_with fail
        go_ret
        exact ⟨ret_int HS2.out.symm, rfl⟩
    · have HF2 : Hid (fstZ (fun i => el zs i == x) zs.length 0 = -1) := by unfold Hid; rw [HF.out, show zs.length - k = 0 by omega]; rfl
      have ht : decide ((k : Int) < (zs.length : Int)) = false := by simp only [decide_eq_false_iff_not]; omega
      go_wp2_with fail
      go_ret
      exact ⟨ret_int HF2.out.symm, rfl⟩
end Go.Proofs.Ytiecphhenpapoaa
