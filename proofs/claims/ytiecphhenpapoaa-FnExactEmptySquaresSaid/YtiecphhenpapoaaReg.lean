/- Regions as sets of cells: RegionOk, Region.set of the program. -/
import Derived.Test.YtiecphhenpapoaaSet
import Derived.Test.YtiecphhenpapoaaInts
namespace Go.Proofs.Ytiecphhenpapoaa
open Go.RowKit
set_option linter.unusedVariables false

def regOkB (zs : List Int) : Bool := decide (zs.length ≤ 8) && allB zs 0 255
theorem RegionOk_any (v : Value) (zs : List Int) (B : Nat) (w : World) (h : RdI w B v zs) (hB : B ≤ w.heap.size) :
    Calls Try.prog 176 #[.agg #[v]] w fun e w' => e = .returned (.bool (regOkB zs)) ∧ Below w.heap.size w w' := by
  have HU := Lib.hid h
  obtain ⟨A, c, rfl, h1, h2, _⟩ := h
  unfold maxLen at h2
  have hb0 : Below w.heap.size w (w.alloc (.cells #[.slice A zs.length c] 51)) := (Below.refl _ _).alloc (Nat.le_refl _) _
  by_cases hl : zs.length ≤ 8
  · have hl' : decide ((zs.length : Int) ≤ 8) = true := by simp; omega
    have HF : Hid (allB zs 0 255 = regOkB zs) := by unfold Hid regOkB; simp [hl]
    have HR := Lib.hid (HU.out.below (hb0.mono hB))
    go_enter Try.func176, Try.ntmps176
    go_wp2_with fail
    refine (allWithin_any _ zs 0 255 _ _ HR.out).mono ?_
    rintro e w1 ⟨rfl, rfl⟩
    go_wp2_with fail
    go_ret
    exact ⟨ret_bool HF.out, hb0⟩
  · have hl' : decide ((zs.length : Int) ≤ 8) = false := by simp; omega
    have HF : Hid (false = regOkB zs) := by unfold Hid regOkB; simp [hl]
    go_enter Try.func176, Try.ntmps176
    go_wp2_with fail
    go_ret
    exact ⟨ret_bool HF.out, hb0⟩

/-- The cells of the first k rows. -/
def setTo (zs : List Int) : Nat → Nat
  | 0 => 0
  | k + 1 => setTo zs k ||| (el zs k).toNat * 2 ^ (8 * k)
def setZ (zs : List Int) : Nat := setTo zs zs.length
theorem regOk_el {zs : List Int} (h : regOkB zs = true) {k : Nat} (hk : k < zs.length) : 0 ≤ el zs k ∧ el zs k ≤ 255 := by
  unfold regOkB allB at h
  simp only [Bool.and_eq_true, decide_eq_true_eq, List.all_eq_true, inB_iff] at h
  have := h.2 _ (List.getElem_mem hk)
  rwa [← el_get zs k hk] at this
theorem regOk_len {zs : List Int} (h : regOkB zs = true) : zs.length ≤ 8 := by
  unfold regOkB at h
  simp only [Bool.and_eq_true, decide_eq_true_eq] at h
  exact h.1
theorem row_lt {r k : Nat} (hr : r ≤ 255) (hk : k ≤ 7) : r * 2 ^ (8 * k) < 2 ^ (8 * (k + 1)) := by
  rw [show 8 * (k + 1) = 8 * k + 8 by omega, Nat.pow_add, Nat.mul_comm]
  have : 0 < 2 ^ (8 * k) := Nat.pos_of_ne_zero (by simp)
  exact Nat.mul_lt_mul_of_pos_left (by omega) this
theorem setTo_lt {zs : List Int} (h : regOkB zs = true) : ∀ k, k ≤ zs.length → setTo zs k < 2 ^ (8 * k)
  | 0, _ => by simp [setTo]
  | k + 1, hk => by
    have ih := setTo_lt h k (by omega)
    have hl := regOk_len h
    have he := regOk_el h (k := k) (by omega)
    rw [setTo]
    refine Nat.or_lt_two_pow (Nat.lt_of_lt_of_le ih (Nat.pow_le_pow_right (by omega) (by omega))) (row_lt (by omega) (by omega))
theorem setZ_lt {zs : List Int} (h : regOkB zs = true) : setZ zs < 18446744073709551616 := by
  have h1 := setTo_lt h zs.length (Nat.le_refl _)
  have h2 := regOk_len h
  exact Nat.lt_of_lt_of_le h1 (Nat.pow_le_pow_right (n := 2) (j := 64) (by omega) (by omega))

set_option maxHeartbeats 1000000 in
theorem rset_any (v : Value) (zs : List Int) (B : Nat) (w : World) (h : RdI w B v zs) (hB : B ≤ w.heap.size) (hok : regOkB zs = true) :
    Calls Try.prog 70 #[.agg #[v]] w fun e w' => e = .returned (.int .u64 (setZ zs : Nat)) ∧ Below w.heap.size w w' := by
  have HU := Lib.hid h
  have hl8 := regOk_len hok
  obtain ⟨A, c, rfl, h1, h2, _⟩ := h
  unfold maxLen at h2
  have hb0 : Below w.heap.size w (w.alloc (.cells #[.slice A zs.length c] 51)) := (Below.refl _ _).alloc (Nat.le_refl _) _
  obtain ⟨A', c', e', _, _, hR⟩ := HU.out.below (hb0.mono hB)
  simp only [Value.slice.injEq] at e'
  obtain ⟨rfl, _, rfl⟩ := e'
  have HR := Lib.hid hR
  have HB0 := Lib.hid hb0
  clear hR hb0
  go_enter Try.func70, Try.ntmps70
  go_wp2_with fail
  generalize w.alloc (.cells #[.slice A zs.length c] 51) = W at *
  go_loop [3, 9] (fun s i => ∃ k : Nat, k ≤ zs.length ∧ i = .int .i64 k ∧ s = .int .u64 (setTo zs k : Nat)) (fun _ i => zs.length - (intOf i).toNat)
  case atStart => exact ⟨0, Nat.zero_le _, rfl, rfl⟩
  case round =>
    obtain ⟨k, hk, rfl, rfl⟩ := hrel
    by_cases hlt : k < zs.length
    · obtain ⟨ad, rfl, hbl, hc⟩ := HR.out.int hlt
      rw [← el_get zs k hlt] at hc
      obtain ⟨x0, x1⟩ := regOk_el hok hlt
      obtain ⟨x, hx⟩ := Int.eq_ofNat_of_zero_le x0
      have HT : Hid (setTo zs (k + 1) = setTo zs k ||| x * 2 ^ (8 * k)) := by unfold Hid; rw [setTo, hx, Int.toNat_natCast]
      have HL1 := Lib.hid (setTo_lt hok k (by omega))
      rw [hx] at hc x0 x1
      have HX := Lib.hid hx
      clear hx
      have HV : Hid (bits .or .u64 ((setTo zs k : Nat) : Int) (IntKind.u64.wrap ((x : Int) * 2 ^ (8 * k))) = ((setTo zs (k + 1) : Nat) : Int)) := by
        unfold Hid
        have e1 : (x : Int) * 2 ^ (8 * k) = ((x * 2 ^ (8 * k) : Nat) : Int) := by simp
        have l1 := row_lt (r := x) (k := k) (by omega) (by omega)
        have l2 : (2 : Nat) ^ (8 * (k + 1)) ≤ 2 ^ 64 := Nat.pow_le_pow_right (by omega) (by omega)
        have l3 : (2 : Nat) ^ (8 * k) ≤ 2 ^ 64 := Nat.pow_le_pow_right (by omega) (by omega)
        have l4 := HL1.out
        rw [e1, HT.out, IntKind.wrap_u64]
        generalize x * 2 ^ (8 * k) = p at *
        rw [show ((p : Int)) % 18446744073709551616 = (p : Int) by omega]
        exact u64_or_nat _ _ (Nat.lt_of_lt_of_le l4 l3) (Nat.lt_of_lt_of_le l1 l2)
      clear HL1
      go_wp2_with fail
      go_round
      case rel => exact ⟨k + 1, by omega, by go_num, by rw [HV.out]⟩
      case measure => simp [intOf]; omega
    · have HK : Hid (k = zs.length) := by unfold Hid; omega
      go_wp2_with fail
      go_ret
      exact ⟨congrArg (fun n : Nat => Ending.returned (.int .u64 (n : Int))) (by rw [HK.out]; rfl), HB0.out⟩

theorem cix_bit (zs : List Int) (hok : regOkB zs = true) (x y : Nat) (hx : x ≤ 7) : ∀ k, k ≤ zs.length → (setTo zs k).testBit (cix x y) = (decide (y < k) && (el zs y).toNat.testBit x)
  | 0, _ => by simp [setTo]
  | k + 1, hk => by
    have ih := cix_bit zs hok x y hx k (by omega)
    have he := regOk_el hok (k := k) (by omega)
    rw [setTo, Nat.testBit_or, ih, Nat.testBit_mul_two_pow]
    have hbig : ∀ j, 8 ≤ j → (el zs k).toNat.testBit j = false := fun j hj => Nat.testBit_lt_two_pow (Nat.lt_of_lt_of_le (show (el zs k).toNat < 2 ^ 8 by omega) (Nat.pow_le_pow_right (by omega) hj))
    unfold cix
    rcases Nat.lt_trichotomy y k with h | h | h
    · have h1 : ¬ 8 * k ≤ y * 8 + x := by omega
      simp [h, show y < k + 1 by omega, h1]
    · subst h
      have h1 : 8 * y ≤ y * 8 + x := by omega
      have h2 : y * 8 + x - 8 * y = x := by omega
      simp [h1, h2]
    · have h1 : 8 * k ≤ y * 8 + x := by omega
      have h2 := hbig (y * 8 + x - 8 * k) (by omega)
      simp [h1, h2, show ¬ y < k by omega, show ¬ y < k + 1 by omega]
/-- A region has a cell. -/
theorem setZ_bit {zs : List Int} (hok : regOkB zs = true) (x y : Nat) (hx : x ≤ 7) : hasB (setZ zs) x y = (decide (y < zs.length) && (el zs y).toNat.testBit x) := cix_bit zs hok x y hx zs.length (Nat.le_refl _)
end Go.Proofs.Ytiecphhenpapoaa
