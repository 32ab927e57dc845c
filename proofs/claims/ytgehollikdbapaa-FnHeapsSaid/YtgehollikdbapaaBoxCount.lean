/- Contracts of BoxCount of the program and of the reference: three loops of one rule. -/
import Derived.Test.YtgehollikdbapaaBox
import Derived.Test.YtgehollikdbapaaGcd
namespace Go.Proofs.Ytgehollikdbapaa
open Go.RowKit

def bxStep (s : Nat × Nat) (i k m : Nat) : Nat × Nat :=
  (s.1 * (i + k + m + 2) / Nat.gcd (s.1 * (i + k + m + 2)) (s.2 * (i + k + m + 1)), s.2 * (i + k + m + 1) / Nat.gcd (s.1 * (i + k + m + 2)) (s.2 * (i + k + m + 1)))
def bx3 (s : Nat × Nat) (i k : Nat) : Nat → Nat × Nat | 0 => s | m + 1 => bxStep (bx3 s i k m) i k m
def bx2 (c : Nat) (s : Nat × Nat) (i : Nat) : Nat → Nat × Nat | 0 => s | k + 1 => bx3 (bx2 c s i k) i k c
def bx1 (b c : Nat) : Nat → Nat × Nat | 0 => (1, 1) | i + 1 => bx2 c (bx1 b c i) i b
def bxNum (x : Nat) : Bool := decide (1 ≤ x) && decide (x ≤ 1000000)
def bxOk : Bool := (List.range 4).all fun b => (List.range 4).all fun c => (List.range 4).all fun i => bxNum (bx1 b c i).1 && bxNum (bx1 b c i).2 &&
  (List.range 4).all fun k => bxNum (bx2 c (bx1 b c i) i k).1 && bxNum (bx2 c (bx1 b c i) i k).2 && (List.range 4).all fun m => bxNum (bx3 (bx2 c (bx1 b c i) i k) i k m).1 && bxNum (bx3 (bx2 c (bx1 b c i) i k) i k m).2
theorem bxOk_true : bxOk = true := by decide +kernel
theorem bx_facts (b c i : Nat) (hb : b ≤ 3) (hc : c ≤ 3) (hi : i ≤ 3) :
    ((1 ≤ (bx1 b c i).1 ∧ (bx1 b c i).1 ≤ 1000000) ∧ (1 ≤ (bx1 b c i).2 ∧ (bx1 b c i).2 ≤ 1000000)) ∧
    (∀ k, k ≤ 3 → ∀ m, m ≤ 3 → (1 ≤ (bx3 (bx2 c (bx1 b c i) i k) i k m).1 ∧ (bx3 (bx2 c (bx1 b c i) i k) i k m).1 ≤ 1000000) ∧ (1 ≤ (bx3 (bx2 c (bx1 b c i) i k) i k m).2 ∧ (bx3 (bx2 c (bx1 b c i) i k) i k m).2 ≤ 1000000)) := by
  have h := bxOk_true
  simp only [bxOk, bxNum, List.all_eq_true, List.mem_range, Bool.and_eq_true, decide_eq_true_eq] at h
  obtain ⟨h1, h2⟩ := h b (by omega) c (by omega) i (by omega)
  refine ⟨h1, fun k hk m hm => ?_⟩
  obtain ⟨_, h4⟩ := h2 k (by omega)
  exact h4 m (by omega)
theorem mul_bd9 (x y : Nat) (h1 : x ≤ 1000000) (h2 : y ≤ 20) : x * y ≤ 20000000 ∧ 0 ≤ (x : Int) * (y : Int) ∧ (x : Int) * (y : Int) ≤ 20000000 := by
  have h : x * y ≤ 1000000 * 20 := Nat.mul_le_mul h1 h2
  have e : ((x * y : Nat) : Int) = (x : Int) * (y : Int) := Int.natCast_mul x y
  omega

set_option maxHeartbeats 3200000 in
theorem BoxCount_yes (a b c : Nat) (ha : 1 ≤ a ∧ a ≤ 3) (hb : 1 ≤ b ∧ b ≤ 3) (hc : 1 ≤ c ∧ c ≤ 3) (w : World) :
    Calls Try.prog 22 #[.int .i64 a, .int .i64 b, .int .i64 c] w fun e w' => e = .returned (.int .i64 ((bx1 b c a).1 / (bx1 b c a).2 : Nat)) ∧ Below w.heap.size w w' := by
  obtain ⟨ha1, ha2⟩ := ha
  obtain ⟨hb1, hb2⟩ := hb
  obtain ⟨hc1, hc2⟩ := hc
  have hin : boxB a b c = true := (boxB_iff _ _ _).2 (by omega)
  go_enter Try.func22, Try.ntmps22
  go_wp2_with fail
  refine (BoxOk_any _ _ _ _).mono ?_
  rintro e w0 ⟨rfl, hw0⟩
  go_wp2_with fail
  clear hin
  go_loopw [7, 8, 9] (fun o u n wr => ∃ i : Nat, i ≤ a ∧ o = .int .i64 (bx1 b c i).1 ∧ u = .int .i64 (bx1 b c i).2 ∧ n = .int .i64 ((i : Int) + 1) ∧ Below w.heap.size w wr) (fun _ _ n _ => a + 1 - (intOf n).toNat)
  case atStart => exact ⟨0, by omega, rfl, rfl, rfl, hw0⟩
  case round =>
    obtain ⟨i, hi, rfl, rfl, rfl, hd⟩ := hrel
    obtain ⟨⟨⟨ho1, ho2⟩, hu1, hu2⟩, hR⟩ := bx_facts b c i (by omega) (by omega) (by omega)
    by_cases hlt : i < a
    · have HR := Lib.hid hR; clear hR
      have HE : Hid (bx1 b c (i + 1) = bx2 c (bx1 b c i) i b) := rfl
      generalize bx1 b c i = s at *
      have hti : decide ((i : Int) + 1 ≤ (a : Int)) = true := by simp only [decide_eq_true_eq]; omega
      obtain ⟨wo, rfl⟩ : ∃ wo : World, wo = wr := ⟨_, rfl⟩
      go_wp2_with fail
      go_loopw [7, 8, 10] (fun o u n wr => ∃ k : Nat, k ≤ b ∧ o = .int .i64 (bx2 c s i k).1 ∧ u = .int .i64 (bx2 c s i k).2 ∧ n = .int .i64 ((k : Int) + 1) ∧ Below w.heap.size w wr) (fun _ _ n _ => b + 1 - (intOf n).toNat)
      case atStart => exact ⟨0, by omega, rfl, rfl, rfl, hd⟩
      case round =>
        obtain ⟨k, hk, rfl, rfl, rfl, hd⟩ := hrel
        by_cases hlk : k < b
        · have HR3 := Lib.hid (HR.out k (by omega))
          have HE2 : Hid (bx2 c s i (k + 1) = bx3 (bx2 c s i k) i k c) := rfl
          generalize bx2 c s i k = s2 at *
          have htk : decide ((k : Int) + 1 ≤ (b : Int)) = true := by simp only [decide_eq_true_eq]; omega
          obtain ⟨wo2, rfl⟩ : ∃ wo2 : World, wo2 = wr := ⟨_, rfl⟩
          go_wp2_with fail
          go_loopw [7, 8, 11] (fun o u n wr => ∃ m : Nat, m ≤ c ∧ o = .int .i64 (bx3 s2 i k m).1 ∧ u = .int .i64 (bx3 s2 i k m).2 ∧ n = .int .i64 ((m : Int) + 1) ∧ Below w.heap.size w wr) (fun _ _ n _ => c + 1 - (intOf n).toNat)
          case atStart => exact ⟨0, by omega, rfl, rfl, rfl, hd⟩
          case round =>
            obtain ⟨m, hm, rfl, rfl, rfl, hd⟩ := hrel
            obtain ⟨⟨t1, t2⟩, u1, u2⟩ := HR3.out m (by omega)
            by_cases hlm : m < c
            · have HE3 : Hid (bx3 s2 i k (m + 1) = ((bx3 s2 i k m).1 * (i + k + m + 2) / Nat.gcd ((bx3 s2 i k m).1 * (i + k + m + 2)) ((bx3 s2 i k m).2 * (i + k + m + 1)), (bx3 s2 i k m).2 * (i + k + m + 1) / Nat.gcd ((bx3 s2 i k m).1 * (i + k + m + 2)) ((bx3 s2 i k m).2 * (i + k + m + 1)))) := rfl
              generalize (bx3 s2 i k m).1 = x at *
              generalize (bx3 s2 i k m).2 = y at *
              obtain ⟨m1, m2, m3⟩ := mul_bd9 x (i + k + m + 2) t2 (by omega)
              obtain ⟨m4, m5, m6⟩ := mul_bd9 y (i + k + m + 1) u2 (by omega)
              have p1 : 1 ≤ x * (i + k + m + 2) := Nat.mul_pos (by omega) (by omega)
              have p2 : 1 ≤ y * (i + k + m + 1) := Nat.mul_pos (by omega) (by omega)
              rw [show ((i + k + m + 2 : Nat) : Int) = (i : Int) + 1 + ((k : Int) + 1) + ((m : Int) + 1) - 1 from by omega] at m2 m3
              rw [show ((i + k + m + 1 : Nat) : Int) = (i : Int) + 1 + ((k : Int) + 1) + ((m : Int) + 1) - 2 from by omega] at m5 m6
              have E1 : Hid ((x : Int) * ((i : Int) + 1 + ((k : Int) + 1) + ((m : Int) + 1) - 1) = ((x * (i + k + m + 2) : Nat) : Int)) := by
                unfold Hid; rw [Int.natCast_mul]; congr 1; omega
              have E2 : Hid ((y : Int) * ((i : Int) + 1 + ((k : Int) + 1) + ((m : Int) + 1) - 2) = ((y * (i + k + m + 1) : Nat) : Int)) := by
                unfold Hid; rw [Int.natCast_mul]; congr 1; omega
              go_wp2_with fail
              rw [E1.out, E2.out]
              refine (gcd_any _ _ (by omega) (by omega) _).mono ?_
              rintro e w1 ⟨rfl, hd3⟩
              have hd4 := hd.trans (hd3.below _)
              have hg : 1 ≤ Nat.gcd (x * (i + k + m + 2)) (y * (i + k + m + 1)) := Nat.gcd_pos_of_pos_left _ p1
              clear m2 m3 m5 m6 E1 E2
              generalize x * (i + k + m + 2) = x' at *
              generalize y * (i + k + m + 1) = y' at *
              generalize Nat.gcd x' y' = g at *
              obtain ⟨q1, q2⟩ := quo_bd x' g
              obtain ⟨q3, q4⟩ := quo_bd y' g
              go_wp2_with fail
              go_quiet (fail)
              go_wp2_with fail
              go_roundw
              case rel => exact ⟨m + 1, by omega, by rw [HE3.out]; go_num, by rw [HE3.out]; go_num, by go_num, hd4.trans (Drawn.below ⟨_, rfl⟩ _)⟩
              case measure => simp [intOf]; omega
            · have hmc : m = c := by omega
              have HC := Lib.hid hmc
              clear hmc
              go_wp2_with fail
              go_roundw
              case rel => exact ⟨k + 1, by omega, by rw [HE2.out, HC.out], by rw [HE2.out, HC.out], by go_num, hd⟩
              case measure => simp [intOf]; omega
        · have hkb : k = b := by omega
          have HC := Lib.hid hkb
          clear hkb
          go_wp2_with fail
          go_roundw
          case rel => exact ⟨i + 1, by omega, by rw [HE.out, HC.out], by rw [HE.out, HC.out], by go_num, hd⟩
          case measure => simp [intOf]; omega
    · obtain rfl : i = a := by omega
      obtain ⟨q1, q2⟩ := quo_bd (bx1 b c i).1 (bx1 b c i).2
      go_wp2_with fail
      go_ret
      exact ⟨ret_int (by simp), hd⟩

def boxZ (a b c : Int) : Int := if boxB a b c then (((bx1 b.toNat c.toNat a.toNat).1 / (bx1 b.toNat c.toNat a.toNat).2 : Nat) : Int) else 0
theorem BoxCount_any (a b c : Int) (w : World) :
    Calls Try.prog 22 #[.int .i64 a, .int .i64 b, .int .i64 c] w fun e w' => e = .returned (.int .i64 (boxZ a b c)) ∧ Below w.heap.size w w' := by
  unfold boxZ
  cases h : boxB a b c
  · go_enter Try.func22, Try.ntmps22
    go_wp2_with fail
    refine (BoxOk_any _ _ _ _).mono ?_
    rintro e w0 ⟨rfl, hw0⟩
    go_wp2_with fail
    go_ret
    exact ⟨rfl, hw0⟩
  · obtain ⟨h1, h2, h3⟩ := (boxB_iff _ _ _).1 h
    obtain ⟨x, rfl⟩ := Int.eq_ofNat_of_zero_le (show 0 ≤ a by omega)
    obtain ⟨y, rfl⟩ := Int.eq_ofNat_of_zero_le (show 0 ≤ b by omega)
    obtain ⟨z, rfl⟩ := Int.eq_ofNat_of_zero_le (show 0 ≤ c by omega)
    exact BoxCount_yes x y z (by omega) (by omega) (by omega) w
end Go.Proofs.Ytgehollikdbapaa
