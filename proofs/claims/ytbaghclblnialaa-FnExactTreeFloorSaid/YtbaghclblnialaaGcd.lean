/- Contracts of gcd and l15Gcd (the greatest common divisor of two numbers not below 0). -/
import Derived.Test.YtbaghclblnialaaBasic
import Derived.IntWalk
import Derived.Below
import Derived.Deep.QuietTactic
import Derived.BigQuiet
import Derived.Deep.Draws
namespace Go.Proofs.Ytbaghclblnialaa
open Go.RowKit

def Drawn (w w' : World) : Prop := ∃ n, w' = w.drewN n
theorem Drawn.refl (w : World) : Drawn w w := ⟨0, rfl⟩
theorem Drawn.more {w w' : World} (h : Drawn w w') (n : Nat) : Drawn w (w'.drewN n) := by
  obtain ⟨m, rfl⟩ := h
  exact ⟨m + n, by rw [World.drewN_drewN]⟩
theorem Drawn.drew {w w' : World} (h : Drawn w w') : Drawn w w'.drew := h.more 1
theorem Drawn.trans {a b c : World} (h : Drawn a b) (k : Drawn b c) : Drawn a c := by
  obtain ⟨m, rfl⟩ := k; exact h.more m
theorem Drawn.below {w w' : World} (h : Drawn w w') (B : Nat) : Below B w w' := by
  obtain ⟨n, rfl⟩ := h; exact ⟨rfl, rfl, rfl, Nat.le_refl _, fun _ _ => rfl⟩

theorem quo_bd (x y : Nat) : 0 ≤ (x : Int) / (y : Int) ∧ (x : Int) / (y : Int) ≤ (x : Int) := by
  have h : x / y ≤ x := Nat.div_le_self x y
  have h0 : 0 ≤ ((x / y : Nat) : Int) := Int.natCast_nonneg _
  have h1 : ((x / y : Nat) : Int) ≤ (x : Int) := Int.ofNat_le.2 h
  rw [Int.natCast_ediv] at h0 h1
  exact ⟨h0, h1⟩

set_option maxHeartbeats 400000 in
theorem gcd_any (a b : Nat) (ha : a ≤ 1099511627776) (hb : b ≤ 1099511627776) (w : World) :
    Calls Try.prog 59 #[.int .i64 a, .int .i64 b] w fun e w' => e = .returned (.int .i64 (Nat.gcd a b : Nat)) ∧ Drawn w w' := by
  generalize hg : Nat.gcd a b = g
  have HG := Lib.hid hg
  clear hg
  go_enter Try.func59, Try.ntmps59
  go_wp2
  go_loopw [0, 1] (fun s t wr => ∃ x y : Nat, x ≤ 1099511627776 ∧ y ≤ 1099511627776 ∧ Hid (Nat.gcd x y = g) ∧ s = .int .i64 x ∧ t = .int .i64 y ∧ Drawn w wr) (fun _ t _ => (intOf t).toNat)
  case atStart => exact ⟨a, b, ha, hb, HG, rfl, rfl, Drawn.refl _⟩
  case round =>
    obtain ⟨x, y, hx, hy, HE, rfl, rfl, hd⟩ := hrel
    by_cases h0 : y = 0
    · subst h0
      go_wp2
      go_ret
      exact ⟨ret_int (by rw [← HE.out, Nat.gcd_zero_right]), hd⟩
    · have hlt : x % y < y := Nat.mod_lt _ (by omega)
      have h1 : ((y : Int) == 0) = false := by simp; omega
      have h1' : ((y : Int) != 0) = true := by simp; omega
      have h2 : (1 : Int) ≤ (y : Int) := by omega
      go_wp2
      go_quiet (fail)
      go_wp2
      go_roundw
      case rel => exact ⟨y, x % y, by omega, by omega, by (unfold Hid; rw [← HE.out, Nat.gcd_comm y, ← Nat.gcd_rec, Nat.gcd_comm]), by go_num, by go_num, hd.more _⟩
      case measure => simp [intOf]; omega

set_option maxHeartbeats 400000 in
theorem l15Gcd_any (a b : Nat) (ha : a ≤ 1099511627776) (hb : b ≤ 1099511627776) (w : World) :
    Calls Try.prog 57 #[.int .i64 a, .int .i64 b] w fun e w' => e = .returned (.int .i64 (Nat.gcd a b : Nat)) ∧ Drawn w w' := by
  generalize hg : Nat.gcd a b = g
  have HG := Lib.hid hg
  clear hg
  go_enter Try.func57, Try.ntmps57
  go_wp2
  go_loopw [0, 1] (fun s t wr => ∃ x y : Nat, x ≤ 1099511627776 ∧ y ≤ 1099511627776 ∧ Hid (Nat.gcd x y = g) ∧ s = .int .i64 x ∧ t = .int .i64 y ∧ Drawn w wr) (fun _ t _ => (intOf t).toNat)
  case atStart => exact ⟨a, b, ha, hb, HG, rfl, rfl, Drawn.refl _⟩
  case round =>
    obtain ⟨x, y, hx, hy, HE, rfl, rfl, hd⟩ := hrel
    by_cases h0 : y = 0
    · subst h0
      go_wp2
      go_ret
      exact ⟨ret_int (by rw [← HE.out, Nat.gcd_zero_right]), hd⟩
    · have hlt : x % y < y := Nat.mod_lt _ (by omega)
      have h1 : (0 : Int) < (y : Int) := by omega
      have h2 : (1 : Int) ≤ (y : Int) := by omega
      go_wp2
      go_quiet (fail)
      go_wp2
      go_roundw
      case rel => exact ⟨y, x % y, by omega, by omega, by (unfold Hid; rw [← HE.out, Nat.gcd_comm y, ← Nat.gcd_rec, Nat.gcd_comm]), by go_num, by go_num, hd.more _⟩
      case measure => simp [intOf]; omega
end Go.Proofs.Ytbaghclblnialaa
