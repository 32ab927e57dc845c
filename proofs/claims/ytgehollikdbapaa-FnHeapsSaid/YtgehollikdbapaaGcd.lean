/- Contracts of gcd and l15Gcd (the greatest common divisor of two numbers not below 0). -/
import Derived.Test.YtgehollikdbapaaDrawn
namespace Go.Proofs.Ytgehollikdbapaa
open Go.RowKit

set_option maxHeartbeats 400000 in
theorem gcd_any (a b : Nat) (ha : a ≤ 1099511627776) (hb : b ≤ 1099511627776) (w : World) :
    Calls Try.prog 72 #[.int .i64 a, .int .i64 b] w fun e w' => e = .returned (.int .i64 (Nat.gcd a b : Nat)) ∧ Drawn w w' := by
  generalize hg : Nat.gcd a b = g
  have HG := Lib.hid hg
  clear hg
  go_enter Try.func72, Try.ntmps72
  go_wp2
  go_loopw [0, 1] (fun s t wr => ∃ x y : Nat, x ≤ 1099511627776 ∧ y ≤ 1099511627776 ∧ Hid (Nat.gcd x y = g) ∧ s = .int .i64 x ∧ t = .int .i64 y ∧ Drawn w wr) (fun _ t _ => (intOf t).toNat)
  case atStart => exact ⟨a, b, ha, hb, HG, rfl, rfl, Drawn.refl _⟩
  case round =>
    obtain ⟨x, y, hx, hy, HE, rfl, rfl, hd⟩ := hrel
    by_cases h0 : y = 0
    · subst h0
      go_wp2
      go_ret
      exact ⟨ret_int (by rw [← HE.out, Nat.gcd_zero_right]), hd⟩
    · have hlt : x % y < y := Nat.mod_lt _ (by omega)
      have h1 : ((y : Int) == 0) = false := by simp; omega
      have h1' : ((y : Int) != 0) = true := by simp; omega
      have h2 : (1 : Int) ≤ (y : Int) := by omega
      go_wp2
      go_quiet (fail)
      go_wp2
      go_roundw
      case rel => exact ⟨y, x % y, by omega, by omega, by (unfold Hid; rw [← HE.out, Nat.gcd_comm y, ← Nat.gcd_rec, Nat.gcd_comm]), by go_num, by go_num, hd.more _⟩
      case measure => simp [intOf]; omega

end Go.Proofs.Ytgehollikdbapaa
