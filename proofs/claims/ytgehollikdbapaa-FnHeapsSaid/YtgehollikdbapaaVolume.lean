/- Contracts of HeapVolume of the program and of the reference. -/
import Derived.Test.YtgehollikdbapaaHeap
namespace Go.Proofs.Ytgehollikdbapaa
open Go.RowKit

def accI (zs : List Int) (acc : Int) : Nat → Int | 0 => acc | k + 1 => wrap64 (accI zs acc k + el zs k)
def volTo (zss : List (List Int)) : Nat → Int | 0 => 0 | i + 1 => accI (rw' zss i) (volTo zss i) (rw' zss i).length

set_option maxHeartbeats 1000000 in
theorem HeapVolume_any (v : Value) (zss : List (List Int)) (B : Nat) (w : World) (h : RdII w B v zss) :
    Calls Try.prog 21 #[v] w fun e w' => e = .returned (.int .i64 (volTo zss zss.length)) ∧ w = w' := by
  obtain ⟨A, c, rfl, g1, g2, g3⟩ := h.open_
  unfold maxLen at g2
  clear h
  have G3 := Lib.hid g3; clear g3
  go_enter Try.func21, Try.ntmps21
  go_wp2_with fail
  go_loop [3, 10] (fun n s => ∃ i : Nat, i ≤ zss.length ∧ n = .int .i64 (volTo zss i) ∧ s = .int .i64 i) (fun _ s => zss.length - (intOf s).toNat)
  case atStart => exact ⟨0, Nat.zero_le _, rfl, rfl⟩
  case round =>
    obtain ⟨i, hi, rfl, rfl⟩ := hrel
    by_cases hlt : i < zss.length
    · obtain ⟨ad, u, rfl, hbl, hc, A', c', rfl, q1, q2, q3⟩ := G3.out i hlt
      unfold maxLen at q2
      have HE : Hid (volTo zss (i + 1) = accI (rw' zss i) (volTo zss i) (rw' zss i).length) := rfl
      go_wp2_with fail
      go_loop [3, 16] (fun n s => ∃ k : Nat, k ≤ (rw' zss i).length ∧ n = .int .i64 (accI (rw' zss i) (volTo zss i) k) ∧ s = .int .i64 k) (fun _ s => (rw' zss i).length - (intOf s).toNat)
      case atStart => exact ⟨0, Nat.zero_le _, rfl, rfl⟩
      case round =>
        obtain ⟨k, hk, rfl, rfl⟩ := hrel
        by_cases hlk : k < (rw' zss i).length
        · obtain ⟨ad', rfl, hbl', hck⟩ := q3.el hlk
          have HE2 : Hid (accI (rw' zss i) (volTo zss i) (k + 1) = wrap64 (accI (rw' zss i) (volTo zss i) k + el (rw' zss i) k)) := rfl
          go_wp2_with fail
          go_round
          case rel => exact ⟨k + 1, by omega, by rw [HE2.out], by go_num⟩
          case measure => simp [intOf]; omega
        · have HK : Hid (k = (rw' zss i).length) := by unfold Hid; omega
          go_wp2_with fail
          go_round
          case rel => exact ⟨i + 1, by omega, by rw [HE.out, HK.out], by go_num⟩
          case measure => simp [intOf]; omega
    · have HK : Hid (i = zss.length) := by unfold Hid; omega
      go_wp2_with fail
      go_ret
      exact ⟨ret_int (by rw [HK.out]), rfl⟩

end Go.Proofs.Ytgehollikdbapaa
