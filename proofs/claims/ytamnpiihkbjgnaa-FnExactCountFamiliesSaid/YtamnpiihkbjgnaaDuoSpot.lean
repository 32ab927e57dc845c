/- Contracts of the laws' helpers over slices of Spot: eq, mark, held. -/
import Derived.Test.YtamnpiihkbjgnaaDuo
import Derived.Deep.RegionHeld3
import Derived.Deep.QuietTactic
import Derived.BigQuiet
namespace Go.Proofs.Ytamnpiihkbjgnaa
open Go.RowKit

theorem eqDSpot_self (x y : Int) (w : World) :
    Calls Try.prog 68 #[.agg #[.int .i64 x, .int .i64 y], .agg #[.int .i64 x, .int .i64 y]] w fun e w' => e = .returned (.bool true) ∧ Below w.heap.size w w' := by
  have h1 : (x != x) = false := by simp
  have h2 : (y != y) = false := by simp
  go_enter Try.func68, Try.ntmps68
  go_wp2
  go_ret
  exact ⟨rfl, ((Below.refl _ _).alloc (by (try simp) <;> omega) _).alloc (by (try simp) <;> omega) _⟩

set_option maxHeartbeats 2000000 in
theorem eqDSpotS_self (u v : Value) (ls : List (Int × Int)) (B C : Nat) (w : World) (hu : RdF elSpot w B u ls) (hv : RdF elSpot w C v ls) (hB : B ≤ w.heap.size) (hC : C ≤ w.heap.size) :
    Calls Try.prog 19 #[u, v] w fun e w' => e = .returned (.bool true) ∧ Below w.heap.size w w' := by
  obtain ⟨A, c, rfl, g1, g2, G3⟩ := RdD.of (E := elSpot) rfl (fun _ => rfl) hu
  obtain ⟨A', c', rfl, g1', g2', G3'⟩ := RdD.of (E := elSpot) rfl (fun _ => rfl) hv
  unfold maxLen at g2 g2'
  clear hu hv
  go_enter Try.func19, Try.ntmps19
  go_wp2_with fail
  go_loopw [5] (fun i wr => ∃ k : Nat, k ≤ ls.length ∧ i = .int .i64 k ∧ Below w.heap.size w wr) (fun i _ => ls.length - (intOf i).toNat)
  case atStart => exact ⟨0, Nat.zero_le _, rfl, Below.refl _ _⟩
  case round =>
    obtain ⟨k, hk, rfl, hd⟩ := hrel
    by_cases hlt : k < ls.length
    · obtain ⟨ad, rfl, hb, hx, hy⟩ := G3.out k hlt
      obtain ⟨ad', rfl, hb', hx', hy'⟩ := G3'.out k hlt
      have hk0 : (0 : Int) ≤ (k : Int) := by omega
      have hk1 : (k : Int) < (ls.length : Int) := by omega
      have L1 := Lib.hid (show (ad.add (k * 2)).block < w.heap.size by rw [addBlock]; omega)
      have L2 := Lib.hid (show (ad'.add (k * 2)).block < w.heap.size by rw [addBlock]; omega)
      have HS := Lib.hid (keepFourB hd L1.out L2.out ⟨hx, hy, hx', hy', Nat.le_refl _, Below.refl _ _⟩)
      clear hx hy hx' hy'
      go_wp2_with fail
      go_region_held3 (fun w' => FourS w w' (ad.add (k * 2)) (ad'.add (k * 2)) (dx ls k) (dy ls k))
        (first
          | exact keepFourB hb1 L1.out L2.out (by assumption)
          | exact drewFourB HS.out)
        (first
          | (go_at_call 68; refine (eqDSpot_self _ _ _).mono ?_; rintro e w1 ⟨rfl, hb1⟩))
      have hd2 := (show FourS w w1 _ _ _ _ from by assumption).2.2.2.2.2
      go_wp2_with fail
      go_roundw
      case rel => exact ⟨k + 1, by omega, by go_num, hd2⟩
      case measure => simp [intOf]; omega
    · go_wp2_with fail
      go_ret
      exact ⟨rfl, hd⟩

def MarkSpotPost (w : World) (lo : Nat) (v : Value) (n : Nat) (k : Int) (e : Ending) (w' : World) : Prop :=
  e = .returned (.int .i64 (k + 2 * (n : Int))) ∧ OwnF elSpot w' lo v (duoIota k n) ∧ w.grownBy w' v.ownBlock

end Go.Proofs.Ytamnpiihkbjgnaa
