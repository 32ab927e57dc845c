/- The contracts of eqSpot and eqSpotS, where both sides read as one list; of areSpots, SpotsOk of the program and of the reference. -/
import Derived.Test.YtbaghclblnialaaSpots
namespace Go.Proofs.Ytbaghclblnialaa
open Go.RowKit

theorem eqSpot_self (x y : Int) (w : World) :
    Calls Try.prog 61 #[spotV x y, spotV x y] w fun e w' => e = .returned (.bool true) ∧ Below w.heap.size w w' := by
  have h1 : (x != x) = false := by simp
  have h2 : (y != y) = false := by simp
  go_enter Try.func61, Try.ntmps61
  go_wp2
  go_ret
  exact ⟨rfl, ((Below.refl _ _).alloc (by (try simp) <;> omega) _).alloc (by (try simp) <;> omega) _⟩

theorem keepFour {w W0 w1 : World} {N : Nat} {p1 p2 p3 p4 : Addr} {v1 v2 v3 v4 : Option Value} (hb : Below W0.heap.size W0 w1)
    (h : W0.cell? p1 = v1 ∧ W0.cell? p2 = v2 ∧ W0.cell? p3 = v3 ∧ W0.cell? p4 = v4 ∧ N ≤ W0.heap.size ∧ Below w.heap.size w W0)
    (hp : p1.block < N ∧ p2.block < N ∧ p3.block < N ∧ p4.block < N) :
    w1.cell? p1 = v1 ∧ w1.cell? p2 = v2 ∧ w1.cell? p3 = v3 ∧ w1.cell? p4 = v4 ∧ N ≤ w1.heap.size ∧ Below w.heap.size w w1 := by
  obtain ⟨h1, h2, h3, h4, h5, h6⟩ := h
  obtain ⟨q1, q2, q3, q4⟩ := hp
  exact ⟨(hb.cell (by omega)).trans h1, (hb.cell (by omega)).trans h2, (hb.cell (by omega)).trans h3, (hb.cell (by omega)).trans h4, Nat.le_trans h5 hb.size, h6.trans (hb.mono h6.size)⟩
theorem drewFour {w W0 : World} {N : Nat} {p1 p2 p3 p4 : Addr} {v1 v2 v3 v4 : Option Value}
    (h : W0.cell? p1 = v1 ∧ W0.cell? p2 = v2 ∧ W0.cell? p3 = v3 ∧ W0.cell? p4 = v4 ∧ N ≤ W0.heap.size ∧ Below w.heap.size w W0) :
    W0.drew.cell? p1 = v1 ∧ W0.drew.cell? p2 = v2 ∧ W0.drew.cell? p3 = v3 ∧ W0.drew.cell? p4 = v4 ∧ N ≤ W0.drew.heap.size ∧ Below w.heap.size w W0.drew :=
  ⟨h.1, h.2.1, h.2.2.1, h.2.2.2.1, h.2.2.2.2.1, h.2.2.2.2.2.drew⟩

set_option maxHeartbeats 1000000 in
theorem eqSpotS_self (u v : Value) (ps : List (Int × Int)) (B C : Nat) (w : World) (hu : RdP w B u ps) (hv : RdP w C v ps) (hB : B ≤ w.heap.size) (hC : C ≤ w.heap.size) :
    Calls Try.prog 32 #[u, v] w fun e w' => e = .returned (.bool true) ∧ Below w.heap.size w w' := by
  obtain ⟨A, c, rfl, g1, g2, g3⟩ := hu
  obtain ⟨A', c', rfl, g1', g2', g3'⟩ := hv
  unfold maxLen at g2 g2'
  have G3 := Lib.hid g3; clear g3
  have G3' := Lib.hid g3'; clear g3'
  go_enter Try.func32, Try.ntmps32
  go_wp2_with fail
  go_loopw [5] (fun i wr => ∃ k : Nat, k ≤ ps.length ∧ i = .int .i64 k ∧ Below w.heap.size w wr) (fun i _ => ps.length - (intOf i).toNat)
  case atStart => exact ⟨0, Nat.zero_le _, rfl, Below.refl _ _⟩
  case round =>
    obtain ⟨k, hk, rfl, hd⟩ := hrel
    by_cases hlt : k < ps.length
    · obtain ⟨ad, rfl, hb, hx, hy⟩ := G3.out k hlt
      obtain ⟨ad', rfl, hb', hx', hy'⟩ := G3'.out k hlt
      have hk0 : (0 : Int) ≤ (k : Int) := by omega
      have hk1 : (k : Int) < (ps.length : Int) := by omega
      have l1 : (ad.add (k * 2)).block < w.heap.size := by rw [addBlock]; omega
      have l2 : (ad'.add (k * 2)).block < w.heap.size := by rw [addBlock]; omega
      have hS := And.intro ((hd.cell l1).trans hx) (And.intro ((hd.cell (p := ⟨(ad.add (k * 2)).block, (ad.add (k * 2)).off + 1, none⟩) l1).trans hy) (And.intro ((hd.cell l2).trans hx') (And.intro ((hd.cell (p := ⟨(ad'.add (k * 2)).block, (ad'.add (k * 2)).off + 1, none⟩) l2).trans hy') (And.intro hd.size hd))))
      have HS := Lib.hid hS
      have L := Lib.hid (And.intro l1 (And.intro l1 (And.intro l2 l2)))
      clear hS hx hy hx' hy' l1 l2
      go_wp2_with fail
      go_region_held3 (fun w' => w'.cell? (ad.add (k * 2)) = some (.int .i64 (px ps k)) ∧ w'.cell? ⟨(ad.add (k * 2)).block, (ad.add (k * 2)).off + 1, none⟩ = some (.int .i64 (py ps k)) ∧
          w'.cell? (ad'.add (k * 2)) = some (.int .i64 (px ps k)) ∧ w'.cell? ⟨(ad'.add (k * 2)).block, (ad'.add (k * 2)).off + 1, none⟩ = some (.int .i64 (py ps k)) ∧ w.heap.size ≤ w'.heap.size ∧ Below w.heap.size w w')
        (first
          | exact keepFour hb1 (by assumption) L.out
          | exact drewFour HS.out)
        (first
          | (go_at_call 61; refine (eqSpot_self _ _ _).mono ?_; rintro e w1 ⟨rfl, hb1⟩))
      have hd2 := (show _ ∧ _ ∧ _ ∧ _ ∧ _ ∧ Below w.heap.size w w1 from by assumption).2.2.2.2.2
      go_wp2_with fail
      go_roundw
      case rel => exact ⟨k + 1, by omega, by go_num, hd2⟩
      case measure => simp [intOf]; omega
    · go_wp2_with fail
      go_ret
      exact ⟨rfl, hd⟩
end Go.Proofs.Ytbaghclblnialaa
