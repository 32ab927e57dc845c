/- The walk of the law FnExactCountPaths: it returns true. -/
import Derived.Test.YtbaghclblnialaaSpot
namespace Go.Proofs.Ytbaghclblnialaa
open Go.RowKit

theorem keep4 {w W0 w1 : World} {N : Nat} {p1 p2 p3 p4 : Addr} {v1 v2 v3 v4 : Option Value} (hb : Below W0.heap.size W0 w1)
    (h : W0.cell? p1 = v1 ∧ W0.cell? p2 = v2 ∧ W0.cell? p3 = v3 ∧ W0.cell? p4 = v4 ∧ N ≤ W0.heap.size ∧ Below w.heap.size w W0)
    (hp : p1.block < N ∧ p2.block < N ∧ p3.block < N ∧ p4.block < N) :
    w1.cell? p1 = v1 ∧ w1.cell? p2 = v2 ∧ w1.cell? p3 = v3 ∧ w1.cell? p4 = v4 ∧ N ≤ w1.heap.size ∧ Below w.heap.size w w1 := by
  obtain ⟨h1, h2, h3, h4, h5, h6⟩ := h
  obtain ⟨q1, q2, q3, q4⟩ := hp
  exact ⟨(hb.cell (by omega)).trans h1, (hb.cell (by omega)).trans h2, (hb.cell (by omega)).trans h3, (hb.cell (by omega)).trans h4, Nat.le_trans h5 hb.size, h6.trans (hb.mono h6.size)⟩

theorem drew4 {w W0 : World} {N : Nat} {p1 p2 p3 p4 : Addr} {v1 v2 v3 v4 : Option Value}
    (h : W0.cell? p1 = v1 ∧ W0.cell? p2 = v2 ∧ W0.cell? p3 = v3 ∧ W0.cell? p4 = v4 ∧ N ≤ W0.heap.size ∧ Below w.heap.size w W0) :
    W0.drew.cell? p1 = v1 ∧ W0.drew.cell? p2 = v2 ∧ W0.drew.cell? p3 = v3 ∧ W0.drew.cell? p4 = v4 ∧ N ≤ W0.drew.heap.size ∧ Below w.heap.size w W0.drew :=
  ⟨h.1, h.2.1, h.2.2.1, h.2.2.2.1, h.2.2.2.2.1, h.2.2.2.2.2.drew⟩

set_option maxHeartbeats 1600000 in
theorem walkCountPaths (ax ay bx by' : Int) (w : World) :
    Calls Try.prog 6 #[spotV ax ay, spotV bx by'] w fun e w' => e = .returned (.bool true) ∧ Below w.heap.size w w' := by
  go_enter Try.func6, Try.ntmps6
  go_wp2_with fail
  go_region_held3 (fun w' => w'.cell? ⟨w.heap.size, 0, none⟩ = some (.int .i64 ax) ∧ w'.cell? ⟨w.heap.size, 1, none⟩ = some (.int .i64 ay) ∧
      w'.cell? ⟨w.heap.size + 1, 0, none⟩ = some (.int .i64 bx) ∧ w'.cell? ⟨w.heap.size + 1, 1, none⟩ = some (.int .i64 by') ∧ w.heap.size + 2 ≤ w'.heap.size ∧ Below w.heap.size w w')
    (first
      | exact keep4 hb1 (by assumption) (by simp)
      | (refine ⟨?_, ?_, ?_, ?_, ?_, ?_⟩ <;> first
          | exact (((Below.refl _ _).alloc (by (try simp) <;> omega) _).alloc (by (try simp) <;> omega) _).drew
          | go_keep)
      | exact drew4 (by assumption))
    (first
      | (go_at_call 22; refine (toSpot_any _ _ _).mono ?_; rintro e w1 ⟨rfl, hb1⟩)
      | (go_at_call 21; refine (specCountPaths_any _ _ _ _ _).mono ?_; rintro e w1 ⟨rfl, hb1⟩))
  go_wp2_with fail
  go_region_held3 (fun w' => w'.cell? ⟨w.heap.size, 0, none⟩ = some (.int .i64 ax) ∧ w'.cell? ⟨w.heap.size, 1, none⟩ = some (.int .i64 ay) ∧
      w'.cell? ⟨w.heap.size + 1, 0, none⟩ = some (.int .i64 bx) ∧ w'.cell? ⟨w.heap.size + 1, 1, none⟩ = some (.int .i64 by') ∧ w.heap.size + 2 ≤ w'.heap.size ∧ Below w.heap.size w w')
    (first
      | exact keep4 hb1 (by assumption) (by simp)
      | (refine ⟨?_, ?_, ?_, ?_, ?_, ?_⟩ <;> first
          | exact (((Below.refl _ _).alloc (by (try simp) <;> omega) _).alloc (by (try simp) <;> omega) _).drew
          | go_keep)
      | exact drew4 (by assumption))
    (first
      | (go_at_call 22; refine (toSpot_any _ _ _).mono ?_; rintro e w1 ⟨rfl, hb1⟩)
      | (go_at_call 23; refine (CountPaths_any _ _ _ _ _).mono ?_; rintro e w1 ⟨rfl, hb1⟩))
  go_wp2_with fail
  go_ret
  exact ⟨rfl, (show _ ∧ _ ∧ _ ∧ _ ∧ _ ∧ Below w.heap.size w w1 from by assumption).2.2.2.2.2⟩
end Go.Proofs.Ytbaghclblnialaa
