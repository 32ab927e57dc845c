/- Contracts over one point: toSpot, isSpot, l20Spot, CountPaths of the program and of the reference. -/
import Derived.Test.YtpejphholomenaaChoose
import Derived.Test.YtpejphholomenaaMem
import Derived.Deep.RegionHeld3
import Derived.Deep.QuietTactic
import Derived.BigQuiet
namespace Go.Proofs.Ytpejphholomenaa
open Go.RowKit

abbrev spotV (x y : Int) : Value := .agg #[.int .i64 x, .int .i64 y]
def spotB (m x y : Int) : Bool := inB x 0 m && inB y 0 m
theorem spotB_iff (m x y : Int) : spotB m x y = true ↔ (0 ≤ x ∧ x ≤ m) ∧ 0 ≤ y ∧ y ≤ m := by simp [spotB, inB_iff]

theorem isSpot_any (x y m : Int) (w : World) :
    Calls Try.prog 72 #[spotV x y, .int .i64 m] w fun e w' => e = .returned (.bool (spotB m x y)) ∧ Below w.heap.size w w' := by
  cases h1 : inB x 0 m <;> cases h2 : inB y 0 m
  all_goals
    go_enter Try.func72, Try.ntmps72
    go_wp2_with (go_at_call 70; refine (within_any _ _ _ _).mono ?_; rintro e w' ⟨rfl, rfl⟩)
    go_ret
    exact ⟨by simp [spotB, h1, h2], (Below.refl _ _).alloc (by simp) _⟩

/-- Below, as facts on cells and marks that the walk uses by itself. -/
theorem bcell {W w1 : World} {B : Nat} (hb : Below B W w1) : (∀ b o, b < B → w1.cell? ⟨b, o, none⟩ = W.cell? ⟨b, o, none⟩) ∧ (∀ b o, b < B → w1.frozen? ⟨b, o, none⟩ = W.frozen? ⟨b, o, none⟩) :=
  ⟨fun b o h => hb.cell (p := ⟨b, o, none⟩) h, fun b o h => hb.frozen (p := ⟨b, o, none⟩) h⟩

def pathsZ (ax ay bx by' : Int) : Int :=
  if spotB 8 ax ay && spotB 8 bx by' && decide (ax ≤ bx) && decide (ay ≤ by') then chooseZ (bx - ax + by' - ay) (bx - ax) else 0


set_option maxHeartbeats 1000000 in
theorem CountPaths_no (ax ay bx by' : Int) (h : (spotB 8 ax ay && spotB 8 bx by' && decide (ax ≤ bx) && decide (ay ≤ by')) = false) (w : World) :
    Calls Try.prog 23 #[spotV ax ay, spotV bx by'] w fun e w' => e = .returned (.int .i64 0) ∧ Below w.heap.size w w' := by
  cases h1 : spotB 8 ax ay
  · clear h
    go_enter Try.func23, Try.ntmps23
    go_wp2_with (go_at_call 72; refine (isSpot_any _ _ _ _).mono ?_; rintro e w1 ⟨rfl, hb1⟩)
    go_ret
    refine ⟨rfl, ((((Below.refl _ _).alloc (by (try simp) <;> omega) _).alloc (by (try simp) <;> omega) _).trans (hb1.mono (by (try simp) <;> omega)))⟩
  · cases h2 : spotB 8 bx by'
    · clear h
      go_enter Try.func23, Try.ntmps23
      go_wp2_with fail
      refine (isSpot_any _ _ _ _).mono ?_
      rintro e w1 ⟨rfl, hb1⟩
      obtain ⟨hc, hf⟩ := bcell hb1
      have hz : w.heap.size + 2 ≤ w1.heap.size := by have := hb1.size; simp at this; omega
      go_wp2_with fail
      refine (isSpot_any _ _ _ _).mono ?_
      rintro e w2 ⟨rfl, hb2⟩
      go_wp2_with fail
      go_ret
      refine ⟨rfl, ((((Below.refl _ _).alloc (by (try simp) <;> omega) _).alloc (by (try simp) <;> omega) _).trans (hb1.mono (by (try simp) <;> omega))).trans (hb2.mono (by (try simp) <;> omega))⟩
    · by_cases h3 : ax ≤ bx <;> by_cases h4 : ay ≤ by'
      · simp [h1, h2, h3, h4] at h
      all_goals
        clear h
        first
        | have h3' : bx < ax := by omega
          clear h3
        | have h3' : ¬ bx < ax := by omega
          clear h3
        first
        | have h4' : by' < ay := by omega
          clear h4
        | have h4' : ¬ by' < ay := by omega
          clear h4
        go_enter Try.func23, Try.ntmps23
        go_wp2_with fail
        refine (isSpot_any _ _ _ _).mono ?_
        rintro e w1 ⟨rfl, hb1⟩
        obtain ⟨hc, hf⟩ := bcell hb1
        have hz : w.heap.size + 2 ≤ w1.heap.size := by have := hb1.size; simp at this; omega
        go_wp2_with fail
        refine (isSpot_any _ _ _ _).mono ?_
        rintro e w2 ⟨rfl, hb2⟩
        obtain ⟨hc2, hf2⟩ := bcell (hb2.mono hz)
        go_wp2_with fail
        go_ret
        refine ⟨rfl, ((((Below.refl _ _).alloc (by (try simp) <;> omega) _).alloc (by (try simp) <;> omega) _).trans (hb1.mono (by (try simp) <;> omega))).trans (hb2.mono (by (try simp) <;> omega))⟩

set_option maxHeartbeats 1000000 in
theorem CountPaths_yes (ax ay bx by' : Int) (h1 : spotB 8 ax ay = true) (h2 : spotB 8 bx by' = true) (h3 : ax ≤ bx) (h4 : ay ≤ by') (w : World) :
    Calls Try.prog 23 #[spotV ax ay, spotV bx by'] w fun e w' => e = .returned (.int .i64 (chooseZ (bx - ax + by' - ay) (bx - ax))) ∧ Below w.heap.size w w' := by
  obtain ⟨⟨g1, g2⟩, g3, g4⟩ := (spotB_iff _ _ _).1 h1
  obtain ⟨⟨g5, g6⟩, g7, g8⟩ := (spotB_iff _ _ _).1 h2
  have h3' : ¬ bx < ax := by omega
  have h4' : ¬ by' < ay := by omega
  go_enter Try.func23, Try.ntmps23
  go_wp2_with fail
  refine (isSpot_any _ _ _ _).mono ?_
  rintro e w1 ⟨rfl, hb1⟩
  obtain ⟨hc, hf⟩ := bcell hb1
  have hz : w.heap.size + 2 ≤ w1.heap.size := by have := hb1.size; simp at this; omega
  go_wp2_with fail
  refine (isSpot_any _ _ _ _).mono ?_
  rintro e w2 ⟨rfl, hb2⟩
  obtain ⟨hc2, hf2⟩ := bcell (hb2.mono hz)
  go_wp2_with fail
  refine (ChooseOf_any _ _ _).mono ?_
  rintro e w3 ⟨rfl, rfl⟩
  go_wp2_with fail
  go_ret
  refine ⟨rfl, ((((Below.refl _ _).alloc (by (try simp) <;> omega) _).alloc (by (try simp) <;> omega) _).trans (hb1.mono (by (try simp) <;> omega))).trans (hb2.mono (by (try simp) <;> omega))⟩

theorem CountPaths_any (ax ay bx by' : Int) (w : World) :
    Calls Try.prog 23 #[spotV ax ay, spotV bx by'] w fun e w' => e = .returned (.int .i64 (pathsZ ax ay bx by')) ∧ Below w.heap.size w w' := by
  unfold pathsZ
  cases h : (spotB 8 ax ay && spotB 8 bx by' && decide (ax ≤ bx) && decide (ay ≤ by'))
  · exact CountPaths_no ax ay bx by' h w
  · simp only [Bool.and_eq_true, decide_eq_true_eq] at h
    exact CountPaths_yes ax ay bx by' h.1.1.1 h.1.1.2 h.1.2 h.2 w
end Go.Proofs.Ytpejphholomenaa
