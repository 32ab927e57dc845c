/- Contracts of l22Row (a row of the reference) and of ArePathsApart of the program and of the reference. -/
import Derived.Test.YtpockbbfbnaioaaQuiet
namespace Go.Proofs.Ytpockbbfbnaioaa
open Go.RowKit


theorem ArePathsApart_any (b c : Int) (u v : Value) (xs ys : List Int) (B : Nat) (w : World) (hu : RdI w B u xs) (hv : RdI w B v ys) (hB : B ≤ w.heap.size) :
    Calls Try.prog 59 #[.int .i64 b, .int .i64 c, u, v] w fun e w' => e = .returned (.bool (apartB b c xs ys)) ∧ Below w.heap.size w w' := by
  rw [← apart_heap]
  have hd : ∀ o, RdII (w.alloc (.cells #[u, v] o)) (w.heap.size + 1) (.slice (some ⟨w.heap.size, 0, none⟩) 2 2) [xs, ys] := fun o => by
    have hb := (Below.refl w.heap.size w).alloc (Nat.le_refl _) (.cells #[u, v] o)
    refine ⟨_, 2, [u, v], rfl, by simp, by decide, rfl, rd_new w #[u, v] o, fun i z hz => ?_⟩
    match i, hz with
    | 0, hz => obtain rfl : u = z := by simpa using hz
               exact (hu.below (hb.mono hB)).more (by omega)
    | 1, hz => obtain rfl : v = z := by simpa using hz
               exact (hv.below (hb.mono hB)).more (by omega)
    | n + 2, hz => simp at hz
  obtain ⟨A, cp, rfl, h1, h2, h3⟩ := hu
  obtain ⟨A', cp', rfl, h1', h2', h3'⟩ := hv
  have HD := Lib.hid hd; clear hd
  go_enter Try.func59, Try.ntmps59
  go_wp2_with fail
  refine (IsHeap_any _ _ _ _ [xs, ys] (w.heap.size + 1) _ (HD.out _) (by simp)).mono ?_
  rintro e w1 ⟨rfl, hb1⟩
  go_wp2_with fail
  go_ret
  exact ⟨rfl, ((Below.refl _ _).alloc (Nat.le_refl _) _).trans (hb1.mono (by simp))⟩

end Go.Proofs.Ytpockbbfbnaioaa
