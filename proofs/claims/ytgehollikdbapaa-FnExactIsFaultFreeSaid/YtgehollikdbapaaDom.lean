/- Dominoes as the program sees them: ends, DominoOk, set, order, IsDominoBefore. -/
import Derived.Test.YtgehollikdbapaaReg
import Derived.Test.YtgehollikdbapaaTri
import Derived.Test.YtgehollikdbapaaBlk
import Derived.IntWalk
import Derived.StillTailTactics
import Derived.Deep.RegionHeld3
namespace Go.Proofs.Ytgehollikdbapaa
open Go.RowKit
set_option linter.unusedVariables false

/-- The second cell of a domino. -/
def sndX (x : Int) (d : Bool) : Int := if d then x else wrap64 (x + 1)
def sndY (y : Int) (d : Bool) : Int := if d then wrap64 (y + 1) else y
def domB (x y : Int) (d : Bool) : Bool := spotB 7 x y && spotB 7 (sndX x d) (sndY y d)

set_option maxHeartbeats 1000000 in
/-- Two result variables of two cells each are written, in either order. -/
theorem two_stores {w V : World} {a b : Nat} {p q r t : Value} {ty : TypeId} {p' q' r' t' : Value} (K1 : V.heap[a]? = some (.cells #[p', q'] ty (0, 0))) (K2 : V.heap[b]? = some (.cells #[r', t'] ty (0, 0))) (hab : a ≠ b) (ha : w.heap.size ≤ a) (hb : w.heap.size ≤ b) (HB : Below w.heap.size w V) :
    ∀ X, X = (((V.setCell ⟨a, 0, none⟩ p).setCell ⟨a, 1, none⟩ q).setCell ⟨b, 0, none⟩ r).setCell ⟨b, 1, none⟩ t → X.cell? ⟨a, 0, none⟩ = some p ∧ X.cell? ⟨a, 1, none⟩ = some q ∧ X.cell? ⟨b, 0, none⟩ = some r ∧ X.cell? ⟨b, 1, none⟩ = some t ∧ Below w.heap.size w X := by
  rintro X rfl
  have h1 := blk_setCell (k := 1) (blk_setCell (k := 0) K1 p) q
  have h1' : ((((V.setCell ⟨a, 0, none⟩ p).setCell ⟨a, 1, none⟩ q).setCell ⟨b, 0, none⟩ r).setCell ⟨b, 1, none⟩ t).heap[a]? = some (.cells ((#[p', q'].setIfInBounds 0 p).setIfInBounds 1 q) ty (0, 0)) :=
    (Below.heap_setCell _ _ _ _ (by simpa using hab)).trans ((Below.heap_setCell _ _ _ _ (by simpa using hab)).trans h1)
  have h2 : ((V.setCell ⟨a, 0, none⟩ p).setCell ⟨a, 1, none⟩ q).heap[b]? = some (.cells #[r', t'] ty (0, 0)) :=
    (Below.heap_setCell _ _ _ _ (by simpa using Ne.symm hab)).trans ((Below.heap_setCell _ _ _ _ (by simpa using Ne.symm hab)).trans K2)
  have h2' := blk_setCell (k := 1) (blk_setCell (k := 0) h2 r) t
  exact ⟨by rw [blk_cell h1']; rfl, by rw [blk_cell h1']; rfl, by rw [blk_cell h2']; rfl, by rw [blk_cell h2']; rfl, (((HB.setCell ha _).setCell ha _).setCell hb _).setCell hb _⟩

set_option maxRecDepth 100000 in
set_option maxHeartbeats 4000000 in
theorem ends_any (x y : Int) (d : Bool) (w : World) :
    Calls Try.prog 153 #[triV x y d] w fun e w' => e = .returned (.tuple #[spotV x y, spotV (sndX x d) (sndY y d)]) ∧ Below w.heap.size w w' := by
  cases d
  · go_enter Try.func153, Try.ntmps153
    go_wp2_with fail
    obtain ⟨W, hW, k0, k1, k2, hb⟩ := three_alloc w (.cells #[.int .i64 x, .int .i64 y, .bool false] 113) (.cells #[.int .i64 0, .int .i64 0] 122) (.cells #[.int .i64 0, .int .i64 0] 122)
    rw [← hW]
    have c0 : W.drew.cell? ⟨w.heap.size, 0, none⟩ = some (.int .i64 x) := by show W.cell? _ = _; rw [blk_cell k0]; rfl
    have c1 : W.drew.cell? ⟨w.heap.size, 1, none⟩ = some (.int .i64 y) := by show W.cell? _ = _; rw [blk_cell k0]; rfl
    have d0 : W.cell? ⟨w.heap.size + 1, 0, none⟩ = some (.int .i64 0) := by rw [blk_cell k1]; rfl
    have d1 : W.cell? ⟨w.heap.size + 1, 1, none⟩ = some (.int .i64 0) := by rw [blk_cell k1]; rfl
    have d2 : W.cell? ⟨w.heap.size + 1 + 1, 0, none⟩ = some (.int .i64 0) := by rw [blk_cell k2]; rfl
    have d3 : W.cell? ⟨w.heap.size + 1 + 1, 1, none⟩ = some (.int .i64 0) := by rw [blk_cell k2]; rfl
    have f0 : ∀ o, W.frozen? ⟨w.heap.size + 1, o, none⟩ = false := fun o => blk_free k1
    have f2 : ∀ o, W.frozen? ⟨w.heap.size + 1 + 1, o, none⟩ = false := fun o => blk_free k2
    have g0 : W.cell? ⟨w.heap.size, 0, none⟩ = some (.int .i64 x) := by rw [blk_cell k0]; rfl
    have g1 : W.cell? ⟨w.heap.size, 1, none⟩ = some (.int .i64 y) := by rw [blk_cell k0]; rfl
    have T1 := Lib.hid (two_stores (w := w) (V := W.drew) (p := .int .i64 x) (q := .int .i64 y) (r := .int .i64 (sndX x false)) (t := .int .i64 (y)) k1 k2 (by omega) (by omega) (by omega) hb.drew)
    have hw1 : IntKind.i64.wrap (x + 1) = sndX x false := by rw [IntWalk.i64_left]; rfl
    clear hW k0 k1 k2 hb
    go_region_held3 (fun w' => w'.cell? ⟨w.heap.size, 0, none⟩ = some (.int .i64 x) ∧ w'.cell? ⟨w.heap.size, 1, none⟩ = some (.int .i64 y))
      (first
        | exact ⟨c0, c1⟩
        | (refine ⟨?_, ?_⟩ <;> go_simp))
      (first
        | fail)
    go_wp2_with fail
    generalize hX : ((((W.setCell ⟨w.heap.size + 1, 0, none⟩ (.int .i64 x)).setCell ⟨w.heap.size + 1, 1, none⟩ (.int .i64 y)).setCell ⟨w.heap.size + 1 + 1, 0, none⟩ (.int .i64 (sndX x false))).setCell ⟨w.heap.size + 1 + 1, 1, none⟩ (.int .i64 (y))).drew = X
    obtain ⟨r0, r1, r2, r3, r4⟩ := T1.out X hX.symm
    refine bodyPost_ret (v := .tuple #[spotV x y, spotV (sndX x false) (y)]) (by simp [results, Try.results153, go_sem, r0, r1, r2, r3]) rfl ⟨rfl, r4⟩
  · go_enter Try.func153, Try.ntmps153
    go_wp2_with fail
    obtain ⟨W, hW, k0, k1, k2, hb⟩ := three_alloc w (.cells #[.int .i64 x, .int .i64 y, .bool true] 113) (.cells #[.int .i64 0, .int .i64 0] 122) (.cells #[.int .i64 0, .int .i64 0] 122)
    rw [← hW]
    have c0 : W.drew.cell? ⟨w.heap.size, 0, none⟩ = some (.int .i64 x) := by show W.cell? _ = _; rw [blk_cell k0]; rfl
    have c1 : W.drew.cell? ⟨w.heap.size, 1, none⟩ = some (.int .i64 y) := by show W.cell? _ = _; rw [blk_cell k0]; rfl
    have d0 : W.cell? ⟨w.heap.size + 1, 0, none⟩ = some (.int .i64 0) := by rw [blk_cell k1]; rfl
    have d1 : W.cell? ⟨w.heap.size + 1, 1, none⟩ = some (.int .i64 0) := by rw [blk_cell k1]; rfl
    have d2 : W.cell? ⟨w.heap.size + 1 + 1, 0, none⟩ = some (.int .i64 0) := by rw [blk_cell k2]; rfl
    have d3 : W.cell? ⟨w.heap.size + 1 + 1, 1, none⟩ = some (.int .i64 0) := by rw [blk_cell k2]; rfl
    have f0 : ∀ o, W.frozen? ⟨w.heap.size + 1, o, none⟩ = false := fun o => blk_free k1
    have f2 : ∀ o, W.frozen? ⟨w.heap.size + 1 + 1, o, none⟩ = false := fun o => blk_free k2
    have g0 : W.cell? ⟨w.heap.size, 0, none⟩ = some (.int .i64 x) := by rw [blk_cell k0]; rfl
    have g1 : W.cell? ⟨w.heap.size, 1, none⟩ = some (.int .i64 y) := by rw [blk_cell k0]; rfl
    have T1 := Lib.hid (two_stores (w := w) (V := W.drew) (p := .int .i64 x) (q := .int .i64 y) (r := .int .i64 (x)) (t := .int .i64 (sndY y true)) k1 k2 (by omega) (by omega) (by omega) hb.drew)
    have hw1 : IntKind.i64.wrap (y + 1) = sndY y true := by rw [IntWalk.i64_left]; rfl
    clear hW k0 k1 k2 hb
    go_region_held3 (fun w' => w'.cell? ⟨w.heap.size, 0, none⟩ = some (.int .i64 x) ∧ w'.cell? ⟨w.heap.size, 1, none⟩ = some (.int .i64 y))
      (first
        | exact ⟨c0, c1⟩
        | (refine ⟨?_, ?_⟩ <;> go_simp))
      (first
        | fail)
    go_wp2_with fail
    generalize hX : ((((W.setCell ⟨w.heap.size + 1, 0, none⟩ (.int .i64 x)).setCell ⟨w.heap.size + 1, 1, none⟩ (.int .i64 y)).setCell ⟨w.heap.size + 1 + 1, 0, none⟩ (.int .i64 (x))).setCell ⟨w.heap.size + 1 + 1, 1, none⟩ (.int .i64 (sndY y true))).drew = X
    obtain ⟨r0, r1, r2, r3, r4⟩ := T1.out X hX.symm
    refine bodyPost_ret (v := .tuple #[spotV x y, spotV (x) (sndY y true)]) (by simp [results, Try.results153, go_sem, r0, r1, r2, r3]) rfl ⟨rfl, r4⟩
end Go.Proofs.Ytgehollikdbapaa
