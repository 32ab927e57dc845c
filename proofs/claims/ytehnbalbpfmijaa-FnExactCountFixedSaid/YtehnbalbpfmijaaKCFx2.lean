/- What the claim's walk rests on: parts Blk, Dom, TriDomino, Covered, Prof. -/
import Derived.Test.YtehnbalbpfmijaaMem
import Derived.Test.YtehnbalbpfmijaaKCFx1
import Derived.OneCell
import Derived.IntWalk
import Derived.StillTailTactics
import Derived.Deep.RegionHeld3
import Derived.Deep.RegionLaw
import Derived.Deep.QuietTactic
import Derived.BigQuiet
namespace Go.Proofs.Ytehnbalbpfmijaa
open Go.RowKit

/-- A store into a block of cells. -/
theorem blk_setCell {w : World} {b k : Nat} {cs : Array Value} {t : TypeId} {fr : Nat × Nat} (h : w.heap[b]? = some (.cells cs t fr)) (u : Value) : (w.setCell ⟨b, k, none⟩ u).heap[b]? = some (.cells (cs.setIfInBounds k u) t fr) := by
  have hlt := lt_of_block h
  have h' : w.heap[b] = .cells cs t fr := by simpa [Array.getElem?_eq_getElem hlt] using h
  show (w.heap.modify b _)[b]? = _
  rw [Array.getElem?_eq_getElem (by simpa using hlt), Array.getElem_modify_self, h']
  rfl
theorem blk_cell {w : World} {b k : Nat} {cs : Array Value} {t : TypeId} {fr : Nat × Nat} (h : w.heap[b]? = some (.cells cs t fr)) : w.cell? ⟨b, k, none⟩ = cs[k]? := by simp [World.cell?, h]
theorem blk_free {w : World} {b k : Nat} {cs : Array Value} {t : TypeId} (h : w.heap[b]? = some (.cells cs t (0, 0))) : w.frozen? ⟨b, k, none⟩ = false := by simp [World.frozen?, h]
theorem grownBy_set (w : World) (b k : Nat) (u : Value) : w.grownBy (w.setCell ⟨b, k, none⟩ u) (some b) := ⟨rfl, rfl, rfl, by simp, fun j _ hj => Below.heap_setCell _ _ _ _ (fun e => hj (by rw [e]))⟩
theorem grownBy_drewN (w : World) (n : Nat) (row : Option Nat) : w.grownBy (w.drewN n) row := ⟨rfl, rfl, rfl, Nat.le_refl _, fun _ _ _ => rfl⟩

theorem two_alloc (w : World) (o1 o2 : Obj) : ∃ W : World, W = (w.alloc o1).alloc o2 ∧ W.heap[w.heap.size]? = some o1 ∧ W.heap[w.heap.size + 1]? = some o2 ∧ Below w.heap.size w W := by
  refine ⟨_, rfl, ?_, ?_, ((Below.refl _ _).alloc (Nat.le_refl _) _).alloc (by simp) _⟩
  · rw [Below.heap_alloc _ _ _ (by simp)]; exact heap_alloc_new w o1
  · simpa using heap_alloc_new (w.alloc o1) o2
theorem one_alloc (w : World) (o1 : Obj) : ∃ W : World, W = w.alloc o1 ∧ W.heap[w.heap.size]? = some o1 ∧ Below w.heap.size w W := ⟨_, rfl, heap_alloc_new w o1, (Below.refl _ _).alloc (Nat.le_refl _) _⟩
/-- A block stays as it was. -/
theorem blk_below {w w' : World} {b : Nat} {o : Obj} (h : w.heap[b]? = some o) (hb : Below w.heap.size w w') : w'.heap[b]? = some o := (hb.block b (lt_of_block h)).trans h
theorem three_alloc (w : World) (o1 o2 o3 : Obj) : ∃ W : World, W = ((w.alloc o1).alloc o2).alloc o3 ∧ W.heap[w.heap.size]? = some o1 ∧ W.heap[w.heap.size + 1]? = some o2 ∧ W.heap[w.heap.size + 2]? = some o3 ∧ Below w.heap.size w W := by
  refine ⟨_, rfl, ?_, ?_, ?_, (((Below.refl _ _).alloc (Nat.le_refl _) _).alloc (by simp) _).alloc (by simp; omega) _⟩
  · rw [Below.heap_alloc _ _ _ (by simp; omega), Below.heap_alloc _ _ _ (by simp)]; exact heap_alloc_new w o1
  · rw [Below.heap_alloc _ _ _ (by simp)]; simpa using heap_alloc_new (w.alloc o1) o2
  · simpa using heap_alloc_new ((w.alloc o1).alloc o2) o3
theorem four_alloc (w : World) (o1 o2 o3 o4 : Obj) : ∃ W : World, W = (((w.alloc o1).alloc o2).alloc o3).alloc o4 ∧ W.heap[w.heap.size]? = some o1 ∧ W.heap[w.heap.size + 1]? = some o2 ∧ W.heap[w.heap.size + 2]? = some o3 ∧ W.heap[w.heap.size + 3]? = some o4 ∧ Below w.heap.size w W := by
  refine ⟨_, rfl, ?_, ?_, ?_, ?_, ((((Below.refl _ _).alloc (Nat.le_refl _) _).alloc (by simp) _).alloc (by simp; omega) _).alloc (by simp; omega) _⟩
  · rw [Below.heap_alloc _ _ _ (by simp; omega), Below.heap_alloc _ _ _ (by simp; omega), Below.heap_alloc _ _ _ (by simp)]; exact heap_alloc_new w o1
  · rw [Below.heap_alloc _ _ _ (by simp), Below.heap_alloc _ _ _ (by simp)]; simpa using heap_alloc_new (w.alloc o1) o2
  · rw [Below.heap_alloc _ _ _ (by simp)]; simpa using heap_alloc_new ((w.alloc o1).alloc o2) o3
  · simpa using heap_alloc_new (((w.alloc o1).alloc o2).alloc o3) o4
end Go.Proofs.Ytehnbalbpfmijaa

namespace Go.Proofs.Ytehnbalbpfmijaa
open Go.RowKit
set_option linter.unusedVariables false

/-- The second cell of a domino. -/
def sndX (x : Int) (d : Bool) : Int := if d then x else wrap64 (x + 1)
def sndY (y : Int) (d : Bool) : Int := if d then wrap64 (y + 1) else y
def domB (x y : Int) (d : Bool) : Bool := spotB 7 x y && spotB 7 (sndX x d) (sndY y d)

set_option maxHeartbeats 1000000 in
/-- Two result variables of two cells each are written, in either order. -/
theorem two_stores {w V : World} {a b : Nat} {p q r t : Value} {ty : TypeId} {p' q' r' t' : Value} (K1 : V.heap[a]? = some (.cells #[p', q'] ty (0, 0))) (K2 : V.heap[b]? = some (.cells #[r', t'] ty (0, 0))) (hab : a ≠ b) (ha : w.heap.size ≤ a) (hb : w.heap.size ≤ b) (HB : Below w.heap.size w V) :
    ∀ X, X = (((V.setCell ⟨a, 0, none⟩ p).setCell ⟨a, 1, none⟩ q).setCell ⟨b, 0, none⟩ r).setCell ⟨b, 1, none⟩ t → X.cell? ⟨a, 0, none⟩ = some p ∧ X.cell? ⟨a, 1, none⟩ = some q ∧ X.cell? ⟨b, 0, none⟩ = some r ∧ X.cell? ⟨b, 1, none⟩ = some t ∧ Below w.heap.size w X := by
  rintro X rfl
  have h1 := blk_setCell (k := 1) (blk_setCell (k := 0) K1 p) q
  have h1' : ((((V.setCell ⟨a, 0, none⟩ p).setCell ⟨a, 1, none⟩ q).setCell ⟨b, 0, none⟩ r).setCell ⟨b, 1, none⟩ t).heap[a]? = some (.cells ((#[p', q'].setIfInBounds 0 p).setIfInBounds 1 q) ty (0, 0)) :=
    (Below.heap_setCell _ _ _ _ (by simpa using hab)).trans ((Below.heap_setCell _ _ _ _ (by simpa using hab)).trans h1)
  have h2 : ((V.setCell ⟨a, 0, none⟩ p).setCell ⟨a, 1, none⟩ q).heap[b]? = some (.cells #[r', t'] ty (0, 0)) :=
    (Below.heap_setCell _ _ _ _ (by simpa using Ne.symm hab)).trans ((Below.heap_setCell _ _ _ _ (by simpa using Ne.symm hab)).trans K2)
  have h2' := blk_setCell (k := 1) (blk_setCell (k := 0) h2 r) t
  exact ⟨by rw [blk_cell h1']; rfl, by rw [blk_cell h1']; rfl, by rw [blk_cell h2']; rfl, by rw [blk_cell h2']; rfl, (((HB.setCell ha _).setCell ha _).setCell hb _).setCell hb _⟩

set_option maxRecDepth 100000 in
set_option maxHeartbeats 4000000 in
theorem ends_any (x y : Int) (d : Bool) (w : World) :
    Calls Try.prog 161 #[triV x y d] w fun e w' => e = .returned (.tuple #[spotV x y, spotV (sndX x d) (sndY y d)]) ∧ Below w.heap.size w w' := by
  cases d
  · go_enter Try.func161, Try.ntmps161
    go_wp2_with fail
    obtain ⟨W, hW, k0, k1, k2, hb⟩ := three_alloc w (.cells #[.int .i64 x, .int .i64 y, .bool false] 46) (.cells #[.int .i64 0, .int .i64 0] 44) (.cells #[.int .i64 0, .int .i64 0] 44)
    rw [← hW]
    have c0 : W.drew.cell? ⟨w.heap.size, 0, none⟩ = some (.int .i64 x) := by show W.cell? _ = _; rw [blk_cell k0]; rfl
    have c1 : W.drew.cell? ⟨w.heap.size, 1, none⟩ = some (.int .i64 y) := by show W.cell? _ = _; rw [blk_cell k0]; rfl
    have d0 : W.cell? ⟨w.heap.size + 1, 0, none⟩ = some (.int .i64 0) := by rw [blk_cell k1]; rfl
    have d1 : W.cell? ⟨w.heap.size + 1, 1, none⟩ = some (.int .i64 0) := by rw [blk_cell k1]; rfl
    have d2 : W.cell? ⟨w.heap.size + 1 + 1, 0, none⟩ = some (.int .i64 0) := by rw [blk_cell k2]; rfl
    have d3 : W.cell? ⟨w.heap.size + 1 + 1, 1, none⟩ = some (.int .i64 0) := by rw [blk_cell k2]; rfl
    have f0 : ∀ o, W.frozen? ⟨w.heap.size + 1, o, none⟩ = false := fun o => blk_free k1
    have f2 : ∀ o, W.frozen? ⟨w.heap.size + 1 + 1, o, none⟩ = false := fun o => blk_free k2
    have g0 : W.cell? ⟨w.heap.size, 0, none⟩ = some (.int .i64 x) := by rw [blk_cell k0]; rfl
    have g1 : W.cell? ⟨w.heap.size, 1, none⟩ = some (.int .i64 y) := by rw [blk_cell k0]; rfl
    have T1 := Lib.hid (two_stores (w := w) (V := W.drew) (p := .int .i64 x) (q := .int .i64 y) (r := .int .i64 (sndX x false)) (t := .int .i64 (y)) k1 k2 (by omega) (by omega) (by omega) hb.drew)
    have hw1 : IntKind.i64.wrap (x + 1) = sndX x false := by rw [IntWalk.i64_left]; rfl
    clear hW k0 k1 k2 hb
    go_region_held3 (fun w' => w'.cell? ⟨w.heap.size, 0, none⟩ = some (.int .i64 x) ∧ w'.cell? ⟨w.heap.size, 1, none⟩ = some (.int .i64 y))
      (first
        | exact ⟨c0, c1⟩
        | (refine ⟨?_, ?_⟩ <;> go_simp))
      (first
        | fail)
    go_wp2_with fail
    generalize hX : ((((W.setCell ⟨w.heap.size + 1, 0, none⟩ (.int .i64 x)).setCell ⟨w.heap.size + 1, 1, none⟩ (.int .i64 y)).setCell ⟨w.heap.size + 1 + 1, 0, none⟩ (.int .i64 (sndX x false))).setCell ⟨w.heap.size + 1 + 1, 1, none⟩ (.int .i64 (y))).drew = X
    obtain ⟨r0, r1, r2, r3, r4⟩ := T1.out X hX.symm
    refine bodyPost_ret (v := .tuple #[spotV x y, spotV (sndX x false) (y)]) (by simp [results, Try.results161, go_sem, r0, r1, r2, r3]) rfl ⟨rfl, r4⟩
  · go_enter Try.func161, Try.ntmps161
    go_wp2_with fail
    obtain ⟨W, hW, k0, k1, k2, hb⟩ := three_alloc w (.cells #[.int .i64 x, .int .i64 y, .bool true] 46) (.cells #[.int .i64 0, .int .i64 0] 44) (.cells #[.int .i64 0, .int .i64 0] 44)
    rw [← hW]
    have c0 : W.drew.cell? ⟨w.heap.size, 0, none⟩ = some (.int .i64 x) := by show W.cell? _ = _; rw [blk_cell k0]; rfl
    have c1 : W.drew.cell? ⟨w.heap.size, 1, none⟩ = some (.int .i64 y) := by show W.cell? _ = _; rw [blk_cell k0]; rfl
    have d0 : W.cell? ⟨w.heap.size + 1, 0, none⟩ = some (.int .i64 0) := by rw [blk_cell k1]; rfl
    have d1 : W.cell? ⟨w.heap.size + 1, 1, none⟩ = some (.int .i64 0) := by rw [blk_cell k1]; rfl
    have d2 : W.cell? ⟨w.heap.size + 1 + 1, 0, none⟩ = some (.int .i64 0) := by rw [blk_cell k2]; rfl
    have d3 : W.cell? ⟨w.heap.size + 1 + 1, 1, none⟩ = some (.int .i64 0) := by rw [blk_cell k2]; rfl
    have f0 : ∀ o, W.frozen? ⟨w.heap.size + 1, o, none⟩ = false := fun o => blk_free k1
    have f2 : ∀ o, W.frozen? ⟨w.heap.size + 1 + 1, o, none⟩ = false := fun o => blk_free k2
    have g0 : W.cell? ⟨w.heap.size, 0, none⟩ = some (.int .i64 x) := by rw [blk_cell k0]; rfl
    have g1 : W.cell? ⟨w.heap.size, 1, none⟩ = some (.int .i64 y) := by rw [blk_cell k0]; rfl
    have T1 := Lib.hid (two_stores (w := w) (V := W.drew) (p := .int .i64 x) (q := .int .i64 y) (r := .int .i64 (x)) (t := .int .i64 (sndY y true)) k1 k2 (by omega) (by omega) (by omega) hb.drew)
    have hw1 : IntKind.i64.wrap (y + 1) = sndY y true := by rw [IntWalk.i64_left]; rfl
    clear hW k0 k1 k2 hb
    go_region_held3 (fun w' => w'.cell? ⟨w.heap.size, 0, none⟩ = some (.int .i64 x) ∧ w'.cell? ⟨w.heap.size, 1, none⟩ = some (.int .i64 y))
      (first
        | exact ⟨c0, c1⟩
        | (refine ⟨?_, ?_⟩ <;> go_simp))
      (first
        | fail)
    go_wp2_with fail
    generalize hX : ((((W.setCell ⟨w.heap.size + 1, 0, none⟩ (.int .i64 x)).setCell ⟨w.heap.size + 1, 1, none⟩ (.int .i64 y)).setCell ⟨w.heap.size + 1 + 1, 0, none⟩ (.int .i64 (x))).setCell ⟨w.heap.size + 1 + 1, 1, none⟩ (.int .i64 (sndY y true))).drew = X
    obtain ⟨r0, r1, r2, r3, r4⟩ := T1.out X hX.symm
    refine bodyPost_ret (v := .tuple #[spotV x y, spotV (x) (sndY y true)]) (by simp [results, Try.results161, go_sem, r0, r1, r2, r3]) rfl ⟨rfl, r4⟩
end Go.Proofs.Ytehnbalbpfmijaa

namespace Go.Proofs.Ytehnbalbpfmijaa
open Go.RowKit
set_option linter.unusedVariables false

/-- The number of a domino in the order. -/
def domM (x y : Nat) (d : Bool) : Nat := 2 ^ cix x y ||| (if d then 2 ^ cix x (y + 1) else 2 ^ cix (x + 1) y)
theorem domB_iff (x y : Int) (d : Bool) : domB x y d = true ↔ (0 ≤ x ∧ 0 ≤ y) ∧ if d then x ≤ 7 ∧ y ≤ 6 else x ≤ 6 ∧ y ≤ 7 := by
  unfold domB sndX sndY
  simp only [Bool.and_eq_true, spotB_iff]
  cases d
  · simp only [Bool.false_eq_true, if_false]
    constructor
    · rintro ⟨⟨⟨a, b⟩, c, e⟩, ⟨f, g⟩, h, i⟩
      have : wrap64 (x + 1) = x + 1 := IntWalk.wrap64_in _ (by omega)
      omega
    · rintro ⟨⟨a, b⟩, c, e⟩
      have : wrap64 (x + 1) = x + 1 := IntWalk.wrap64_in _ (by omega)
      omega
  · simp only [if_true]
    constructor
    · rintro ⟨⟨⟨a, b⟩, c, e⟩, ⟨f, g⟩, h, i⟩
      have : wrap64 (y + 1) = y + 1 := IntWalk.wrap64_in _ (by omega)
      omega
    · rintro ⟨⟨a, b⟩, c, e⟩
      have : wrap64 (y + 1) = y + 1 := IntWalk.wrap64_in _ (by omega)
      omega

set_option maxRecDepth 100000 in
set_option maxHeartbeats 2000000 in
theorem DominoOk_any (x y : Int) (d : Bool) (w : World) :
    Calls Try.prog 129 #[triV x y d] w fun e w' => e = .returned (.bool (domB x y d)) ∧ Below w.heap.size w w' := by
  have HF : Hid ((spotB 7 x y && spotB 7 (sndX x d) (sndY y d)) = domB x y d) := rfl
  generalize domB x y d = r at *
  have HB0 : Hid (Below w.heap.size w (w.alloc (.cells #[.int .i64 x, .int .i64 y, .bool d] 46))) := (Below.refl _ _).alloc (Nat.le_refl _) _
  generalize hx2 : sndX x d = x2 at *
  generalize hy2 : sndY y d = y2 at *
  have HX2 := Lib.hid hx2; have HY2 := Lib.hid hy2
  clear hx2 hy2
  cases c1 : spotB 7 x y
  all_goals cases c2 : spotB 7 x2 y2
  all_goals
    rw [c1, c2] at HF
    go_enter Try.func129, Try.ntmps129
    go_wp2_with fail
    refine (ends_any x y d _).mono ?_
    rintro e w1 ⟨rfl, hb1⟩
    rw [HX2.out, HY2.out]
    have HB1 := Lib.hid (HB0.out.trans (hb1.mono HB0.out.size))
    clear hb1
    go_wp2_with fail
    obtain ⟨W, hW, k1, k2, hb2⟩ := two_alloc w1 (.cells #[.int .i64 x, .int .i64 y] 44) (.cells #[.int .i64 x2, .int .i64 y2] 44)
    rw [← hW]
    have HB2 := Lib.hid (HB1.out.trans (hb2.mono HB1.out.size))
    have K2 := Lib.hid k2
    clear hW hb2 k1 k2
    refine (CellOk_any _ _ _).mono ?_
    rintro e w3 ⟨rfl, hb3⟩
    rw [c1]
    have k3 := blk_below K2.out hb3
    have HB3 := Lib.hid (HB2.out.trans (hb3.mono HB2.out.size))
    have e2 : w3.cell? ⟨w1.heap.size + 1, 0, none⟩ = some (.int .i64 x2) := by rw [blk_cell k3]; rfl
    have e3 : w3.cell? ⟨w1.heap.size + 1, 1, none⟩ = some (.int .i64 y2) := by rw [blk_cell k3]; rfl
    clear k3 hb3
    go_wp2_with fail
    first
      | (go_ret; exact ⟨ret_bool HF.out, HB3.out⟩)
      | (refine (CellOk_any _ _ _).mono ?_
         rintro e w4 ⟨rfl, hb4⟩
         rw [c2]
         go_wp2_with fail
         go_ret
         exact ⟨ret_bool HF.out, HB3.out.trans (hb4.mono HB3.out.size)⟩)

/-- Two cells of two numbers each, in a world that grows. -/
abbrev TwoC (W w' : World) (a b : Nat) (x y x2 y2 : Int) : Prop := w'.cell? ⟨a, 0, none⟩ = some (.int .i64 x) ∧ w'.cell? ⟨a, 1, none⟩ = some (.int .i64 y) ∧ w'.cell? ⟨b, 0, none⟩ = some (.int .i64 x2) ∧ w'.cell? ⟨b, 1, none⟩ = some (.int .i64 y2) ∧ W.heap.size ≤ w'.heap.size ∧ Below W.heap.size W w'
theorem TwoC.keep {W W0 w1 : World} {a b : Nat} {x y x2 y2 : Int} (hb : Below W0.heap.size W0 w1) (ha : a < W.heap.size) (hbb : b < W.heap.size) (h : TwoC W W0 a b x y x2 y2) : TwoC W w1 a b x y x2 y2 := by
  obtain ⟨h1, h2, h3, h4, h5, h6⟩ := h
  exact ⟨(hb.cell (by simp; omega)).trans h1, (hb.cell (by simp; omega)).trans h2, (hb.cell (by simp; omega)).trans h3, (hb.cell (by simp; omega)).trans h4, Nat.le_trans h5 hb.size, h6.trans (hb.mono h5)⟩
theorem TwoC.drew {W W0 : World} {a b : Nat} {x y x2 y2 : Int} (h : TwoC W W0 a b x y x2 y2) : TwoC W W0.drew a b x y x2 y2 := ⟨h.1, h.2.1, h.2.2.1, h.2.2.2.1, h.2.2.2.2.1, h.2.2.2.2.2.drew⟩
theorem orU (a b : Nat) (ha : a < 18446744073709551616) (hb : b < 18446744073709551616) : a ||| b < 18446744073709551616 := Nat.or_lt_two_pow (n := 64) ha hb
theorem domM_lt (x y : Nat) (d : Bool) (h : domB x y d = true) : domM x y d < 18446744073709551616 := by
  have hd := (domB_iff _ _ _).1 h
  have hp : ∀ k, k ≤ 63 → 2 ^ k < 18446744073709551616 := fun k hk => Nat.pow_lt_pow_right (a := 2) (m := k) (n := 64) (by omega) (by omega)
  unfold domM
  refine orU _ _ (hp _ (by unfold cix; cases d <;> simp at hd <;> omega)) ?_
  cases d
  · simp at hd ⊢; exact hp _ (by unfold cix; omega)
  · simp at hd ⊢; exact hp _ (by unfold cix; omega)
set_option maxRecDepth 100000 in
set_option maxHeartbeats 2000000 in
theorem dset_any (x y : Nat) (d : Bool) (w : World) (h : domB x y d = true) :
    Calls Try.prog 130 #[triV x y d] w fun e w' => e = .returned (.int .u64 (domM x y d : Nat)) ∧ Below w.heap.size w w' := by
  have hd := (domB_iff _ _ _).1 h
  obtain ⟨x2, y2, hx2, hy2, b1, b2, b3, b4, HM⟩ : ∃ x2 y2 : Nat, sndX x d = (x2 : Int) ∧ sndY y d = (y2 : Int) ∧ x ≤ 7 ∧ y ≤ 7 ∧ x2 ≤ 7 ∧ y2 ≤ 7 ∧ Hid ((0 ||| 2 ^ cix x y) ||| 2 ^ cix x2 y2 = domM x y d) := by
    cases d
    · simp at hd
      refine ⟨x + 1, y, ?_, rfl, by omega, by omega, by omega, by omega, ?_⟩
      · have : wrap64 ((x : Int) + 1) = (x : Int) + 1 := IntWalk.wrap64_in _ (by omega)
        simp [sndX, this]
      · unfold Hid domM; simp
    · simp at hd
      refine ⟨x, y + 1, rfl, ?_, by omega, by omega, by omega, by omega, ?_⟩
      · have : wrap64 ((y : Int) + 1) = (y : Int) + 1 := IntWalk.wrap64_in _ (by omega)
        simp [sndY, this]
      · unfold Hid domM; simp
  have HX2 := Lib.hid hx2; have HY2 := Lib.hid hy2
  have hk : cix x y ≤ 63 := by unfold cix; omega
  have hT : 0 ||| 2 ^ cix x y < 18446744073709551616 := with_lt (by omega) hk
  have HB0 : Hid (Below w.heap.size w (w.alloc (.cells #[.int .i64 (x : Int), .int .i64 (y : Int), .bool d] 46))) := (Below.refl _ _).alloc (Nat.le_refl _) _
  clear hx2 hy2 hd h
  go_enter Try.func130, Try.ntmps130
  go_wp2_with fail
  refine (ends_any x y d _).mono ?_
  rintro e w1 ⟨rfl, hb1⟩
  rw [HX2.out, HY2.out]
  have HB1 := Lib.hid (HB0.out.trans (hb1.mono HB0.out.size))
  clear hb1
  go_wp2_with fail
  obtain ⟨W, hW, k1, k2, hb2⟩ := two_alloc w1 (.cells #[.int .i64 (x : Int), .int .i64 (y : Int)] 44) (.cells #[.int .i64 (x2 : Int), .int .i64 (y2 : Int)] 44)
  rw [← hW]
  have HB2 := Lib.hid (HB1.out.trans (hb2.mono HB1.out.size))
  have HS : Hid (TwoC W W w1.heap.size (w1.heap.size + 1) x y x2 y2) :=
    ⟨by rw [blk_cell k1]; rfl, by rw [blk_cell k1]; rfl, by rw [blk_cell k2]; rfl, by rw [blk_cell k2]; rfl, Nat.le_refl _, Below.refl _ _⟩
  have L1 := Lib.hid (lt_of_block k1)
  have L2 := Lib.hid (lt_of_block k2)
  clear hW hb2 k1 k2
  obtain ⟨T1, HT1⟩ : ∃ T1 : Nat, Hid ((0 ||| 2 ^ cix x y : Nat) = T1) := ⟨_, rfl⟩
  rw [HT1.out] at HM hT
  have hC1 : Hid (∀ V, Calls Try.prog 80 #[.int .u64 0, spotV x y] V fun e w' => e = .returned (.int .u64 (T1 : Int)) ∧ Below V.heap.size V w') := fun V => by
    have h1 := with_yes 0 x y (by omega) b1 b2 V
    rw [HT1.out] at h1
    exact h1
  have hC2 : Hid (∀ V, Calls Try.prog 80 #[.int .u64 (T1 : Int), spotV x2 y2] V fun e w' => e = .returned (.int .u64 (domM x y d : Nat)) ∧ Below V.heap.size V w') := fun V => by
    have h1 := with_yes T1 x2 y2 hT b3 b4 V
    rw [HM.out] at h1
    exact h1
  go_region_held3 (fun w' => TwoC W w' w1.heap.size (w1.heap.size + 1) x y x2 y2)
      (first
        | exact HS.out.drew
        | exact TwoC.keep hb4 L1.out L2.out (by assumption))
      (first
        | (go_at_call 80; (with_reducible refine (hC1.out _).mono ?_); rintro e w4 ⟨rfl, hb4⟩)
        | (go_at_call 80; (with_reducible refine (hC2.out _).mono ?_); rintro e w4 ⟨rfl, hb4⟩))
  have HB4 := Lib.hid (HB2.out.trans ((show TwoC W w4 w1.heap.size (w1.heap.size + 1) x y x2 y2 from by assumption).2.2.2.2.2.mono HB2.out.size))
  go_wp2_with fail
  go_ret
  exact ⟨rfl, HB4.out⟩

/-- The number of a domino in the order. -/
def domO (x y : Nat) (d : Bool) : Nat := 2 * cix x y + if d then 1 else 0
set_option maxRecDepth 100000 in
set_option maxHeartbeats 2000000 in
theorem order_any (x y : Nat) (d : Bool) (w : World) (h : domB x y d = true) :
    Calls Try.prog 136 #[triV x y d] w fun e w' => e = .returned (.int .i64 (domO x y d : Nat)) ∧ Below w.heap.size w w' := by
  have hd := (domB_iff _ _ _).1 h
  have b1 : x ≤ 7 := by cases d <;> simp at hd <;> omega
  have b2 : y ≤ 7 := by cases d <;> simp at hd <;> omega
  have hk : cix x y ≤ 63 := by unfold cix; omega
  have HM : Hid (2 * ((cix x y : Nat) : Int) + (if d then 1 else 0) = ((domO x y d : Nat) : Int)) := by unfold Hid domO; cases d <;> simp
  obtain ⟨k, HK⟩ : ∃ k, Hid (cix x y = k) := ⟨_, rfl⟩
  rw [HK.out] at hk HM
  clear hd h
  obtain ⟨W, hW, k1, hb⟩ := one_alloc w (.cells #[.int .i64 (x : Int), .int .i64 (y : Int), .bool d] 46)
  have HBW := Lib.hid hb
  have HK1 := Lib.hid k1
  have HWW := Lib.hid hW
  clear hW k1 hb
  go_enter Try.func136, Try.ntmps136
  go_wp2_with fail
  rw [← HWW.out]
  refine (CellIndex_yes x y b1 b2 _).mono ?_
  rintro e w1 ⟨rfl, hb1⟩
  rw [HK.out]
  have k2 := blk_below HK1.out hb1
  have HB := Lib.hid (HBW.out.trans (hb1.mono HBW.out.size))
  have e1 : w1.cell? ⟨w.heap.size, 2, none⟩ = some (.bool d) := by rw [blk_cell k2]; rfl
  clear k2 hb1
  cases d
  all_goals
    go_wp2_with fail
    go_ret
    exact ⟨ret_int (by have := HM.out; simp at this; omega), HB.out⟩
end Go.Proofs.Ytehnbalbpfmijaa

namespace Go.Proofs.Ytehnbalbpfmijaa
open Go.RowKit
set_option linter.unusedVariables false

/-- A domino is ahead of another one. -/
def domLt (a b : Lk) : Bool := domB a.1 a.2.1 a.2.2 && domB b.1 b.2.1 b.2.2 && decide (domO a.1.toNat a.2.1.toNat a.2.2 < domO b.1.toNat b.2.1.toNat b.2.2)
theorem order_Z (x y : Int) (d : Bool) (w : World) (h : domB x y d = true) :
    Calls Try.prog 136 #[triV x y d] w fun e w' => e = .returned (.int .i64 (domO x.toNat y.toNat d : Nat)) ∧ Below w.heap.size w w' := by
  have hd := (domB_iff _ _ _).1 h
  obtain ⟨a, rfl⟩ := Int.eq_ofNat_of_zero_le hd.1.1
  obtain ⟨b, rfl⟩ := Int.eq_ofNat_of_zero_le hd.1.2
  exact order_any a b d w h
abbrev triO (x y : Int) (d : Bool) (t : TypeId) : Obj := .cells #[.int .i64 x, .int .i64 y, .bool d] t
/-- Two structs of three fields, in a world that grows. -/
abbrev TwoT (W w' : World) (a b : Nat) (p q : Lk) : Prop :=
  w'.cell? ⟨a, 0, none⟩ = some (.int .i64 p.1) ∧ w'.cell? ⟨a, 1, none⟩ = some (.int .i64 p.2.1) ∧ w'.cell? ⟨a, 2, none⟩ = some (.bool p.2.2) ∧
  w'.cell? ⟨b, 0, none⟩ = some (.int .i64 q.1) ∧ w'.cell? ⟨b, 1, none⟩ = some (.int .i64 q.2.1) ∧ w'.cell? ⟨b, 2, none⟩ = some (.bool q.2.2) ∧ W.heap.size ≤ w'.heap.size ∧ Below W.heap.size W w'
theorem TwoT.keep {W W0 w1 : World} {a b : Nat} {p q : Lk} (hb : Below W0.heap.size W0 w1) (ha : a < W.heap.size) (hbb : b < W.heap.size) (h : TwoT W W0 a b p q) : TwoT W w1 a b p q := by
  obtain ⟨h1, h2, h3, h4, h5, h6, h7, h8⟩ := h
  exact ⟨(hb.cell (by simp; omega)).trans h1, (hb.cell (by simp; omega)).trans h2, (hb.cell (by simp; omega)).trans h3, (hb.cell (by simp; omega)).trans h4, (hb.cell (by simp; omega)).trans h5, (hb.cell (by simp; omega)).trans h6, Nat.le_trans h7 hb.size, h8.trans (hb.mono h7)⟩
theorem TwoT.drew {W W0 : World} {a b : Nat} {p q : Lk} (h : TwoT W W0 a b p q) : TwoT W W0.drew a b p q := ⟨h.1, h.2.1, h.2.2.1, h.2.2.2.1, h.2.2.2.2.1, h.2.2.2.2.2.1, h.2.2.2.2.2.2.1, h.2.2.2.2.2.2.2.drew⟩
theorem TwoT.of {w W : World} {a b : Nat} {p q : Lk} {t t' : TypeId} (k1 : W.heap[a]? = some (triO p.1 p.2.1 p.2.2 t)) (k2 : W.heap[b]? = some (triO q.1 q.2.1 q.2.2 t')) : TwoT W W a b p q :=
  ⟨by rw [blk_cell k1]; rfl, by rw [blk_cell k1]; rfl, by rw [blk_cell k1]; rfl, by rw [blk_cell k2]; rfl, by rw [blk_cell k2]; rfl, by rw [blk_cell k2]; rfl, Nat.le_refl _, Below.refl _ _⟩

set_option maxRecDepth 100000 in
set_option maxHeartbeats 4000000 in
theorem Before_any (x y : Int) (d : Bool) (x' y' : Int) (d' : Bool) (w : World) :
    Calls Try.prog 166 #[triV x y d, triV x' y' d'] w fun e w' => e = .returned (.bool (domLt (x, y, d) (x', y', d'))) ∧ Below w.heap.size w w' := by
  obtain ⟨W, hW, k1, k2, hb⟩ := two_alloc w (triO x y d 46) (triO x' y' d' 46)
  have HW := Lib.hid hW
  have HB := Lib.hid hb
  have HS := Lib.hid (TwoT.of (w := w) (p := (x, y, d)) (q := (x', y', d')) k1 k2)
  have L1 := Lib.hid (lt_of_block k1)
  have L2 := Lib.hid (lt_of_block k2)
  clear hW k1 k2 hb
  cases h1 : domB x y d
  · have HF : Hid (false = domLt (x, y, d) (x', y', d')) := by unfold Hid domLt; simp [h1]
    generalize domLt (x, y, d) (x', y', d') = r at *
    have H1 := Lib.hid h1; clear h1
    go_enter Try.func166, Try.ntmps166
    go_wp2_with fail
    rw [← HW.out]
    obtain ⟨f1, f2, f3, f4, f5, f6, _, _⟩ := HS.out
    go_region_law (first
      | (go_simp; go_at_call 129; refine (DominoOk_any _ _ _ _).mono ?_; rintro e w1 ⟨rfl, hb1⟩; rw [H1.out]))
    all_goals
      go_wp2_with fail
      go_ret
      exact ⟨ret_bool HF.out, HB.out.trans ((Below.refl _ W).drew.trans (hb1.mono (Nat.le_refl _)) |>.mono HB.out.size)⟩
  · have H1 := Lib.hid h1
    cases h2 : domB x' y' d'
    · have HF : Hid (false = domLt (x, y, d) (x', y', d')) := by unfold Hid domLt; simp [h2]
      generalize domLt (x, y, d) (x', y', d') = r at *
      have H2 := Lib.hid h2; clear h1 h2
      go_enter Try.func166, Try.ntmps166
      go_wp2_with fail
      rw [← HW.out]
      obtain ⟨f1, f2, f3, f4, f5, f6, _, _⟩ := HS.out
      have HT0 := Lib.hid HS.out.drew
      go_region_law (first
        | (go_simp; go_at_call 129; (with_reducible refine (DominoOk_any x y d _).mono ?_); rintro e w1 ⟨rfl, hb1⟩; rw [H1.out]; have HT1 := Lib.hid (TwoT.keep hb1 L1.out L2.out HT0.out); obtain ⟨g1, g2, g3, g4, g5, g6, _, _⟩ := HT1.out)
        | (go_simp; go_at_call 129; (with_reducible refine (DominoOk_any x' y' d' _).mono ?_); rintro e w2 ⟨rfl, hb2⟩; rw [H2.out]; have HT2 := Lib.hid (TwoT.keep hb2 L1.out L2.out HT1.out)))
      all_goals
        go_wp2_with fail
        go_ret
        exact ⟨ret_bool HF.out, HB.out.trans (HT2.out.2.2.2.2.2.2.2.mono HB.out.size)⟩
    · have HF : Hid (decide (domO x.toNat y.toNat d < domO x'.toNat y'.toNat d') = domLt (x, y, d) (x', y', d')) := by unfold Hid domLt; simp [h1, h2]
      have H2 := Lib.hid h2
      have hC1 := Lib.hid fun V => order_Z x y d V h1
      have hC2 := Lib.hid fun V => order_Z x' y' d' V h2
      generalize domLt (x, y, d) (x', y', d') = r at *
      generalize domO x.toNat y.toNat d = n1 at *
      generalize domO x'.toNat y'.toNat d' = n2 at *
      clear h1 h2
      go_enter Try.func166, Try.ntmps166
      go_wp2_with fail
      rw [← HW.out]
      go_region_held3 (fun w' => TwoT W w' w.heap.size (w.heap.size + 1) (x, y, d) (x', y', d'))
        (first
          | exact HS.out.drew
          | exact TwoT.keep hb1 L1.out L2.out (by assumption))
        (first
          | (go_at_call 129; (with_reducible refine (DominoOk_any x y d _).mono ?_); rintro e w1 ⟨rfl, hb1⟩; rw [H1.out])
          | (go_at_call 129; (with_reducible refine (DominoOk_any x' y' d' _).mono ?_); rintro e w1 ⟨rfl, hb1⟩; rw [H2.out])
          | (go_at_call 136; (with_reducible refine (hC1.out _).mono ?_); rintro e w1 ⟨rfl, hb1⟩)
          | (go_at_call 136; (with_reducible refine (hC2.out _).mono ?_); rintro e w1 ⟨rfl, hb1⟩))
      have HB4 := Lib.hid (HB.out.trans ((show TwoT W w1 w.heap.size (w.heap.size + 1) (x, y, d) (x', y', d') from by assumption).2.2.2.2.2.2.2.mono HB.out.size))
      go_wp2_with fail
      go_ret
      exact ⟨ret_bool HF.out, HB4.out⟩
end Go.Proofs.Ytehnbalbpfmijaa

namespace Go.Proofs.Ytehnbalbpfmijaa
open Go.RowKit

theorem eqDomino_self (x y : Int) (d : Bool) (w : World) :
    Calls Try.prog 103 #[triV x y d, triV x y d] w fun e w' => e = .returned (.bool true) ∧ Below w.heap.size w w' := by
  have h1 : (x != x) = false := by simp
  have h2 : (y != y) = false := by simp
  cases d
  all_goals
    go_enter Try.func103, Try.ntmps103
    go_wp2
    go_ret
    exact ⟨rfl, ((Below.refl _ _).alloc (by (try simp) <;> omega) _).alloc (by (try simp) <;> omega) _⟩

set_option maxHeartbeats 2000000 in
theorem eqDominoS_self (u v : Value) (ls : List Lk) (B C : Nat) (w : World) (hu : RdF elDomino w B u ls) (hv : RdF elDomino w C v ls) (hB : B ≤ w.heap.size) (hC : C ≤ w.heap.size) :
    Calls Try.prog 37 #[u, v] w fun e w' => e = .returned (.bool true) ∧ Below w.heap.size w w' := by
  obtain ⟨A, c, rfl, g1, g2, G3⟩ := RdT.of (E := elDomino) rfl (fun _ => rfl) hu
  obtain ⟨A', c', rfl, g1', g2', G3'⟩ := RdT.of (E := elDomino) rfl (fun _ => rfl) hv
  unfold maxLen at g2 g2'
  clear hu hv
  go_enter Try.func37, Try.ntmps37
  go_wp2_with fail
  go_loopw [5] (fun i wr => ∃ k : Nat, k ≤ ls.length ∧ i = .int .i64 k ∧ Below w.heap.size w wr) (fun i _ => ls.length - (intOf i).toNat)
  case atStart => exact ⟨0, Nat.zero_le _, rfl, Below.refl _ _⟩
  case round =>
    obtain ⟨k, hk, rfl, hd⟩ := hrel
    by_cases hlt : k < ls.length
    · obtain ⟨ad, rfl, hb, hx, hy, hz⟩ := G3.out k hlt
      obtain ⟨ad', rfl, hb', hx', hy', hz'⟩ := G3'.out k hlt
      have hk0 : (0 : Int) ≤ (k : Int) := by omega
      have hk1 : (k : Int) < (ls.length : Int) := by omega
      have HS := Lib.hid (keepSix0 hd (show (ad.add (k * 3)).block < w.heap.size by rw [addBlock]; omega) (show (ad'.add (k * 3)).block < w.heap.size by rw [addBlock]; omega) ⟨hx, hy, hz, hx', hy', hz'⟩)
      have L1 := Lib.hid (show (ad.add (k * 3)).block < w.heap.size by rw [addBlock]; omega)
      have L2 := Lib.hid (show (ad'.add (k * 3)).block < w.heap.size by rw [addBlock]; omega)
      clear hx hy hz hx' hy' hz'
      go_wp2_with fail
      go_region_held3 (fun w' => SixS w w' (ad.add (k * 3)) (ad'.add (k * 3)) (lx ls k) (ly ls k) (ld ls k))
        (first
          | exact keepSix hb1 L1.out L2.out (by assumption)
          | exact drewSix HS.out)
        (first
          | (go_at_call 103; refine (eqDomino_self _ _ _ _).mono ?_; rintro e w1 ⟨rfl, hb1⟩))
      have hd2 := (show SixS w w1 _ _ _ _ _ from by assumption).2.2.2.2.2.2.2
      go_wp2_with fail
      go_roundw
      case rel => exact ⟨k + 1, by omega, by go_num, hd2⟩
      case measure => simp [intOf]; omega
    · go_wp2_with fail
      go_ret
      exact ⟨rfl, hd⟩

def MarkDominoPost (w : World) (lo : Nat) (v : Value) (n : Nat) (k : Int) (e : Ending) (w' : World) : Prop :=
  e = .returned (.int .i64 (k + 3 * (n : Int))) ∧ OwnF elDomino w' lo v (triIota k n) ∧ w.grownBy w' v.ownBlock

set_option maxHeartbeats 2000000 in
theorem markDominoS_any (v : Value) (ls : List Lk) (lo : Nat) (k : Int) (w : World) (h : OwnF elDomino w lo v ls) (hl : ls.length ≤ 1048576) (h1 : 0 ≤ k) (h2 : k ≤ 1099511627776) :
    Calls Try.prog 40 #[v, .int .i64 k] w (MarkDominoPost w lo v ls.length k) := by
  rcases Nat.eq_zero_or_pos ls.length with h0 | hpos
  · obtain ⟨A, c, hv, _, _, _⟩ := h.rd okDomino
    have hz : ls = [] := List.eq_nil_of_length_eq_zero h0
    subst hz
    have HH := Lib.hid h
    clear h
    rw [hv] at HH ⊢
    clear hv
    go_enter Try.func40, Try.ntmps40
    go_wp2_with fail
    go_loopw [1, 5] (fun a i wr => a = .int .i64 k ∧ i = .int .i64 0 ∧ w = wr) (fun _ _ _ => 0)
    case atStart => exact ⟨rfl, rfl, rfl⟩
    case round =>
      obtain ⟨rfl, rfl, rfl⟩ := hrel
      go_wp2_with fail
      go_ret
      exact ⟨ret_int (by simp), (show OwnF elDomino w lo (.slice A 0 c) [] from HH.out), World.grownBy.refl w _⟩
  · obtain ⟨g, cap, hv, hlo, hgl⟩ := World.ownsRow.form h hpos
    obtain ⟨A0, c0, e0, q1, q2, _⟩ := h.rd okDomino
    rw [hv] at e0
    obtain rfl : cap = c0 := by simp only [Value.slice.injEq] at e0; exact e0.2.2
    unfold maxLen at q2
    have HH := Lib.hid h
    clear h e0
    rw [hv] at HH ⊢
    clear hv
    go_enter Try.func40, Try.ntmps40
    go_wp2_with fail
    go_loopw [1, 5] (fun a i wr => ∃ j : Nat, j ≤ ls.length ∧ a = .int .i64 (k + 3 * (j : Int)) ∧ i = .int .i64 j ∧ Hid (OwnF elDomino wr lo (.slice (some ⟨g, 0, none⟩) (triTo ls k j).length cap) (triTo ls k j)) ∧ w.grownBy wr (some g)) (fun _ i _ => ls.length - (intOf i).toNat)
    case atStart => exact ⟨0, Nat.zero_le _, by simp, rfl, by (unfold Hid; rw [triTo_zero]; exact HH.out), World.grownBy.refl w _⟩
    case round =>
      obtain ⟨j, hj, rfl, rfl, HO, hgr⟩ := hrel
      by_cases hlt : j < ls.length
      · obtain ⟨hc0, hc1, hc2, hfr, ht⟩ := triStore okDomino rfl (fun _ => rfl) HO.out (j := j) (by rw [triTo_length]; exact hlt)
        obtain ⟨hst1, hst2⟩ := ht (k + 3 * (j : Int)) (k + 3 * (j : Int) + 1) ((k + 3 * (j : Int) + 1 + 1) % 3 == 0)
        rw [triTo_set ls k j hlt] at hst1
        have HN := Lib.hid hst1
        have HG := Lib.hid (hgr.trans hst2)
        clear hst1 hst2 ht
        have hk0 : (0 : Int) ≤ (j : Int) := by omega
        have hk1 : (j : Int) < (ls.length : Int) := by omega
        go_wp2_with fail
        go_roundw
        case rel => exact ⟨j + 1, by omega, by simp; omega, by go_num, HN, HG.out⟩
        case measure => simp [intOf]; omega
      · have HJ : Hid (j = ls.length) := by unfold Hid; omega
        go_wp2_with fail
        go_ret
        refine ⟨ret_int (by rw [HJ.out]), ?_, hgr⟩
        have ho := HO.out
        rw [triTo_length, HJ.out, triTo_all] at ho
        exact ho

set_option maxHeartbeats 2000000 in
theorem heldDominoS_any (v : Value) (n : Nat) (k : Int) (B : Nat) (w : World) (h : RdF elDomino w B v (triIota k n)) (hl : n ≤ 1048576) (h1 : 0 ≤ k) (h2 : k ≤ 1099511627776) :
    Calls Try.prog 41 #[v, .int .i64 k] w fun e w' => e = .returned (.int .i64 (k + 3 * (n : Int))) ∧ w = w' := by
  obtain ⟨A, c, rfl, g1, g2, G3⟩ := RdT.of (E := elDomino) rfl (fun _ => rfl) h
  rw [triIota_length] at *
  unfold maxLen at g2
  clear h
  go_enter Try.func41, Try.ntmps41
  go_wp2_with fail
  go_loop [1, 5] (fun a i => ∃ j : Nat, j ≤ n ∧ a = .int .i64 (k + 3 * (j : Int)) ∧ i = .int .i64 j) (fun _ i => n - (intOf i).toNat)
  case atStart => exact ⟨0, Nat.zero_le _, by simp, rfl⟩
  case round =>
    obtain ⟨j, hj, rfl, rfl⟩ := hrel
    by_cases hlt : j < n
    · obtain ⟨ad, rfl, hb, hx, hy, hz⟩ := G3.out j hlt
      rw [triIota_x _ _ _ hlt] at hx
      rw [triIota_y _ _ _ hlt] at hy
      rw [triIota_d _ _ _ hlt] at hz
      have hne : (k + 3 * (j : Int) != k + 3 * (j : Int)) = false := by simp
      have hne2 : (k + 3 * (j : Int) + 1 != k + 3 * (j : Int) + 1) = false := by simp
      go_wp2_with fail
      go_round
      case rel => exact ⟨j + 1, by omega, by simp; omega, by go_num⟩
      case measure => simp [intOf]; omega
    · have HJ : Hid (j = n) := by unfold Hid; omega
      go_wp2_with fail
      go_ret
      exact ⟨ret_int (by rw [HJ.out]), rfl⟩
end Go.Proofs.Ytehnbalbpfmijaa

namespace Go.Proofs.Ytehnbalbpfmijaa
open Go.RowKit
set_option linter.unusedVariables false

/-- Domino j of a list, and its cells. -/
def dAt (ls : List Lk) (j : Nat) : Lk := (lx ls j, ly ls j, ld ls j)
def domL (l : Lk) : Bool := domB l.1 l.2.1 l.2.2
def dM (l : Lk) : Nat := domM l.1.toNat l.2.1.toNat l.2.2
def covTo (ls : List Lk) : Nat → Nat
  | 0 => 0
  | k + 1 => if domL (dAt ls k) then covTo ls k ||| dM (dAt ls k) else covTo ls k
theorem dset_Z (x y : Int) (d : Bool) (w : World) (h : domB x y d = true) :
    Calls Try.prog 130 #[triV x y d] w fun e w' => e = .returned (.int .u64 (dM (x, y, d) : Nat)) ∧ Below w.heap.size w w' := by
  have hd := (domB_iff _ _ _).1 h
  obtain ⟨a, rfl⟩ := Int.eq_ofNat_of_zero_le hd.1.1
  obtain ⟨b, rfl⟩ := Int.eq_ofNat_of_zero_le hd.1.2
  exact dset_any a b d w h
theorem dM_lt {l : Lk} (h : domL l = true) : dM l < 18446744073709551616 := by
  obtain ⟨x, y, d⟩ := l
  have hd := (domB_iff _ _ _).1 h
  obtain ⟨a, rfl⟩ := Int.eq_ofNat_of_zero_le hd.1.1
  obtain ⟨b, rfl⟩ := Int.eq_ofNat_of_zero_le hd.1.2
  exact domM_lt a b d h
theorem covTo_lt (ls : List Lk) : ∀ k, covTo ls k < 18446744073709551616
  | 0 => by simp [covTo]
  | k + 1 => by
    rw [covTo]
    split
    · rename_i h; exact orU _ _ (covTo_lt ls k) (dM_lt h)
    · exact covTo_lt ls k
/-- One struct of three fields, in a world that grows. -/
abbrev OneT (W w' : World) (a : Nat) (x y : Int) (d : Bool) : Prop := w'.cell? ⟨a, 0, none⟩ = some (.int .i64 x) ∧ w'.cell? ⟨a, 1, none⟩ = some (.int .i64 y) ∧ w'.cell? ⟨a, 2, none⟩ = some (.bool d) ∧ W.heap.size ≤ w'.heap.size ∧ Below W.heap.size W w'
theorem OneT.keep {W W0 w1 : World} {a : Nat} {x y : Int} {d : Bool} (hb : Below W0.heap.size W0 w1) (ha : a < W.heap.size) (h : OneT W W0 a x y d) : OneT W w1 a x y d := by
  obtain ⟨h1, h2, h3, h7, h8⟩ := h
  exact ⟨(hb.cell (by simp; omega)).trans h1, (hb.cell (by simp; omega)).trans h2, (hb.cell (by simp; omega)).trans h3, Nat.le_trans h7 hb.size, h8.trans (hb.mono h7)⟩
theorem OneT.drew {W W0 : World} {a : Nat} {x y : Int} {d : Bool} (h : OneT W W0 a x y d) : OneT W W0.drew a x y d := ⟨h.1, h.2.1, h.2.2.1, h.2.2.2.1, h.2.2.2.2.drew⟩
theorem OneT.of {W : World} {a : Nat} {x y : Int} {d : Bool} {t : TypeId} (k1 : W.heap[a]? = some (triO x y d t)) : OneT W W a x y d :=
  ⟨by rw [blk_cell k1]; rfl, by rw [blk_cell k1]; rfl, by rw [blk_cell k1]; rfl, Nat.le_refl _, Below.refl _ _⟩

set_option maxRecDepth 100000 in
set_option maxHeartbeats 4000000 in
theorem covered_any (v : Value) (ls : List Lk) (B : Nat) (w : World) (h : RdF elDomino w B v ls) (hB : B ≤ w.heap.size) :
    Calls Try.prog 76 #[v] w fun e w' => e = .returned (.int .u64 (covTo ls ls.length : Nat)) ∧ Below w.heap.size w w' := by
  obtain ⟨A, c, rfl, g1, g2, G3⟩ := RdT.of (E := elDomino) rfl (fun _ => rfl) h
  unfold maxLen at g2
  clear h
  go_enter Try.func76, Try.ntmps76
  go_wp2_with fail
  go_loopw [3, 8] (fun s i wr => ∃ k : Nat, k ≤ ls.length ∧ i = .int .i64 k ∧ s = .int .u64 (covTo ls k : Nat) ∧ Hid (Below w.heap.size w wr)) (fun _ i _ => ls.length - (intOf i).toNat)
  case atStart => exact ⟨0, Nat.zero_le _, rfl, rfl, Below.refl _ _⟩
  case round =>
    obtain ⟨k, hk, rfl, rfl, HB⟩ := hrel
    by_cases hlt : k < ls.length
    · obtain ⟨ad, rfl, hbl, hx, hy, hz⟩ := G3.out k hlt
      have hbl2 : (ad.add (k * 3)).block < w.heap.size := by rw [addBlock]; omega
      have hx' := (HB.out.cell (p := ad.add (k * 3)) hbl2).trans hx
      have hy' := (HB.out.cell (p := ⟨(ad.add (k * 3)).block, (ad.add (k * 3)).off + 1, none⟩) hbl2).trans hy
      have hz' := (HB.out.cell (p := ⟨(ad.add (k * 3)).block, (ad.add (k * 3)).off + 2, none⟩) hbl2).trans hz
      have HT : Hid (covTo ls (k + 1) = if domB (lx ls k) (ly ls k) (ld ls k) then covTo ls k ||| dM (lx ls k, ly ls k, ld ls k) else covTo ls k) := rfl
      have HCL := Lib.hid (covTo_lt ls k)
      have HDL := Lib.hid (fun h => dM_lt (l := (lx ls k, ly ls k, ld ls k)) h)
      have HDS := Lib.hid (fun V h => dset_Z (lx ls k) (ly ls k) (ld ls k) V h)
      generalize lx ls k = x at *
      generalize ly ls k = y at *
      generalize ld ls k = d at *
      clear hx hy hz
      go_wp2_with fail
      obtain ⟨W, hW, k1, hbW⟩ := one_alloc wr (triO x y d 46)
      rw [← hW]
      have hT0 := OneT.of k1
      have HT0 := Lib.hid hT0
      have L1 := Lib.hid (lt_of_block k1)
      have HBW := Lib.hid (HB.out.trans (hbW.mono HB.out.size))
      clear hW k1 hbW hx' hy' hz' hT0
      refine (DominoOk_any x y d _).mono ?_
      rintro e w1 ⟨rfl, hb1⟩
      have hT1 := OneT.keep hb1 L1.out HT0.out
      have HB1 := Lib.hid (HBW.out.trans (hb1.mono HBW.out.size))
      obtain ⟨f1, f2, f3, _, _⟩ := hT1
      clear hb1
      cases hd : domB x y d
      · have HE : Hid (covTo ls (k + 1) = covTo ls k) := by unfold Hid; rw [HT.out, hd]; rfl
        clear HT
        go_wp2_with fail
        go_roundw
        case rel => exact ⟨k + 1, by omega, by go_num, by rw [HE.out], HB1⟩
        case measure => simp [intOf]; omega
      · have HE : Hid (covTo ls (k + 1) = covTo ls k ||| dM (x, y, d)) := by unfold Hid; rw [HT.out, hd]; rfl
        have HD1 := Lib.hid hd
        have HO := Lib.hid (u64_or_nat _ _ HCL.out (HDL.out hd))
        clear HT hd
        go_wp2_with fail
        refine (HDS.out _ HD1.out).mono ?_
        rintro e w2 ⟨rfl, hb2⟩
        have HB2 := Lib.hid (HB1.out.trans (hb2.mono HB1.out.size))
        go_wp2_with fail
        go_roundw
        case rel => exact ⟨k + 1, by omega, by go_num, by rw [HE.out, HO.out], HB2⟩
        case measure => simp [intOf]; omega
    · have HK : Hid (k = ls.length) := by unfold Hid; omega
      go_wp2_with fail
      go_ret
      exact ⟨congrArg (fun n : Nat => Ending.returned (.int .u64 (covTo ls n : Int))) HK.out, HB.out⟩
end Go.Proofs.Ytehnbalbpfmijaa

namespace Go.Proofs.Ytehnbalbpfmijaa
open Go.RowKit
set_option linter.unusedVariables false

/-! ### Rows -/
def rwC (zs : List Int) : Array Value := (zs.map (Value.int .i64)).toArray
theorem rwC_get (zs : List Int) (k : Nat) (h : k < zs.length) : (rwC zs)[k]? = some (.int .i64 (el zs k)) := by simp [rwC, el_get _ _ h, h]
theorem rwC_set (zs : List Int) (k : Nat) (z : Int) : (rwC zs).setIfInBounds k (.int .i64 z) = rwC (zs.set k z) := by
  apply Array.ext'
  simp [rwC, List.map_set]
theorem rep_set (n k : Nat) : (List.replicate n (0 : Int)).set k 0 = List.replicate n 0 := by
  apply List.ext_getElem
  · simp
  · intro i h1 h2; simp
theorem rep_el (n k : Nat) : el (List.replicate n (0 : Int)) k = 0 := by
  unfold el
  rw [List.getD_eq_getElem?_getD, List.getElem?_replicate]
  split <;> rfl
def zeros : List Int := List.replicate 256 0
theorem zeros_len : zeros.length = 256 := List.length_replicate
theorem zeros_set (k : Nat) : zeros.set k 0 = zeros := rep_set 256 k
theorem zeros_el (k : Nat) : el zeros k = 0 := rep_el 256 k
theorem made256 : madeCells #[.int .i64 0] 256 = rwC zeros := by kernel_rfl
/-- A row of 256 integers. -/
def Row256 (w : World) (g : Nat) (zs : List Int) : Prop := w.heap[g]? = some (.cells (rwC zs) 3 (0, 0)) ∧ zs.length = 256
theorem Row256.cell {w : World} {g : Nat} {zs : List Int} (h : Row256 w g zs) {k : Nat} (hk : k < 256) : w.cell? ⟨g, k, none⟩ = some (.int .i64 (el zs k)) := by rw [blk_cell h.1]; exact rwC_get _ _ (by rw [h.2]; exact hk)
theorem Row256.free {w : World} {g : Nat} {zs : List Int} (h : Row256 w g zs) (k : Nat) : w.frozen? ⟨g, k, none⟩ = false := blk_free h.1
theorem Row256.set {w : World} {g : Nat} {zs : List Int} (h : Row256 w g zs) (k : Nat) (z : Int) : Row256 (w.setCell ⟨g, k, none⟩ (.int .i64 z)) g (zs.set k z) := by
  refine ⟨?_, by simpa using h.2⟩
  rw [blk_setCell h.1, rwC_set]
theorem Row256.keep {w w' : World} {g : Nat} {zs : List Int} (h : Row256 w g zs) (hk : w'.heap[g]? = w.heap[g]?) : Row256 w' g zs := ⟨hk.trans h.1, h.2⟩
theorem Row256.made (w : World) : Row256 (w.alloc (.cells (madeCells #[.int .i64 0] 256) 3)) w.heap.size zeros := ⟨by rw [made256]; exact heap_alloc_new w _, zeros_len⟩

/-! ### The count -/
def putZ (nx : List Int) (j : Nat) (n : Int) : List Int := nx.set j (wrap64 (el nx j + n))
def inZ (h b r : Bool) (x : Nat) (n : Int) (k : Nat) (nx : List Int) : List Int :=
  if n = 0 then nx
  else if h then
    (if k.testBit x then putZ nx (k - 2 ^ x) n
     else if r && !k.testBit (x + 1) then putZ (if b then putZ nx (k ||| 2 ^ x) n else nx) (k ||| 2 ^ (x + 1)) n else if b then putZ nx (k ||| 2 ^ x) n else nx)
  else if k.testBit x then nx else putZ nx k n
def stepTo (h b r : Bool) (x : Nat) (zs : List Int) : Nat → List Int
  | 0 => zeros
  | k + 1 => inZ h b r x (el zs k) k (stepTo h b r x zs k)
/-- A set has a cell that may lie outside. -/
def hasC (T x y : Nat) : Bool := decide (x ≤ 7) && decide (y ≤ 7) && hasB T x y
def profTo (T : Nat) : Nat → List Int
  | 0 => zeros.set 0 1
  | i + 1 => stepTo (hasC T (i % 8) (i / 8)) (hasC T (i % 8) (i / 8 + 1)) (hasC T (i % 8 + 1) (i / 8)) (i % 8) (profTo T i) 256
def profZ (T : Nat) : Int := el (profTo T 64) 0

theorem putZ_len (nx : List Int) (j : Nat) (n : Int) : (putZ nx j n).length = nx.length := by simp [putZ]
theorem inZ_len (h b r : Bool) (x : Nat) (n : Int) (k : Nat) (nx : List Int) : (inZ h b r x n k nx).length = nx.length := by
  unfold inZ
  split
  · rfl
  · split
    · split
      · exact putZ_len _ _ _
      · split
        · rw [putZ_len]; split <;> simp [putZ_len]
        · split <;> simp [putZ_len]
    · split <;> simp [putZ_len]
theorem stepTo_len (h b r : Bool) (x : Nat) (zs : List Int) : ∀ k, (stepTo h b r x zs k).length = 256
  | 0 => zeros_len
  | k + 1 => by rw [stepTo, inZ_len]; exact stepTo_len h b r x zs k
theorem profTo_len (T : Nat) : ∀ i, (profTo T i).length = 256
  | 0 => by rw [profTo, List.length_set]; exact zeros_len
  | i + 1 => stepTo_len _ _ _ _ _ _
/-- All numbers are in range. -/
def WOk (zs : List Int) : Prop := ∀ j, wrap64 (el zs j) = el zs j
theorem wrap_wrap (a : Int) : wrap64 (wrap64 a) = wrap64 a := by unfold wrap64; omega
theorem el_set' (zs : List Int) (k : Nat) (z : Int) (j : Nat) : el (zs.set k z) j = if j = k ∧ k < zs.length then z else el zs j := by
  unfold el
  simp only [List.getD_eq_getElem?_getD, List.getElem?_set]
  by_cases e : k = j
  · subst e
    by_cases h : k < zs.length
    · simp [h]
    · simp [h]
  · simp [e, show ¬ j = k from fun h => e h.symm]
theorem WOk.put {nx : List Int} (h : WOk nx) (j : Nat) (n : Int) : WOk (putZ nx j n) := fun i => by
  unfold putZ
  rw [el_set']
  split
  · exact wrap_wrap _
  · exact h i
theorem WOk.zeros : WOk zeros := fun j => by rw [zeros_el]; simp [wrap64]
theorem WOk.in_ {h b r : Bool} {x k : Nat} {n : Int} {nx : List Int} (hn : WOk nx) : WOk (inZ h b r x n k nx) := by
  unfold inZ
  split
  · exact hn
  · split
    · split
      · exact hn.put _ _
      · split
        · refine WOk.put ?_ _ _; split
          · exact hn.put _ _
          · exact hn
        · split
          · exact hn.put _ _
          · exact hn
    · split
      · exact hn
      · exact hn.put _ _
theorem WOk.step (h b r : Bool) (x : Nat) (zs : List Int) : ∀ k, WOk (stepTo h b r x zs k)
  | 0 => WOk.zeros
  | k + 1 => (WOk.step h b r x zs k).in_
theorem WOk.prof (T : Nat) : ∀ i, WOk (profTo T i)
  | 0 => fun j => by
    rw [profTo, el_set']
    split
    · simp [wrap64]
    · rw [zeros_el]; simp [wrap64]
  | i + 1 => WOk.step _ _ _ _ _ _
/-- The program's put: where nothing stands, the number alone. -/
theorem putZ_zero {nx : List Int} {j : Nat} {n : Int} (h : el nx j = 0) (hn : wrap64 n = n) : nx.set j n = putZ nx j n := by
  unfold putZ; rw [h, Int.zero_add, hn]

/-! ### Bits -/
theorem bits_tab : ((List.range 256).all fun k => (List.range 8).all fun x =>
    ((bits .and .i64 (k : Int) ((2 ^ x : Nat) : Int) == 0) == !k.testBit x) && (!k.testBit x || bits .andNot .i64 (k : Int) ((2 ^ x : Nat) : Int) == ((k - 2 ^ x : Nat) : Int)) && (bits .or .i64 (k : Int) ((2 ^ x : Nat) : Int) == ((k ||| 2 ^ x : Nat) : Int)) &&
    (bits .and .i64 ((k : Int) / ((2 ^ x : Nat) : Int)) 1 == if k.testBit x then 1 else 0) && decide (k ||| 2 ^ x < 256)) = true := by decide +kernel
theorem bits_at (k x : Nat) (hk : k < 256) (hx : x ≤ 7) : ((bits .and .i64 (k : Int) ((2 ^ x : Nat) : Int) == 0) = !k.testBit x) ∧ (k.testBit x = true → bits .andNot .i64 (k : Int) ((2 ^ x : Nat) : Int) = ((k - 2 ^ x : Nat) : Int)) ∧
    (bits .or .i64 (k : Int) ((2 ^ x : Nat) : Int) = ((k ||| 2 ^ x : Nat) : Int)) ∧ (bits .and .i64 ((k : Int) / ((2 ^ x : Nat) : Int)) 1 = if k.testBit x then 1 else 0) ∧ k ||| 2 ^ x < 256 := by
  have h := bits_tab
  rw [List.all_eq_true] at h
  have h := h k (by simpa using hk)
  rw [List.all_eq_true] at h
  have h := h x (by simp; omega)
  simp only [Bool.and_eq_true, Bool.or_eq_true, beq_iff_eq, decide_eq_true_eq] at h
  obtain ⟨⟨⟨⟨h1, h2⟩, h3⟩, h4⟩, h5⟩ := h
  refine ⟨h1, fun ht => ?_, h3, h4, h5⟩
  rcases h2 with h2 | h2
  · rw [ht] at h2; simp at h2
  · exact h2
end Go.Proofs.Ytehnbalbpfmijaa
