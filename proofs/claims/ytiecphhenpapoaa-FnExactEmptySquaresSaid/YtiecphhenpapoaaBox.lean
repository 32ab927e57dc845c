/- Contracts of BoxOk and BoxCount of the program and of the reference. -/
import Derived.Test.YtiecphhenpapoaaInts
namespace Go.Proofs.Ytiecphhenpapoaa
open Go.RowKit

def boxB (a b c : Int) : Bool := inB a 1 3 && inB b 1 3 && inB c 1 3
theorem boxB_iff (a b c : Int) : boxB a b c = true ↔ (1 ≤ a ∧ a ≤ 3) ∧ (1 ≤ b ∧ b ≤ 3) ∧ 1 ≤ c ∧ c ≤ 3 := by
  simp [boxB, inB_iff, and_assoc]

end Go.Proofs.Ytiecphhenpapoaa

namespace Go.Proofs.Ytiecphhenpapoaa

def fallB (zs : List Int) (k : Nat) : Bool := decide (0 < k) && decide (el zs (k - 1) < el zs k)
def overB (up zs : List Int) (i k : Nat) : Bool := decide (0 < i) && decide (el up k < el zs k)
/-- One row of a heap as the program looks at it. -/
def hrowB (b c : Int) (up zs : List Int) (i : Nat) : Bool :=
  decide ((zs.length : Int) = b) && allB zs 0 c && upFrom (fun k => !(fallB zs k || overB up zs i k)) 0 zs.length
def heapB (a b c : Int) (zss : List (List Int)) : Bool :=
  boxB a b c && decide ((zss.length : Int) = a) && upFrom (fun i => hrowB b c (rw' zss (i - 1)) (rw' zss i) i) 0 zss.length
/-- A row as the reference looks at it. -/
def rowB (b c : Int) (zs : List Int) : Bool :=
  upFrom (fun k => inB (el zs k) 0 c && !fallB zs k) 0 zs.length && (inB b 1 3 && inB c 1 3 && decide ((zs.length : Int) = b))
/-- The rows of paths that do not touch. -/
def apartB (b c : Int) (up low : List Int) : Bool := rowB b c up && rowB b c low && upFrom (fun k => !decide (el up k < el low k)) 0 b.toNat

theorem allB_up (zs : List Int) (a b : Int) : allB zs a b = true ↔ ∀ j, j < zs.length → inB (el zs j) a b = true := by
  unfold allB
  rw [List.all_eq_true]
  constructor
  · intro h j hj; rw [el_get zs j hj]; exact h _ (List.getElem_mem hj)
  · intro h z hz
    obtain ⟨j, hj, rfl⟩ := List.getElem_of_mem hz
    rw [← el_get zs j hj]; exact h j hj
theorem fallB_iff (zs : List Int) (k : Nat) : fallB zs k = false ↔ (0 < k → el zs k ≤ el zs (k - 1)) := by
  rw [fallB, Bool.and_eq_false_iff, decide_eq_false_iff_not, decide_eq_false_iff_not]; omega
theorem overB_iff (up zs : List Int) (i k : Nat) : overB up zs i k = false ↔ (0 < i → el zs k ≤ el up k) := by
  rw [overB, Bool.and_eq_false_iff, decide_eq_false_iff_not, decide_eq_false_iff_not]; omega
theorem hrowB_iff (b c : Int) (up zs : List Int) (i : Nat) : hrowB b c up zs i = true ↔
    (zs.length : Int) = b ∧ (∀ j, j < zs.length → 0 ≤ el zs j ∧ el zs j ≤ c) ∧ ∀ j, j < zs.length → (0 < j → el zs j ≤ el zs (j - 1)) ∧ (0 < i → el zs j ≤ el up j) := by
  simp only [hrowB, Bool.and_eq_true, decide_eq_true_eq, allB_up, inB_iff, upFrom_iff, Bool.not_eq_true', Bool.or_eq_false_iff, fallB_iff, overB_iff, Nat.zero_le, true_implies, and_assoc]
theorem rowB_iff (b c : Int) (zs : List Int) : rowB b c zs = true ↔
    (∀ j, j < zs.length → (0 ≤ el zs j ∧ el zs j ≤ c) ∧ (0 < j → el zs j ≤ el zs (j - 1))) ∧ (1 ≤ b ∧ b ≤ 3) ∧ (1 ≤ c ∧ c ≤ 3) ∧ (zs.length : Int) = b := by
  simp only [rowB, Bool.and_eq_true, decide_eq_true_eq, inB_iff, upFrom_iff, Bool.not_eq_true', fallB_iff, Nat.zero_le, true_implies, and_assoc]
theorem apartB_iff (b c : Int) (up low : List Int) : apartB b c up low = true ↔ rowB b c up = true ∧ rowB b c low = true ∧ ∀ j, j < b.toNat → el low j ≤ el up j := by
  simp only [apartB, Bool.and_eq_true, upFrom_iff, Bool.not_eq_true', decide_eq_false_iff_not, Int.not_lt, Nat.zero_le, true_implies, and_assoc]
theorem heapB_iff (a b c : Int) (zss : List (List Int)) : heapB a b c zss = true ↔
    ((1 ≤ a ∧ a ≤ 3) ∧ (1 ≤ b ∧ b ≤ 3) ∧ 1 ≤ c ∧ c ≤ 3) ∧ (zss.length : Int) = a ∧ ∀ i, i < zss.length → hrowB b c (rw' zss (i - 1)) (rw' zss i) i = true := by
  simp only [heapB, Bool.and_eq_true, boxB_iff, decide_eq_true_eq, upFrom_iff, Nat.zero_le, true_implies, and_assoc]
theorem apart_heap (b c : Int) (up low : List Int) : heapB 2 b c [up, low] = apartB b c up low := by
  rw [Bool.eq_iff_iff, heapB_iff, apartB_iff, rowB_iff, rowB_iff]
  constructor
  · rintro ⟨⟨_, hb, hc⟩, _, h⟩
    obtain ⟨l0, a0, f0⟩ := (hrowB_iff _ _ _ _ _).1 (h 0 (by simp))
    obtain ⟨l1, a1, f1⟩ := (hrowB_iff _ _ _ _ _).1 (h 1 (by simp))
    change (up.length : Int) = b at l0
    change (low.length : Int) = b at l1
    refine ⟨⟨fun j hj => ⟨a0 j hj, (f0 j hj).1⟩, hb, hc, l0⟩, ⟨fun j hj => ⟨a1 j hj, (f1 j hj).1⟩, hb, hc, l1⟩, fun j hj => (f1 j (show j < low.length by omega)).2 (by omega)⟩
  · rintro ⟨⟨p0, hb, hc, l0⟩, ⟨p1, _, _, l1⟩, hj⟩
    refine ⟨⟨by omega, hb, hc⟩, rfl, fun i hi => ?_⟩
    rw [hrowB_iff]
    match i, hi with
    | 0, _ => exact ⟨l0, fun j h => (p0 j h).1, fun j h => ⟨(p0 j h).2, fun h' => absurd h' (Nat.lt_irrefl 0)⟩⟩
    | 1, _ => exact ⟨l1, fun j h => (p1 j h).1, fun j h => ⟨(p1 j h).2, fun _ => hj j (by have h2 : j < low.length := h; omega)⟩⟩
    | n + 2, hi => exact absurd hi (by simp)
theorem one_heap (b c : Int) (zs : List Int) : heapB 1 b c [zs] = rowB b c zs := by
  rw [Bool.eq_iff_iff, heapB_iff, rowB_iff]
  constructor
  · rintro ⟨⟨_, hb, hc⟩, _, h⟩
    obtain ⟨l0, a0, f0⟩ := (hrowB_iff _ _ _ _ _).1 (h 0 (by simp))
    exact ⟨fun j hj => ⟨a0 j hj, (f0 j hj).1⟩, hb, hc, l0⟩
  · rintro ⟨p0, hb, hc, l0⟩
    refine ⟨⟨by omega, hb, hc⟩, rfl, fun i hi => ?_⟩
    rw [hrowB_iff]
    match i, hi with
    | 0, _ => exact ⟨l0, fun j h => (p0 j h).1, fun j h => ⟨(p0 j h).2, fun h' => absurd h' (Nat.lt_irrefl 0)⟩⟩
    | n + 1, hi => exact absurd hi (by simp)
theorem seven : ∀ b1 b2 b3 b4 : Bool, (b1 = true ∧ b2 = true) ∨ (b1 = false ∧ b3 = false) ∨ (b1 = false ∧ b3 = true ∧ b4 = true) ∨ (b1 = false ∧ b3 = true ∧ b4 = false) ∨
    (b1 = true ∧ b2 = false ∧ b3 = false) ∨ (b1 = true ∧ b2 = false ∧ b3 = true ∧ b4 = true) ∨ (b1 = true ∧ b2 = false ∧ b3 = true ∧ b4 = false) := by decide
end Go.Proofs.Ytiecphhenpapoaa

namespace Go.Proofs.Ytiecphhenpapoaa
open Go.RowKit

theorem Rd.el {w : World} {B : Nat} {A : Option Addr} {zs : List Int} (h : Rd w B A (zs.map (Value.int .i64))) {k : Nat} (hk : k < zs.length) :
    ∃ ad, A = some ad ∧ ad.block < B ∧ w.cell? (ad.add k) = some (.int .i64 (el zs k)) := by
  rw [el_get zs k hk]; exact h.int hk

/-- v is a slice of slices that reads as zss. -/
def RdII (w : World) (B : Nat) (v : Value) (zss : List (List Int)) : Prop :=
  ∃ A c vs, v = .slice A zss.length c ∧ zss.length ≤ c ∧ c ≤ maxLen ∧ vs.length = zss.length ∧ Rd w B A vs ∧ ∀ i u, vs[i]? = some u → RdI w B u (rw' zss i)
theorem RdII.below {w w' : World} {B : Nat} {v : Value} {zss : List (List Int)} (h : RdII w B v zss) (hb : Below B w w') : RdII w' B v zss := by
  obtain ⟨A, c, vs, e, h1, h2, h3, h4, h5⟩ := h
  exact ⟨A, c, vs, e, h1, h2, h3, h4.below hb, fun i u hu => (h5 i u hu).below hb⟩
theorem RdII.more {w : World} {B B' : Nat} {v : Value} {zss : List (List Int)} (h : RdII w B v zss) (hb : B ≤ B') : RdII w B' v zss := by
  obtain ⟨A, c, vs, e, h1, h2, h3, h4, h5⟩ := h
  exact ⟨A, c, vs, e, h1, h2, h3, h4.more hb, fun i u hu => (h5 i u hu).more hb⟩
/-- The row at an index. -/
def RowAt (w : World) (B : Nat) (A : Option Addr) (zss : List (List Int)) : Prop :=
  ∀ i, i < zss.length → ∃ ad u, A = some ad ∧ ad.block < B ∧ w.cell? (ad.add i) = some u ∧ RdI w B u (rw' zss i)
theorem RdII.open_ {w : World} {B : Nat} {v : Value} {zss : List (List Int)} (h : RdII w B v zss) : ∃ A c, v = .slice A zss.length c ∧ zss.length ≤ c ∧ c ≤ maxLen ∧ RowAt w B A zss := by
  obtain ⟨A, c, vs, e, h1, h2, h3, h4, h5⟩ := h
  refine ⟨A, c, e, h1, h2, fun i hi => ?_⟩
  obtain ⟨ad, ha, hb, hc⟩ := h4.at (k := i) (by omega)
  exact ⟨ad, vs[i]'(by omega), ha, hb, hc, h5 i _ (List.getElem?_eq_getElem (by omega))⟩

end Go.Proofs.Ytiecphhenpapoaa
