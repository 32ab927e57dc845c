/- A tiling of a square whose cells are moved: plain. -/
import Derived.Test.YtiecphhenpapoaaOver
import Derived.Test.YtiecphhenpapoaaSortL
import Derived.Test.YtiecphhenpapoaaFaults
namespace Go.Proofs.Ytiecphhenpapoaa
open Go.RowKit
set_option linter.unusedVariables false

/-- A cell, turned (t) or mirrored. -/
def mapC (t : Bool) (s x y : Int) : Int × Int := if t then (s - 1 - y, x) else (s - 1 - x, y)
def movL (t : Bool) (s : Int) (l : Lk) : Lk :=
  overL (mapC t s l.1 l.2.1).1 (mapC t s l.1 l.2.1).2 (mapC t s (sndX l.1 l.2.2) (sndY l.2.1 l.2.2)).1 (mapC t s (sndX l.1 l.2.2) (sndY l.2.1 l.2.2)).2
def movTo (t : Bool) (s : Int) (ls : List Lk) : Nat → List Lk
  | 0 => []
  | k + 1 => movTo t s ls k ++ [movL t s (dAt ls k)]
theorem movTo_len (t : Bool) (s : Int) (ls : List Lk) : ∀ k, (movTo t s ls k).length = k
  | 0 => rfl
  | k + 1 => by rw [movTo, List.length_append, movTo_len t s ls k]; rfl
/-- What MirrorTiling and TurnTiling return. -/
def movZ (t : Bool) (s : Int) (ls : List Lk) : List Lk := if fltB s s ls then sortI (movTo t s ls ls.length) ls.length else []
theorem rect_bit_tab : ((List.range 9).all fun s => (List.range 8).all fun x => (List.range 8).all fun y => (setZ (rectZ s s)).testBit (cix x y) == (decide (x < s) && decide (y < s))) = true := by decide +kernel
theorem rect_bit (s x y : Nat) (hs : s ≤ 8) (hx : x ≤ 7) (hy : y ≤ 7) : (setZ (rectZ s s)).testBit (cix x y) = (decide (x < s) && decide (y < s)) := by
  have h := rect_bit_tab
  rw [List.all_eq_true] at h
  have h := h s (by simp; omega)
  rw [List.all_eq_true] at h
  have h := h x (by simp; omega)
  rw [List.all_eq_true] at h
  have h := h y (by simp; omega)
  simpa using h
/-- A domino of a tiling of a square lies in it. -/
theorem tile_in {s : Nat} (hs : s ≤ 8) {ls : List Lk} (h : sTileB (setZ (rectZ s s)) ls = true) {k : Nat} (hk : k < ls.length) :
    domB (lx ls k) (ly ls k) (ld ls k) = true ∧ (0 ≤ lx ls k ∧ lx ls k < s) ∧ (0 ≤ ly ls k ∧ ly ls k < s) ∧ (0 ≤ sndX (lx ls k) (ld ls k) ∧ sndX (lx ls k) (ld ls k) < s) ∧ (0 ≤ sndY (ly ls k) (ld ls k) ∧ sndY (ly ls k) (ld ls k) < s) := by
  unfold sTileB sPartB at h
  rw [Bool.and_eq_true, upFrom_iff] at h
  have hq := h.1 k (Nat.zero_le _) hk
  unfold qAt at hq
  simp only [Bool.and_eq_true] at hq
  obtain ⟨⟨hd, _⟩, ⟨⟨ha, hb⟩, _⟩, _⟩ := hq
  have hd : domB (lx ls k) (ly ls k) (ld ls k) = true := hd
  refine ⟨hd, ?_⟩
  have hr := (domB_iff _ _ _).1 hd
  unfold dAt aI at ha
  unfold dAt bI at hb
  simp only at ha hb
  generalize lx ls k = x at *
  generalize ly ls k = y at *
  generalize ld ls k = d at *
  obtain ⟨⟨h1, h2⟩, h3⟩ := hr
  cases d
  · simp at h3
    rw [rect_bit s _ _ hs (by omega) (by omega)] at ha
    rw [if_neg (by simp), rect_bit s _ _ hs (by omega) (by omega)] at hb
    simp at ha hb
    have e : sndX x false = x + 1 := by unfold sndX wrap64; simp; omega
    have e2 : sndY y false = y := by unfold sndY; simp
    rw [e, e2]
    omega
  · simp at h3
    rw [rect_bit s _ _ hs (by omega) (by omega)] at ha
    rw [if_pos rfl, rect_bit s _ _ hs (by omega) (by omega)] at hb
    simp at ha hb
    have e : sndX x true = x := by unfold sndX; simp
    have e2 : sndY y true = y + 1 := by unfold sndY wrap64; simp; omega
    rw [e, e2]
    omega
theorem snd_next {x y : Int} {d : Bool} (h : domB x y d = true) : (sndX x d = x ∧ sndY y d = y + 1) ∨ (sndX x d = x + 1 ∧ sndY y d = y) := by
  have hr := (domB_iff _ _ _).1 h
  obtain ⟨⟨h1, h2⟩, h3⟩ := hr
  cases d
  · simp at h3
    exact .inr ⟨by unfold sndX wrap64; simp; omega, by unfold sndY; simp⟩
  · simp at h3
    exact .inl ⟨by unfold sndX; simp, by unfold sndY wrap64; simp; omega⟩
theorem next_mov (t : Bool) {s : Nat} (hs : s ≤ 8) {x y x2 y2 : Int} (h1 : 0 ≤ x ∧ x < s) (h2 : 0 ≤ y ∧ y < s) (h3 : 0 ≤ x2 ∧ x2 < s) (h4 : 0 ≤ y2 ∧ y2 < s) (h : (x2 = x ∧ y2 = y + 1) ∨ (x2 = x + 1 ∧ y2 = y)) :
    nextB (mapC t s x y).1 (mapC t s x y).2 (mapC t s x2 y2).1 (mapC t s x2 y2).2 := by
  unfold nextB mapC
  cases t <;> simp <;> omega
theorem tile_short {s : Nat} (hs : s ≤ 8) {ls : List Lk} (h : sTileB (setZ (rectZ s s)) ls = true) : ls.length ≤ 32 := by
  unfold sTileB at h
  rw [Bool.and_eq_true, decide_eq_true_eq] at h
  have key : ∀ R n, cntB R n ≤ n := by
    intro R n
    induction n with
    | zero => simp [cntB]
    | succ n ih => rw [cntB]; split <;> omega
  have := key (setZ (rectZ s s)) 64
  omega
end Go.Proofs.Ytiecphhenpapoaa
