/- The matrix of links: the plain functions of the program and of the reference, and that they agree. -/
import Derived.Test.YtiecphhenpapoaaPosts
import Derived.Test.YtiecphhenpapoaaMat
namespace Go.Proofs.Ytiecphhenpapoaa
open Go.RowKit

def setM (m : List (List Int)) (a b : Nat) (z : Int) : List (List Int) := m.set a ((rw' m a).set b z)
def incM (m : List (List Int)) (a b : Nat) (d : Int) : List (List Int) := setM m a b (wrap64 (elZ m a b + d))
def decM (m : List (List Int)) (a b : Nat) : List (List Int) := setM m a b (wrap64 (elZ m a b - 1))
def lkN (wd : Nat) (l : Lk) : Nat × Nat := ((postA wd l).toNat, (postB wd l).toNat)
def stepT (m : List (List Int)) (p : Nat × Nat) : List (List Int) := decM (decM (incM (incM m p.1 p.1 1) p.2 p.2 1) p.1 p.2) p.2 p.1
def stepS (m : List (List Int)) (p : Nat × Nat) : List (List Int) :=
  if 0 < p.1 then incM (setM (setM (incM m (p.1 - 1) (p.1 - 1) 1) (p.1 - 1) (p.2 - 1) (-1)) (p.2 - 1) (p.1 - 1) (-1)) (p.2 - 1) (p.2 - 1) 1 else incM m (p.2 - 1) (p.2 - 1) 1
def zeroM (n : Nat) : List (List Int) := List.replicate n (List.replicate n 0)
def wholeT (w h : Nat) (ls : List Lk) : List (List Int) := ls.foldl (fun m l => stepT m (lkN w l)) (zeroM (w * h))
def wholeS (w h : Nat) (ls : List Lk) : List (List Int) := ls.foldl (fun m l => stepS m (lkN w l)) (zeroM (w * h - 1))
def cutM (m : List (List Int)) : List (List Int) := (m.drop 1).map (·.drop 1)
def treeZ (w h : Int) : List (List Int) := if gridB w h then wholeS w.toNat h.toNat (linksZ w h) else []
def lkIn (w n : Nat) (l : Lk) : Bool := decide (0 ≤ l.1 ∧ l.1 ≤ 4 ∧ 0 ≤ l.2.1 ∧ l.2.1 ≤ 4 ∧ 0 ≤ postA w l ∧ postA w l < postB w l ∧ postB w l < n)
theorem tree_tab : ((List.range 5).all fun w => (List.range 5).all fun h => w == 0 || h == 0 ||
    ((lkAll w h h).all (lkIn w (w * h)) && (cutM (wholeT w h (lkAll w h h)) == wholeS w h (lkAll w h h)))) = true := by decide +kernel
theorem tree_facts (n m : Nat) (hg : gridB n m = true) : (∀ l ∈ linksZ n m, lkIn n (n * m) l = true) ∧ cutM (wholeT n m (linksZ n m)) = treeZ n m := by
  obtain ⟨⟨a1, a2⟩, a3, a4⟩ := (gridB_iff _ _).1 hg
  have h := all2 tree_tab n m (by omega) (by omega)
  have e : linksZ n m = lkAll n m m := by simp [linksZ, hg]
  simp only [Bool.or_eq_true, beq_iff_eq, Bool.and_eq_true, List.all_eq_true] at h
  rcases h with (h | h) | ⟨h1, h2⟩
  · omega
  · omega
  · rw [e]; refine ⟨h1, ?_⟩
    rw [h2, treeZ, if_pos hg, e]; rfl
theorem foldl_take {α β : Type} (f : β → α → β) (b : β) (ls : List α) (k : Nat) (h : k < ls.length) : (ls.take (k + 1)).foldl f b = f ((ls.take k).foldl f b) ls[k] := by
  rw [List.take_succ_eq_append_getElem h, List.foldl_append]; rfl

theorem rw_replicate (n : Nat) (zs : List Int) (i : Nat) (h : i < n) : rw' (List.replicate n zs) i = zs := by simp [rw', h]
theorem zeroM_shape (n : Nat) : Shape n (zeroM n) := ⟨by simp [zeroM], fun i hi => by rw [zeroM, rw_replicate _ _ _ hi]; simp⟩

/-- One cell of a square matrix: where it lies, and that it may be written. -/
theorem DRel.at {w wr : World} {g cap n : Nat} {m : List (List Int)} (h : DRel w wr g cap n m) {a b : Nat} (ha : a < n) (hb : b < n) :
    ∃ ga ca, n ≤ ca ∧ ca ≤ maxLen ∧ wr.cell? ⟨g, a, none⟩ = some (.slice (some ⟨ga, 0, none⟩) n ca) ∧ wr.cell? ⟨ga, b, none⟩ = some (.int .i64 (elZ m a b)) ∧ wr.frozen? ⟨ga, b, none⟩ = false ∧
      (∀ z, DRel w (wr.setCell ⟨ga, b, none⟩ (.int .i64 z)) g cap n (setM m a b z)) ∧ (∃ cur, wr.heap[ga]? = some (.cells cur 3 (0, 0))) ∧ Below w.heap.size w wr := by
  obtain ⟨ga, ca, r1, r2, r3, r4, r5, r6, r7, r8⟩ := h.row ha
  exact ⟨ga, ca, r3, r4, r1, r5 b hb, r6 b, fun z => r7 wr (Below.refl _ _) b z hb, r8, h.2.1⟩
/-- The same, for a matrix and what lies beside it in blocks of another type. -/
def DLk (w wr : World) (g cap n : Nat) (m : List (List Int)) (B : Nat) (v : Value) (ls : List Lk) : Prop := DRel w wr g cap n m ∧ OwnF elLink wr B v ls
theorem DLk.at {w wr : World} {g cap n B : Nat} {m : List (List Int)} {v : Value} {ls : List Lk} (h : DLk w wr g cap n m B v ls) {a b : Nat} (ha : a < n) (hb : b < n) :
    ∃ ga ca, n ≤ ca ∧ ca ≤ 9223372036854775807 ∧ wr.cell? ⟨g, a, none⟩ = some (.slice (some ⟨ga, 0, none⟩) n ca) ∧ wr.cell? ⟨ga, b, none⟩ = some (.int .i64 (elZ m a b)) ∧ wr.frozen? ⟨ga, b, none⟩ = false ∧
      Hid (∀ z, DLk w (wr.setCell ⟨ga, b, none⟩ (.int .i64 z)) g cap n (setM m a b z) B v ls) := by
  obtain ⟨ga, ca, r1, r2, r3, r4, r5, r6, r7, _⟩ := h.1.at ha hb
  exact ⟨ga, ca, r1, r2, r3, r4, r5, fun z => ⟨r6 z, World.ownsRow.apart h.2 (by decide) r7 b _⟩⟩
theorem DLk.below {w wr w1 : World} {g cap n B : Nat} {m : List (List Int)} {v : Value} {ls : List Lk} (h : DLk w wr g cap n m B v ls) (hb : Below wr.heap.size wr w1) : DLk w w1 g cap n m B v ls := ⟨h.1.below hb, h.2.below hb⟩
end Go.Proofs.Ytiecphhenpapoaa
