/- Slices of structs of two integers and a bool: what they read as; one is written; the laws' marks. No function of the program is named here. -/
import Derived.Test.YtiecphhenpapoaaFlat
import Derived.Test.YtiecphhenpapoaaIntS
namespace Go.Proofs.Ytiecphhenpapoaa
open Go.RowKit

abbrev Lk := Int × Int × Bool
abbrev triV (x y : Int) (d : Bool) : Value := .agg #[.int .i64 x, .int .i64 y, .bool d]
def triC (l : Lk) : List Value := [.int .i64 l.1, .int .i64 l.2.1, .bool l.2.2]
theorem triC_one : ∀ (x : Lk), ∀ u ∈ triC x, u.oneCell' = true := fun x u hu => by simp [triC] at hu; rcases hu with rfl | rfl | rfl <;> rfl
def elLink : El Lk := ⟨101, 39, 3, 24, .agg #[.int .i64 0, .int .i64 0, .bool false], triC⟩
theorem okLink : elLink.Ok Try.prog := ⟨Try.underlying39, by kernel_rfl, rfl, by decide, by decide, fun _ => rfl, triC_one⟩
def elDomino : El Lk := ⟨58, 29, 3, 24, .agg #[.int .i64 0, .int .i64 0, .bool false], triC⟩
theorem okDomino : elDomino.Ok Try.prog := ⟨Try.underlying29, by kernel_rfl, rfl, by decide, by decide, fun _ => rfl, triC_one⟩

def lx (ls : List Lk) (j : Nat) : Int := (ls.getD j (0, 0, false)).1
def ly (ls : List Lk) (j : Nat) : Int := (ls.getD j (0, 0, false)).2.1
def ld (ls : List Lk) (j : Nat) : Bool := (ls.getD j (0, 0, false)).2.2
theorem lk_get (ls : List Lk) (j : Nat) (h : j < ls.length) : ls[j]? = some (lx ls j, ly ls j, ld ls j) := by simp [lx, ly, ld, h]

/-- Three cells one behind the other. -/
def Three (w : World) (p : Addr) (x y : Int) (d : Bool) : Prop :=
  w.cell? p = some (.int .i64 x) ∧ w.cell? ⟨p.block, p.off + 1, none⟩ = some (.int .i64 y) ∧ w.cell? ⟨p.block, p.off + 2, none⟩ = some (.bool d)
theorem addTwo (a : Addr) : (⟨a.block, a.off + 2, none⟩ : Addr) = a.add 2 := by simp [Addr.add]
theorem addOne' (a : Addr) : (⟨a.block, a.off + 1, none⟩ : Addr) = a.add 1 := by simp [Addr.add]
theorem RdT.of {E : El Lk} {w : World} {B : Nat} {v : Value} {ls : List Lk} (hs : E.s = 3) (hf : ∀ l, E.f l = triC l) (h : RdF E w B v ls) :
    ∃ A c, v = .slice A ls.length c ∧ ls.length ≤ c ∧ c ≤ maxLen ∧ Hid (∀ j, j < ls.length → ∃ ad, A = some ad ∧ ad.block < B ∧ w.cell? (ad.add (j * 3)) = some (.int .i64 (lx ls j)) ∧
      w.cell? ⟨(ad.add (j * 3)).block, (ad.add (j * 3)).off + 1, none⟩ = some (.int .i64 (ly ls j)) ∧ w.cell? ⟨(ad.add (j * 3)).block, (ad.add (j * 3)).off + 2, none⟩ = some (.bool (ld ls j))) := by
  obtain ⟨A, c, e, h1, h2, h3⟩ := h
  refine ⟨A, c, e, h1, h2, fun j hj => ?_⟩
  obtain ⟨ad, e2, hb, hc⟩ := h3 j _ (lk_get ls j hj)
  rw [hf, hs] at hc
  refine ⟨ad, e2, hb, hc 0 _ rfl, ?_, ?_⟩
  · rw [addOne', addAdd]; exact hc 1 _ rfl
  · rw [addTwo, addAdd]; exact hc 2 _ rfl

/-- Two structs side by side. -/
def Six (w : World) (p q : Addr) (x y : Int) (d : Bool) : Prop :=
  w.cell? p = some (.int .i64 x) ∧ w.cell? ⟨p.block, p.off + 1, none⟩ = some (.int .i64 y) ∧ w.cell? ⟨p.block, p.off + 2, none⟩ = some (.bool d) ∧
  w.cell? q = some (.int .i64 x) ∧ w.cell? ⟨q.block, q.off + 1, none⟩ = some (.int .i64 y) ∧ w.cell? ⟨q.block, q.off + 2, none⟩ = some (.bool d)
theorem Six.below {w w1 : World} {p q : Addr} {x y : Int} {d : Bool} {B : Nat} (hb : Below B w w1) (hp : p.block < B) (hq : q.block < B) (h : Six w p q x y d) : Six w1 p q x y d :=
  ⟨(hb.cell hp).trans h.1, (hb.cell (p := ⟨p.block, p.off + 1, none⟩) hp).trans h.2.1, (hb.cell (p := ⟨p.block, p.off + 2, none⟩) hp).trans h.2.2.1,
    (hb.cell hq).trans h.2.2.2.1, (hb.cell (p := ⟨q.block, q.off + 1, none⟩) hq).trans h.2.2.2.2.1, (hb.cell (p := ⟨q.block, q.off + 2, none⟩) hq).trans h.2.2.2.2.2⟩
/-- The same, in one chain, with what the loop keeps beside. -/
abbrev SixS (w w' : World) (p q : Addr) (x y : Int) (d : Bool) : Prop :=
  w'.cell? p = some (.int .i64 x) ∧ w'.cell? ⟨p.block, p.off + 1, none⟩ = some (.int .i64 y) ∧ w'.cell? ⟨p.block, p.off + 2, none⟩ = some (.bool d) ∧
  w'.cell? q = some (.int .i64 x) ∧ w'.cell? ⟨q.block, q.off + 1, none⟩ = some (.int .i64 y) ∧ w'.cell? ⟨q.block, q.off + 2, none⟩ = some (.bool d) ∧ w.heap.size ≤ w'.heap.size ∧ Below w.heap.size w w'
theorem SixS.mk' {w w' : World} {p q : Addr} {x y : Int} {d : Bool} (h : Six w' p q x y d) (h2 : w.heap.size ≤ w'.heap.size) (h3 : Below w.heap.size w w') : SixS w w' p q x y d :=
  ⟨h.1, h.2.1, h.2.2.1, h.2.2.2.1, h.2.2.2.2.1, h.2.2.2.2.2, h2, h3⟩
theorem keepSix0 {w wr : World} {p q : Addr} {x y : Int} {d : Bool} (hb : Below w.heap.size w wr) (hp : p.block < w.heap.size) (hq : q.block < w.heap.size) (h : Six w p q x y d) : SixS w wr p q x y d := SixS.mk' (h.below hb hp hq) hb.size hb
theorem keepSix {w W0 w1 : World} {p q : Addr} {x y : Int} {d : Bool} (hb : Below W0.heap.size W0 w1) (hp : p.block < w.heap.size) (hq : q.block < w.heap.size) (h : SixS w W0 p q x y d) : SixS w w1 p q x y d := by
  obtain ⟨h1, h2, h3, h4, h5, h6, h7, h8⟩ := h
  exact SixS.mk' (Six.below hb (by omega) (by omega) ⟨h1, h2, h3, h4, h5, h6⟩) (Nat.le_trans h7 hb.size) (h8.trans (hb.mono h7))
theorem drewSix {w W0 : World} {p q : Addr} {x y : Int} {d : Bool} (h : SixS w W0 p q x y d) : SixS w W0.drew p q x y d := by
  obtain ⟨h1, h2, h3, h4, h5, h6, h7, h8⟩ := h
  exact ⟨h1, h2, h3, h4, h5, h6, h7, h8.drew⟩

/-! ### The marks -/
def triMk (k : Int) (i : Nat) : Lk := (k + 3 * (i : Int), k + 3 * (i : Int) + 1, (k + 3 * (i : Int) + 1 + 1) % 3 == 0)
def triIota (k : Int) (n : Nat) : List Lk := (List.range n).map (triMk k)
theorem triIota_length (k : Int) (n : Nat) : (triIota k n).length = n := by simp [triIota]
theorem triIota_x (k : Int) (n j : Nat) (h : j < n) : lx (triIota k n) j = k + 3 * (j : Int) := by simp [lx, triIota, h, triMk]
theorem triIota_y (k : Int) (n j : Nat) (h : j < n) : ly (triIota k n) j = k + 3 * (j : Int) + 1 := by simp [ly, triIota, h, triMk]
theorem triIota_d (k : Int) (n j : Nat) (h : j < n) : ld (triIota k n) j = ((k + 3 * (j : Int) + 1 + 1) % 3 == 0) := by simp [ld, triIota, h, triMk]
def triTo (ls : List Lk) (k : Int) (j : Nat) : List Lk := (List.range ls.length).map fun (i : Nat) => if i < j then triMk k i else ls.getD i (0, 0, false)
theorem triTo_length (ls : List Lk) (k : Int) (j : Nat) : (triTo ls k j).length = ls.length := by simp [triTo]
theorem triTo_zero (ls : List Lk) (k : Int) : triTo ls k 0 = ls := by
  apply List.ext_getElem
  · exact triTo_length _ _ _
  · intro i h1 h2; simp [triTo, h2]
theorem triTo_all (ls : List Lk) (k : Int) : triTo ls k ls.length = triIota k ls.length := by
  unfold triTo triIota
  apply List.map_congr_left
  intro i hi
  rw [if_pos (by simpa using hi)]
theorem triTo_set (ls : List Lk) (k : Int) (j : Nat) (_h : j < ls.length) : (triTo ls k j).set j (k + 3 * (j : Int), k + 3 * (j : Int) + 1, (k + 3 * (j : Int) + 1 + 1) % 3 == 0) = triTo ls k (j + 1) := by
  apply List.ext_getElem
  · simp [triTo]
  · intro i h1 h2
    rw [List.getElem_set]
    by_cases e : j = i
    · subst e; simp [triTo, triMk]
    · by_cases e2 : i < j
      · simp [triTo, e, e2, show i < j + 1 by omega]
      · simp [triTo, e, e2, show ¬ i < j + 1 by omega]

/-- One struct is written, field by field. -/
theorem triStore {P : Program} {E : El Lk} (hE : E.Ok P) (hs : E.s = 3) (hf : ∀ l, E.f l = triC l) {w : World} {lo g cap : Nat} {ls : List Lk} (h : OwnF E w lo (.slice (some ⟨g, 0, none⟩) ls.length cap) ls) {j : Nat} (hj : j < ls.length) :
    w.cell? ⟨g, j * 3, none⟩ = some (.int .i64 (lx ls j)) ∧ w.cell? ⟨g, j * 3 + 1, none⟩ = some (.int .i64 (ly ls j)) ∧ w.cell? ⟨g, j * 3 + 2, none⟩ = some (.bool (ld ls j)) ∧ (∀ o, w.frozen? ⟨g, o, none⟩ = false) ∧
      ∀ (a b : Int) (d : Bool), OwnF E (((w.setCell ⟨g, j * 3, none⟩ (.int .i64 a)).setCell ⟨g, j * 3 + 1, none⟩ (.int .i64 b)).setCell ⟨g, j * 3 + 2, none⟩ (.bool d)) lo (.slice (some ⟨g, 0, none⟩) (ls.set j (a, b, d)).length cap) (ls.set j (a, b, d)) ∧
        w.grownBy (((w.setCell ⟨g, j * 3, none⟩ (.int .i64 a)).setCell ⟨g, j * 3 + 1, none⟩ (.int .i64 b)).setCell ⟨g, j * 3 + 2, none⟩ (.bool d)) (some g) := by
  have hc : ∀ i u, (triC (lx ls j, ly ls j, ld ls j))[i]? = some u → w.cell? ⟨g, j * 3 + i, none⟩ = some u := fun i u hu => by
    have hi : i < 3 := (List.getElem?_eq_some_iff.1 hu).1
    have := World.ownsRow.cellAt h (j * 3 + i) (by rw [hs]; omega)
    rw [this, ← hs, flat_get hE.len ls j i _ (lk_get ls j hj) (by omega), hf]; exact hu
  refine ⟨hc 0 _ rfl, hc 1 _ rfl, hc 2 _ rfl, World.ownsRow.frozenAt h, fun a b d => ?_⟩
  obtain ⟨s1, t1, _⟩ := OwnF.store hE (x' := (a, ly ls j, ld ls j)) (u := .int .i64 a) h (lk_get ls j hj) (i := 0) (by omega) (by rw [hf, hf]; rfl)
  obtain ⟨s2, t2, _⟩ := OwnF.store hE (x' := (a, b, ld ls j)) (x := (a, ly ls j, ld ls j)) (u := .int .i64 b) s1 (j := j) (by simp [hj]) (i := 1) (by omega) (by rw [hf, hf]; rfl)
  obtain ⟨s3, t3, _⟩ := OwnF.store hE (x' := (a, b, d)) (x := (a, b, ld ls j)) (u := .bool d) s2 (j := j) (by simp [hj]) (i := 2) (by omega) (by rw [hf, hf]; rfl)
  rw [hs] at s3 t1 t2 t3
  simp only [List.set_set, Nat.add_zero] at s3 t1 t2 t3
  exact ⟨s3, (t1.trans t2).trans t3⟩
end Go.Proofs.Ytiecphhenpapoaa
