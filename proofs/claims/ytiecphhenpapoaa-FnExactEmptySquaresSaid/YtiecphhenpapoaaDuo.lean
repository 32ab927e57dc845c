/- Slices of structs of two integers: what they read as; one is written; the laws' marks. No function of the program is named here. -/
import Derived.Test.YtiecphhenpapoaaFlat
import Derived.Test.YtiecphhenpapoaaIntS
namespace Go.Proofs.Ytiecphhenpapoaa
open Go.RowKit

def duoC (l : Int × Int) : List Value := [.int .i64 l.1, .int .i64 l.2]
theorem duoC_one : ∀ (x : Int × Int), ∀ u ∈ duoC x, u.oneCell' = true := fun x u hu => by simp [duoC] at hu; rcases hu with rfl | rfl <;> rfl
def elCell : El (Int × Int) := ⟨56, 48, 2, 16, .agg #[.int .i64 0, .int .i64 0], duoC⟩
theorem okCell : elCell.Ok Try.prog := ⟨Try.underlying48, by kernel_rfl, rfl, by decide, by decide, fun _ => rfl, duoC_one⟩
def dx (ls : List (Int × Int)) (j : Nat) : Int := (ls.getD j (0, 0)).1
def dy (ls : List (Int × Int)) (j : Nat) : Int := (ls.getD j (0, 0)).2
theorem duo_get (ls : List (Int × Int)) (j : Nat) (h : j < ls.length) : ls[j]? = some (dx ls j, dy ls j) := by simp [dx, dy, h]
theorem addOne2 (a : Addr) : (⟨a.block, a.off + 1, none⟩ : Addr) = a.add 1 := by simp [Addr.add]
theorem RdD.of {E : El (Int × Int)} {w : World} {B : Nat} {v : Value} {ls : List (Int × Int)} (hs : E.s = 2) (hf : ∀ l, E.f l = duoC l) (h : RdF E w B v ls) :
    ∃ A c, v = .slice A ls.length c ∧ ls.length ≤ c ∧ c ≤ maxLen ∧ Hid (∀ j, j < ls.length → ∃ ad, A = some ad ∧ ad.block < B ∧ w.cell? (ad.add (j * 2)) = some (.int .i64 (dx ls j)) ∧
      w.cell? ⟨(ad.add (j * 2)).block, (ad.add (j * 2)).off + 1, none⟩ = some (.int .i64 (dy ls j))) := by
  obtain ⟨A, c, e, h1, h2, h3⟩ := h
  refine ⟨A, c, e, h1, h2, fun j hj => ?_⟩
  obtain ⟨ad, e2, hb, hc⟩ := h3 j _ (duo_get ls j hj)
  rw [hf, hs] at hc
  refine ⟨ad, e2, hb, hc 0 _ rfl, ?_⟩
  rw [addOne2, addAdd]; exact hc 1 _ rfl

abbrev FourS (w w' : World) (p q : Addr) (x y : Int) : Prop :=
  w'.cell? p = some (.int .i64 x) ∧ w'.cell? ⟨p.block, p.off + 1, none⟩ = some (.int .i64 y) ∧
  w'.cell? q = some (.int .i64 x) ∧ w'.cell? ⟨q.block, q.off + 1, none⟩ = some (.int .i64 y) ∧ w.heap.size ≤ w'.heap.size ∧ Below w.heap.size w w'
theorem keepFourB {w W0 w1 : World} {p q : Addr} {x y : Int} (hb : Below W0.heap.size W0 w1) (hp : p.block < w.heap.size) (hq : q.block < w.heap.size) (h : FourS w W0 p q x y) : FourS w w1 p q x y := by
  obtain ⟨h1, h2, h4, h5, h7, h8⟩ := h
  exact ⟨(hb.cell (by omega)).trans h1, (hb.cell (p := ⟨p.block, p.off + 1, none⟩) (by show p.block < _; omega)).trans h2, (hb.cell (by omega)).trans h4, (hb.cell (p := ⟨q.block, q.off + 1, none⟩) (by show q.block < _; omega)).trans h5, Nat.le_trans h7 hb.size, h8.trans (hb.mono h7)⟩
theorem drewFourB {w W0 : World} {p q : Addr} {x y : Int} (h : FourS w W0 p q x y) : FourS w W0.drew p q x y := by
  obtain ⟨h1, h2, h4, h5, h7, h8⟩ := h
  exact ⟨h1, h2, h4, h5, h7, h8.drew⟩

/-! ### The marks -/
def duoMk (k : Int) (i : Nat) : Int × Int := (k + 2 * (i : Int), k + 2 * (i : Int) + 1)
def duoIota (k : Int) (n : Nat) : List (Int × Int) := (List.range n).map (duoMk k)
theorem duoIota_length (k : Int) (n : Nat) : (duoIota k n).length = n := by simp [duoIota]
theorem duoIota_x (k : Int) (n j : Nat) (h : j < n) : dx (duoIota k n) j = k + 2 * (j : Int) := by simp [dx, duoIota, h, duoMk]
theorem duoIota_y (k : Int) (n j : Nat) (h : j < n) : dy (duoIota k n) j = k + 2 * (j : Int) + 1 := by simp [dy, duoIota, h, duoMk]
def duoTo (ls : List (Int × Int)) (k : Int) (j : Nat) : List (Int × Int) := (List.range ls.length).map fun (i : Nat) => if i < j then duoMk k i else ls.getD i (0, 0)
theorem duoTo_length (ls : List (Int × Int)) (k : Int) (j : Nat) : (duoTo ls k j).length = ls.length := by simp [duoTo]
theorem duoTo_zero (ls : List (Int × Int)) (k : Int) : duoTo ls k 0 = ls := by
  apply List.ext_getElem
  · exact duoTo_length _ _ _
  · intro i h1 h2; simp [duoTo, h2]
theorem duoTo_all (ls : List (Int × Int)) (k : Int) : duoTo ls k ls.length = duoIota k ls.length := by
  unfold duoTo duoIota
  apply List.map_congr_left
  intro i hi
  rw [if_pos (by simpa using hi)]
theorem duoTo_set (ls : List (Int × Int)) (k : Int) (j : Nat) (_h : j < ls.length) : (duoTo ls k j).set j (k + 2 * (j : Int), k + 2 * (j : Int) + 1) = duoTo ls k (j + 1) := by
  apply List.ext_getElem
  · simp [duoTo]
  · intro i h1 h2
    rw [List.getElem_set]
    by_cases e : j = i
    · subst e; simp [duoTo, duoMk]
    · by_cases e2 : i < j
      · simp [duoTo, e, e2, show i < j + 1 by omega]
      · simp [duoTo, e, e2, show ¬ i < j + 1 by omega]
/-- One struct is written, field by field. -/
theorem duoStore {P : Program} {E : El (Int × Int)} (hE : E.Ok P) (hs : E.s = 2) (hf : ∀ l, E.f l = duoC l) {w : World} {lo g cap : Nat} {ls : List (Int × Int)} (h : OwnF E w lo (.slice (some ⟨g, 0, none⟩) ls.length cap) ls) {j : Nat} (hj : j < ls.length) :
    w.cell? ⟨g, j * 2, none⟩ = some (.int .i64 (dx ls j)) ∧ w.cell? ⟨g, j * 2 + 1, none⟩ = some (.int .i64 (dy ls j)) ∧ (∀ o, w.frozen? ⟨g, o, none⟩ = false) ∧
      ∀ (a b : Int), OwnF E ((w.setCell ⟨g, j * 2, none⟩ (.int .i64 a)).setCell ⟨g, j * 2 + 1, none⟩ (.int .i64 b)) lo (.slice (some ⟨g, 0, none⟩) (ls.set j (a, b)).length cap) (ls.set j (a, b)) ∧
        w.grownBy ((w.setCell ⟨g, j * 2, none⟩ (.int .i64 a)).setCell ⟨g, j * 2 + 1, none⟩ (.int .i64 b)) (some g) := by
  have hc : ∀ i u, (duoC (dx ls j, dy ls j))[i]? = some u → w.cell? ⟨g, j * 2 + i, none⟩ = some u := fun i u hu => by
    have hi : i < 2 := (List.getElem?_eq_some_iff.1 hu).1
    have := World.ownsRow.cellAt h (j * 2 + i) (by rw [hs]; omega)
    rw [this, ← hs, flat_get hE.len ls j i _ (duo_get ls j hj) (by omega), hf]; exact hu
  refine ⟨hc 0 _ rfl, hc 1 _ rfl, World.ownsRow.frozenAt h, fun a b => ?_⟩
  obtain ⟨s1, t1, _⟩ := OwnF.store hE (x' := (a, dy ls j)) (u := .int .i64 a) h (duo_get ls j hj) (i := 0) (by omega) (by rw [hf, hf]; rfl)
  obtain ⟨s2, t2, _⟩ := OwnF.store hE (x' := (a, b)) (x := (a, dy ls j)) (u := .int .i64 b) s1 (j := j) (by simp [hj]) (i := 1) (by omega) (by rw [hf, hf]; rfl)
  rw [hs] at s2 t1 t2
  simp only [List.set_set, Nat.add_zero] at s2 t1 t2
  exact ⟨s2, t1.trans t2⟩
end Go.Proofs.Ytiecphhenpapoaa
