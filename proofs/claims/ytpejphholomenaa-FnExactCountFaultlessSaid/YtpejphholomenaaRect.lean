/- A matrix of the call's own, a rows of b numbers. No function of the program is named here. -/
import Derived.Test.YtpejphholomenaaPush
namespace Go.Proofs.Ytpejphholomenaa
open Go.RowKit

def RShape (a b : Nat) (m : List (List Int)) : Prop := m.length = a ∧ ∀ i, i < a → (rw' m i).length = b
def ARel (w wr : World) (g cap a b : Nat) (m : List (List Int)) : Prop := OwnM wr w.heap.size wr.heap.size (.slice (some ⟨g, 0, none⟩) a cap) m ∧ Below w.heap.size w wr ∧ RShape a b m
theorem rshape_set {a b : Nat} {m : List (List Int)} (h : RShape a b m) {i : Nat} (hi : i < a) {zs : List Int} (hz : zs.length = b) : RShape a b (m.set i zs) := by
  refine ⟨by rw [List.length_set]; exact h.1, fun t ht => ?_⟩
  rw [rw_set m i zs t (by rw [h.1]; exact hi)]
  split
  · exact hz
  · exact h.2 t ht
theorem ARel.below {w wr w1 : World} {g cap a b : Nat} {m : List (List Int)} (h : ARel w wr g cap a b m) (hb : Below wr.heap.size wr w1) : ARel w w1 g cap a b m :=
  ⟨(h.1.below hb).more hb.size, h.2.1.trans (hb.mono h.2.1.size), h.2.2⟩
/-- One cell: where it lies, and that it may be written. -/
theorem ARel.at {w wr : World} {g cap a b : Nat} {m : List (List Int)} (h : ARel w wr g cap a b m) {i k : Nat} (hi : i < a) (hk : k < b) :
    ∃ gi ci, b ≤ ci ∧ ci ≤ 9223372036854775807 ∧ wr.cell? ⟨g, i, none⟩ = some (.slice (some ⟨gi, 0, none⟩) b ci) ∧ wr.cell? ⟨gi, k, none⟩ = some (.int .i64 (el (rw' m i) k)) ∧ wr.frozen? ⟨gi, k, none⟩ = false ∧
      Hid (∀ z, ARel w (wr.setCell ⟨gi, k, none⟩ (.int .i64 z)) g cap a b (m.set i ((rw' m i).set k z))) := by
  obtain ⟨h1, h2, h3, h4⟩ := h
  obtain ⟨u, hcell, hown, hbl, hset⟩ := h1.row (j := i) (by rw [h3]; exact hi)
  have hl := h4 i hi
  obtain ⟨gi, ci, rfl, hlo, hlt⟩ := World.ownsRow.form hown (by rw [hl]; omega)
  obtain ⟨A, c, e, q1, q2, _⟩ := hown.rd
  simp only [Value.slice.injEq] at e
  obtain ⟨-, -, rfl⟩ := e
  rw [hl] at q1
  refine ⟨gi, ci, q1, q2, by rw [hl] at hcell; exact hcell, ?_, World.ownsRow.frozenAt hown k, fun z => ⟨?_, h2.setCell (hlo) _, rshape_set ⟨h3, h4⟩ hi (by rw [List.length_set]; exact hl)⟩⟩
  · rw [World.ownsRow.cellAt hown k (by omega), List.getElem?_map, List.getElem?_eq_getElem (by omega), el_get _ _ (by omega)]; rfl
  · have hst := World.ownsRow.stored hown k (.int .i64 z)
    have hown2 : OwnI (wr.setCell ⟨gi, k, none⟩ (.int .i64 z)) w.heap.size (.slice (some ⟨gi, 0, none⟩) (rw' m i).length ci) ((rw' m i).set k z) := by
      unfold OwnI; rw [List.length_set, List.map_set]; exact hst.1
    exact (hset _ _ hown2 hst.2).more (by simp)
theorem MRel.rect {w wr : World} {hi a b : Nat} {v : Value} {m : List (List Int)} (h : MRel w wr hi v m) (hs : RShape a b m) (hn : 0 < a) : ∃ g cap, v = .slice (some ⟨g, 0, none⟩) a cap ∧ a ≤ cap ∧ cap ≤ 9223372036854775807 ∧ ARel w wr g cap a b m := by
  obtain ⟨vs, h1, h2⟩ := h.1
  obtain ⟨g, cap, hv, _, _⟩ := World.ownsRow.form h1 (by rw [hs.1]; exact hn)
  obtain ⟨A, c, e, q1, q2, _⟩ := h.1.rd.open_
  rw [hs.1] at hv e q1
  subst hv
  simp only [Value.slice.injEq] at e
  exact ⟨g, cap, rfl, by rw [e.2.2]; exact q1, by rw [e.2.2]; exact q2, h.1.more h.2.2.1, h.2.1, hs⟩
theorem RetM.mrel {w w1 : World} {v : Value} {hi : Nat} {zss : List (List Int)} (ho : OwnM w1 w.heap.size hi v zss) (hh : hi ≤ w1.heap.size) (hb : Below w.heap.size w w1) : MRel w w1 w1.heap.size v zss := ⟨ho.more hh, hb, Nat.le_refl _, hb.size⟩
end Go.Proofs.Ytpejphholomenaa
