/- A square matrix of the call's own: its rows, two of them, a store. No function of the program is named here. -/
import Derived.Test.YtiecphhenpapoaaDetLaw
import Derived.Deep.RegionHeld3
import Derived.BigRegion
namespace Go.Proofs.Ytiecphhenpapoaa
open Go.RowKit

/-- The copy that determinant works on. -/
def DRel (w wr : World) (g cap n : Nat) (m : List (List Int)) : Prop := OwnD wr w.heap.size (.slice (some ⟨g, 0, none⟩) n cap) m ∧ Below w.heap.size w wr ∧ Shape n m
theorem DRel.store {w wr : World} {g cap n : Nat} {m : List (List Int)} (h : DRel w wr g cap n m) {gi j : Nat} {v : Value} {m' : List (List Int)} (hg : w.heap.size ≤ gi) (ho : OwnD (wr.setCell ⟨gi, j, none⟩ v) w.heap.size (.slice (some ⟨g, 0, none⟩) n cap) m') (hs : Shape n m') :
    DRel w (wr.setCell ⟨gi, j, none⟩ v) g cap n m' := ⟨ho, h.2.1.setCell hg _, hs⟩
theorem DRel.below {w wr w1 : World} {g cap n : Nat} {m : List (List Int)} (h : DRel w wr g cap n m) (hb : Below wr.heap.size wr w1) : DRel w w1 g cap n m := ⟨h.1.below hb, h.2.1.trans (hb.mono h.2.1.size), h.2.2⟩
theorem DRel.row {w wr : World} {g cap n : Nat} {m : List (List Int)} (h : DRel w wr g cap n m) {i : Nat} (hi : i < n) :
    ∃ gi ci, wr.cell? ⟨g, i, none⟩ = some (.slice (some ⟨gi, 0, none⟩) n ci) ∧ w.heap.size ≤ gi ∧ n ≤ ci ∧ ci ≤ maxLen ∧ (∀ j, j < n → wr.cell? ⟨gi, j, none⟩ = some (.int .i64 (elZ m i j))) ∧
      (∀ j, wr.frozen? ⟨gi, j, none⟩ = false) ∧ (∀ w', Below wr.heap.size wr w' → ∀ j z, j < n → DRel w (w'.setCell ⟨gi, j, none⟩ (.int .i64 z)) g cap n (m.set i ((rw' m i).set j z))) ∧
      ∃ cur, wr.heap[gi]? = some (.cells cur 3 (0, 0)) := by
  have h0 := h
  obtain ⟨h1, h2, h3, h4⟩ := h
  have hl := h4 i hi
  obtain ⟨gi, ci, c1, c2, c3, c4, c5, c6, c7, c8⟩ := h1.row (i := i) (by omega) (by omega)
  rw [hl] at c1 c3 c5 c7
  refine ⟨gi, ci, c1, c2, c3, c4, c5, c6, fun w' hb j z hj => ?_, c8⟩
  obtain ⟨d1, d2, d3, d4⟩ := h0.below hb
  obtain ⟨gj, cj, e1, e2, e3, e4, e5, e6, e7, _⟩ := d1.row (i := i) (by omega) (by omega)
  have hgl : g < wr.heap.size := World.ownsRow.lt h1.choose_spec.1 g rfl |>.2
  have hc := (hb.cell (p := ⟨g, i, none⟩) hgl).trans c1
  rw [e1] at hc
  obtain ⟨rfl⟩ : gj = gi := by simp only [Option.some.injEq, Value.slice.injEq, Addr.mk.injEq] at hc; exact hc.1.1
  exact ⟨e7 j z (by omega), d2.setCell e2 _, Shape.set ⟨d3, d4⟩ hi (by rw [List.length_set]; exact d4 i hi)⟩

/-- Two rows lie apart, and apart from the outer slice; a store into the one is seen in no cell beside its own. -/
theorem DRel.pair {w wr : World} {g cap n : Nat} {m : List (List Int)} (h : DRel w wr g cap n m) {i k j : Nat} (hi : i < n) (hk : k < n) (hj : j < n) (hik : i ≠ k) (hjk : j ≠ k) :
    ∃ gi ci gk ck, n ≤ ci ∧ ci ≤ maxLen ∧ n ≤ ck ∧ ck ≤ maxLen ∧
      (wr.cell? ⟨g, i, none⟩ = some (.slice (some ⟨gi, 0, none⟩) n ci) ∧ wr.cell? ⟨g, k, none⟩ = some (.slice (some ⟨gk, 0, none⟩) n ck) ∧ wr.cell? ⟨gi, k, none⟩ = some (.int .i64 (elZ m i k)) ∧
        wr.cell? ⟨gk, k, none⟩ = some (.int .i64 (elZ m k k)) ∧ wr.cell? ⟨gk, j, none⟩ = some (.int .i64 (elZ m k j))) ∧
      wr.cell? ⟨gi, j, none⟩ = some (.int .i64 (elZ m i j)) ∧ wr.frozen? ⟨gi, j, none⟩ = false ∧
      ∀ z, (((wr.setCell ⟨gi, j, none⟩ (.int .i64 z)).drew.cell? ⟨g, i, none⟩ = some (.slice (some ⟨gi, 0, none⟩) n ci) ∧ (wr.setCell ⟨gi, j, none⟩ (.int .i64 z)).drew.cell? ⟨g, k, none⟩ = some (.slice (some ⟨gk, 0, none⟩) n ck) ∧ (wr.setCell ⟨gi, j, none⟩ (.int .i64 z)).drew.cell? ⟨gi, k, none⟩ = some (.int .i64 (elZ m i k)) ∧
        (wr.setCell ⟨gi, j, none⟩ (.int .i64 z)).drew.cell? ⟨gk, k, none⟩ = some (.int .i64 (elZ m k k)) ∧ (wr.setCell ⟨gi, j, none⟩ (.int .i64 z)).drew.cell? ⟨gk, j, none⟩ = some (.int .i64 (elZ m k j))) ∧
        DRel w (wr.setCell ⟨gi, j, none⟩ (.int .i64 z)).drew g cap n (m.set i ((rw' m i).set j z))) := by
  obtain ⟨⟨vs, h1, h2, h3, h4⟩, hb, hs1, hs2⟩ := id h
  obtain ⟨gi, ci, r1, r2, r3, r4, r5, r6, r7, _⟩ := h.row hi
  obtain ⟨gk, ck, s1, s2, s3, s4, s5, s6, s7, _⟩ := h.row hk
  have hl : vs.length = m.length := by have := h1.1; omega
  have gvi : vs[i]? = some (.slice (some ⟨gi, 0, none⟩) n ci) := by rw [← World.ownsRow.cellAt (by obtain ⟨rfl, _⟩ := OwnD.slice h.1 (by omega); exact h1) i (by omega)]; exact r1
  have gvk : vs[k]? = some (.slice (some ⟨gk, 0, none⟩) n ck) := by rw [← World.ownsRow.cellAt (by obtain ⟨rfl, _⟩ := OwnD.slice h.1 (by omega); exact h1) k (by omega)]; exact s1
  have n1 : g ≠ gi := fun e => h4 i _ gi gvi rfl (by rw [e]; rfl)
  have n2 : gi ≠ gk := fun e => h3 i k _ _ gi hik gvi gvk rfl (by rw [e]; rfl)
  have hgl : g < wr.heap.size := (World.ownsRow.lt h1 g rfl).2
  have hkl : gk < wr.heap.size := (World.ownsRow.lt (h2 k _ gvk) gk rfl).2
  refine ⟨gi, ci, gk, ck, r3, r4, s3, s4, ⟨r1, s1, r5 k hk, s5 k hk, s5 j hj⟩, r5 j hj, r6 j, fun z => ?_⟩
  have hst : wr.grownBy (wr.setCell ⟨gi, j, none⟩ (.int .i64 z)) (some gi) := by
    have ho := h2 i _ gvi
    unfold OwnI at ho
    rw [hs2 i hi] at ho
    exact (World.ownsRow.stored ho j _).2
  have hd := r7 wr (Below.refl _ _) j z hj
  have hfar : ∀ b o, b < wr.heap.size → b ≠ gi → (wr.setCell ⟨gi, j, none⟩ (.int .i64 z)).cell? ⟨b, o, none⟩ = wr.cell? ⟨b, o, none⟩ := fun b o hb hne => hst.cell_far ⟨b, o, none⟩ hb (fun e => hne (Option.some.inj e))
  refine ⟨⟨(hfar g i hgl n1).trans r1, (hfar g k hgl n1).trans s1, ?_, (hfar gk k hkl (Ne.symm n2)).trans (s5 k hk), (hfar gk j hkl (Ne.symm n2)).trans (s5 j hj)⟩, hd.below ((Below.refl _ _).drew)⟩
  obtain ⟨gj, cj, e1, _, _, _, e5, _⟩ := hd.row hi
  rw [hfar g i hgl n1, r1] at e1
  obtain rfl : gi = gj := by simp only [Option.some.injEq, Value.slice.injEq, Addr.mk.injEq] at e1; exact e1.1.1
  have e6 := e5 k hk
  have he : elZ (m.set i ((rw' m i).set j z)) i k = elZ m i k := by
    unfold elZ
    rw [rw_set m i _ i (by omega), if_pos rfl]
    unfold el
    rw [List.getD_eq_getElem?_getD, List.getD_eq_getElem?_getD, List.getElem?_set, if_neg hjk]
  rw [he] at e6
  exact e6

theorem DRel.swap {w wr : World} {g cap n : Nat} {m : List (List Int)} (h : DRel w wr g cap n m) {i k : Nat} (hi : i < n) (hk : k < n) (hne : i ≠ k) {u1 u2 : Value}
    (c1 : wr.cell? ⟨g, i, none⟩ = some u1) (c2 : wr.cell? ⟨g, k, none⟩ = some u2) :
    DRel w ((wr.setCell ⟨g, i, none⟩ u2).setCell ⟨g, k, none⟩ u1) g cap n (swp m i k) ∧ ∀ j, wr.frozen? ⟨g, j, none⟩ = false := by
  obtain ⟨h1, h2, h3⟩ := h
  obtain ⟨s1, s2⟩ := h1.swap (i := i) (k := k) (by rw [h3.1]; exact hi) (by rw [h3.1]; exact hk) hne c1 c2
  have hg := (h1.slice (by rw [h3.1]; omega)).2
  exact ⟨⟨s1, (h2.setCell hg _).setCell hg _, h3.swp hi hk⟩, s2⟩
end Go.Proofs.Ytiecphhenpapoaa
