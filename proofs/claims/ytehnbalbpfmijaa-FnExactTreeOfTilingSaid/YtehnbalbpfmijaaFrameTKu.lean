/- What the claim's walk rests on: parts FrameT. -/
import Derived.Test.YtehnbalbpfmijaaFrame
import Derived.Test.YtehnbalbpfmijaaKu1
namespace Go.Proofs.Ytehnbalbpfmijaa
open Go.ChangeShapes Go.WideShapes Go.ChangeAt Go.RowKit Go.Deep

section
variable {H : Type} {enc : TypeId × Value → H} {P : Program} {w : World} {t e ti tb : TypeId} {v : Value} {d : DataW H} {p : List MemPlace}
theorem open_tripF {E : El Lk} (hs : E.s = 3) (hE : ∀ l, E.f l = triC l) {f0 f1 f2 : Field} (ht : P.underlying t = some (.slice e)) (he : P.underlying e = some (.struct #[f0, f1, f2]))
    (hoff : (f0.offset, f1.offset, f2.offset, f0.type, f1.type, f2.type, P.cellsOf ti, P.cellsOf tb) = (0, 1, 2, ti, ti, tb, 1, 1)) (ce : P.cellsOf e = 3) (i0 : P.underlying ti = some (.int .i64)) (ib : P.underlying tb = some .bool) (hv : Value.okWide P w .any 0 t v)
    (h : DataW.Trod enc P w 0 (fun _ => true) true t v d p) : ∃ ls, RdF E w w.heap.size v ls := by
  simp only [Prod.mk.injEq] at hoff
  obtain ⟨o0, o1, o2, t0, t1, t2, ci, cb⟩ := hoff
  obtain ⟨a0, len, cap, rfl⟩ := okWide_slice ht hv
  obtain ⟨fuel, hf⟩ := h
  rcases open_slice ht hf with ⟨hcs, hx⟩ | ⟨a, len', cap', m, n, D, Pl, hcs, _, hl, hm, hmm, _, hel⟩
  · simp [Value.cells] at hcs
    obtain ⟨rfl, rfl, rfl⟩ := hcs
    exact ⟨[], none, 0, rfl, Nat.le_refl _, Nat.zero_le _, fun j x hj => by simp at hj⟩
  · simp [Value.cells] at hcs
    obtain ⟨rfl, rfl, rfl⟩ := hcs
    simp only [if_true] at hmm
    have hint : ∀ i, i < cap → ∃ q : Lk, w.cell? (a.add (i * 3)) = some (.int .i64 q.1) ∧ w.cell? (a.add (i * 3 + 1)) = some (.int .i64 q.2.1) ∧ w.cell? (a.add (i * 3 + 2)) = some (.bool q.2.2) := fun i hi => by
      obtain ⟨cs', h1, h2⟩ := hel i (by omega)
      rw [ce] at h1
      obtain ⟨_, hlen, hcell⟩ := World.cells?_some h1
      obtain ⟨xs, k, hk, hxy, _, hxl, hff⟩ := DataW.trod_struct he h2
      match xs, hxl, cs', hlen with
      | [y0, y1, y2], _, [v0, v1, v2], _ =>
        have g0 := hff 0 f0 rfl
        have g1 := hff 1 f1 rfl
        have g2 := hff 2 f2 rfl
        simp [o0, o1, o2, t0, t1, t2, ci, cb] at g0 g1 g2
        obtain ⟨x, ex, _, _⟩ := DataW.trod_int i0 g0
        obtain ⟨y, ey, _, _⟩ := DataW.trod_int i0 g1
        obtain ⟨b, eb, _⟩ := DataW.trod_bool ib g2
        simp at ex ey eb
        subst ex ey eb
        have e0 := hcell 0 (by omega)
        have e1 := hcell 1 (by omega)
        have e2 := hcell 2 (by omega)
        rw [addAdd] at e0 e1 e2
        exact ⟨(x, y, b), by simpa using e0, by simpa using e1, by simpa using e2⟩
    obtain ⟨q, hq⟩ := choose_lt hint
    refine ⟨(List.range len).map q, some a, cap, by simp, by simpa using hl, hm, fun j x hj => ?_⟩
    have hj' : j < len := by have := (List.getElem?_eq_some_iff.1 hj).1; simpa using this
    obtain ⟨k0, k1, k2⟩ := hq j (by omega)
    rw [List.getElem?_map, List.getElem?_range hj', Option.map_some] at hj
    obtain rfl := Option.some.inj hj
    refine ⟨a, rfl, ?_, fun i u hu => ?_⟩
    · have := World.block_lt_of_cell? w _ k0; rwa [addBlock] at this
    · rw [hE] at hu
      rw [hs]
      match i, hu with
      | 0, hu => simp [triC] at hu; subst hu; exact k0
      | 1, hu => simp [triC] at hu; subst hu; exact k1
      | 2, hu => simp [triC] at hu; subst hu; exact k2
      | i + 3, hu => simp [triC] at hu
theorem open_linkS {f0 f1 f2 : Field} (ht : P.underlying t = some (.slice e)) (he : P.underlying e = some (.struct #[f0, f1, f2]))
    (hoff : (f0.offset, f1.offset, f2.offset, f0.type, f1.type, f2.type, P.cellsOf ti, P.cellsOf tb) = (0, 1, 2, ti, ti, tb, 1, 1)) (ce : P.cellsOf e = 3) (i0 : P.underlying ti = some (.int .i64)) (ib : P.underlying tb = some .bool) (hv : Value.okWide P w .any 0 t v)
    (h : DataW.Trod enc P w 0 (fun _ => true) true t v d p) : ∃ ls, RdF elLink w w.heap.size v ls := open_tripF rfl (fun _ => rfl) ht he hoff ce i0 ib hv h
theorem open_dominoS {f0 f1 f2 : Field} (ht : P.underlying t = some (.slice e)) (he : P.underlying e = some (.struct #[f0, f1, f2]))
    (hoff : (f0.offset, f1.offset, f2.offset, f0.type, f1.type, f2.type, P.cellsOf ti, P.cellsOf tb) = (0, 1, 2, ti, ti, tb, 1, 1)) (ce : P.cellsOf e = 3) (i0 : P.underlying ti = some (.int .i64)) (ib : P.underlying tb = some .bool) (hv : Value.okWide P w .any 0 t v)
    (h : DataW.Trod enc P w 0 (fun _ => true) true t v d p) : ∃ ls, RdF elDomino w w.heap.size v ls := open_tripF rfl (fun _ => rfl) ht he hoff ce i0 ib hv h
end
end Go.Proofs.Ytehnbalbpfmijaa
