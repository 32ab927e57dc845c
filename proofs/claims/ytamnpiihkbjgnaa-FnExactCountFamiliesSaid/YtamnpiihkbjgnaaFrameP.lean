/- Opening an argument that is a slice of structs of two integers. -/
import Derived.Test.YtamnpiihkbjgnaaFrame
import Derived.Test.YtamnpiihkbjgnaaSpots
namespace Go.Proofs.Ytamnpiihkbjgnaa
open Go.ChangeShapes Go.WideShapes Go.ChangeAt Go.RowKit Go.Deep

section
variable {H : Type} {enc : TypeId × Value → H} {P : Program} {w : World} {t e ti : TypeId} {v : Value} {d : DataW H} {p : List MemPlace}
theorem open_pairS {f0 f1 : Field} (ht : P.underlying t = some (.slice e)) (he : P.underlying e = some (.struct #[f0, f1])) (ce : P.cellsOf e = 2) (o0 : f0.offset = 0) (o1 : f1.offset = 1)
    (c0 : P.cellsOf f0.type = 1) (c1 : P.cellsOf f1.type = 1) (i0 : P.underlying f0.type = some (.int .i64)) (i1 : P.underlying f1.type = some (.int .i64)) (hv : Value.okWide P w .any 0 t v)
    (h : DataW.Trod enc P w 0 (fun _ => true) true t v d p) : ∃ ps, RdP w w.heap.size v ps := by
  obtain ⟨a0, len, cap, rfl⟩ := okWide_slice ht hv
  obtain ⟨fuel, hf⟩ := h
  rcases open_slice_pairs ht he ce o0 o1 c0 c1 hf with ⟨hcs, hx⟩ | ⟨a, len', cap', m, n, V0, V1, D0, D1, P0, P1, hcs, _, hl, hm, hmm, hx, hel⟩
  · simp [Value.cells] at hcs
    obtain ⟨rfl, rfl, rfl⟩ := hcs
    exact ⟨[], none, 0, rfl, Nat.le_refl _, Nat.zero_le _, fun j hj => absurd hj (by simp)⟩
  · simp [Value.cells] at hcs
    obtain ⟨rfl, rfl, rfl⟩ := hcs
    simp only [if_true] at hmm
    have hint : ∀ i, i < cap → ∃ q : Int × Int, V0 i = .int .i64 q.1 ∧ V1 i = .int .i64 q.2 := fun i hi => by
      obtain ⟨_, _, h0, h1⟩ := hel i (by omega)
      obtain ⟨x, ex, _, _⟩ := DataW.trod_int i0 h0
      obtain ⟨y, ey, _, _⟩ := DataW.trod_int i1 h1
      exact ⟨(x, y), by simpa using ex, by simpa using ey⟩
    obtain ⟨q, hq⟩ := choose_lt hint
    refine ⟨(List.range len).map q, some a, cap, by simp, by simpa using hl, hm, fun j hj => ?_⟩
    have hj' : j < len := by simpa using hj
    obtain ⟨k0, k1, _, _⟩ := hel j (by omega)
    obtain ⟨q0, q1⟩ := hq j (by omega)
    have hg : ((List.range len).map q).getD j (0, 0) = q j := by simp [hj']
    refine ⟨a, rfl, ?_, ?_, ?_⟩
    · have := World.block_lt_of_cell? w _ k0; rwa [addBlock] at this
    · rw [k0, q0, px, hg]
    · rw [addOne, addAdd, k1, q1, py, hg]
end
end Go.Proofs.Ytamnpiihkbjgnaa
