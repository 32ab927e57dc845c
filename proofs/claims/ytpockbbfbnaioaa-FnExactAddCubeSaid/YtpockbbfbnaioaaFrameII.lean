/- Opening an argument that is a slice of slices of integers. -/
import Derived.Test.YtpockbbfbnaioaaFrame
import Derived.Test.YtpockbbfbnaioaaHeap
namespace Go.Proofs.Ytpockbbfbnaioaa
open Go.ChangeShapes Go.WideShapes Go.ChangeAt Go.RowKit Go.Deep

section
variable {H : Type} {enc : TypeId × Value → H} {P : Program} {w : World} {t e q : TypeId} {v : Value} {d : DataW H} {p : List MemPlace}
theorem open_intSS (ht : P.underlying t = some (.slice e)) (he : P.underlying e = some (.slice q)) (hq : P.underlying q = some (.int .i64)) (ce : P.cellsOf e = 1) (cq : P.cellsOf q = 1) (hv : Value.okWide P w .any 0 t v)
    (h : DataW.Trod enc P w 0 (fun _ => true) true t v d p) : ∃ zss, RdII w w.heap.size v zss := by
  obtain ⟨a0, len, cap, rfl⟩ := okWide_slice ht hv
  obtain ⟨fuel, hf⟩ := h
  rcases open_int_rows ht he hq ce cq hf with ⟨hcs, hx⟩ | ⟨a, len', cap', A, L, C, Z, hcs, _, hl, hm, hx, hrow⟩
  · simp [Value.cells] at hcs
    obtain ⟨rfl, rfl, rfl⟩ := hcs
    exact ⟨[], none, 0, [], rfl, Nat.le_refl _, Nat.zero_le _, rfl, Rd.nil, fun i u hu => by simp at hu⟩
  · simp [Value.cells] at hcs
    obtain ⟨rfl, rfl, rfl⟩ := hcs
    refine ⟨(List.range len).map fun i => (Z i).take (L i), some a, cap, (List.range len).map fun i => .slice (A i) (L i) (C i), by simp, by simpa using hl, hm, by simp, fun hn => ?_, fun i u hu => ?_⟩
    · have h0 : 0 < len := by
        rcases Nat.eq_zero_or_pos len with h | h
        · exact absurd (by rw [h]; rfl) hn
        · exact h
      refine ⟨a, rfl, ?_, fun j u hu => ?_⟩
      · have := World.block_lt_of_cell? w _ (hrow 0 (by omega)).1; rwa [addBlock] at this
      · rw [List.getElem?_map] at hu
        obtain ⟨z, hz, rfl⟩ := Option.map_eq_some_iff.1 hu
        obtain ⟨hj, hz⟩ := List.getElem?_eq_some_iff.1 hz
        simp only [List.length_range] at hj
        simp only [List.getElem_range] at hz
        subst hz
        exact (hrow j (by omega)).1
    · rw [List.getElem?_map] at hu
      obtain ⟨z, hz, rfl⟩ := Option.map_eq_some_iff.1 hu
      obtain ⟨hj, hz⟩ := List.getElem?_eq_some_iff.1 hz
      simp only [List.length_range] at hj
      simp only [List.getElem_range] at hz
      subst hz
      obtain ⟨_, hLC, hCm, hZ, _, hn, hcell⟩ := hrow i (by omega)
      have hrw : rw' ((List.range len).map fun i => (Z i).take (L i)) i = (Z i).take (L i) := by rw [rw_get _ i (by simpa using hj)]; simp
      rw [hrw]
      have hlen : ((Z i).take (L i)).length = L i := by rw [List.length_take]; omega
      refine ⟨A i, C i, by rw [hlen], by omega, hCm, ?_⟩
      cases hA : A i with
      | none =>
        have h0 : (Z i) = [] := List.eq_nil_of_length_eq_zero (by rw [hZ, hn hA])
        rw [h0]; simp; exact Rd.nil
      | some a' => exact ints_rd (by omega) (fun k hk => (hcell a' hA).2 k (by omega))
end
end Go.Proofs.Ytpockbbfbnaioaa
