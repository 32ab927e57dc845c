/- The frame of a law's row: from 'the walk returns true and turns nothing that was there' to the row's post, whatever the types of the arguments; and the opening of arguments that are slices. No function of the program is named here. -/
import Derived.Test.YtehnbalbpfmijaaGreatDoorMem
import Derived.Carry
import Derived.Deep.Matrix
import Derived.Deep.SlicePairs
import Derived.Lib.SmallJoins
namespace Go.Proofs.YtehnbalbpfmijaaGreatDoor
open Go.ChangeShapes Go.WideShapes Go.ChangeAt Go.RowKit Go.Deep

section
variable {H : Type} {enc : TypeId × Value → H} {P : Program}

theorem trodAll_below (hl : laidOutB P = true) {W W' : World} (hb : Below W.heap.size W W') : ∀ (ts : List TypeId) (vs : List Value) (ds : List (DataW H)) (p : List MemPlace),
    (∀ t ∈ ts, P.readableRec t = true ∧ t < P.types.size) → (∀ x ∈ p, x.block < W.heap.size) → DataW.TrodAll enc P W 0 (fun _ => true) true ts vs ds p →
    DataW.TrodAll enc P W' 0 (fun b => decide (b < W.heap.size)) true ts vs ds p
  | [], [], [], _, _, _, h => h
  | t :: ts, v :: vs, d :: ds, p, ht, hp, h => by
    obtain ⟨p1, q1, h1, h2, rfl⟩ := h
    exact ⟨p1, q1, hb.trod hl (ht t (List.mem_cons_self ..)).1 (ht t (List.mem_cons_self ..)).2 h1 (fun x hx => hp x (List.mem_append_left _ hx)),
      trodAll_below hl hb ts vs ds q1 (fun t' h' => ht t' (List.mem_cons_of_mem _ h')) (fun x hx => hp x (List.mem_append_right _ hx)) h2, rfl⟩
  | [], [], _ :: _, _, _, _, h => h.elim
  | [], _ :: _, [], _, _, _, h => h.elim
  | [], _ :: _, _ :: _, _, _, _, h => h.elim
  | _ :: _, [], [], _, _, _, h => h.elim
  | _ :: _, [], _ :: _, _, _, _, h => h.elim
  | _ :: _, _ :: _, [], _, _, _, h => h.elim

/-- One bool comes back, no variable is named, nothing that was there has turned: the row's post. -/
theorem law_post {f : Func} {s : ChangeSpec} {W W' : World} {args : Array Value} {ds gs : List (DataW H)} {before : List MemPlace} {tb : TypeId} (hl : laidOutB P = true) (htb : P.underlying tb = some .bool)
    (hr : f.resultTypes = #[tb]) (hvars : s.vars = []) (hts : (f.params.toList.all fun t => P.readableRec t && decide (t < P.types.size)) = true)
    (hW : DataW.Whole enc P f.params.toList s.vars false W args.toList ds gs before) (hs : s.fn H (ds ++ gs) = { results := [.lit (.bool true)], args := ds })
    (hb : Below W.heap.size W W') : s.post enc P f false true false false W args (.bool true) W' := by
  have hlt := fun p hp => hW.lt p hp
  obtain ⟨p, q, h1, h2, rfl, h4, h5⟩ := id hW
  rw [hvars] at h2
  obtain ⟨rfl, rfl⟩ := trodVars_none h2
  refine ⟨ds, [], p ++ [], [], p, [], hW, ?_, ?_, ?_, World.keptBut_mono (fun x hx => ⟨hx, ?_⟩) (hb.frame (· ∈ p ++ [])), fun h => by cases h⟩
  · rw [hs, hr]; exact trodAll_cons_mk (shut_bool htb _) trodAll_mk0
  · rw [hs]
    rw [List.all_eq_true] at hts
    exact trodAll_below hl hb _ _ _ _ (fun t ht => by have := hts t ht; simpa using this) (fun x hx => hlt x (List.mem_append_left _ hx)) h1
  · rw [hs, hvars]; rfl
  · simp only [List.append_nil] at hx; exact .inr (.inl hx)

/-! ### Arguments that are slices -/
section
variable {w : World} {t e q : TypeId} {v : Value} {d : DataW H} {p : List MemPlace}
theorem ints_rd {a : Addr} {len : Nat} {zs : List Int} (hl : len ≤ zs.length) (hc : ∀ i, i < zs.length → w.cell? (a.add i) = some (.int .i64 (zs.getD i 0))) :
    Rd w w.heap.size (some a) ((zs.take len).map (Value.int .i64)) := fun hn => by
  have h0 : 0 < zs.length := by
    rcases Nat.eq_zero_or_pos zs.length with h | h
    · exact absurd (by rw [List.eq_nil_of_length_eq_zero h]; simp) hn
    · exact h
  refine ⟨a, rfl, ?_, fun j u hu => ?_⟩
  · have := World.block_lt_of_cell? w _ (hc 0 h0); rwa [addBlock] at this
  · rw [List.getElem?_map] at hu
    obtain ⟨z, hz, rfl⟩ := Option.map_eq_some_iff.1 hu
    rw [List.getElem?_take] at hz
    split at hz
    · rw [hc j (by omega)]; simp [List.getD, hz]
    · cases hz
theorem open_intS (ht : P.underlying t = some (.slice e)) (he : P.underlying e = some (.int .i64)) (hce : P.cellsOf e = 1) (hv : Value.okWide P w .any 0 t v)
    (h : DataW.Trod enc P w 0 (fun _ => true) true t v d p) : ∃ zs, RdI w w.heap.size v zs := by
  obtain ⟨a0, len, cap, rfl⟩ := okWide_slice ht hv
  obtain ⟨fuel, hf⟩ := h
  rcases open_ints ht he hce hf with ⟨hcs, hx⟩ | ⟨a, len', cap', zs, hcs, _, hl, hm, hz, hx, hcell, hwz⟩
  · simp [Value.cells] at hcs
    obtain ⟨rfl, rfl, rfl⟩ := hcs
    exact ⟨[], none, 0, rfl, Nat.le_refl _, Nat.zero_le _, Rd.nil⟩
  · simp [Value.cells] at hcs
    obtain ⟨rfl, rfl, rfl⟩ := hcs
    simp only [if_true] at hz
    have hlen : (zs.take len).length = len := by rw [List.length_take]; omega
    exact ⟨zs.take len, some a, cap, by rw [hlen], by omega, hm, ints_rd (by omega) hcell⟩
end
end
end Go.Proofs.YtehnbalbpfmijaaGreatDoor
