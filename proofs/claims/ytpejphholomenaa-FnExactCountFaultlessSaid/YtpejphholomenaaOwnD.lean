/- Rows of the call's own, each in a block of its own, in any order: reading and writing one element, swapping two rows. -/
import Derived.Test.YtpejphholomenaaOwnM
namespace Go.Proofs.Ytpejphholomenaa
open Go.RowKit

def OwnD (w : World) (lo : Nat) (v : Value) (zss : List (List Int)) : Prop :=
  ∃ vs, w.ownsRow lo 34 1 v zss.length vs ∧ (∀ i u, vs[i]? = some u → OwnI w lo u (rw' zss i)) ∧
    (∀ (i j : Nat) (u u' : Value) (a : Nat), i ≠ j → vs[i]? = some u → vs[j]? = some u' → u.ownBlock = some a → u'.ownBlock ≠ some a) ∧
    (∀ (i : Nat) (u : Value) (a : Nat), vs[i]? = some u → u.ownBlock = some a → v.ownBlock ≠ some a)
theorem OwnM.d {w : World} {lo hi : Nat} {v : Value} {zss : List (List Int)} (h : OwnM w lo hi v zss) : OwnD w lo v zss := by
  obtain ⟨vs, h1, h2, h3, h4, h5⟩ := h
  refine ⟨vs, h1, h2, fun i j u u' a e hu hu' ha hb => ?_, fun i u a hu ha => (h4 i u a hu ha).1⟩
  rcases Nat.lt_or_gt_of_ne e with c | c
  · have := h3 i j u u' a a c hu hu' ha hb; omega
  · have := h3 j i u' u a a c hu' hu hb ha; omega
theorem OwnD.below {w w' : World} {lo : Nat} {v : Value} {zss : List (List Int)} (h : OwnD w lo v zss) (hb : Below w.heap.size w w') : OwnD w' lo v zss := by
  obtain ⟨vs, h1, h2, h3, h4⟩ := h
  exact ⟨vs, ownsRow_below h1 hb, fun i u hu => (h2 i u hu).below hb, h3, h4⟩
theorem OwnD.slice {w : World} {lo g n cap : Nat} {zss : List (List Int)} (h : OwnD w lo (.slice (some ⟨g, 0, none⟩) n cap) zss) (hpos : 0 < zss.length) : n = zss.length ∧ lo ≤ g := by
  obtain ⟨vs, h1, _⟩ := h
  obtain ⟨g', c', e, hl, _⟩ := World.ownsRow.form h1 hpos
  simp only [Value.slice.injEq, Option.some.injEq, Addr.mk.injEq, and_true] at e
  exact ⟨e.2.1, by omega⟩
theorem rw_set (zss : List (List Int)) (j : Nat) (zs : List Int) (i : Nat) (hj : j < zss.length) : rw' (zss.set j zs) i = if i = j then zs else rw' zss i := by
  by_cases e : i = j
  · subst e; simp [rw', hj]
  · simp [rw', e, Ne.symm e]

theorem World.ownsRow.block {w : World} {lo g s n cap : Nat} {e : TypeId} {xs : List Value} (h : w.ownsRow lo e s (.slice (some ⟨g, 0, none⟩) n cap) n xs) : ∃ cur, w.heap[g]? = some (.cells cur e (0, 0)) := by
  rcases h.2 with ⟨h', _⟩ | ⟨g', cap', cur, h', _, hg, _⟩
  · simp at h'
  · simp only [Value.slice.injEq, Option.some.injEq, Addr.mk.injEq, and_true, true_and] at h'
    obtain ⟨rfl, rfl⟩ := h'
    exact ⟨cur, hg⟩
/-- What lies in blocks of another type stays owned. -/
theorem World.ownsRow.apart {w : World} {lo g s n : Nat} {e e' : TypeId} {v : Value} {xs : List Value} (h : w.ownsRow lo e s v n xs) (hne : e ≠ e') (hg : ∃ cur, w.heap[g]? = some (.cells cur e' (0, 0))) (j : Nat) (u : Value) : (w.setCell ⟨g, j, none⟩ u).ownsRow lo e s v n xs := by
  refine World.ownsRow.kept h (row := some g) ⟨rfl, rfl, rfl, by simp, fun k _ hk => heap_setCell_other w ⟨g, j, none⟩ k u (fun e => hk (by simp [e]))⟩ ?_
  cases ev : v.ownBlock with
  | none => exact .inl rfl
  | some k =>
    refine .inr fun e2 => ?_
    obtain rfl := Option.some.inj e2
    rcases h.2 with ⟨rfl, _⟩ | ⟨g', cap', cur, rfl, _, hg', _⟩
    · simp [Value.ownBlock] at ev
    · simp [Value.ownBlock] at ev
      subst ev
      obtain ⟨cur', hg⟩ := hg
      rw [hg'] at hg
      simp only [Option.some.injEq, Obj.cells.injEq] at hg
      exact hne hg.2.1

/-- The i-th row: where it lies, its elements, and that one may be written. -/
theorem OwnD.row {w : World} {lo g n cap : Nat} {zss : List (List Int)} (h : OwnD w lo (.slice (some ⟨g, 0, none⟩) n cap) zss) {i : Nat} (hi : i < zss.length) (hpos : 0 < (rw' zss i).length) :
    ∃ gi ci, w.cell? ⟨g, i, none⟩ = some (.slice (some ⟨gi, 0, none⟩) (rw' zss i).length ci) ∧ lo ≤ gi ∧ (rw' zss i).length ≤ ci ∧ ci ≤ maxLen ∧ (∀ j, j < (rw' zss i).length → w.cell? ⟨gi, j, none⟩ = some (.int .i64 (el (rw' zss i) j))) ∧
      (∀ j, w.frozen? ⟨gi, j, none⟩ = false) ∧ (∀ j z, j < (rw' zss i).length → OwnD (w.setCell ⟨gi, j, none⟩ (.int .i64 z)) lo (.slice (some ⟨g, 0, none⟩) n cap) (zss.set i ((rw' zss i).set j z))) ∧
      ∃ cur, w.heap[gi]? = some (.cells cur 3 (0, 0)) := by
  obtain ⟨vs, h1, h2, h3, h4⟩ := h
  have hl : vs.length = zss.length := by have := h1.1; omega
  have hg : vs[i]? = some (vs[i]'(by omega)) := List.getElem?_eq_getElem (by omega)
  obtain rfl : n = zss.length := by
    obtain ⟨g', c', e, _⟩ := World.ownsRow.form h1 (by omega)
    simp only [Value.slice.injEq] at e; exact e.2.1
  generalize hvi : vs[i]'(by omega) = vi at hg
  have hr := h2 i _ hg
  obtain ⟨gi, ci, hv, hlo, hlt⟩ := World.ownsRow.form hr hpos
  obtain ⟨A0, c0, e0, q1, q2, _⟩ := hr.rd
  have hcell : w.cell? ⟨g, i, none⟩ = some vi := by rw [World.ownsRow.cellAt h1 i (by omega)]; exact hg
  subst hv
  obtain rfl : ci = c0 := by simp only [Value.slice.injEq] at e0; exact e0.2.2
  refine ⟨gi, ci, hcell, hlo, q1, q2, fun j hj => ?_, fun j => World.ownsRow.frozenAt hr j, fun j z hj => ?_, World.ownsRow.block hr⟩
  · rw [World.ownsRow.cellAt hr j (by omega), List.getElem?_map, List.getElem?_eq_getElem hj, el_get _ _ hj]; rfl
  · have hst := World.ownsRow.stored hr j (.int .i64 z)
    have hself : OwnI (w.setCell ⟨gi, j, none⟩ (.int .i64 z)) lo (.slice (some ⟨gi, 0, none⟩) (rw' zss i).length ci) ((rw' zss i).set j z) := by
      unfold OwnI
      rw [List.length_set, List.map_set]
      exact hst.1
    refine ⟨vs, ?_, fun t u hu => ?_, h3, h4⟩
    · rw [List.length_set]
      exact World.ownsRow.kept h1 hst.2 (.inr (h4 i _ gi hg rfl))
    · rw [rw_set zss i _ t hi]
      by_cases e : t = i
      · subst e
        rw [hg] at hu
        obtain rfl := Option.some.inj hu
        rw [if_pos rfl]; exact hself
      · rw [if_neg e]
        exact (h2 t u hu).grown hst.2 fun k hk e2 => h3 t i u _ k e hu hg hk e2.symm

/-- Two rows change places. -/
theorem OwnD.swap {w : World} {lo g n cap : Nat} {zss : List (List Int)} {u1 u2 : Value} (h : OwnD w lo (.slice (some ⟨g, 0, none⟩) n cap) zss) {i k : Nat} (hi : i < zss.length) (hk : k < zss.length) (hne : i ≠ k)
    (c1 : w.cell? ⟨g, i, none⟩ = some u1) (c2 : w.cell? ⟨g, k, none⟩ = some u2) :
    OwnD ((w.setCell ⟨g, i, none⟩ u2).setCell ⟨g, k, none⟩ u1) lo (.slice (some ⟨g, 0, none⟩) n cap) ((zss.set i (rw' zss k)).set k (rw' zss i)) ∧ ∀ j, w.frozen? ⟨g, j, none⟩ = false := by
  obtain ⟨vs, h1, h2, h3, h4⟩ := h
  have hl : vs.length = zss.length := by have := h1.1; omega
  obtain rfl : n = zss.length := by
    obtain ⟨g', c', e, _⟩ := World.ownsRow.form h1 (by omega)
    simp only [Value.slice.injEq] at e; exact e.2.1
  have hg1 : vs[i]? = some u1 := by rw [← World.ownsRow.cellAt h1 i (by omega)]; exact c1
  have hg2 : vs[k]? = some u2 := by rw [← World.ownsRow.cellAt h1 k (by omega)]; exact c2
  have s1 := World.ownsRow.stored h1 i u2
  have s2 := World.ownsRow.stored s1.1 k u1
  have hget : ∀ t u, ((vs.set i u2).set k u1)[t]? = some u → (t = k ∧ u = u1) ∨ (t ≠ k ∧ t = i ∧ u = u2) ∨ (t ≠ k ∧ t ≠ i ∧ vs[t]? = some u) := fun t u hu => by
    rw [List.getElem?_set, List.getElem?_set] at hu
    by_cases e : k = t
    · subst e; simp [show k < vs.length by omega] at hu; exact .inl ⟨rfl, hu.symm⟩
    · rw [if_neg e] at hu
      by_cases e2 : i = t
      · subst e2; simp [show i < vs.length by omega] at hu; exact .inr (.inl ⟨fun x => e x.symm, rfl, hu.symm⟩)
      · rw [if_neg e2] at hu; exact .inr (.inr ⟨fun x => e x.symm, fun x => e2 x.symm, hu⟩)
  have hfar : ∀ (t : Nat) (u : Value) zs, vs[t]? = some u → OwnI w lo u zs → OwnI ((w.setCell ⟨g, i, none⟩ u2).setCell ⟨g, k, none⟩ u1) lo u zs := fun t u zs hu ho => by
    refine (ho.grown s1.2 fun x hx e => ?_).grown s2.2 fun x hx e => ?_
    · exact h4 t u x hu hx e.symm
    · exact h4 t u x hu hx e.symm
  have hold : ∀ t u, ((vs.set i u2).set k u1)[t]? = some u → ∃ t', vs[t']? = some u ∧ (t' = if t = k then i else if t = i then k else t) := fun t u hu => by
    rcases hget t u hu with ⟨rfl, rfl⟩ | ⟨e, rfl, rfl⟩ | ⟨e, e2, hu⟩
    · exact ⟨i, hg1, by simp⟩
    · exact ⟨k, hg2, by simp [e]⟩
    · exact ⟨t, hu, by simp [e, e2]⟩
  refine ⟨⟨(vs.set i u2).set k u1, ?_, fun t u hu => ?_, fun t t' u u' a e hu hu' ha => ?_, fun t u a hu ha => ?_⟩, fun j => World.ownsRow.frozenAt h1 j⟩
  · rw [List.length_set, List.length_set]; exact s2.1
  · have hlr : rw' ((zss.set i (rw' zss k)).set k (rw' zss i)) t = if t = k then rw' zss i else if t = i then rw' zss k else rw' zss t := by
      rw [rw_set _ k _ t (by rw [List.length_set]; exact hk), rw_set _ i _ t hi]
    rw [hlr]
    rcases hget t u hu with ⟨rfl, rfl⟩ | ⟨e, rfl, rfl⟩ | ⟨e, e2, hu⟩
    · rw [if_pos rfl]; exact hfar i _ _ hg1 (h2 i _ hg1)
    · rw [if_neg e, if_pos rfl]; exact hfar k _ _ hg2 (h2 k _ hg2)
    · rw [if_neg e, if_neg e2]; exact hfar t _ _ hu (h2 t _ hu)
  · obtain ⟨p, hp, ep⟩ := hold t u hu
    obtain ⟨p', hp', ep'⟩ := hold t' u' hu'
    refine h3 p p' u u' a ?_ hp hp' ha
    subst ep ep'
    split <;> split <;> (try split) <;> (try split) <;> omega
  · obtain ⟨p, hp, _⟩ := hold t u hu
    exact h4 p u a hp ha
end Go.Proofs.Ytpejphholomenaa
