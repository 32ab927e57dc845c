/- A matrix of the call's own, said in the words of Nest: one number is read and written; it reads as rows. No function of the program is named here. -/
import Derived.Test.YtpejphholomenaaNest
import Derived.Test.YtpejphholomenaaRect
namespace Go.Proofs.Ytpejphholomenaa
open Go.RowKit

section
variable {α : Type} {K : Kd α} {e t : TypeId} {P : Program}
theorem NRel.at (hE : (elSl e t).Ok P) {w wr : World} {base lo hi g n cap : Nat} {xs : List α} (h : NRel K (elSl e t) w base lo wr hi (.slice (some ⟨g, 0, none⟩) n cap) xs) {i : Nat} (hi' : i < xs.length) :
    ∃ (s : Sl) (a b : Nat), n = xs.length ∧ n ≤ cap ∧ cap ≤ maxLen ∧ base ≤ g ∧ g < wr.heap.size ∧ lo ≤ a ∧ b ≤ hi ∧ K.P wr a b (slV s) xs[i] ∧ wr.cell? ⟨g, i, none⟩ = some (slV s) ∧
      ∀ (w1 : World) (x' : α), K.P w1 a b (slV s) x' → Below w.heap.size w w1 → wr.heap.size ≤ w1.heap.size → (∀ k, k < wr.heap.size → (k < a ∨ b ≤ k) → w1.heap[k]? = wr.heap[k]?) → NRel K (elSl e t) w base lo w1 hi (.slice (some ⟨g, 0, none⟩) n cap) (xs.set i x') := by
  obtain ⟨ss, hA, ⟨h1, a, b, h2, h3⟩, h4⟩ := h
  have hs : ss[i]? = some (ss[i]'(by omega)) := List.getElem?_eq_getElem (by omega)
  have hx : xs[i]? = some xs[i] := List.getElem?_eq_getElem hi'
  obtain ⟨p1, p2, p3, p4⟩ := h2 i _ _ hs hx
  obtain ⟨q1, q2, q3, q4⟩ := hA
  obtain ⟨A, c, e0, r1, r2, r3⟩ := q1.rd hE
  simp only [Value.slice.injEq] at e0
  obtain ⟨e1, e2, e3⟩ := e0
  subst e2 e3
  have hlt := q1.lt g rfl
  obtain ⟨ad, e4, _, hc⟩ := r3 i _ hs
  rw [← e1] at e4
  obtain rfl := Option.some.inj e4
  refine ⟨ss[i]'(by omega), a i, b i, h1, r1, r2, hlt.1, hlt.2, p1, p2, p3, ?_, fun w1 x' hx' hb hsz hk => ?_⟩
  · have := hc 0 _ rfl
    have e5 : (⟨g, 0, none⟩ : Addr).add (i * (elSl e t).s + 0) = ⟨g, i, none⟩ := by
      show (⟨g, 0, none⟩ : Addr).add (i * 1 + 0) = _
      rw [Nat.mul_one, Nat.add_zero]
      rcases Nat.eq_zero_or_pos i with q | q
      · subst q; rfl
      · simp [Addr.add, Nat.ne_of_gt q]
    rw [e5] at this; exact this
  · refine ⟨ss, ⟨?_, hb, q3, by omega⟩, ⟨by rw [List.length_set]; exact h1, a, b, fun j s x hj hxj => ?_, fun j j' hjj hj' => h3 j j' hjj (by rw [List.length_set] at hj'; exact hj')⟩, by omega⟩
    · refine ⟨q1.1, ?_⟩
      rcases q1.2 with hn | ⟨g', cap', cur, e', hb', hgg, rest⟩
      · exact .inl hn
      · refine .inr ⟨g', cap', cur, e', hb', ?_, rest⟩
        simp only [Value.slice.injEq, Option.some.injEq, Addr.mk.injEq, and_true] at e'
        obtain ⟨rfl, _⟩ := e'
        exact (hk g hlt.2 (p4 g rfl)).trans hgg
    · by_cases e : j = i
      · subst e
        rw [hs] at hj
        obtain rfl := Option.some.inj hj
        rw [List.getElem?_set_self hi'] at hxj
        obtain rfl := Option.some.inj hxj
        exact ⟨p1, p2, hx', p4⟩
      · rw [List.getElem?_set_ne (Ne.symm e)] at hxj
        obtain ⟨o1, o2, o3, o4⟩ := h2 j s x hj hxj
        have hjl : j < xs.length := (List.getElem?_eq_some_iff.1 hxj).1
        refine ⟨o1, o2, K.keep o3 hsz fun k k1 k2 => hk k (by omega) ?_, o4⟩
        rcases Nat.lt_or_gt_of_ne e with c | c
        · have := h3 j i c hi'; omega
        · have := h3 i j c hjl; omega
theorem NRel.len (hE : (elSl e t).Ok P) {w wr : World} {base lo hi : Nat} {v : Value} {xs : List α} (h : NRel K (elSl e t) w base lo wr hi v xs) : ∃ A c, v = .slice A xs.length c ∧ xs.length ≤ c ∧ c ≤ maxLen := by
  obtain ⟨ss, hA, ⟨h1, _⟩, _⟩ := h
  obtain ⟨A, c, hv, r1, r2, _⟩ := hA.1.rd hE
  rw [h1] at hv r1
  exact ⟨A, c, hv, r1, r2⟩
end

/-- One number of a matrix. -/
theorem NRel.num {e t : TypeId} {P : Program} (hE : (elSl e t).Ok P) {w wr : World} {base lo hi g n cap a b : Nat} {M : List (List Int)} (h : NRel (kdF elInt) (elSl e t) w base lo wr hi (.slice (some ⟨g, 0, none⟩) n cap) M) (hs : RShape a b M) (hw : w.heap.size ≤ lo) {i k : Nat} (hi' : i < a) (hk : k < b) :
    ∃ gi ci, n = a ∧ a ≤ cap ∧ cap ≤ maxLen ∧ base ≤ g ∧ b ≤ ci ∧ ci ≤ maxLen ∧ wr.cell? ⟨g, i, none⟩ = some (.slice (some ⟨gi, 0, none⟩) b ci) ∧ lo ≤ gi ∧ gi < hi ∧ wr.cell? ⟨gi, k, none⟩ = some (.int .i64 (el (rw' M i) k)) ∧ wr.frozen? ⟨gi, k, none⟩ = false ∧
      Hid (∀ z, NRel (kdF elInt) (elSl e t) w base lo (wr.setCell ⟨gi, k, none⟩ (.int .i64 z)) hi (.slice (some ⟨g, 0, none⟩) n cap) (M.set i ((rw' M i).set k z))) := by
  obtain ⟨h3, h4⟩ := hs
  obtain ⟨s, p, q, c1, c2, c3, c4, c5, c6, c7, ⟨c8, c9⟩, c10, c11⟩ := h.at hE (i := i) (by omega)
  have hl := h4 i hi'
  rw [← rw_get M i (by omega)] at c8
  have hown : OwnI wr p (slV s) (rw' M i) := ownF_int.1 c8
  obtain ⟨gi, ci, hv, hlo, hlt⟩ := World.ownsRow.form hown (by rw [hl]; omega)
  rw [hv] at hown c9 c10 c11
  obtain ⟨A, c, e0, q1, q2, _⟩ := hown.rd
  simp only [Value.slice.injEq] at e0
  obtain ⟨-, -, rfl⟩ := e0
  have hgb := c9 gi rfl
  have hbw : Below w.heap.size w wr := h.choose_spec.1.2.1
  rw [hl] at q1
  refine ⟨gi, ci, by omega, by omega, c3, c4, q1, q2, by rw [hl] at c10; exact c10, by omega, by omega, ?_, World.ownsRow.frozenAt hown k, fun z => ?_⟩
  · rw [World.ownsRow.cellAt hown k (by omega), List.getElem?_map, List.getElem?_eq_getElem (by omega), el_get _ _ (by omega)]; rfl
  · have hst := World.ownsRow.stored hown k (.int .i64 z)
    have hown2 : OwnI (wr.setCell ⟨gi, k, none⟩ (.int .i64 z)) p (.slice (some ⟨gi, 0, none⟩) (rw' M i).length ci) ((rw' M i).set k z) := by
      unfold OwnI; rw [List.length_set, List.map_set]; exact hst.1
    exact c11 _ _ ⟨ownF_int.2 hown2, c9⟩ (hbw.setCell (by show w.heap.size ≤ gi; omega) _) (by simp) fun k' _ hk2 => Below.heap_setCell _ _ _ _ (by show k' ≠ gi; omega)
/-- It reads as rows. -/
theorem NRel.rdII {e t : TypeId} {P : Program} (hE : (elSl e t).Ok P) {w wr : World} {base lo hi : Nat} {v : Value} {M : List (List Int)} (h : NRel (kdF elInt) (elSl e t) w base lo wr hi v M) : RdII wr wr.heap.size v M := by
  obtain ⟨ss, ⟨q1, _⟩, ⟨h1, a, b, h2, _⟩, h3⟩ := h
  obtain ⟨A, c, hv, l1, l2, hr⟩ := q1.rd hE
  refine ⟨A, c, ss.map slV, by rw [hv, h1], by omega, l2, by simp [h1], fun hn => ?_, fun i u hu => ?_⟩
  · obtain ⟨s0, hs0⟩ : ∃ s0, ss[0]? = some s0 := by
      cases ss with
      | nil => simp at hn
      | cons s t => exact ⟨s, rfl⟩
    obtain ⟨ad, e1, e2, _⟩ := hr 0 s0 hs0
    refine ⟨ad, e1, e2, fun j u hu => ?_⟩
    rw [List.getElem?_map] at hu
    obtain ⟨s, hs, rfl⟩ := Option.map_eq_some_iff.1 hu
    obtain ⟨ad', e1', _, hc⟩ := hr j s hs
    rw [e1] at e1'
    obtain rfl := Option.some.inj e1'
    have := hc 0 _ rfl
    simpa [elSl] using this
  · rw [List.getElem?_map] at hu
    obtain ⟨s, hs, rfl⟩ := Option.map_eq_some_iff.1 hu
    have hil : i < M.length := by have := (List.getElem?_eq_some_iff.1 hs).1; omega
    obtain ⟨_, _, p3, _⟩ := h2 i s _ hs (List.getElem?_eq_getElem hil)
    rw [rw_get M i hil]
    exact (ownF_int.1 p3.1).rd
end Go.Proofs.Ytpejphholomenaa
