/- The contract of the reference's ListHeaps. -/
import Derived.Test.YtgehollikdbapaaLHeaps3
import Derived.Test.YtgehollikdbapaaSrcRow
namespace Go.Proofs.Ytgehollikdbapaa
open Go.RowKit
set_option linter.unusedVariables false

abbrev eMM : El Sl := elSl 24 27
/-- A part of a row. -/
theorem RdI.cut {w : World} {B : Nat} {A : Option Addr} {n c : Nat} {zs : List Int} (h : RdI w B (.slice A n c) zs) (i k : Nat) (hk : i ≤ k) (hkn : k ≤ zs.length) (hc : i ≠ c) (hA : ∃ ad, A = some ad) :
    ∃ ad, A = some ad ∧ Rd w B (some (ad.add i)) (((zs.drop i).take (k - i)).map (Value.int .i64)) := by
  obtain ⟨ad, rfl⟩ := hA
  obtain ⟨A', c', e, _, _, hr⟩ := h
  simp only [Value.slice.injEq] at e
  obtain ⟨rfl, _, _⟩ := e
  refine ⟨ad, rfl, fun hn => ?_⟩
  have hne : zs.map (Value.int .i64) ≠ [] := by
    intro e
    have : zs = [] := by simpa using e
    subst this; simp at hn
  obtain ⟨ad', e, hb, hcl⟩ := hr hne
  obtain rfl := Option.some.inj e
  refine ⟨_, rfl, by rw [addBlock]; exact hb, fun j u hu => ?_⟩
  rw [List.getElem?_map] at hu
  obtain ⟨z, hz, rfl⟩ := Option.map_eq_some_iff.1 hu
  have hj : j < k - i := by have := (List.getElem?_eq_some_iff.1 hz).1; simp at this; omega
  rw [List.getElem?_take, if_pos hj, List.getElem?_drop] at hz
  rw [addAdd]
  exact hcl (i + j) _ (by rw [List.getElem?_map, hz]; rfl)

theorem flat_sl {e t : TypeId} (ss : List Sl) : ss.flatMap (elSl e t).f = ss.map slV := by
  induction ss with
  | nil => rfl
  | cons s ss ih => rw [List.flatMap_cons, ih]; rfl
/-- An owned slice of slices reads as its values. -/
theorem OwnF.rdSl {e t : TypeId} {w : World} {lo : Nat} {A : Option Addr} {n c : Nat} {ss : List Sl} (h : OwnF (elSl e t) w lo (.slice A n c) ss) : n = ss.length ∧ Rd w w.heap.size A (ss.flatMap (elSl e t).f) := by
  rcases h.2 with ⟨e1, h0⟩ | ⟨g, cap, cur, e1, hb, hgg, rest⟩
  · simp only [Value.slice.injEq] at e1
    obtain ⟨rfl, rfl, rfl⟩ := e1
    have hz : ss = [] := List.eq_nil_of_length_eq_zero h0
    subst hz
    exact ⟨rfl, fun hn => absurd rfl hn⟩
  · have hlt := World.ownsRow.lt h g (by rw [e1]; rfl)
    simp only [Value.slice.injEq] at e1
    obtain ⟨rfl, rfl, rfl⟩ := e1
    exact ⟨rfl, fun _ => ⟨_, rfl, hlt.2, fun j u hu => World.ownsRow.cells h rfl j u hu⟩⟩

end Go.Proofs.Ytgehollikdbapaa
