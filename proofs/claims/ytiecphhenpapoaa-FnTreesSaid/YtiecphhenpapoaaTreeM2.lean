/- The contract of TreeMatrix of the reference. -/
import Derived.Test.YtiecphhenpapoaaTreeM
import Derived.StillTailTactics
namespace Go.Proofs.Ytiecphhenpapoaa
open Go.RowKit

theorem OwnD.rd {w : World} {lo : Nat} {v : Value} {zss : List (List Int)} (h : OwnD w lo v zss) : RdII w w.heap.size v zss := by
  obtain ⟨vs, h1, h2, _⟩ := h
  have hl : vs.length = zss.length := by have := h1.1; omega
  rcases h1.2 with ⟨rfl, h0⟩ | ⟨g, cap, cur, rfl, hb, hh, hn, hm, hs, ht⟩
  · have e : zss = [] := List.eq_nil_of_length_eq_zero h0
    subst e
    have e2 : vs = [] := List.eq_nil_of_length_eq_zero hl
    subst e2
    exact ⟨none, 0, [], rfl, Nat.le_refl _, Nat.zero_le _, rfl, Rd.nil, fun i u hu => by simp at hu⟩
  · exact ⟨some ⟨g, 0, none⟩, cap, vs, rfl, hn, hm, hl, fun _ => ⟨_, rfl, (World.ownsRow.lt h1 g rfl).2, World.ownsRow.cells h1 rfl⟩, fun i u hu => (h2 i u hu).rd⟩
/-- Rows come back that read so; nothing that was there has turned. -/
def RetRdII (w : World) (zss : List (List Int)) (e : Ending) (w' : World) : Prop := ∃ v, e = .returned v ∧ RdII w' w'.heap.size v zss ∧ Below w.heap.size w w'

end Go.Proofs.Ytiecphhenpapoaa
