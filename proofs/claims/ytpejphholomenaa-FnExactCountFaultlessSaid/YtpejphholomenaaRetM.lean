/- A new slice of new rows comes back. No function of the program is named here. -/
import Derived.Test.YtpejphholomenaaOwnM
namespace Go.Proofs.Ytpejphholomenaa
open Go.RowKit

theorem World.ownsRow.mono_base {w : World} {lo lo' : Nat} {e : TypeId} {size n : Nat} {v : Value} {xs : List Value} (h : w.ownsRow lo e size v n xs) (hl : lo' ≤ lo) : w.ownsRow lo' e size v n xs := by
  refine ⟨h.1, ?_⟩
  rcases h.2 with h2 | ⟨g, cap, cur, e, hb, r⟩
  · exact .inl h2
  · exact .inr ⟨g, cap, cur, e, by omega, r⟩

/-- A new slice of new rows comes back. -/
def RetM (w : World) (zss : List (List Int)) (e : Ending) (w' : World) : Prop := ∃ v hi, e = .returned v ∧ OwnM w' w.heap.size hi v zss ∧ hi ≤ w'.heap.size ∧ Below w.heap.size w w'
theorem MRel.after {w w1 wr : World} {hi : Nat} {v : Value} {zss : List (List Int)} (hb : Below w.heap.size w w1) (h : MRel w1 wr hi v zss) : MRel w wr hi v zss := by
  obtain ⟨⟨vs, h1, h2, h3⟩, hb1, hh, hl⟩ := h
  have := hb.size
  exact ⟨⟨vs, World.ownsRow.mono_base h1 hb.size, fun i u hu => (h2 i u hu).mono hb.size, h3⟩, hb.trans (hb1.mono hb.size), hh, by omega⟩
theorem OwnM.none (w : World) (lo : Nat) : OwnM w lo 0 (.slice none 0 0) [] :=
  ⟨[], by simpa using World.ownsRow_nil w lo 34 1, fun i u hu => by simp at hu, fun i j u u' a b _ hu => by simp at hu, fun i u a hu => by simp at hu, fun a ha => by simp [Value.ownBlock] at ha⟩
end Go.Proofs.Ytpejphholomenaa
