/- Contracts of toIntS (a copy in a new block), markIntS (it writes 1, 2, .. into a row of the caller's own) and heldIntS (it looks whether they stand there still). -/
import Derived.Test.YtiecphhenpapoaaInts
import Derived.Deep.OwnRows
import Derived.Deep.AppendLies
namespace Go.Proofs.Ytiecphhenpapoaa
open Go.RowKit

theorem infoInt : (Try.prog.info? 3).map (fun i => (i.zero, i.size, i.bytes)) = some (some (.int .i64 0), 1, 8) := by kernel_rfl

/-- v owns a row of integers in a block from lo on. -/
def OwnI (w : World) (lo : Nat) (v : Value) (zs : List Int) : Prop := w.ownsRow lo 3 1 v zs.length (zs.map (Value.int .i64))
theorem OwnI.rd {w : World} {lo : Nat} {v : Value} {zs : List Int} (h : OwnI w lo v zs) : RdI w w.heap.size v zs := by
  rcases h.2 with ⟨rfl, h0⟩ | ⟨g, cap, cur, rfl, hb, hh, hn, hm, hs, ht⟩
  · have : zs = [] := List.eq_nil_of_length_eq_zero h0
    subst this
    exact ⟨none, 0, rfl, Nat.le_refl _, Nat.zero_le _, Rd.nil⟩
  · refine ⟨some ⟨g, 0, none⟩, cap, rfl, hn, hm, fun _ => ⟨_, rfl, (World.ownsRow.lt h g rfl).2, World.ownsRow.cells h rfl⟩⟩
theorem OwnI.lt {w : World} {lo : Nat} {v : Value} {zs : List Int} (h : OwnI w lo v zs) : ∀ k, v.ownBlock = some k → lo ≤ k ∧ k < w.heap.size := World.ownsRow.lt h
theorem OwnI.below {w w' : World} {lo : Nat} {v : Value} {zs : List Int} (h : OwnI w lo v zs) (hb : Below w.heap.size w w') : OwnI w' lo v zs := by
  refine World.ownsRow.kept h (row := none) ⟨hb.os, hb.tape, hb.output, hb.size, fun k hk _ => hb.block k hk⟩ ?_
  cases v.ownBlock
  · exact .inl rfl
  · exact .inr (by simp)
theorem OwnI.of_row {w : World} {lo g : Nat} {zs : List Int} (hg : lo ≤ g) (hl : zs.length ≤ 9223372036854775807) (h : w.rowIs g 3 zs.length (fun j => .int .i64 (zs.getD j 0))) : OwnI w lo (.slice (some ⟨g, 0, none⟩) zs.length zs.length) zs := by
  obtain ⟨c, hb, hs, hc⟩ := h
  refine ⟨by simp, .inr ⟨g, zs.length, c, rfl, hg, hb, Nat.le_refl _, by unfold maxLen; omega, by omega, ?_⟩⟩
  rw [List.take_of_length_le (by simp; omega)]
  apply List.ext_getElem?
  intro j
  by_cases hj : j < zs.length
  · rw [Array.getElem?_toList, hc j hj]; simp [hj]
  · rw [List.getElem?_eq_none (by simp; omega), List.getElem?_eq_none (by simp; omega)]

/-- A new row of integers comes back, nothing else has turned. -/
def RetOwnI (w : World) (zs : List Int) (e : Ending) (w' : World) : Prop := ∃ v, e = .returned v ∧ OwnI w' w.heap.size v zs ∧ Below w.heap.size w w'

end Go.Proofs.Ytiecphhenpapoaa
