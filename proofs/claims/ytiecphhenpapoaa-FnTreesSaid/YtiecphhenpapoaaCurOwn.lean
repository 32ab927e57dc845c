/- What a call owns while it draws: the cursor's block is the one old block that is written. -/
import Derived.Test.YtiecphhenpapoaaBlk
import Derived.Test.YtiecphhenpapoaaOwnM
namespace Go.Proofs.Ytiecphhenpapoaa
open Go.RowKit

theorem acc0 {α : Type} {E : El α} {wr : World} {lo : Nat} {v : Value} {xs : List α} (h : OwnF E wr lo v xs) (hl : lo ≤ wr.heap.size) : Acc E { wr with heap := #[] } lo wr v xs :=
  ⟨h, ⟨rfl, rfl, rfl, Nat.zero_le _, fun _ hk => absurd hk (Nat.not_lt_zero _)⟩, Nat.zero_le _, hl⟩
theorem acc0I {wr : World} {lo : Nat} {v : Value} {xs : List Int} (h : OwnI wr lo v xs) (hl : lo ≤ wr.heap.size) : Acc elInt { wr with heap := #[] } lo wr v xs := acc0 (ownF_int.2 h) hl
/-- Only row, of what w had, is written: it stays so where what is younger than w grows. -/
theorem grownBy_more {w wr w' : World} {row row' : Option Nat} (h : w.grownBy wr row) (hg : wr.grownBy w' row') (hr : ∀ k, row' = some k → w.heap.size ≤ k ∨ row = some k) : w.grownBy w' row :=
  ⟨hg.os.trans h.os, hg.tape.trans h.tape, hg.output.trans h.output, Nat.le_trans h.size hg.size, fun k hk hne => (hg.block k (Nat.lt_of_lt_of_le hk h.size) (fun e => by
    rcases hr k e.symm with h1 | h1
    · omega
    · exact hne h1.symm)).trans (h.block k hk hne)⟩
theorem grownBy_below {w wr w' : World} {row : Option Nat} (h : w.grownBy wr row) (hb : Below wr.heap.size wr w') : w.grownBy w' row :=
  grownBy_more h (row' := none) ⟨hb.os, hb.tape, hb.output, hb.size, fun k hk _ => hb.block k hk⟩ (fun k e => by simp at e)
theorem grownBy_alloc (w : World) (o : Obj) (row : Option Nat) : w.grownBy (w.alloc o) row := ⟨rfl, rfl, rfl, by simp, fun _ hk _ => Below.heap_alloc _ _ _ hk⟩
/-- A young row written: below the old heap nothing turns. -/
theorem below_young {w0 w w' : World} {q : Nat} (hb : Below w0.heap.size w0 w) (hg : w.grownBy w' (some q)) (hq : w0.heap.size ≤ q) : Below w0.heap.size w0 w' :=
  hb.grown hg hb.size fun k hk => by simp at hk; omega
end Go.Proofs.Ytiecphhenpapoaa
