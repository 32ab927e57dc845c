/- Worlds that part in draws alone; bounds of a quotient. -/
import Derived.Test.YtehnbalbpfmijaaBasic
import Derived.IntWalk
import Derived.Below
import Derived.Deep.QuietTactic
import Derived.BigQuiet
import Derived.Deep.Draws
namespace Go.Proofs.Ytehnbalbpfmijaa
open Go.RowKit

def Drawn (w w' : World) : Prop := ∃ n, w' = w.drewN n
theorem Drawn.refl (w : World) : Drawn w w := ⟨0, rfl⟩
theorem Drawn.more {w w' : World} (h : Drawn w w') (n : Nat) : Drawn w (w'.drewN n) := by
  obtain ⟨m, rfl⟩ := h
  exact ⟨m + n, by rw [World.drewN_drewN]⟩
theorem Drawn.drew {w w' : World} (h : Drawn w w') : Drawn w w'.drew := h.more 1
theorem Drawn.trans {a b c : World} (h : Drawn a b) (k : Drawn b c) : Drawn a c := by
  obtain ⟨m, rfl⟩ := k; exact h.more m
theorem Drawn.below {w w' : World} (h : Drawn w w') (B : Nat) : Below B w w' := by
  obtain ⟨n, rfl⟩ := h; exact ⟨rfl, rfl, rfl, Nat.le_refl _, fun _ _ => rfl⟩

theorem quo_bd (x y : Nat) : 0 ≤ (x : Int) / (y : Int) ∧ (x : Int) / (y : Int) ≤ (x : Int) := by
  have h : x / y ≤ x := Nat.div_le_self x y
  have h0 : 0 ≤ ((x / y : Nat) : Int) := Int.natCast_nonneg _
  have h1 : ((x / y : Nat) : Int) ≤ (x : Int) := Int.ofNat_le.2 h
  rw [Int.natCast_ediv] at h0 h1
  exact ⟨h0, h1⟩

end Go.Proofs.Ytehnbalbpfmijaa
