/- Words for laws over [][]int. No function of the program is named here. -/
import Derived.Test.YtpejphholomenaaOs
import Derived.Test.YtpejphholomenaaMarkSS
import Derived.Test.YtpejphholomenaaEqSS
namespace Go.Proofs.Ytpejphholomenaa
open Go.RowKit

theorem rw_cons (z : List Int) (t : List (List Int)) (i : Nat) : rw' (z :: t) (i + 1) = rw' t i := by simp [rw']
theorem flatTo_cons (z : List Int) (t : List (List Int)) : ∀ n, flatTo (z :: t) (n + 1) = z.length + flatTo t n
  | 0 => by simp [flatTo, rw']
  | n + 1 => by rw [flatTo, flatTo_cons z t n, rw_cons, flatTo]; omega
theorem szRows_flat : ∀ (zss : List (List Int)) (l : Int), 0 ≤ l → 0 ≤ szRows zss l → (flatTo zss zss.length : Int) ≤ l
  | [], l, h, _ => by simp [flatTo]; exact h
  | z :: t, l, h, h2 => by
    unfold szRows at h2
    split at h2
    · omega
    · have := szRows_flat t _ (by omega) h2
      rw [List.length_cons, flatTo_cons]; omega
theorem szSS_flat (zss : List (List Int)) (left : Int) (h : ¬ szSS zss left < 0) : (flatTo zss zss.length : Int) ≤ left := by
  unfold szSS at h
  split at h
  · omega
  · have := szRows_flat zss (left - zss.length) (by omega) (by omega); omega
theorem OwnII.m {w : World} {lo : Nat} {v : Value} {zss : List (List Int)} (h : OwnII w lo v zss) : OwnM w lo w.heap.size v zss := by
  obtain ⟨vs, h1, h2, h3⟩ := h
  refine ⟨vs, h1, h2, h3, fun i u a hu ha => ⟨fun e => ?_, (World.ownsRow.lt (h2 i u hu) a ha).2⟩, fun a ha => (World.ownsRow.lt h1 a ha).2⟩
  rcases h1.2 with ⟨rfl, _⟩ | ⟨g, cap, cur, rfl, _, hg, _⟩
  · simp [Value.ownBlock] at e
  · rcases (h2 i u hu).2 with ⟨rfl, _⟩ | ⟨g2, cap2, cur2, rfl, _, hg2, _⟩
    · simp [Value.ownBlock] at ha
    · simp only [Value.ownBlock, Option.some.injEq] at e ha
      subst ha
      subst e
      rw [hg] at hg2
      simp only [Option.some.injEq, Obj.cells.injEq] at hg2
      exact absurd hg2.2.1 (by decide)
end Go.Proofs.Ytpejphholomenaa
