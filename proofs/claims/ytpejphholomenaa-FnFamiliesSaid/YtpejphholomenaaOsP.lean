/- Slices of points, said in the words of Duo. No function of the program is named here. -/
import Derived.Test.YtpejphholomenaaOs
import Derived.Test.YtpejphholomenaaSpots
import Derived.Test.YtpejphholomenaaDuoSpot
namespace Go.Proofs.Ytpejphholomenaa
open Go.RowKit

theorem cellP_flat : ∀ ps : List (Int × Int), (List.range (ps.length * 2)).map (cellP ps) = ps.flatMap duoC := fun ps => by
  apply List.ext_getElem?
  intro j
  have hl : ∀ x : Int × Int, (elSpot.f x).length = elSpot.s := fun _ => rfl
  by_cases hj : j < ps.length * 2
  · have h2 : j / 2 < ps.length := by omega
    have e : j = j / 2 * 2 + j % 2 := by omega
    rw [List.getElem?_map, List.getElem?_range hj, Option.map_some]
    have hg := flat_get hl ps (j / 2) (j % 2) _ (duo_get ps (j / 2) h2) (show j % 2 < 2 by omega)
    have hg2 : (ps.flatMap duoC)[j]? = (duoC (dx ps (j / 2), dy ps (j / 2)))[j % 2]? := by
      rw [show (ps.flatMap duoC)[j]? = (ps.flatMap duoC)[j / 2 * 2 + j % 2]? by rw [← e]]; exact hg
    rw [hg2, cellP]
    rcases (show j % 2 = 0 ∨ j % 2 = 1 by omega) with h | h
    · rw [if_pos h, h]; rfl
    · rw [if_neg (by omega), h]; rfl
  · rw [List.getElem?_eq_none (by simp; omega), List.getElem?_eq_none (by have := flat_length hl ps; show (ps.flatMap duoC).length ≤ j; rw [show (ps.flatMap duoC).length = ps.length * 2 from this]; omega)]
theorem ownP_flat {w : World} {lo : Nat} {v : Value} {ps : List (Int × Int)} (h : OwnP w lo v ps) : OwnF elSpot w lo v ps := by
  unfold OwnP at h
  rw [cellP_flat] at h
  exact h
theorem rdP_of {w : World} {B : Nat} {v : Value} {ps : List (Int × Int)} (h : RdF elSpot w B v ps) : RdP w B v ps := by
  obtain ⟨A, c, e, h1, h2, G⟩ := RdD.of (E := elSpot) rfl (fun _ => rfl) h
  exact ⟨A, c, e, h1, h2, fun j hj => G.out j hj⟩
end Go.Proofs.Ytpejphholomenaa
