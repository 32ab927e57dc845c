/- The determinant by division without rests: the plain function, no program in sight. -/
import Derived.Test.YtiecphhenpapoaaOwnM
namespace Go.Proofs.Ytiecphhenpapoaa
open Go.RowKit

def elZ (m : List (List Int)) (i j : Nat) : Int := el (rw' m i) j
def stepE (m : List (List Int)) (b : Int) (k i j : Nat) : List (List Int) :=
  m.set i ((rw' m i).set j (wrap64 ((wrap64 (wrap64 (elZ m i j * elZ m k k) - wrap64 (elZ m i k * elZ m k j))).tdiv b)))
def rowE (m : List (List Int)) (b : Int) (k i : Nat) : Nat → List (List Int) | 0 => m | j + 1 => if j ≤ k then m else stepE (rowE m b k i j) b k i j
def allE (n : Nat) (m : List (List Int)) (b : Int) (k : Nat) : Nat → List (List Int) | 0 => m | i + 1 => if i ≤ k then m else rowE (allE n m b k i) b k i n
def pivG (m : List (List Int)) (k n : Nat) : Nat → Nat → Nat | 0, p => p | f + 1, p => if p < n then (if elZ m p k == 0 then pivG m k n f (p + 1) else p) else p
def swp (m : List (List Int)) (i k : Nat) : List (List Int) := (m.set i (rw' m k)).set k (rw' m i)
def detFin (n : Nat) (m : List (List Int)) (s : Int) : Int := if n = 0 then 1 else wrap64 (s * elZ m (n - 1) (n - 1))
def detGo (n : Nat) : Nat → Nat → List (List Int) → Int → Int → Int
  | 0, _, m, s, _ => detFin n m s
  | f + 1, k, m, s, b =>
    if k + 1 < n then
      (if pivG m k n (n - k) k = n then 0
       else if pivG m k n (n - k) k = k then detGo n f (k + 1) (allE n m b k n) s (elZ m k k)
       else detGo n f (k + 1) (allE n (swp m (pivG m k n (n - k) k) k) b k n) (wrap64 (-s)) (elZ (swp m (pivG m k n (n - k) k) k) k k))
    else detFin n m s
def detZ (m : List (List Int)) : Int := detGo m.length m.length 0 m 1 1

def Shape (n : Nat) (m : List (List Int)) : Prop := m.length = n ∧ ∀ i, i < n → (rw' m i).length = n
theorem Shape.set {n : Nat} {m : List (List Int)} (h : Shape n m) {i : Nat} (hi : i < n) {zs : List Int} (hz : zs.length = n) : Shape n (m.set i zs) := by
  refine ⟨by rw [List.length_set]; exact h.1, fun t ht => ?_⟩
  rw [rw_set m i zs t (by rw [h.1]; exact hi)]
  split
  · exact hz
  · exact h.2 t ht
theorem Shape.step {n : Nat} {m : List (List Int)} (h : Shape n m) (b : Int) (k : Nat) {i : Nat} (hi : i < n) (j : Nat) : Shape n (stepE m b k i j) := h.set hi (by rw [List.length_set]; exact h.2 i hi)
theorem Shape.swp {n : Nat} {m : List (List Int)} (h : Shape n m) {i k : Nat} (hi : i < n) (hk : k < n) : Shape n (swp m i k) := (h.set hi (h.2 k hk)).set hk (h.2 i hi)
theorem stepE_row {n : Nat} {m : List (List Int)} (h : Shape n m) (b : Int) (k : Nat) {i : Nat} (hi : i < n) (j t : Nat) (ht : t ≠ i) : rw' (stepE m b k i j) t = rw' m t := by
  rw [stepE, rw_set m i _ t (by rw [h.1]; exact hi), if_neg ht]
theorem rowE_facts {n : Nat} {m : List (List Int)} (h : Shape n m) (b : Int) (k : Nat) {i : Nat} (hi : i < n) : ∀ j, Shape n (rowE m b k i j) ∧ ∀ t, t ≠ i → rw' (rowE m b k i j) t = rw' m t
  | 0 => ⟨h, fun _ _ => rfl⟩
  | j + 1 => by
    obtain ⟨h1, h2⟩ := rowE_facts h b k hi j
    rw [rowE]
    split
    · exact ⟨h, fun _ _ => rfl⟩
    · exact ⟨h1.step b k hi j, fun t ht => by rw [stepE_row h1 b k hi j t ht]; exact h2 t ht⟩
theorem allE_facts {n : Nat} {m : List (List Int)} (h : Shape n m) (b : Int) (k : Nat) : ∀ i, i ≤ n → Shape n (allE n m b k i) ∧ ∀ t, t ≤ k → rw' (allE n m b k i) t = rw' m t
  | 0, _ => ⟨h, fun _ _ => rfl⟩
  | i + 1, hi => by
    obtain ⟨h1, h2⟩ := allE_facts h b k i (by omega)
    rw [allE]
    split
    · exact ⟨h, fun _ _ => rfl⟩
    · obtain ⟨h3, h4⟩ := rowE_facts h1 b k (i := i) (by omega) n
      exact ⟨h3, fun t ht => by rw [h4 t (by omega)]; exact h2 t ht⟩
theorem pivG_bd (m : List (List Int)) (k n : Nat) : ∀ f p, p ≤ n → p ≤ pivG m k n f p ∧ pivG m k n f p ≤ n
  | 0, p, h => ⟨Nat.le_refl _, h⟩
  | f + 1, p, h => by
    rw [pivG]
    split
    · split
      · have := pivG_bd m k n f (p + 1) (by omega); omega
      · exact ⟨Nat.le_refl _, h⟩
    · exact ⟨Nat.le_refl _, h⟩
theorem pivG_ne (m : List (List Int)) (k n : Nat) : ∀ f p, n ≤ p + f → pivG m k n f p < n → elZ m (pivG m k n f p) k ≠ 0
  | 0, p, h, hp => by rw [pivG] at hp; omega
  | f + 1, p, h, hp => by
    rw [pivG] at hp ⊢
    split at hp
    · rename_i hpn
      rw [if_pos hpn]
      split at hp
      · rename_i hz
        rw [if_pos hz]; exact pivG_ne m k n f (p + 1) (by omega) hp
      · rename_i hz
        rw [if_neg hz]; simpa using hz
    · omega
theorem swp_kk {n : Nat} {m : List (List Int)} (h : Shape n m) {p k : Nat} (hk : k < n) : elZ (swp m p k) k k = elZ m p k := by
  unfold elZ swp
  rw [rw_set _ k _ k (by rw [List.length_set, h.1]; exact hk), if_pos rfl]
end Go.Proofs.Ytiecphhenpapoaa
