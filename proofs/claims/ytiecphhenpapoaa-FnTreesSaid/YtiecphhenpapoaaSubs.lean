/- Choices of n of a list in order; trees among them, in plain words. -/
import Derived.Test.YtiecphhenpapoaaIsTree
namespace Go.Proofs.Ytiecphhenpapoaa
open Go.RowKit
set_option linter.unusedVariables false

/-- All choices of n elements, in order. -/
def subsN : List Lk → Nat → List (List Lk)
  | _, 0 => [[]]
  | [], _ + 1 => []
  | x :: xs, n + 1 => (subsN xs n).map (x :: ·) ++ subsN xs (n + 1)
/-- What the program's closure adds: the trees that continue a head. -/
def tails (p : List Lk → Bool) (hd xs : List Lk) (n : Nat) : List (List Lk) := ((subsN xs n).map (hd ++ ·)).filter p
theorem tails_zero (p : List Lk → Bool) (hd xs : List Lk) : tails p hd xs 0 = if p hd then [hd] else [] := by
  cases xs <;> simp [tails, subsN, List.filter_cons] <;> split <;> simp_all
theorem tails_nil (p : List Lk → Bool) (hd : List Lk) (n : Nat) : tails p hd [] (n + 1) = [] := rfl
theorem tails_cons (p : List Lk → Bool) (hd : List Lk) (x : Lk) (xs : List Lk) (n : Nat) : tails p hd (x :: xs) (n + 1) = tails p (hd ++ [x]) xs n ++ tails p hd xs (n + 1) := by
  simp only [tails, subsN, List.map_append, List.filter_append, List.map_map]
  congr 2
  apply List.map_congr_left
  intro l _
  simp
theorem subsN_len : ∀ (xs : List Lk) (n : Nat), (subsN xs n).length ≤ 2 ^ xs.length
  | [], 0 => by simp [subsN]
  | x :: xs, 0 => by simp [subsN]; exact Nat.one_le_two_pow
  | [], n + 1 => by simp [subsN]
  | x :: xs, n + 1 => by
    have h1 := subsN_len xs n
    have h2 := subsN_len xs (n + 1)
    simp only [subsN, List.length_append, List.length_map, List.length_cons, Nat.pow_succ]
    omega
theorem tails_len (p : List Lk → Bool) (hd xs : List Lk) (n : Nat) : (tails p hd xs n).length ≤ 2 ^ xs.length := by
  refine Nat.le_trans (List.length_filter_le _ _) ?_
  rw [List.length_map]; exact subsN_len xs n
theorem subsN_mem : ∀ (xs : List Lk) (n : Nat), ∀ l ∈ subsN xs n, l.length = n ∧ ∀ x ∈ l, x ∈ xs
  | [], 0, l, h => by simp [subsN] at h; subst h; simp
  | x :: xs, 0, l, h => by simp [subsN] at h; subst h; simp
  | [], n + 1, l, h => by simp [subsN] at h
  | x :: xs, n + 1, l, h => by
    simp only [subsN, List.mem_append, List.mem_map] at h
    rcases h with ⟨l', h1, rfl⟩ | h
    · obtain ⟨h2, h3⟩ := subsN_mem xs n l' h1
      refine ⟨by simp [h2], fun y hy => ?_⟩
      rcases List.mem_cons.1 hy with rfl | hy
      · simp
      · exact List.mem_cons_of_mem _ (h3 y hy)
    · obtain ⟨h2, h3⟩ := subsN_mem xs (n + 1) l h
      exact ⟨h2, fun y hy => List.mem_cons_of_mem _ (h3 y hy)⟩

/-- What the reference's search adds. -/
def searchZ (wd : Nat) : List Lk → List Nat → List Lk → Nat → List (List Lk)
  | _, _, hd, 0 => [hd]
  | [], _, _, _ + 1 => []
  | x :: xs, g, hd, n + 1 => (if gi g (lkN wd x).1 = gi g (lkN wd x).2 then [] else searchZ wd xs (joinF g (lkN wd x)) (hd ++ [x]) n) ++ searchZ wd xs g hd (n + 1)
theorem searchZ_len (wd : Nat) : ∀ (xs : List Lk) (g : List Nat) (hd : List Lk) (n : Nat), (searchZ wd xs g hd n).length ≤ 2 ^ xs.length
  | xs, g, hd, 0 => by
    have : searchZ wd xs g hd 0 = [hd] := by cases xs <;> rfl
    rw [this]; exact Nat.one_le_two_pow
  | [], g, hd, n + 1 => by simp [searchZ]
  | x :: xs, g, hd, n + 1 => by
    have h1 := searchZ_len wd xs (joinF g (lkN wd x)) (hd ++ [x]) n
    have h2 := searchZ_len wd xs g hd (n + 1)
    simp only [searchZ, List.length_append, List.length_cons, Nat.pow_succ]
    split
    · simp; omega
    · omega
theorem searchZ_eq (wd : Nat) : ∀ (xs : List Lk) (g : List Nat) (hd : List Lk) (n : Nat), searchZ wd xs g hd n = ((subsN xs n).filter fun l => okAll g (l.map (lkN wd))).map (hd ++ ·)
  | xs, g, hd, 0 => by
    have h1 : searchZ wd xs g hd 0 = [hd] := by cases xs <;> rfl
    have h2 : subsN xs 0 = [[]] := by cases xs <;> rfl
    rw [h1, h2]; simp [okAll]
  | [], g, hd, n + 1 => by simp [searchZ, subsN]
  | x :: xs, g, hd, n + 1 => by
    rw [searchZ, subsN, searchZ_eq wd xs g hd (n + 1), List.filter_append, List.map_append]
    congr 1
    rw [List.filter_map, List.map_map]
    by_cases c : gi g (lkN wd x).1 = gi g (lkN wd x).2
    · rw [if_pos c]
      symm
      rw [List.map_eq_nil_iff, List.filter_eq_nil_iff]
      intro l _
      simp [okAll, c]
    · rw [if_neg c, searchZ_eq wd xs (joinF g (lkN wd x)) (hd ++ [x]) n]
      have e : ∀ l, ((fun l => okAll g (l.map (lkN wd))) ∘ fun l => x :: l) l = okAll (joinF g (lkN wd x)) (l.map (lkN wd)) := fun l => by simp [okAll, c]
      rw [List.filter_congr (fun l _ => e l)]
      apply List.map_congr_left
      intro l _
      simp

/-- All trees of a grid. -/
def treesZ (a b : Nat) : List (List Lk) := tails (treeB a b) [] (linksZ a b) (a * b - 1)
theorem trees_same {a b : Nat} (hg : gridB a b = true) : searchZ a (linksZ a b) (List.range (a * b)) [] (a * b - 1) = treesZ a b := by
  have hb := (gridB_iff _ _).1 hg
  have hp : 0 < a * b := Nat.mul_pos (by omega) (by omega)
  have hm : (a : Int) * (b : Int) = ((a * b : Nat) : Int) := by simp
  rw [searchZ_eq, treesZ, tails]
  simp only [List.nil_append, List.map_id']
  apply List.filter_congr
  intro l hl
  obtain ⟨h1, h2⟩ := subsN_mem _ _ l hl
  unfold treeB
  have e1 : decide ((l.length : Int) = (a : Int) * (b : Int) - 1) = true := by rw [decide_eq_true_iff]; omega
  have e2 : (l.all fun x => (linksZ a b).contains x) = true := by rw [List.all_eq_true]; intro x hx; simpa using h2 x hx
  rw [hg, e1, e2]
  simp
end Go.Proofs.Ytiecphhenpapoaa
