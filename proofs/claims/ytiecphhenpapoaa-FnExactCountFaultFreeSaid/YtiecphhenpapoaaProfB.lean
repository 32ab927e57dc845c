/- A bound on the count by profiles: at most two ways more for each cell. Plain. -/
import Derived.Test.YtiecphhenpapoaaProf
namespace Go.Proofs.Ytiecphhenpapoaa
open Go.RowKit
set_option linter.unusedVariables false

def NN (zs : List Int) : Prop := ∀ x ∈ zs, 0 ≤ x
theorem NN.atk {zs : List Int} (h : NN zs) (k : Nat) : 0 ≤ el zs k := by
  by_cases hk : k < zs.length
  · rw [el_get _ _ hk]; exact h _ (List.getElem_mem _)
  · unfold el; simp [hk]
theorem NN.sum {zs : List Int} (h : NN zs) : 0 ≤ zs.sum := by
  induction zs with
  | nil => simp
  | cons z zs ih =>
    have h1 := h z (by simp)
    have h2 := ih fun x hx => h x (by simp [hx])
    simp only [List.sum_cons]; omega
theorem NN.le {zs : List Int} (h : NN zs) (k : Nat) : el zs k ≤ zs.sum := by
  induction zs generalizing k with
  | nil => simp [el]
  | cons z zs ih =>
    have h1 := h z (by simp)
    have h2 : NN zs := fun x hx => h x (by simp [hx])
    have h3 := h2.sum
    simp only [List.sum_cons]
    cases k with
    | zero => simp [el]; omega
    | succ k => have := ih h2 k; simp [el] at this ⊢; omega
theorem sum_set (zs : List Int) (j : Nat) (z : Int) (hj : j < zs.length) : (zs.set j z).sum = zs.sum - el zs j + z := by
  induction zs generalizing j with
  | nil => simp at hj
  | cons y ys ih =>
    cases j with
    | zero => simp [el]; omega
    | succ j =>
      have := ih j (by simpa using hj)
      simp [el] at this ⊢; omega
theorem NN.put {nx : List Int} {j : Nat} {n : Int} (h : NN nx) (hn : 0 ≤ n) (hs : nx.sum + n ≤ 1099511627776) : NN (putZ nx j n) ∧ (putZ nx j n).sum ≤ nx.sum + n := by
  have h1 := h.atk j
  have h2 := h.le j
  have hw : wrap64 (el nx j + n) = el nx j + n := by unfold wrap64; omega
  unfold putZ
  rw [hw]
  refine ⟨fun x hx => ?_, ?_⟩
  · rcases List.mem_or_eq_of_mem_set hx with hx | hx
    · exact h x hx
    · omega
  · by_cases hj : j < nx.length
    · rw [sum_set _ _ _ hj]; omega
    · rw [List.set_eq_of_length_le (by omega)]; omega
def cF (h : Bool) : Int := if h then 2 else 1
theorem NN.in_ {h b r : Bool} {x k : Nat} {n : Int} {nx : List Int} (hx : NN nx) (hn : 0 ≤ n) (hs : nx.sum + 2 * n ≤ 1099511627776) : NN (inZ h b r x n k nx) ∧ (inZ h b r x n k nx).sum ≤ nx.sum + cF h * n := by
  have p1 := fun j => hx.put (j := j) hn (by omega)
  unfold inZ cF
  by_cases h0 : n = 0
  · rw [if_pos h0]; refine ⟨hx, ?_⟩; subst h0; simp
  · rw [if_neg h0]
    cases h
    · simp only [Bool.false_eq_true, if_false]
      split
      · exact ⟨hx, by omega⟩
      · have := p1 k; exact ⟨this.1, by have := this.2; omega⟩
    · simp only [if_true]
      split
      · have := p1 (k - 2 ^ x); exact ⟨this.1, by have := this.2; omega⟩
      · split
        · cases b
          · have := p1 (k ||| 2 ^ (x + 1)); simp only [Bool.false_eq_true, if_false]; exact ⟨this.1, by have := this.2; omega⟩
          · have h1 := p1 (k ||| 2 ^ x)
            have h2 := h1.1.put (j := k ||| 2 ^ (x + 1)) hn (by have := h1.2; omega)
            simp only [if_true]
            exact ⟨h2.1, by have := h1.2; have := h2.2; omega⟩
        · cases b
          · simp only [Bool.false_eq_true, if_false]; exact ⟨hx, by omega⟩
          · have := p1 (k ||| 2 ^ x); simp only [if_true]; exact ⟨this.1, by have := this.2; omega⟩
theorem sum_take (zs : List Int) : ∀ k, (zs.take (k + 1)).sum = (zs.take k).sum + el zs k := by
  induction zs with
  | nil => intro k; simp [el]
  | cons z zs ih =>
    intro k
    cases k with
    | zero => simp [el]
    | succ k => have := ih k; simp [el] at this ⊢; omega
theorem sum_take_le {zs : List Int} (h : NN zs) (k : Nat) : (zs.take k).sum ≤ zs.sum := by
  have h1 : zs.sum = (zs.take k).sum + (zs.drop k).sum := by rw [← List.sum_append, List.take_append_drop]
  have h2 : NN (zs.drop k) := fun x hx => h x (List.mem_of_mem_drop hx)
  have := h2.sum
  omega
theorem zeros_nn : NN zeros := fun x hx => by rw [zeros] at hx; have := List.eq_of_mem_replicate hx; omega
theorem zeros_sum : zeros.sum = 0 := by
  have : ∀ n, (List.replicate n (0 : Int)).sum = 0 := fun n => by induction n with
    | zero => rfl
    | succ n ih => rw [List.replicate_succ, List.sum_cons, ih]; rfl
  exact this 256
theorem NN.step (h b r : Bool) (x : Nat) {zs : List Int} (hz : NN zs) (hs : zs.sum ≤ 274877906944) : ∀ k, NN (stepTo h b r x zs k) ∧ (stepTo h b r x zs k).sum ≤ cF h * (zs.take k).sum
  | 0 => ⟨zeros_nn, by rw [stepTo, zeros_sum]; simp⟩
  | k + 1 => by
    obtain ⟨h1, h2⟩ := NN.step h b r x hz hs k
    have h3 := sum_take zs k
    have h4 := sum_take_le hz (k + 1)
    have h5 := hz.atk k
    have hc : cF h * (zs.take k).sum ≤ 2 * (zs.take k).sum := by
      have h9 : 0 ≤ (zs.take k).sum := NN.sum fun x hx => hz x (List.mem_of_mem_take hx)
      cases h <;> simp [cF] <;> omega
    obtain ⟨h6, h7⟩ := h1.in_ (h := h) (b := b) (r := r) (x := x) (k := k) h5 (by omega)
    refine ⟨h6, Int.le_trans h7 ?_⟩
    rw [h3, Int.mul_add]
    omega
/-- How many of the first cells a set has. -/
def cellsTo (T : Nat) : Nat → Nat
  | 0 => 0
  | i + 1 => cellsTo T i + if hasC T (i % 8) (i / 8) then 1 else 0
theorem NN.prof (T : Nat) : ∀ i, cellsTo T i ≤ 37 → NN (profTo T i) ∧ (profTo T i).sum ≤ 2 ^ cellsTo T i
  | 0, _ => by
    refine ⟨fun x hx => ?_, ?_⟩
    · rw [profTo] at hx
      rcases List.mem_or_eq_of_mem_set hx with hx | hx
      · exact zeros_nn x hx
      · omega
    · rw [profTo, sum_set _ _ _ (by rw [zeros_len]; omega), zeros_sum, zeros_el]; simp [cellsTo]
  | i + 1, hc => by
    have hc2 : cellsTo T i ≤ 37 := by rw [cellsTo] at hc; omega
    obtain ⟨h1, h2⟩ := NN.prof T i hc2
    have hp : (2 : Int) ^ cellsTo T i ≤ 2 ^ 37 := by
      have := Nat.pow_le_pow_right (n := 2) (by omega) hc2
      exact_mod_cast this
    obtain ⟨h3, h4⟩ := NN.step (hasC T (i % 8) (i / 8)) (hasC T (i % 8) (i / 8 + 1)) (hasC T (i % 8 + 1) (i / 8)) (i % 8) h1 (by omega) 256
    refine ⟨h3, ?_⟩
    rw [List.take_of_length_le (by rw [profTo_len]; omega)] at h4
    rw [profTo]
    refine Int.le_trans h4 ?_
    rw [cellsTo]
    cases hasC T (i % 8) (i / 8)
    · simp [cF]; exact h2
    · simp only [cF, if_true, Int.pow_succ]; omega
theorem prof_bd (T : Nat) (h : cellsTo T 64 ≤ 37) : 0 ≤ profZ T ∧ profZ T ≤ 2 ^ cellsTo T 64 := by
  obtain ⟨h1, h2⟩ := NN.prof T 64 h
  exact ⟨h1.atk 0, Int.le_trans (h1.le 0) h2⟩
end Go.Proofs.Ytiecphhenpapoaa
