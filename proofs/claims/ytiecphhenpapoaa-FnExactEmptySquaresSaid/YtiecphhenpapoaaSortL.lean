/- Sorting dominoes: both ways of putting one in, and that they agree. -/
import Derived.Test.YtiecphhenpapoaaCovered
namespace Go.Proofs.Ytiecphhenpapoaa
open Go.RowKit
set_option linter.unusedVariables false

/-- The number by which dominoes are ordered. -/
def ordL (l : Lk) : Nat := domO l.1.toNat l.2.1.toNat l.2.2
theorem ordL_inj {l m : Lk} (hl : domL l = true) (hm : domL m = true) (h : ordL l = ordL m) : l = m := by
  obtain ⟨x, y, d⟩ := l
  obtain ⟨x', y', d'⟩ := m
  have h1 := (domB_iff _ _ _).1 hl
  have h2 := (domB_iff _ _ _).1 hm
  dsimp only at h1 h2
  have h3 : x ≤ 7 := by have := h1.2; cases d <;> simp at this <;> omega
  have h4 : x' ≤ 7 := by have := h2.2; cases d' <;> simp at this <;> omega
  unfold ordL domO cix at h
  simp only at h
  have e3 : d = d' := by cases d <;> cases d' <;> simp at h ⊢ <;> omega
  subst e3
  have e1 : x = x' := by omega
  have e2 : y = y' := by omega
  rw [e1, e2]
theorem ordL_lt {l : Lk} (hl : domL l = true) : ordL l < 128 := by
  obtain ⟨x, y, d⟩ := l
  have h1 := (domB_iff _ _ _).1 hl
  have h3 : x ≤ 7 ∧ y ≤ 7 := by have := h1.2; cases d <;> simp at this <;> omega
  unfold ordL domO cix
  simp only
  split <;> omega
/-- From the right: how many are not behind o. -/
def downK (ys : List Lk) (o : Nat) : Nat → Nat
  | 0 => 0
  | k + 1 => if o < ordL (dAt ys k) then downK ys o k else k + 1
/-- From the left: the first that is not before d. -/
def upK (ys : List Lk) (d : Lk) : Nat → Nat → Nat
  | 0, i => i
  | f + 1, i => if decide (i < ys.length) && domLt (dAt ys i) d then upK ys d f (i + 1) else i
def insI (d : Lk) (ys : List Lk) : List Lk :=
  let k := downK ys (ordL d) ys.length
  if decide (0 < k) && (dAt ys (k - 1) == d) then ys else ys.take k ++ d :: ys.drop k
def insS (d : Lk) (ys : List Lk) : List Lk :=
  let k := upK ys d ys.length 0
  if decide (k < ys.length) && (dAt ys k == d) then ys else ys.take k ++ [d] ++ ys.drop k
def sortI (ls : List Lk) : Nat → List Lk
  | 0 => []
  | k + 1 => if domL (dAt ls k) then insI (dAt ls k) (sortI ls k) else sortI ls k
def sortS (ls : List Lk) : Nat → List Lk
  | 0 => []
  | k + 1 => if domL (dAt ls k) then insS (dAt ls k) (sortS ls k) else sortS ls k
theorem downK_spec (ys : List Lk) (o : Nat) : ∀ k, downK ys o k ≤ k ∧ (∀ i, downK ys o k ≤ i → i < k → o < ordL (dAt ys i)) ∧ (0 < downK ys o k → ordL (dAt ys (downK ys o k - 1)) ≤ o)
  | 0 => by simp [downK]
  | k + 1 => by
    rw [downK]
    by_cases h : o < ordL (dAt ys k)
    · rw [if_pos h]
      obtain ⟨h1, h2, h3⟩ := downK_spec ys o k
      refine ⟨by omega, fun i g1 g2 => ?_, h3⟩
      by_cases e : i = k
      · subst e; exact h
      · exact h2 i g1 (by omega)
    · rw [if_neg h]
      exact ⟨Nat.le_refl _, fun i g1 g2 => by omega, fun _ => by simpa using h⟩
theorem upK_spec (ys : List Lk) (d : Lk) : ∀ f i, i ≤ upK ys d f i ∧ upK ys d f i ≤ i + f ∧ (∀ j, i ≤ j → j < upK ys d f i → j < ys.length ∧ domLt (dAt ys j) d = true) ∧ (upK ys d f i < i + f → upK ys d f i < ys.length → domLt (dAt ys (upK ys d f i)) d = false)
  | 0, i => by simp [upK]; intro j h1 h2; omega
  | f + 1, i => by
    rw [upK]
    cases hb : (decide (i < ys.length) && domLt (dAt ys i) d)
    · rw [if_neg (by simp)]
      refine ⟨Nat.le_refl _, by omega, fun j h1 h2 => by omega, fun _ h => ?_⟩
      simpa [h] using hb
    · rw [if_pos rfl]
      obtain ⟨h1, h2, h3, h4⟩ := upK_spec ys d f (i + 1)
      simp only [Bool.and_eq_true, decide_eq_true_eq] at hb
      refine ⟨by omega, by omega, fun j g1 g2 => ?_, fun g => h4 (by omega)⟩
      by_cases e : j = i
      · subst e; exact hb
      · exact h3 j (by omega) g2
/-- In order, each one valid. -/
def Sorted (ys : List Lk) : Prop := ys.Pairwise (fun a b => ordL a < ordL b) ∧ ∀ a ∈ ys, domL a = true
theorem dAt_get (ys : List Lk) (j : Nat) (h : j < ys.length) : dAt ys j = ys[j] := by
  have := lk_get ys j h
  rw [List.getElem?_eq_getElem h] at this
  exact (Option.some.inj this).symm
theorem Sorted.at {ys : List Lk} (h : Sorted ys) {i j : Nat} (hij : i < j) (hj : j < ys.length) : ordL (dAt ys i) < ordL (dAt ys j) := by
  rw [dAt_get ys i (by omega), dAt_get ys j hj]
  exact List.pairwise_iff_getElem.1 h.1 i j (by omega) hj hij
theorem Sorted.ok {ys : List Lk} (h : Sorted ys) {i : Nat} (hi : i < ys.length) : domL (dAt ys i) = true := by
  rw [dAt_get ys i hi]; exact h.2 _ (List.getElem_mem hi)
theorem Sorted.short {ys : List Lk} (h : Sorted ys) : ys.length ≤ 128 := by
  have key : ∀ k, k < ys.length → k ≤ ordL (dAt ys k) := by
    intro k
    induction k with
    | zero => intro _; omega
    | succ k ih => intro hk; have := ih (by omega); have := h.at (i := k) (j := k + 1) (by omega) hk; omega
  by_cases h0 : ys.length = 0
  · omega
  · have := key (ys.length - 1) (by omega)
    have := ordL_lt (h.ok (i := ys.length - 1) (by omega))
    omega
theorem ins_same {ys : List Lk} (h : Sorted ys) {d : Lk} (hd : domL d = true) : insI d ys = insS d ys ∧ Sorted (insI d ys) := by
  obtain ⟨d1, d2, d3⟩ := downK_spec ys (ordL d) ys.length
  obtain ⟨_, u2, u3, u4⟩ := upK_spec ys d ys.length 0
  have hlt : ∀ i, i < ys.length → (domLt (dAt ys i) d = true ↔ ordL (dAt ys i) < ordL d) := fun i hi => by
    have := h.ok hi
    unfold domL at this hd
    unfold domLt
    rw [this, hd]
    simp [ordL]
  unfold insI insS
  generalize downK ys (ordL d) ys.length = k at *
  generalize upK ys d ys.length 0 = k' at *
  simp only
  have hk' : k' ≤ ys.length := by omega
  by_cases hin : 0 < k ∧ dAt ys (k - 1) = d
  · have e : k' = k - 1 := by
      have a1 : ¬ (k - 1 < k') := fun g => by
        have := (hlt _ (by omega)).1 (u3 (k - 1) (Nat.zero_le _) g).2
        rw [hin.2] at this; omega
      have a2 : ¬ (k' < k - 1) := fun g => by
        have q := u4 (by omega) (by omega)
        have := h.at g (by omega)
        rw [hin.2] at this
        rw [(hlt _ (by omega)).2 this] at q
        simp at q
      omega
    rw [if_pos (by simp [hin.1, hin.2]), if_pos (by rw [e]; simp [hin.2]; omega)]
    exact ⟨rfl, h⟩
  · have e : k' = k := by
      have a1 : ¬ (k < k') := fun g => by
        have q1 := (hlt _ (by have := (u3 k (Nat.zero_le _) g).1; omega)).1 (u3 k (Nat.zero_le _) g).2
        have q2 := d2 k (Nat.le_refl _) (u3 k (Nat.zero_le _) g).1
        omega
      have a2 : ¬ (k' < k) := fun g => by
        have q := u4 (by omega) (by omega)
        have q1 : ¬ ordL (dAt ys k') < ordL d := fun g2 => by rw [(hlt _ (by omega)).2 g2] at q; simp at q
        have q2 := d3 (by omega)
        have q3 : ordL (dAt ys k') ≤ ordL (dAt ys (k - 1)) := by
          by_cases e2 : k' = k - 1
          · rw [e2]; exact Nat.le_refl _
          · exact Nat.le_of_lt (h.at (by omega) (by omega))
        exact hin ⟨by omega, ordL_inj (h.ok (by omega)) hd (by omega)⟩
      omega
    have hno : ¬ (k < ys.length ∧ dAt ys k = d) := fun g => by
      have := d2 k (Nat.le_refl _) g.1
      rw [g.2] at this; omega
    rw [if_neg (by simpa using hin), e, if_neg (by simpa using hno)]
    refine ⟨by simp, ?_, ?_⟩
    · rw [List.pairwise_append, List.pairwise_cons]
      have hp := h.1
      refine ⟨hp.sublist (List.take_sublist _ _), ⟨fun a ha => ?_, hp.sublist (List.drop_sublist _ _)⟩, fun a ha b hb => ?_⟩
      · obtain ⟨i, hi, rfl⟩ := List.getElem_of_mem ha
        rw [List.getElem_drop, ← dAt_get]
        simp at hi
        exact d2 _ (by omega) (by omega)
      · obtain ⟨i, hi, rfl⟩ := List.getElem_of_mem ha
        simp at hi
        rw [List.getElem_take, ← dAt_get ys i (by omega)]
        have hb1 : ordL (dAt ys i) < ordL d := (hlt _ (by omega)).1 (u3 i (Nat.zero_le _) (by omega)).2
        rcases List.mem_cons.1 hb with rfl | hb
        · exact hb1
        · obtain ⟨j, hj, rfl⟩ := List.getElem_of_mem hb
          simp at hj
          rw [List.getElem_drop, ← dAt_get]
          have := d2 (k + j) (by omega) (by omega)
          omega
    · intro a ha
      rcases List.mem_append.1 ha with ha | ha
      · exact h.2 _ (List.mem_of_mem_take ha)
      · rcases List.mem_cons.1 ha with rfl | ha
        · exact hd
        · exact h.2 _ (List.mem_of_mem_drop ha)
theorem sort_same (ls : List Lk) : ∀ k, sortI ls k = sortS ls k ∧ Sorted (sortI ls k)
  | 0 => ⟨rfl, by simp [sortI, Sorted]⟩
  | k + 1 => by
    obtain ⟨h1, h2⟩ := sort_same ls k
    rw [sortI, sortS]
    by_cases hd : domL (dAt ls k) = true
    · rw [if_pos hd, if_pos hd, ← h1]
      exact ins_same h2 hd
    · rw [if_neg hd, if_neg hd]
      exact ⟨h1, h2⟩
theorem sortI_short (ls : List Lk) (k : Nat) : (sortI ls k).length ≤ 128 := (sort_same ls k).2.short
end Go.Proofs.Ytiecphhenpapoaa
