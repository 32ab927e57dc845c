/- What the claim's walk rests on: parts SortL, Til, CopyIn, SortI. -/
import Derived.Test.YtehnbalbpfmijaaKFlt2
import Derived.Test.YtehnbalbpfmijaaKFlt6
import Derived.Test.YtehnbalbpfmijaaKFlt1
import Derived.Test.YtehnbalbpfmijaaKFlt7
import Derived.Test.YtehnbalbpfmijaaKFlt3
import Derived.Laws.CopyOwn
import Derived.Deep.RegionHeld3
import Derived.Deep.RegionLaw
namespace Go.Proofs.Ytehnbalbpfmijaa
open Go.RowKit
set_option linter.unusedVariables false

/-- The number by which dominoes are ordered. -/
def ordL (l : Lk) : Nat := domO l.1.toNat l.2.1.toNat l.2.2
theorem ordL_inj {l m : Lk} (hl : domL l = true) (hm : domL m = true) (h : ordL l = ordL m) : l = m := by
  obtain ⟨x, y, d⟩ := l
  obtain ⟨x', y', d'⟩ := m
  have h1 := (domB_iff _ _ _).1 hl
  have h2 := (domB_iff _ _ _).1 hm
  dsimp only at h1 h2
  have h3 : x ≤ 7 := by have := h1.2; cases d <;> simp at this <;> omega
  have h4 : x' ≤ 7 := by have := h2.2; cases d' <;> simp at this <;> omega
  unfold ordL domO cix at h
  simp only at h
  have e3 : d = d' := by cases d <;> cases d' <;> simp at h ⊢ <;> omega
  subst e3
  have e1 : x = x' := by omega
  have e2 : y = y' := by omega
  rw [e1, e2]
theorem ordL_lt {l : Lk} (hl : domL l = true) : ordL l < 128 := by
  obtain ⟨x, y, d⟩ := l
  have h1 := (domB_iff _ _ _).1 hl
  have h3 : x ≤ 7 ∧ y ≤ 7 := by have := h1.2; cases d <;> simp at this <;> omega
  unfold ordL domO cix
  simp only
  split <;> omega
/-- From the right: how many are not behind o. -/
def downK (ys : List Lk) (o : Nat) : Nat → Nat
  | 0 => 0
  | k + 1 => if o < ordL (dAt ys k) then downK ys o k else k + 1
/-- From the left: the first that is not before d. -/
def upK (ys : List Lk) (d : Lk) : Nat → Nat → Nat
  | 0, i => i
  | f + 1, i => if decide (i < ys.length) && domLt (dAt ys i) d then upK ys d f (i + 1) else i
def insI (d : Lk) (ys : List Lk) : List Lk :=
  let k := downK ys (ordL d) ys.length
  if decide (0 < k) && (dAt ys (k - 1) == d) then ys else ys.take k ++ d :: ys.drop k
def insS (d : Lk) (ys : List Lk) : List Lk :=
  let k := upK ys d ys.length 0
  if decide (k < ys.length) && (dAt ys k == d) then ys else ys.take k ++ [d] ++ ys.drop k
def sortI (ls : List Lk) : Nat → List Lk
  | 0 => []
  | k + 1 => if domL (dAt ls k) then insI (dAt ls k) (sortI ls k) else sortI ls k
def sortS (ls : List Lk) : Nat → List Lk
  | 0 => []
  | k + 1 => if domL (dAt ls k) then insS (dAt ls k) (sortS ls k) else sortS ls k
theorem downK_spec (ys : List Lk) (o : Nat) : ∀ k, downK ys o k ≤ k ∧ (∀ i, downK ys o k ≤ i → i < k → o < ordL (dAt ys i)) ∧ (0 < downK ys o k → ordL (dAt ys (downK ys o k - 1)) ≤ o)
  | 0 => by simp [downK]
  | k + 1 => by
    rw [downK]
    by_cases h : o < ordL (dAt ys k)
    · rw [if_pos h]
      obtain ⟨h1, h2, h3⟩ := downK_spec ys o k
      refine ⟨by omega, fun i g1 g2 => ?_, h3⟩
      by_cases e : i = k
      · subst e; exact h
      · exact h2 i g1 (by omega)
    · rw [if_neg h]
      exact ⟨Nat.le_refl _, fun i g1 g2 => by omega, fun _ => by simpa using h⟩
theorem upK_spec (ys : List Lk) (d : Lk) : ∀ f i, i ≤ upK ys d f i ∧ upK ys d f i ≤ i + f ∧ (∀ j, i ≤ j → j < upK ys d f i → j < ys.length ∧ domLt (dAt ys j) d = true) ∧ (upK ys d f i < i + f → upK ys d f i < ys.length → domLt (dAt ys (upK ys d f i)) d = false)
  | 0, i => by simp [upK]; intro j h1 h2; omega
  | f + 1, i => by
    rw [upK]
    cases hb : (decide (i < ys.length) && domLt (dAt ys i) d)
    · rw [if_neg (by simp)]
      refine ⟨Nat.le_refl _, by omega, fun j h1 h2 => by omega, fun _ h => ?_⟩
      simpa [h] using hb
    · rw [if_pos rfl]
      obtain ⟨h1, h2, h3, h4⟩ := upK_spec ys d f (i + 1)
      simp only [Bool.and_eq_true, decide_eq_true_eq] at hb
      refine ⟨by omega, by omega, fun j g1 g2 => ?_, fun g => h4 (by omega)⟩
      by_cases e : j = i
      · subst e; exact hb
      · exact h3 j (by omega) g2
/-- In order, each one valid. -/
def Sorted (ys : List Lk) : Prop := ys.Pairwise (fun a b => ordL a < ordL b) ∧ ∀ a ∈ ys, domL a = true
theorem dAt_get (ys : List Lk) (j : Nat) (h : j < ys.length) : dAt ys j = ys[j] := by
  have := lk_get ys j h
  rw [List.getElem?_eq_getElem h] at this
  exact (Option.some.inj this).symm
theorem Sorted.at {ys : List Lk} (h : Sorted ys) {i j : Nat} (hij : i < j) (hj : j < ys.length) : ordL (dAt ys i) < ordL (dAt ys j) := by
  rw [dAt_get ys i (by omega), dAt_get ys j hj]
  exact List.pairwise_iff_getElem.1 h.1 i j (by omega) hj hij
theorem Sorted.ok {ys : List Lk} (h : Sorted ys) {i : Nat} (hi : i < ys.length) : domL (dAt ys i) = true := by
  rw [dAt_get ys i hi]; exact h.2 _ (List.getElem_mem hi)
theorem Sorted.short {ys : List Lk} (h : Sorted ys) : ys.length ≤ 128 := by
  have key : ∀ k, k < ys.length → k ≤ ordL (dAt ys k) := by
    intro k
    induction k with
    | zero => intro _; omega
    | succ k ih => intro hk; have := ih (by omega); have := h.at (i := k) (j := k + 1) (by omega) hk; omega
  by_cases h0 : ys.length = 0
  · omega
  · have := key (ys.length - 1) (by omega)
    have := ordL_lt (h.ok (i := ys.length - 1) (by omega))
    omega
theorem ins_same {ys : List Lk} (h : Sorted ys) {d : Lk} (hd : domL d = true) : insI d ys = insS d ys ∧ Sorted (insI d ys) := by
  obtain ⟨d1, d2, d3⟩ := downK_spec ys (ordL d) ys.length
  obtain ⟨_, u2, u3, u4⟩ := upK_spec ys d ys.length 0
  have hlt : ∀ i, i < ys.length → (domLt (dAt ys i) d = true ↔ ordL (dAt ys i) < ordL d) := fun i hi => by
    have := h.ok hi
    unfold domL at this hd
    unfold domLt
    rw [this, hd]
    simp [ordL]
  unfold insI insS
  generalize downK ys (ordL d) ys.length = k at *
  generalize upK ys d ys.length 0 = k' at *
  simp only
  have hk' : k' ≤ ys.length := by omega
  by_cases hin : 0 < k ∧ dAt ys (k - 1) = d
  · have e : k' = k - 1 := by
      have a1 : ¬ (k - 1 < k') := fun g => by
        have := (hlt _ (by omega)).1 (u3 (k - 1) (Nat.zero_le _) g).2
        rw [hin.2] at this; omega
      have a2 : ¬ (k' < k - 1) := fun g => by
        have q := u4 (by omega) (by omega)
        have := h.at g (by omega)
        rw [hin.2] at this
        rw [(hlt _ (by omega)).2 this] at q
        simp at q
      omega
    rw [if_pos (by simp [hin.1, hin.2]), if_pos (by rw [e]; simp [hin.2]; omega)]
    exact ⟨rfl, h⟩
  · have e : k' = k := by
      have a1 : ¬ (k < k') := fun g => by
        have q1 := (hlt _ (by have := (u3 k (Nat.zero_le _) g).1; omega)).1 (u3 k (Nat.zero_le _) g).2
        have q2 := d2 k (Nat.le_refl _) (u3 k (Nat.zero_le _) g).1
        omega
      have a2 : ¬ (k' < k) := fun g => by
        have q := u4 (by omega) (by omega)
        have q1 : ¬ ordL (dAt ys k') < ordL d := fun g2 => by rw [(hlt _ (by omega)).2 g2] at q; simp at q
        have q2 := d3 (by omega)
        have q3 : ordL (dAt ys k') ≤ ordL (dAt ys (k - 1)) := by
          by_cases e2 : k' = k - 1
          · rw [e2]; exact Nat.le_refl _
          · exact Nat.le_of_lt (h.at (by omega) (by omega))
        exact hin ⟨by omega, ordL_inj (h.ok (by omega)) hd (by omega)⟩
      omega
    have hno : ¬ (k < ys.length ∧ dAt ys k = d) := fun g => by
      have := d2 k (Nat.le_refl _) g.1
      rw [g.2] at this; omega
    rw [if_neg (by simpa using hin), e, if_neg (by simpa using hno)]
    refine ⟨by simp, ?_, ?_⟩
    · rw [List.pairwise_append, List.pairwise_cons]
      have hp := h.1
      refine ⟨hp.sublist (List.take_sublist _ _), ⟨fun a ha => ?_, hp.sublist (List.drop_sublist _ _)⟩, fun a ha b hb => ?_⟩
      · obtain ⟨i, hi, rfl⟩ := List.getElem_of_mem ha
        rw [List.getElem_drop, ← dAt_get]
        simp at hi
        exact d2 _ (by omega) (by omega)
      · obtain ⟨i, hi, rfl⟩ := List.getElem_of_mem ha
        simp at hi
        rw [List.getElem_take, ← dAt_get ys i (by omega)]
        have hb1 : ordL (dAt ys i) < ordL d := (hlt _ (by omega)).1 (u3 i (Nat.zero_le _) (by omega)).2
        rcases List.mem_cons.1 hb with rfl | hb
        · exact hb1
        · obtain ⟨j, hj, rfl⟩ := List.getElem_of_mem hb
          simp at hj
          rw [List.getElem_drop, ← dAt_get]
          have := d2 (k + j) (by omega) (by omega)
          omega
    · intro a ha
      rcases List.mem_append.1 ha with ha | ha
      · exact h.2 _ (List.mem_of_mem_take ha)
      · rcases List.mem_cons.1 ha with rfl | ha
        · exact hd
        · exact h.2 _ (List.mem_of_mem_drop ha)
theorem sort_same (ls : List Lk) : ∀ k, sortI ls k = sortS ls k ∧ Sorted (sortI ls k)
  | 0 => ⟨rfl, by simp [sortI, Sorted]⟩
  | k + 1 => by
    obtain ⟨h1, h2⟩ := sort_same ls k
    rw [sortI, sortS]
    by_cases hd : domL (dAt ls k) = true
    · rw [if_pos hd, if_pos hd, ← h1]
      exact ins_same h2 hd
    · rw [if_neg hd, if_neg hd]
      exact ⟨h1, h2⟩
theorem sortI_short (ls : List Lk) (k : Nat) : (sortI ls k).length ≤ 128 := (sort_same ls k).2.short
end Go.Proofs.Ytehnbalbpfmijaa

namespace Go.Proofs.Ytehnbalbpfmijaa
open Go.RowKit
set_option linter.unusedVariables false

/-- Whether a domino lies over a cell. -/
def ovr (d : Lk) (i : Nat) : Bool := aI d == i || bI d == i
/-- How many dominoes of a list lie over a cell. -/
def cc (ls : List Lk) (i : Nat) : Nat := ls.countP fun d => ovr d i
theorem cc_cons (d : Lk) (ls : List Lk) (i : Nat) : cc (d :: ls) i = cc ls i + (if ovr d i then 1 else 0) := List.countP_cons
theorem cc_app (l m : List Lk) (i : Nat) : cc (l ++ m) i = cc l i + cc m i := List.countP_append
theorem cc_perm {l m : List Lk} (h : l.Perm m) (i : Nat) : cc l i = cc m i := h.countP_eq _
theorem cc_pos {ls : List Lk} {d : Lk} {i : Nat} (h : d ∈ ls) (ho : ovr d i = true) : 0 < cc ls i := List.countP_pos_iff.2 ⟨d, h, ho⟩
theorem cc_get {ls : List Lk} {i : Nat} (h : 0 < cc ls i) : ∃ d, d ∈ ls ∧ ovr d i = true := List.countP_pos_iff.1 h
theorem ordL_eq (l : Lk) : ordL l = 2 * aI l + if l.2.2 then 1 else 0 := rfl
theorem ab_lt {l : Lk} (h : domL l = true) : aI l < bI l ∧ bI l < 64 := by
  obtain ⟨x, y, d⟩ := l
  have h1 := (domB_iff _ _ _).1 h
  unfold aI bI cix
  cases d <;> simp at h1 ⊢ <;> omega
/-- A tiling of the region with these cells. -/
structure Til (R : Nat) (ls : List Lk) : Prop where
  so : Sorted ls
  cv : ∀ i, i < 64 → cc ls i = if R.testBit i then 1 else 0
theorem covT_bit {ls : List Lk} {k : Nat} (hd : domL (dAt ls k) = true) (i : Nat) : (covTo ls (k + 1)).testBit i = ((covTo ls k).testBit i || ovr (dAt ls k) i) := by
  rw [covTo, if_pos hd, dM_ab, Nat.testBit_or, ab_bit]
  unfold ovr
  by_cases h1 : aI (dAt ls k) = i <;> by_cases h2 : bI (dAt ls k) = i <;> simp [h1, h2]
theorem take_get {ls : List Lk} {k : Nat} (h : k < ls.length) : ls.take (k + 1) = ls.take k ++ [dAt ls k] := by
  rw [dAt_get ls k h, List.take_succ_eq_append_getElem h]
theorem cc_one (d : Lk) (i : Nat) : cc [d] i = if ovr d i then 1 else 0 := by simp [cc]
theorem cc_step {ls : List Lk} {k i : Nat} (h : k < ls.length) : cc (ls.take (k + 1)) i = cc (ls.take k) i + if ovr (dAt ls k) i then 1 else 0 := by rw [take_get h, cc_app, cc_one]
theorem cc_take_le (ls : List Lk) (k i : Nat) : cc (ls.take k) i ≤ cc ls i := (List.take_sublist k ls).countP_le
theorem q_parts {R : Nat} {ls : List Lk} {k : Nat} : qAt R ls k = true ↔ domL (dAt ls k) = true ∧ (k = 0 ∨ domLt (dAt ls (k - 1)) (dAt ls k) = true) ∧ (R.testBit (aI (dAt ls k)) = true ∧ R.testBit (bI (dAt ls k)) = true) ∧ (covTo ls k).testBit (aI (dAt ls k)) = false ∧ (covTo ls k).testBit (bI (dAt ls k)) = false := by
  unfold qAt
  simp only [Bool.and_eq_true, Bool.or_eq_true, Bool.not_eq_true', decide_eq_true_eq]
  constructor
  · rintro ⟨⟨a, b⟩, ⟨⟨c, d⟩, e⟩, f⟩; exact ⟨a, b, ⟨c, d⟩, e, f⟩
  · rintro ⟨a, b, ⟨c, d⟩, e, f⟩; exact ⟨⟨a, b⟩, ⟨⟨c, d⟩, e⟩, f⟩
theorem ovr_no {d : Lk} {T : Nat} (h1 : T.testBit (aI d) = false) (h2 : T.testBit (bI d) = false) {i : Nat} (ho : ovr d i = true) : T.testBit i = false := by
  unfold ovr at ho
  simp only [Bool.or_eq_true, beq_iff_eq] at ho
  rcases ho with rfl | rfl
  · exact h1
  · exact h2
theorem part_cc {R : Nat} {ls : List Lk} (h : sPartB R ls = true) (i : Nat) : ∀ k, k ≤ ls.length → cc (ls.take k) i = if (covTo ls k).testBit i then 1 else 0
  | 0, _ => by simp [cc, covTo]
  | k + 1, hk => by
    have ih := part_cc h i k (by omega)
    obtain ⟨hd, _, _, c1, c2⟩ := q_parts.1 ((upFrom_iff _ _ _).1 h k (Nat.zero_le _) (by omega))
    rw [cc_step (by omega), ih, covT_bit hd]
    cases ho : ovr (dAt ls k) i
    · simp
    · rw [ovr_no c1 c2 ho]; simp
theorem part_sorted {R : Nat} {ls : List Lk} (h : sPartB R ls = true) : Sorted ls := by
  have hq : ∀ k, k < ls.length → _ := fun k hk => q_parts.1 ((upFrom_iff _ _ _).1 h k (Nat.zero_le _) hk)
  have hlt : ∀ j i, i < j → j < ls.length → ordL (dAt ls i) < ordL (dAt ls j) := by
    intro j
    induction j with
    | zero => intro i hi; omega
    | succ j ih =>
      intro i hi hj
      rcases (hq (j + 1) hj).2.1 with h0 | h0
      · omega
      · have h1 : ordL (dAt ls j) < ordL (dAt ls (j + 1)) := by
          unfold domLt at h0
          simp only [Bool.and_eq_true, decide_eq_true_eq] at h0
          exact h0.2
        rcases Nat.lt_succ_iff_lt_or_eq.1 hi with hi | rfl
        · exact Nat.lt_trans (ih i hi (by omega)) h1
        · exact h1
  refine ⟨List.pairwise_iff_getElem.2 fun i j hi hj hij => ?_, fun a ha => ?_⟩
  · have := hlt j i hij hj
    rw [dAt_get ls i hi, dAt_get ls j hj] at this
    exact this
  · obtain ⟨k, hk, rfl⟩ := List.mem_iff_getElem.1 ha
    have := (hq k hk).1
    rwa [dAt_get ls k hk] at this
theorem cnt_ext {A B : Nat} : ∀ n, (∀ i, i < n → A.testBit i = B.testBit i) → cntB A n = cntB B n
  | 0, _ => rfl
  | n + 1, h => by rw [cntB, cntB, cnt_ext n fun i hi => h i (by omega), h n (by omega)]
theorem til_of {R : Nat} {ls : List Lk} (h : Til R ls) : sTileB R ls = true := by
  have hcov : ∀ k, k ≤ ls.length → (∀ i, i < 64 → cc (ls.take k) i = if (covTo ls k).testBit i then 1 else 0) ∧ ∀ j, j < k → qAt R ls j = true := by
    intro k
    induction k with
    | zero => exact fun _ => ⟨fun i _ => by simp [cc, covTo], fun j hj => by omega⟩
    | succ k ih =>
      intro hk
      obtain ⟨i1, i2⟩ := ih (by omega)
      have hd : domL (dAt ls k) = true := h.so.ok (by omega)
      have hab := ab_lt hd
      have hcell : ∀ i, i < 64 → ovr (dAt ls k) i = true → R.testBit i = true ∧ (covTo ls k).testBit i = false := by
        intro i hi ho
        have h1 := cc_step (ls := ls) (k := k) (i := i) (by omega)
        have h2 := cc_take_le ls (k + 1) i
        have h3 := h.cv i hi
        have h4 := i1 i hi
        rw [ho, if_pos rfl] at h1
        cases hr : R.testBit i
        · rw [hr] at h3; simp at h3; omega
        · rw [hr] at h3
          refine ⟨rfl, ?_⟩
          cases hc : (covTo ls k).testBit i
          · rfl
          · rw [hc] at h4; simp at h3 h4; omega
      have ha := hcell (aI (dAt ls k)) (by omega) (by simp [ovr])
      have hb := hcell (bI (dAt ls k)) (by omega) (by simp [ovr])
      have hqk : qAt R ls k = true := by
        refine q_parts.2 ⟨hd, ?_, ⟨ha.1, hb.1⟩, ha.2, hb.2⟩
        by_cases h0 : k = 0
        · exact .inl h0
        · refine .inr ?_
          have h1 := h.so.at (i := k - 1) (j := k) (by omega) (by omega)
          have h2 : domL (dAt ls (k - 1)) = true := h.so.ok (by omega)
          unfold domLt
          simp only [Bool.and_eq_true, decide_eq_true_eq]
          exact ⟨⟨h2, hd⟩, h1⟩
      refine ⟨fun i hi => ?_, fun j hj => ?_⟩
      · rw [cc_step (by omega), i1 i hi, covT_bit hd]
        cases ho : ovr (dAt ls k) i
        · simp
        · rw [(hcell i hi ho).2]; simp
      · rcases Nat.lt_succ_iff_lt_or_eq.1 hj with hj | rfl
        · exact i2 j hj
        · exact hqk
  obtain ⟨h1, h2⟩ := hcov ls.length (Nat.le_refl _)
  have hp : sPartB R ls = true := (upFrom_iff _ _ _).2 fun k _ hk => h2 k hk
  have h3 := (cov_facts hp ls.length (Nat.le_refl _)).1
  have h4 : cntB (covTo ls ls.length) 64 = cntB R 64 := by
    refine cnt_ext 64 fun i hi => ?_
    have g1 := h1 i hi
    rw [List.take_length, h.cv i hi] at g1
    cases hr : R.testBit i <;> cases hc : (covTo ls ls.length).testBit i <;> rw [hr, hc] at g1 <;> simp at g1 ⊢
  unfold sTileB
  rw [hp, Bool.true_and, decide_eq_true_eq]
  omega
theorem til_to {R : Nat} (hR : R < 18446744073709551616) {ls : List Lk} (h : sTileB R ls = true) : Til R ls := by
  have h2 := h
  rw [← tile_eq hR] at h2
  unfold tileB at h2
  unfold sTileB at h
  simp only [Bool.and_eq_true, beq_iff_eq] at h h2
  refine ⟨part_sorted h.1, fun i _ => ?_⟩
  have h3 := part_cc h.1 i ls.length (Nat.le_refl _)
  rw [List.take_length, h2.2] at h3
  exact h3
theorem Sorted.nodup {ls : List Lk} (h : Sorted ls) : ls.Nodup := h.1.imp fun hab e => by subst e; omega
theorem Sorted.eq {l m : List Lk} (hl : Sorted l) (hm : Sorted m) (h : l.Perm m) : l = m :=
  h.eq_of_pairwise (fun a b _ _ h1 h2 => absurd h1 (by omega)) hl.1 hm.1

/-! ### Sorting -/
theorem insI_perm {d : Lk} {ys : List Lk} (h : d ∉ ys) : (insI d ys).Perm (d :: ys) := by
  unfold insI
  obtain ⟨h1, _, _⟩ := downK_spec ys (ordL d) ys.length
  generalize downK ys (ordL d) ys.length = k at *
  dsimp only
  split
  · rename_i hk
    simp only [Bool.and_eq_true, decide_eq_true_eq, beq_iff_eq] at hk
    refine absurd ?_ h
    rw [← hk.2, dAt_get ys (k - 1) (by omega)]
    exact List.getElem_mem _
  · refine List.perm_middle.trans ?_
    rw [List.take_append_drop]
theorem sortI_perm {ls : List Lk} (hn : ls.Nodup) (hd : ∀ d ∈ ls, domL d = true) : ∀ k, k ≤ ls.length → (sortI ls k).Perm (ls.take k)
  | 0, _ => by simp [sortI]
  | k + 1, hk => by
    have ih := sortI_perm hn hd k (by omega)
    have hg := dAt_get ls k (by omega)
    have h1 : domL (dAt ls k) = true := by rw [hg]; exact hd _ (List.getElem_mem _)
    have h2 : dAt ls k ∉ sortI ls k := by
      intro hm
      have hm2 := ih.mem_iff.1 hm
      rw [hg] at hm2
      obtain ⟨j, hj, he⟩ := List.mem_iff_getElem.1 hm2
      rw [List.getElem_take] at he
      rw [List.length_take] at hj
      exact (List.pairwise_iff_getElem.1 hn) j k (by omega) (by omega) (by omega) he
    rw [sortI, if_pos h1, take_get (by omega)]
    refine (insI_perm h2).trans ((ih.cons _).trans ?_)
    exact (List.perm_append_singleton _ _).symm
theorem sort_til {R : Nat} {ls : List Lk} (hn : ls.Nodup) (hd : ∀ d ∈ ls, domL d = true) (hc : ∀ i, i < 64 → cc ls i = if R.testBit i then 1 else 0) : Til R (sortI ls ls.length) := by
  have hp := sortI_perm hn hd ls.length (Nat.le_refl _)
  rw [List.take_length] at hp
  exact ⟨(sort_same ls ls.length).2, fun i hi => by rw [cc_perm hp]; exact hc i hi⟩
theorem nodup_of_cc {R : Nat} {ls : List Lk} (hd : ∀ d ∈ ls, domL d = true) (hc : ∀ i, i < 64 → cc ls i = if R.testBit i then 1 else 0) : ls.Nodup := by
  have key : ∀ l : List Lk, (∀ d ∈ l, domL d = true) → (∀ i, i < 64 → cc l i ≤ 1) → l.Nodup := by
    intro l
    induction l with
    | nil => intro _ _; exact List.nodup_nil
    | cons d l ih =>
      intro h1 h2
      have hdd := h1 d (by simp)
      refine List.nodup_cons.2 ⟨fun hm => ?_, ih (fun x hx => h1 x (by simp [hx])) fun i hi => by have := h2 i hi; rw [cc_cons] at this; omega⟩
      have h3 := h2 (aI d) (by have := ab_lt hdd; omega)
      have h4 : ovr d (aI d) = true := by simp [ovr]
      have h5 := cc_pos hm h4
      rw [cc_cons, if_pos h4] at h3
      omega
  exact key ls hd fun i hi => by rw [hc i hi]; split <;> omega

/-! ### Flips -/
/-- The other domino over the four cells at a cell. -/
def prt (l : Lk) : Lk := if l.2.2 then (l.1 + 1, l.2.1, true) else (l.1, l.2.1 + 1, false)
def quadL (x y : Int) (d : Bool) : Lk × Lk := ((x, y, d), prt (x, y, d))
theorem quad_dom {x y : Int} (hx : 0 ≤ x ∧ x ≤ 6) (hy : 0 ≤ y ∧ y ≤ 6) (d : Bool) : domL (quadL x y d).1 = true ∧ domL (quadL x y d).2 = true := by
  unfold domL
  rw [domB_iff, domB_iff]
  cases d <;> simp [quadL, prt] <;> omega
theorem quad_cc {x y : Int} (hx : 0 ≤ x ∧ x ≤ 6) (hy : 0 ≤ y ∧ y ≤ 6) (d : Bool) (i : Nat) : (if ovr (quadL x y d).1 i then 1 else 0) + (if ovr (quadL x y d).2 i then 1 else 0) = (if ovr (quadL x y (!d)).1 i then 1 else 0) + (if ovr (quadL x y (!d)).2 i then 1 else 0) := by
  obtain ⟨n, rfl⟩ := Int.eq_ofNat_of_zero_le hx.1
  obtain ⟨m, rfl⟩ := Int.eq_ofNat_of_zero_le hy.1
  have e1 : ((n : Int) + 1).toNat = n + 1 := by omega
  have e2 : ((m : Int) + 1).toNat = m + 1 := by omega
  unfold ovr quadL prt aI bI cix
  cases d <;> simp [e1, e2] <;> (repeat' split) <;> omega
/-- The dominoes at a cell are turned. -/
def flipL (ls : List Lk) (x y : Int) (d : Bool) : List Lk := (quadL x y (!d)).1 :: (quadL x y (!d)).2 :: ls.filter fun l => l != (quadL x y d).1 && l != (quadL x y d).2
theorem perm_two {ls : List Lk} (hn : ls.Nodup) {a b : Lk} (ha : a ∈ ls) (hb : b ∈ ls) (hab : a ≠ b) : ls.Perm (a :: b :: ls.filter fun l => l != a && l != b) := by
  have h1 := List.perm_cons_erase ha
  have hb' : b ∈ ls.erase a := (List.mem_erase_of_ne (Ne.symm hab)).2 hb
  have h2 := List.perm_cons_erase hb'
  refine h1.trans ((h2.cons a).trans ?_)
  rw [(hn.erase a).erase_eq_filter, hn.erase_eq_filter, List.filter_filter]
  have : (fun l : Lk => l != b && l != a) = fun l => l != a && l != b := by funext l; exact Bool.and_comm _ _
  rw [this]
theorem flip_til {R : Nat} {ls : List Lk} (h : Til R ls) {x y : Int} (hx : 0 ≤ x ∧ x ≤ 6) (hy : 0 ≤ y ∧ y ≤ 6) {d : Bool} (h1 : (quadL x y d).1 ∈ ls) (h2 : (quadL x y d).2 ∈ ls) : Til R (sortI (flipL ls x y d) (flipL ls x y d).length) := by
  have hne : (quadL x y d).1 ≠ (quadL x y d).2 := by cases d <;> simp [quadL, prt] <;> omega
  have hp := perm_two h.so.nodup h1 h2 hne
  have hdom : ∀ l ∈ flipL ls x y d, domL l = true := by
    intro l hl
    unfold flipL at hl
    rcases List.mem_cons.1 hl with rfl | hl
    · exact (quad_dom hx hy (!d)).1
    rcases List.mem_cons.1 hl with rfl | hl
    · exact (quad_dom hx hy (!d)).2
    · exact h.so.2 _ (List.mem_filter.1 hl).1
  have hcc : ∀ i, i < 64 → cc (flipL ls x y d) i = if R.testBit i then 1 else 0 := by
    intro i hi
    have g1 := h.cv i hi
    rw [cc_perm hp, cc_cons, cc_cons] at g1
    have g2 := quad_cc hx hy d i
    unfold flipL
    rw [cc_cons, cc_cons]
    omega
  exact sort_til (nodup_of_cc hdom hcc) hdom hcc

/-! ### Every tiling of a small region has a flip -/
def anyF (hd : List Lk) : Bool := hd.any fun l => hd.contains (prt l)
theorem anyF_get {hd : List Lk} (h : anyF hd = true) : ∃ l, l ∈ hd ∧ prt l ∈ hd := by
  unfold anyF at h
  obtain ⟨l, h1, h2⟩ := List.any_eq_true.1 h
  exact ⟨l, h1, by simpa using h2⟩
/-- The first cell of a set. -/
def loB (s : Nat) : Nat → Nat → Nat
  | 0, i => i
  | f + 1, i => if s.testBit i then i else loB s f (i + 1)
theorem loB_spec (s : Nat) : ∀ f i, (∀ j, i ≤ j → j < loB s f i → s.testBit j = false) ∧ (loB s f i < i + f → s.testBit (loB s f i) = true) ∧ i ≤ loB s f i ∧ loB s f i ≤ i + f
  | 0, i => ⟨fun j h1 h2 => by simp [loB] at h2; omega, fun h => by simp [loB] at h, Nat.le_refl _, Nat.le_refl _⟩
  | f + 1, i => by
    rw [loB]
    cases h : s.testBit i
    · obtain ⟨h1, h2, h3, h4⟩ := loB_spec s f (i + 1)
      simp only [Bool.false_eq_true, if_false]
      refine ⟨fun j g1 g2 => ?_, fun g => h2 (by omega), by omega, by omega⟩
      rcases Nat.eq_or_lt_of_le g1 with rfl | g1
      · exact h
      · exact h1 j g1 g2
    · simp only [if_true]
      exact ⟨fun j g1 g2 => by omega, fun _ => h, Nat.le_refl _, by omega⟩
def dK (k : Nat) (dn : Bool) : Lk := (((k % 8 : Nat) : Int), ((k / 8 : Nat) : Int), dn)
theorem dK_of {t : Lk} (h : domL t = true) : t = dK (aI t) t.2.2 := by
  obtain ⟨x, y, d⟩ := t
  have h1 := (domB_iff x y d).1 h
  have h2 : x ≤ 7 := by have := h1.2; cases d <;> simp at this <;> omega
  have hx := h1.1.1
  have hy := h1.1.2
  have e1 : x = (((y.toNat * 8 + x.toNat) % 8 : Nat) : Int) := by omega
  have e2 : y = (((y.toNat * 8 + x.toNat) / 8 : Nat) : Int) := by omega
  exact Prod.ext e1 (Prod.ext e2 rfl)
def chkF : Nat → Nat → List Lk → Bool
  | 0, _, hd => anyF hd
  | f + 1, s, hd => anyF hd || (decide (loB s 64 0 < 64) && [false, true].all fun dn =>
      let t := dK (loB s 64 0) dn
      !(domL t && s.testBit (bI t)) || chkF f (s ^^^ dM t) (hd ++ [t]))
theorem chkF_all : ∀ (f s : Nat) (hd : List Lk), chkF f s hd = true → ∀ tl, Sorted tl → (∀ i, i < 64 → cc tl i = if s.testBit i then 1 else 0) → ∃ l, l ∈ hd ++ tl ∧ prt l ∈ hd ++ tl
  | 0, s, hd, h, tl, _, _ => by
    obtain ⟨l, h1, h2⟩ := anyF_get h
    exact ⟨l, by simp [h1], by simp [h2]⟩
  | f + 1, s, hd, h, tl, hs, hc => by
    rw [chkF, Bool.or_eq_true] at h
    rcases h with h | h
    · obtain ⟨l, h1, h2⟩ := anyF_get h
      exact ⟨l, by simp [h1], by simp [h2]⟩
    · rw [Bool.and_eq_true, decide_eq_true_eq] at h
      obtain ⟨hk, hall⟩ := h
      obtain ⟨p1, p2, _, _⟩ := loB_spec s 64 0
      have hbit := p2 (by omega)
      generalize loB s 64 0 = k at *
      have hck := hc k hk
      rw [hbit, if_pos rfl] at hck
      cases tl with
      | nil => simp [cc] at hck
      | cons t tl =>
        have htd : domL t = true := hs.2 t (by simp)
        have htl := ab_lt htd
        have hin : ∀ m ∈ t :: tl, ∀ i, i < 64 → ovr m i = true → s.testBit i = true := by
          intro m hm i hi ho
          have g1 := cc_pos hm ho
          rw [hc i hi] at g1
          cases hb : s.testBit i
          · rw [hb] at g1; simp at g1
          · rfl
        have hta : k ≤ aI t := by
          have g := hin t (by simp) (aI t) (by omega) (by simp [ovr])
          rcases Nat.lt_or_ge (aI t) k with g2 | g2
          · rw [p1 _ (Nat.zero_le _) g2] at g; simp at g
          · exact g2
        have htk : aI t = k := by
          obtain ⟨m, hm, ho⟩ := cc_get (ls := t :: tl) (i := k) (by omega)
          have hmd := hs.2 m hm
          have hml := ab_lt hmd
          have hma : k ≤ aI m := by
            have g := hin m hm (aI m) (by omega) (by simp [ovr])
            rcases Nat.lt_or_ge (aI m) k with g2 | g2
            · rw [p1 _ (Nat.zero_le _) g2] at g; simp at g
            · exact g2
          have hmk : aI m = k := by
            unfold ovr at ho
            simp only [Bool.or_eq_true, beq_iff_eq] at ho
            rcases ho with ho | ho
            · exact ho
            · omega
          rcases List.mem_cons.1 hm with rfl | hm
          · exact hmk
          · have h1 := (List.pairwise_cons.1 hs.1).1 m hm
            rw [ordL_eq, ordL_eq] at h1
            split at h1 <;> split at h1 <;> omega
        have hte := dK_of htd
        rw [htk] at hte
        have hbt : s.testBit (bI t) = true := hin t (by simp) (bI t) (by omega) (by simp [ovr])
        have hch : chkF f (s ^^^ dM t) (hd ++ [t]) = true := by
          have g := List.all_eq_true.1 hall t.2.2 (by cases t.2.2 <;> simp)
          simp only [← hte, htd, hbt, Bool.and_self, Bool.not_true, Bool.false_or] at g
          exact g
        obtain ⟨l, q1, q2⟩ := chkF_all f _ _ hch tl ⟨(List.pairwise_cons.1 hs.1).2, fun a ha => hs.2 a (by simp [ha])⟩ (fun i hi => by
          have g1 := hc i hi
          rw [cc_cons] at g1
          rw [Nat.testBit_xor, dM_ab, ab_bit]
          have g2 : (decide (aI t = i) || decide (bI t = i)) = ovr t i := by
            unfold ovr
            by_cases e1 : aI t = i <;> by_cases e2 : bI t = i <;> simp [e1, e2]
          rw [g2]
          cases ho : ovr t i
          · rw [ho] at g1; simp at g1 ⊢; exact g1
          · have g3 := hin t (by simp) i hi ho
            rw [ho, g3] at g1
            rw [g3]; simp at g1 ⊢; omega)
        exact ⟨l, by simpa using q1, by simpa using q2⟩
theorem flip_some {R : Nat} {ls : List Lk} (hk : chkF 40 R [] = true) (h : Til R ls) : ∃ l, l ∈ ls ∧ prt l ∈ ls := by
  obtain ⟨l, h1, h2⟩ := chkF_all 40 R [] hk ls h.so h.cv
  exact ⟨l, by simpa using h1, by simpa using h2⟩
theorem prt_quad {l : Lk} (h : domL l = true) (hp : domL (prt l) = true) : (0 ≤ l.1 ∧ l.1 ≤ 6) ∧ (0 ≤ l.2.1 ∧ l.2.1 ≤ 6) ∧ (quadL l.1 l.2.1 l.2.2).1 = l ∧ (quadL l.1 l.2.1 l.2.2).2 = prt l := by
  obtain ⟨x, y, d⟩ := l
  have h1 := (domB_iff _ _ _).1 h
  cases d
  · have h2 := (domB_iff _ _ _).1 (show domB x (y + 1) false = true from hp)
    simp at h1 h2
    exact ⟨by simp; omega, by simp; omega, rfl, rfl⟩
  · have h2 := (domB_iff _ _ _).1 (show domB (x + 1) y true = true from hp)
    simp at h1 h2
    exact ⟨by simp; omega, by simp; omega, rfl, rfl⟩
end Go.Proofs.Ytehnbalbpfmijaa

namespace Go.Proofs.Ytehnbalbpfmijaa
open Go.RowKit
set_option linter.unusedVariables false

theorem run_copy_rowF {P : Program} (w : World) (dT sT ty elem : TypeId) (s g o dLen dCap : Nat) (a : Addr) (sLen sCap : Nat) (cur : Array Value) (t : TypeId) (cs : List Value)
    (hu : P.underlying dT = some (.slice elem)) (hs : (P.info? elem).map (·.size) = some s)
    (hg : w.heap[g]? = some (.cells cur t (0, 0))) (hn : cs.length = Nat.min sLen dLen * s)
    (hsrc : ∀ j v, cs[j]? = some v → w.cell? (a.add j) = some v) (hfit : o + cs.length ≤ cur.size) (h1 : ∀ v ∈ cs, v.oneCell' = true) :
    (Builtin.copy_ #[dT, sT] ty #[.slice (some ⟨g, o, none⟩) dLen dCap, .slice (some a) sLen sCap]).run P w =
      .ok (goInt (Nat.min sLen dLen)) (w.setRow g (cur.toList.take o ++ cs ++ cur.toList.drop (o + cs.length)).toArray) := by
  have hl := run_loadCells_list (P := P) w a cs hsrc
  have hst := run_storeCells_at P g o t cs 0 cur w hg (by simpa using hfit) h1
  cases hq : P.info? elem with
  | none => simp [hq] at hs
  | some i =>
    have hi : i.size = s := by simpa [hq] using hs
    simp [Builtin.copy_, run_underlying hu, Builtin.lenOf, Builtin.firstCells, sizeOf, typeInfo, hq, hi, ← hn, hl, hst]

section
variable {α : Type} {E : El α} {P : Program}
theorem El.Ok.size (hE : E.Ok P) : (P.info? E.e).map (·.size) = some E.s := by
  have := hE.info
  cases h : P.info? E.e with
  | none => simp [h] at this
  | some i => simp [h] at this; simp [this]
theorem flat_take (hE : ∀ x, (E.f x).length = E.s) (xs : List α) (k : Nat) (hk : k ≤ xs.length) : (xs.flatMap E.f).take (k * E.s) = (xs.take k).flatMap E.f := by
  have h : xs.flatMap E.f = (xs.take k).flatMap E.f ++ (xs.drop k).flatMap E.f := by rw [← List.flatMap_append, List.take_append_drop]
  have hl : ((xs.take k).flatMap E.f).length = k * E.s := by rw [flat_length hE, List.length_take, Nat.min_eq_left hk]
  rw [h, ← hl, List.take_left']
  rfl
theorem flat_drop (hE : ∀ x, (E.f x).length = E.s) (xs : List α) (k : Nat) (hk : k ≤ xs.length) : (xs.flatMap E.f).drop (k * E.s) = (xs.drop k).flatMap E.f := by
  have h : xs.flatMap E.f = (xs.take k).flatMap E.f ++ (xs.drop k).flatMap E.f := by rw [← List.flatMap_append, List.take_append_drop]
  have hl : ((xs.take k).flatMap E.f).length = k * E.s := by rw [flat_length hE, List.length_take, Nat.min_eq_left hk]
  rw [h, ← hl, List.drop_left']
  rfl
theorem OwnF.shift (hE : E.Ok P) {w : World} {lo g cap k dCap sCap : Nat} {xs : List α} {z : α} {dT sT ty : TypeId} (hu : P.underlying dT = some (.slice E.e))
    (h : OwnF E w lo (.slice (some ⟨g, 0, none⟩) (xs.length + 1) cap) (xs ++ [z])) (hk : k < xs.length) :
    ∃ w', (Builtin.copy_ #[dT, sT] ty #[.slice (some ⟨g, (k + 1) * E.s, none⟩) (xs.length - k) dCap, .slice (some ⟨g, k * E.s, none⟩) (xs.length + 1 - k) sCap]).run P w = .ok (goInt ((xs.length - k : Nat) : Int)) w' ∧
      OwnF E w' lo (.slice (some ⟨g, 0, none⟩) (xs.length + 1) cap) (xs.take (k + 1) ++ xs.drop k) ∧ w.grownBy w' (some g) := by
  have hrow : w.ownsRow lo E.e E.s (.slice (some ⟨g, 0, none⟩) (xs.length + 1) cap) (xs.length + 1) ((xs ++ [z]).flatMap E.f) := by
    have := h
    unfold OwnF at this
    rwa [List.length_append, List.length_singleton] at this
  rcases h.2 with ⟨_, h0⟩ | ⟨g', cap', cur, hv, hb, hgg, h1, h2, h3, h4⟩
  · simp at h0
  · obtain ⟨rfl, rfl⟩ : g = g' ∧ cap = cap' := by simp at hv; exact hv
    have hl := hE.len
    have hcl : ((xs.drop k).flatMap E.f).length = (xs.length - k) * E.s := by rw [flat_length hl, List.length_drop]
    have hmin : Nat.min (xs.length + 1 - k) (xs.length - k) = xs.length - k := Nat.min_eq_right (by omega)
    simp only [List.length_append, List.length_singleton] at h1 h4
    have hfit : (k + 1) * E.s + (xs.length - k) * E.s = (xs.length + 1) * E.s := by rw [← Nat.add_mul]; congr 1; omega
    have hcs : (xs.length + 1) * E.s ≤ cur.size := by rw [h3]; exact Nat.mul_le_mul_right _ h1
    have hrun := run_copy_rowF (P := P) w dT sT ty E.e E.s g ((k + 1) * E.s) (xs.length - k) dCap ⟨g, k * E.s, none⟩ (xs.length + 1 - k) sCap cur E.e ((xs.drop k).flatMap E.f) hu hE.size hgg (by rw [hmin, hcl])
      (fun j v hj => by
        have hj' : j < (xs.length - k) * E.s := by rw [← hcl]; exact (List.getElem?_eq_some_iff.1 hj).1
        have hle : k * E.s + (xs.length - k) * E.s = xs.length * E.s := by rw [← Nat.add_mul]; congr 1; omega
        have hlt : k * E.s + j < (xs.length + 1) * E.s := by rw [Nat.add_mul]; omega
        have hc := World.ownsRow.cellAt hrow (k * E.s + j) hlt
        rw [show (⟨g, k * E.s, none⟩ : Addr).add j = ⟨g, k * E.s + j, none⟩ by simp [Addr.add], hc, List.flatMap_append, List.getElem?_append_left (by rw [flat_length hl]; omega), ← List.getElem?_drop, flat_drop hl _ _ (by omega)]
        exact hj)
      (by rw [hcl, hfit]; exact hcs)
      (fun v hv => by obtain ⟨x, _, hx⟩ := List.mem_flatMap.1 hv; exact hE.one x v hx)
    rw [hmin] at hrun
    refine ⟨_, hrun, ⟨?_, .inr ⟨g, cap, _, by simp; omega, hb, setRow_heap w g _ _ _ _ hgg, by simp; omega, h2, ?_, ?_⟩⟩, ?_⟩
    · rw [flat_length hl]
    · rw [hcl, hfit, ← h3]
      simp only [List.size_toArray, List.length_append, List.length_take, List.length_drop, hcl, Array.length_toList]
      rw [Nat.min_eq_left (by omega)]
      omega
    · have ht : cur.toList.take ((k + 1) * E.s) = (xs.take (k + 1)).flatMap E.f := by
        have := congrArg (List.take ((k + 1) * E.s)) h4
        rw [List.take_take, Nat.min_eq_left (Nat.mul_le_mul_right _ (by omega)), flat_take hl _ _ (by simp; omega), List.take_append_of_le_length (by omega)] at this
        exact this
      rw [ht, ← List.flatMap_append]
      have hlen : (xs.take (k + 1) ++ xs.drop k).length = xs.length + 1 := by simp; omega
      rw [hlen]
      simp only []
      rw [List.take_append_of_le_length (by rw [flat_length hl, hlen]; exact Nat.le_refl _), List.take_of_length_le (by rw [flat_length hl, hlen]; exact Nat.le_refl _)]
    · exact ⟨rfl, rfl, rfl, by simp [World.setRow], fun j hj hne => setRow_other w g j _ (by intro e; exact hne (by rw [e]))⟩
end

theorem wpList_copyIn {α : Type} {E : El α} {P : Program} (hE : E.Ok P) {w : World} {ops : Array Oper} {rest : List Oper} {o : Oper} {a : Act} {Q : Exit → Act → World → Prop} (hgd : o.guard = none) (d s : Operand)
    (ho : o.op = .call { callee := .builtin .copy, args := #[d, s], argTypes := #[E.t, E.t] }) (g cap k m dCap sCap lo : Nat) (xs : List α) (z : α) (hm : xs.length - k = m)
    (hd : a.eval d = .slice (some ⟨g, (k + 1) * E.s, none⟩) m dCap) (hs : a.eval s = .slice (some ⟨g, k * E.s, none⟩) (xs.length + 1 - k) sCap)
    (hown : OwnF E w lo (.slice (some ⟨g, 0, none⟩) (xs.length + 1) cap) (xs ++ [z])) (hk : k < xs.length)
    (h : ∀ w', Hid (OwnF E w' lo (.slice (some ⟨g, 0, none⟩) (xs.length + 1) cap) (xs.take (k + 1) ++ xs.drop k)) → Hid (w.grownBy w' (some g)) → wpList P ops Q rest (a.put o.dst (goInt (m : Int))) w') :
    wpList P ops Q (o :: rest) a w := by
  refine wpList_plain hgd fun K hK => ?_
  obtain ⟨w', hrun, h1, h2⟩ := OwnF.shift (dT := E.t) (sT := E.t) (ty := o.type) (dCap := dCap) (sCap := sCap) hE hE.und hown hk
  rw [hm] at hrun
  unfold Oper.wp
  simp [execOp, ho, resolve, invoke, builtin, hd, hs, hrun, Result.andThen]
  exact hK _ _ (h _ h1 h2)
theorem step_copyIn {α : Type} {E : El α} {P : Program} (hE : E.Ok P) {ops : Array Oper} {o : Oper} {a : Act} {w : World} {K : Act → World → Prop} {Q : Exit → Act → World → Prop} {X : Prop} (hgd : o.guard = none) (d s : Operand)
    (ho : o.op = .call { callee := .builtin .copy, args := #[d, s], argTypes := #[E.t, E.t] }) (g cap k m dCap sCap lo : Nat) (xs : List α) (z : α) (hm : xs.length - k = m)
    (hd : a.eval d = .slice (some ⟨g, (k + 1) * E.s, none⟩) m dCap) (hs : a.eval s = .slice (some ⟨g, k * E.s, none⟩) (xs.length + 1 - k) sCap)
    (hown : OwnF E w lo (.slice (some ⟨g, 0, none⟩) (xs.length + 1) cap) (xs ++ [z])) (hk : k < xs.length)
    (h : ∀ w', Hid (OwnF E w' lo (.slice (some ⟨g, 0, none⟩) (xs.length + 1) cap) (xs.take (k + 1) ++ xs.drop k)) → Hid (w.grownBy w' (some g)) → K (a.put o.dst (goInt (m : Int))) w') :
    if Region.wanted o (yielded ops a.tmps) = true then Oper.wp P o a w K Q else X := by
  have hw : Region.wanted o (yielded ops a.tmps) = true := by simp [Region.wanted, hgd]
  rw [if_pos hw]
  obtain ⟨w', hrun, h1, h2⟩ := OwnF.shift (dT := E.t) (sT := E.t) (ty := o.type) (dCap := dCap) (sCap := sCap) hE hE.und hown hk
  rw [hm] at hrun
  unfold Oper.wp
  simp [execOp, ho, resolve, invoke, builtin, hd, hs, hrun, Result.andThen]
  exact h _ h1 h2
theorem run_copy_noneF {P : Program} (w : World) (dT sT ty elem : TypeId) (s : Nat) (d a : Option Addr) (dLen dCap sLen sCap : Nat) (hu : P.underlying dT = some (.slice elem)) (hs : (P.info? elem).map (·.size) = some s) (hn : Nat.min sLen dLen = 0) :
    (Builtin.copy_ #[dT, sT] ty #[.slice d dLen dCap, .slice a sLen sCap]).run P w = .ok (goInt 0) w := by
  cases hq : P.info? elem with
  | none => simp [hq] at hs
  | some i =>
    have hmin : min sLen dLen = 0 := hn
    cases d <;> cases a <;> simp [Builtin.copy_, run_underlying hu, Builtin.lenOf, Builtin.firstCells, sizeOf, typeInfo, hq, hmin, storeCells, loadCells, loadCellsFrom]
theorem step_copyNone {α : Type} {E : El α} {P : Program} (hE : E.Ok P) {ops : Array Oper} {o : Oper} {a : Act} {w : World} {K : Act → World → Prop} {Q : Exit → Act → World → Prop} {X : Prop} (hgd : o.guard = none) (d s : Operand)
    (ho : o.op = .call { callee := .builtin .copy, args := #[d, s], argTypes := #[E.t, E.t] }) {dp sp : Option Addr} {dLen dCap sLen sCap : Nat}
    (hd : a.eval d = .slice dp dLen dCap) (hs : a.eval s = .slice sp sLen sCap) (hn : Nat.min sLen dLen = 0) (h : K (a.put o.dst (goInt 0)) w) :
    if Region.wanted o (yielded ops a.tmps) = true then Oper.wp P o a w K Q else X := by
  have hw : Region.wanted o (yielded ops a.tmps) = true := by simp [Region.wanted, hgd]
  rw [if_pos hw]
  have hrun := run_copy_noneF (P := P) w E.t E.t o.type E.e E.s dp sp dLen dCap sLen sCap hE.und hE.size hn
  unfold Oper.wp
  simp [execOp, ho, resolve, invoke, builtin, hd, hs, hrun, Result.andThen]
  exact h
end Go.Proofs.Ytehnbalbpfmijaa

namespace Go.Proofs.Ytehnbalbpfmijaa
open Go.RowKit
set_option linter.unusedVariables false

theorem tri_cells {w : World} {a : Nat} {x y : Int} {d : Bool} {t : TypeId} (h : w.heap[a]? = some (triO x y d t)) : w.cell? ⟨a, 0, none⟩ = some (.int .i64 x) ∧ w.cell? ⟨a, 1, none⟩ = some (.int .i64 y) ∧ w.cell? ⟨a, 2, none⟩ = some (.bool d) :=
  ⟨by rw [blk_cell h]; rfl, by rw [blk_cell h]; rfl, by rw [blk_cell h]; rfl⟩
theorem blk_grew {W6 w7 : World} {v v' : Value} {a : Nat} {o : Obj} (h : W6.heap[a]? = some o) (hG : Grew W6 w7 v v') (hob : ∀ g, v.ownBlock = some g → g < a) : w7.heap[a]? = some o ∧ ∀ g, v'.ownBlock = some g → a ≠ g := by
  obtain ⟨g1, g, g2, g3, g4⟩ := hG
  have hl := lt_of_block h
  refine ⟨(g1.block a hl fun e => by have := hob a e.symm; omega).trans h, fun k hk => ?_⟩
  rw [g2] at hk
  obtain rfl := Option.some.inj hk
  rcases g3 with g3 | g3
  · have := hob _ g3; omega
  · omega
theorem set_shift {α : Type} (ys : List α) (j : Nat) (z : α) (h : j < ys.length) : (ys.take (j + 1) ++ ys.drop j).set j z = ys.take j ++ z :: ys.drop j := by
  have e : ys.take (j + 1) = ys.take j ++ [ys[j]] := by rw [List.take_succ_eq_append_getElem h]
  have hl : (ys.take j).length = j := by simp; omega
  rw [e, List.append_assoc, List.set_append_right _ _ (by omega), hl, Nat.sub_self]
  rfl
set_option maxRecDepth 100000 in
set_option maxHeartbeats 4000000 in
theorem SortDominoes_any (v : Value) (ls : List Lk) (B : Nat) (w : World) (h : RdF elDomino w B v ls) (hB : B ≤ w.heap.size) :
    Calls Try.prog 75 #[v] w fun e w' => ∃ u, e = .returned u ∧ OwnF elDomino w' w.heap.size u (sortI ls ls.length) ∧ Below w.heap.size w w' := by
  obtain ⟨A, c, rfl, g1, g2, G3⟩ := RdT.of (E := elDomino) rfl (fun _ => rfl) h
  unfold maxLen at g2
  clear h
  have HA0 : Hid (Acc elDomino w w.heap.size (w.alloc (.cells #[] 46)) (.slice (some ⟨w.heap.size, 0, none⟩) 0 0) []) := Acc.start w
  have HSS := Lib.hid (sort_same ls)
  have HSI : Hid (∀ k, sortI ls (k + 1) = if domL (dAt ls k) then insI (dAt ls k) (sortI ls k) else sortI ls k) := fun k => rfl
  have HS0 : Hid (sortI ls 0 = []) := rfl
  obtain ⟨st, HST⟩ : ∃ st, Hid (st = sortI ls) := ⟨_, rfl⟩
  rw [← HST.out] at HSI HS0 ⊢
  have HSR : Hid (∀ k, Sorted (st k)) := fun k => by rw [HST.out]; exact (HSS.out k).2
  clear HST HSS
  go_enter Try.func75, Try.ntmps75
  go_wp2_with fail
  go_loopw [3, 10] (fun o i wr => ∃ (k : Nat) (u : Value), k ≤ ls.length ∧ i = .int .i64 k ∧ u = o ∧ Hid (Acc elDomino w w.heap.size wr u (st k))) (fun _ i _ => ls.length - (intOf i).toNat)
  case atStart => exact ⟨0, _, Nat.zero_le _, rfl, rfl, by rw [HS0.out]; exact HA0⟩
  case round =>
    obtain ⟨k, u, hk, rfl, rfl, HA⟩ := hrel
    obtain ⟨A1, ca, hv, q1, q2, _⟩ := HA.out.1.rd okDomino
    subst hv
    unfold maxLen at q2
    by_cases hlt : k < ls.length
    · have ht : decide ((k : Int) < (ls.length : Int)) = true := by simp only [decide_eq_true_eq]; omega
      obtain ⟨ad, rfl, hbl, hx, hy, hz⟩ := G3.out k hlt
      have hbl2 : (ad.add (k * 3)).block < w.heap.size := by rw [addBlock]; omega
      have hbw := HA.out.2.1
      have hx' := (hbw.cell (p := ad.add (k * 3)) hbl2).trans hx
      have hy' := (hbw.cell (p := ⟨(ad.add (k * 3)).block, (ad.add (k * 3)).off + 1, none⟩) hbl2).trans hy
      have hz' := (hbw.cell (p := ⟨(ad.add (k * 3)).block, (ad.add (k * 3)).off + 2, none⟩) hbl2).trans hz
      have HNX := Lib.hid (HSI.out k)
      have HYS := Lib.hid (HSR.out k)
      have hshort := (HSR.out k).short
      have HDA : Hid (dAt ls k = (lx ls k, ly ls k, ld ls k)) := rfl
      rw [HDA.out] at HNX
      have hk0 : (0 : Int) ≤ (k : Int) := by omega
      have hk1 : (k : Int) < (ls.length : Int) := by omega
      generalize lx ls k = x at *
      generalize ly ls k = y at *
      generalize ld ls k = d at *
      obtain ⟨ys, HYQ⟩ : ∃ ys, Hid (st k = ys) := ⟨_, rfl⟩
      rw [HYQ.out] at HA HNX HYS hshort q1 ⊢
      clear hx hy hz hbw HDA HYQ
      go_wp2_with fail
      obtain ⟨V, hV, k1, hbV⟩ := one_alloc wr (triO x y d 46)
      rw [← hV]
      obtain ⟨vn, hvn⟩ : ∃ vn, wr.heap.size = vn := ⟨_, rfl⟩
      rw [hvn] at k1 ⊢
      have HA2 := Lib.hid (HA.out.below hbV)
      have HK0 := Lib.hid k1
      have HOB : Hid (∀ g, (Value.slice A1 ys.length ca).ownBlock = some g → g < vn) := fun g hg => by rw [← hvn]; exact (HA.out.1.lt g hg).2
      clear hV k1 hbV hx' hy' hz' hvn
      refine (DominoOk_any x y d _).mono ?_
      rintro e w1 ⟨rfl, hb1⟩
      have HK1 := Lib.hid (blk_below HK0.out hb1)
      have HA3 := Lib.hid (HA2.out.below hb1)
      clear hb1
      obtain ⟨f1, f2, f3⟩ := tri_cells HK1.out
      cases hd : domB x y d
      · have HE : Hid (st (k + 1) = ys) := by unfold Hid; rw [HNX.out, if_neg (by simp [domL, hd])]
        clear HNX hd
        go_wp2_with fail
        go_roundw
        case rel => exact ⟨k + 1, _, by omega, by go_num, rfl, by rw [HE.out]; exact HA3⟩
        case measure => simp [intOf]; omega
      · have HE : Hid (st (k + 1) = insI (x, y, d) ys) := by unfold Hid; rw [HNX.out, if_pos (by simp [domL, hd])]
        have HD := Lib.hid hd
        clear HNX
        have hC2 := Lib.hid fun V => order_Z x y d V hd
        have HIN : Hid (insI (x, y, d) ys = if decide (0 < downK ys (domO x.toNat y.toNat d) ys.length) && (dAt ys (downK ys (domO x.toNat y.toNat d) ys.length - 1) == (x, y, d)) then ys else ys.take (downK ys (domO x.toNat y.toNat d) ys.length) ++ (x, y, d) :: ys.drop (downK ys (domO x.toNat y.toNat d) ys.length)) := rfl
        generalize domO x.toNat y.toNat d = o at *
        obtain ⟨q, HQ⟩ : ∃ q, Hid (downK ys o ys.length = q) := ⟨_, rfl⟩
        rw [HQ.out] at HIN
        rw [HIN.out] at HE
        clear hd HIN
        go_wp2_with fail
        go_loopw [6] (fun s wr2 => ∃ j : Nat, j ≤ ys.length ∧ s = .int .i64 j ∧ Hid (downK ys o j = q) ∧ Hid (Below w1.heap.size w1 wr2)) (fun s _ => (intOf s).toNat)
        case atStart => exact ⟨ys.length, Nat.le_refl _, rfl, HQ, Below.refl _ _⟩
        case round =>
          obtain ⟨j, hj, rfl, HJ, HB⟩ := hrel
          have HA4 := Lib.hid (HA3.out.below HB.out)
          have HK2 := Lib.hid (blk_below HK1.out HB.out)
          obtain ⟨e1, e2, e3⟩ := tri_cells HK2.out
          clear f1 f2 f3
          have hj0 : (0 : Int) ≤ (j : Int) := by omega
          have hw1 : IntKind.i64.wrap ((j : Int) + 1) = (j : Int) + 1 := IntWalk.i64_in _ (by omega)
          have hn1 : ((j : Int) + 1).toNat = j + 1 := by omega
          by_cases hjz : j = 0
          · have hq0 : q = 0 := by subst hjz; exact HJ.out.symm
            have HE0 : Hid (st (k + 1) = ys.take j ++ (x, y, d) :: ys.drop j) := by unfold Hid; rw [HE.out, hq0, hjz]; simp
            have htz : decide (0 < j) = false := by simp only [decide_eq_false_iff_not]; omega
            clear HE hq0 hjz
            go_wp2_with fail
            go_quiet (fail)
            obtain ⟨W5, HW5⟩ : ∃ W5, Hid (W5 = wr.drewN nq) := ⟨_, rfl⟩
            rw [← HW5.out]
            go_wp2_with fail
            go_quiet (fail)
            obtain ⟨W6, HW6⟩ : ∃ W6, Hid (W6 = W5.drewN nq) := ⟨_, rfl⟩
            rw [← HW6.out]
            have HBW : Hid (Below wr.heap.size wr W6) := by unfold Hid; rw [HW6.out, HW5.out]; exact (Drawn.below ⟨_, rfl⟩ _).trans ((Drawn.below ⟨_, rfl⟩ _))
            have HA6 := Lib.hid (HA4.out.below HBW.out)
            have HK6 := Lib.hid (blk_below HK2.out HBW.out)
            go_wp2_with (at_builtin; refine wpList_push okDomino rfl _ _ rfl HA6.out rfl (0, 0, false) _ rfl _ rfl rfl (by omega) ?_; intro v7 w7 HA7 HG7; obtain ⟨g7, c7, hv7, hgb7, hglt7⟩ := World.ownsRow.form HA7.out.1 (by simp); rw [List.length_append, List.length_singleton] at hv7; subst hv7)
            have hc7 : ys.length + 1 ≤ c7 := by
              obtain ⟨A9, c9, hv9, q91, q92, _⟩ := HA7.out.1.rd okDomino
              simp at hv9 q91
              omega
            have hge : (0 : Int) ≤ (j : Int) + 1 := by omega
            have HK7 := Lib.hid (blk_grew HK6.out HG7.out HOB.out)
            by_cases hjl : j = ys.length
            · have hle : (j : Int) + 1 ≤ (ys.length : Int) + 1 := by omega
              have hle' : (j : Int) ≤ (ys.length : Int) + 1 := by omega
              have hmin : Nat.min (ys.length + 1 - j) (ys.length - j) = 0 := by show min _ _ = 0; omega
              have HJL := Lib.hid hjl
              clear hjl
              refine wp_region_held_drew (S := fun _ => True) (by kernel_rfl) (by exact trivial) (fun hHeld => ?_)
              refine wpAnyH_take (i := 0) (oi := ⟨_, _, _, _, _, _⟩) (v := ?vap29651q1n0) rfl (by kernel_rfl) (by kernel_rfl) (by kernel_rfl) (fun _ _ _ h => h) (Or.inl ⟨by rfl, ?hap29651q1n0⟩) (by assumption) ?_
              case hap29651q1n0 => (intro w hSw; (try dsimp only at hSw); go_simp; try with_reducible rfl)
              try simp only [Act.put, List.setIfInBounds_toArray, List.set_cons_zero, List.set_cons_succ]
              refine wpAnyH_take (i := 1) (oi := ⟨_, _, _, _, _, _⟩) (v := ?vap29651q2n1) rfl (by kernel_rfl) (by kernel_rfl) (by kernel_rfl) (fun _ _ _ h => h) (Or.inl ⟨by rfl, ?hap29651q2n1⟩) (by assumption) ?_
              case hap29651q2n1 => (intro w hSw; (try dsimp only at hSw); go_simp; try with_reducible rfl)
              try simp only [Act.put, List.setIfInBounds_toArray, List.set_cons_zero, List.set_cons_succ]
              refine wpAnyH_take (i := 2) (oi := ⟨_, _, _, _, _, _⟩) (v := ?vap29651q3n2) rfl (by kernel_rfl) (by kernel_rfl) (by kernel_rfl) (fun _ _ _ h => h) (Or.inl ⟨by rfl, ?hap29651q3n2⟩) (by assumption) ?_
              case hap29651q3n2 => (intro w hSw; (try dsimp only at hSw); go_simp; try with_reducible rfl)
              try simp only [Act.put, List.setIfInBounds_toArray, List.set_cons_zero, List.set_cons_succ]
              refine wpAnyH_take (i := 3) (oi := ⟨_, _, _, _, _, _⟩) (v := ?vap29651q4n3) rfl (by kernel_rfl) (by kernel_rfl) (by kernel_rfl) (fun _ _ _ h => h) (Or.inl ⟨by rfl, ?hap29651q4n3⟩) (by assumption) ?_
              case hap29651q4n3 => (intro w hSw; (try dsimp only at hSw); go_simp; try with_reducible rfl)
              try simp only [Act.put, List.setIfInBounds_toArray, List.set_cons_zero, List.set_cons_succ]
              refine wpAnyH_take (i := 4) (oi := ⟨_, _, _, _, _, _⟩) (v := ?vap29651q5n4) rfl (by kernel_rfl) (by kernel_rfl) (by kernel_rfl) (fun _ _ _ h => h) (Or.inl ⟨by rfl, ?hap29651q5n4⟩) (by assumption) ?_
              case hap29651q5n4 => (intro w hSw; (try dsimp only at hSw); go_simp; try with_reducible rfl)
              try simp only [Act.put, List.setIfInBounds_toArray, List.set_cons_zero, List.set_cons_succ]
              refine wpAnyH_take (i := 5) (oi := ⟨_, _, _, _, _, _⟩) (v := ?vap29651q6n5) rfl (by kernel_rfl) (by kernel_rfl) (by kernel_rfl) (fun _ _ _ h => h) (Or.inl ⟨by rfl, ?hap29651q6n5⟩) (by assumption) ?_
              case hap29651q6n5 => (intro w hSw; (try dsimp only at hSw); go_simp; try with_reducible rfl)
              try simp only [Act.put, List.setIfInBounds_toArray, List.set_cons_zero, List.set_cons_succ]
              refine wpAnyH_take (i := 6) (oi := ⟨_, _, _, _, _, _⟩) (v := ?vap29651q7n6) rfl (by kernel_rfl) (by kernel_rfl) (by kernel_rfl) (fun _ _ _ h => h) (Or.inl ⟨by rfl, ?hap29651q7n6⟩) (by assumption) ?_
              case hap29651q7n6 => (intro w hSw; (try dsimp only at hSw); go_simp; try with_reducible rfl)
              try simp only [Act.put, List.setIfInBounds_toArray, List.set_cons_zero, List.set_cons_succ]
              refine wpAnyH_ready (rs := [7]) (by kernel_rfl) (by simp) ?_
              refine AllReadyH.cons (o := ⟨_, _, _, _, _, _⟩) rfl (fun K hK => ?_) AllReadyH.nil
              refine step_copyNone okDomino (by rfl) (.tmp 52) (.tmp 55) (by rfl) (by rfl) (by rfl) hmin ?_
              refine hK.out _ _ (by exact trivial) (fun hHeld => ?_)
              clear hK K
              try simp only [Act.put, List.setIfInBounds_toArray, List.set_cons_zero, List.set_cons_succ]
              refine wpAnyH_done (by kernel_rfl) ?_ _
              obtain ⟨w8, HW8⟩ : ∃ w8, Hid (w8 = w7.drew) := ⟨_, rfl⟩
              rw [← HW8.out]
              obtain ⟨zs, HZS⟩ : ∃ zs, Hid (zs = ys ++ [((0, 0, false) : Lk)]) := ⟨_, rfl⟩
              have HO8 : Hid (OwnF elDomino w8 w.heap.size (.slice (some ⟨g7, 0, none⟩) zs.length c7) zs) := by
                unfold Hid; rw [HW8.out, HZS.out, List.length_append, List.length_singleton]
                exact HA7.out.1
              have HZL : Hid (zs.length = ys.length + 1) := by rw [HZS.out]; unfold Hid; simp
              have HZE : Hid (zs.set j (x, y, d) = ys.take j ++ (x, y, d) :: ys.drop j) := by unfold Hid; rw [HZS.out, HJL.out]; simp
              have HB8 : Hid (Below w.heap.size w w8) := by unfold Hid; rw [HW8.out]; exact HA7.out.2.1.trans (Drawn.below ⟨_, rfl⟩ _)
              have HK8 := Lib.hid (show w8.heap[_]? = _ from (congrArg (fun q : World => q.heap[_]?) HW8.out).trans HK7.out.1)
              have hzl : zs.length = ys.length + 1 := HZL.out
              obtain ⟨c0, c1, c2, hfr, ht3⟩ := triStore okDomino rfl (fun _ => rfl) (cap := c7) (ls := zs) HO8.out (j := j) (by omega)
              obtain ⟨hst, hgr⟩ := ht3 x y d
              rw [List.length_set, hzl] at hst
              have HBN := Lib.hid (HB8.out.grown hgr HB8.out.size (fun q hq => by obtain rfl := Option.some.inj hq; exact hgb7))
              have hle9 := HBN.out.size
              have HN := Lib.hid hst
              have hj7 : (j : Int) < (ys.length : Int) + 1 := by omega
              obtain ⟨h1, h2, h3⟩ := tri_cells HK8.out
              clear hst hgr ht3 hzl
              go_wp2_with fail
              go_roundw
              case rel => exact ⟨k + 1, _, by omega, by go_num, rfl, by rw [HE0.out, ← HZE.out]; exact ⟨HN.out, HBN.out, Nat.le_refl _, hle9⟩⟩
              case measure => simp [intOf]; omega
            · have hle : (j : Int) + 1 ≤ (ys.length : Int) + 1 := by omega
              have hle' : (j : Int) ≤ (ys.length : Int) + 1 := by omega
              have hc8 : ¬ c7 = j + 1 := by omega
              have hc9 : ¬ c7 = j := by omega
              have hjlt : j < ys.length := by omega
              clear hjl
              refine wp_region_held_drew (S := fun _ => True) (by kernel_rfl) (by exact trivial) (fun hHeld => ?_)
              refine wpAnyH_take (i := 0) (oi := ⟨_, _, _, _, _, _⟩) (v := ?vap29652q1n0) rfl (by kernel_rfl) (by kernel_rfl) (by kernel_rfl) (fun _ _ _ h => h) (Or.inl ⟨by rfl, ?hap29652q1n0⟩) (by assumption) ?_
              case hap29652q1n0 => (intro w hSw; (try dsimp only at hSw); go_simp; try with_reducible rfl)
              try simp only [Act.put, List.setIfInBounds_toArray, List.set_cons_zero, List.set_cons_succ]
              refine wpAnyH_take (i := 1) (oi := ⟨_, _, _, _, _, _⟩) (v := ?vap29652q2n1) rfl (by kernel_rfl) (by kernel_rfl) (by kernel_rfl) (fun _ _ _ h => h) (Or.inl ⟨by rfl, ?hap29652q2n1⟩) (by assumption) ?_
              case hap29652q2n1 => (intro w hSw; (try dsimp only at hSw); go_simp; try with_reducible rfl)
              try simp only [Act.put, List.setIfInBounds_toArray, List.set_cons_zero, List.set_cons_succ]
              refine wpAnyH_take (i := 2) (oi := ⟨_, _, _, _, _, _⟩) (v := ?vap29652q3n2) rfl (by kernel_rfl) (by kernel_rfl) (by kernel_rfl) (fun _ _ _ h => h) (Or.inl ⟨by rfl, ?hap29652q3n2⟩) (by assumption) ?_
              case hap29652q3n2 => (intro w hSw; (try dsimp only at hSw); go_simp; try with_reducible rfl)
              try simp only [Act.put, List.setIfInBounds_toArray, List.set_cons_zero, List.set_cons_succ]
              refine wpAnyH_take (i := 3) (oi := ⟨_, _, _, _, _, _⟩) (v := ?vap29652q4n3) rfl (by kernel_rfl) (by kernel_rfl) (by kernel_rfl) (fun _ _ _ h => h) (Or.inl ⟨by rfl, ?hap29652q4n3⟩) (by assumption) ?_
              case hap29652q4n3 => (intro w hSw; (try dsimp only at hSw); go_simp; try with_reducible rfl)
              try simp only [Act.put, List.setIfInBounds_toArray, List.set_cons_zero, List.set_cons_succ]
              refine wpAnyH_take (i := 4) (oi := ⟨_, _, _, _, _, _⟩) (v := ?vap29652q5n4) rfl (by kernel_rfl) (by kernel_rfl) (by kernel_rfl) (fun _ _ _ h => h) (Or.inl ⟨by rfl, ?hap29652q5n4⟩) (by assumption) ?_
              case hap29652q5n4 => (intro w hSw; (try dsimp only at hSw); go_simp; try with_reducible rfl)
              try simp only [Act.put, List.setIfInBounds_toArray, List.set_cons_zero, List.set_cons_succ]
              refine wpAnyH_take (i := 5) (oi := ⟨_, _, _, _, _, _⟩) (v := ?vap29652q6n5) rfl (by kernel_rfl) (by kernel_rfl) (by kernel_rfl) (fun _ _ _ h => h) (Or.inl ⟨by rfl, ?hap29652q6n5⟩) (by assumption) ?_
              case hap29652q6n5 => (intro w hSw; (try dsimp only at hSw); go_simp; try with_reducible rfl)
              try simp only [Act.put, List.setIfInBounds_toArray, List.set_cons_zero, List.set_cons_succ]
              refine wpAnyH_take (i := 6) (oi := ⟨_, _, _, _, _, _⟩) (v := ?vap29652q7n6) rfl (by kernel_rfl) (by kernel_rfl) (by kernel_rfl) (fun _ _ _ h => h) (Or.inl ⟨by rfl, ?hap29652q7n6⟩) (by assumption) ?_
              case hap29652q7n6 => (intro w hSw; (try dsimp only at hSw); go_simp; try with_reducible rfl)
              try simp only [Act.put, List.setIfInBounds_toArray, List.set_cons_zero, List.set_cons_succ]
              refine wpAnyH_ready (rs := [7]) (by kernel_rfl) (by simp) ?_
              refine AllReadyH.cons (o := ⟨_, _, _, _, _, _⟩) rfl (fun K hK => ?_) AllReadyH.nil
              refine step_copyIn okDomino (by rfl) (.tmp 52) (.tmp 55) (by rfl) g7 c7 j (ys.length - j) _ _ w.heap.size ys (0, 0, false) (by rfl) (by rfl) (by rfl) (show OwnF _ w7.drew _ _ _ from HA7.out.1) hjlt ?_
              intro w8 HO8 HG8
              refine hK.out _ _ (by exact trivial) (fun hHeld => ?_)
              clear hK K
              try simp only [Act.put, List.setIfInBounds_toArray, List.set_cons_zero, List.set_cons_succ]
              refine wpAnyH_done (by kernel_rfl) ?_ _
              obtain ⟨zs, HZS⟩ : ∃ zs, Hid (zs = ys.take (j + 1) ++ ys.drop j) := ⟨_, rfl⟩
              have HZL : Hid (zs.length = ys.length + 1) := by rw [HZS.out]; unfold Hid; simp; omega
              have HO8 : Hid (OwnF elDomino w8 w.heap.size (.slice (some ⟨g7, 0, none⟩) zs.length c7) zs) := by
                unfold Hid; rw [HZL.out, HZS.out]
                exact HO8.out
              have HZE : Hid (zs.set j (x, y, d) = ys.take j ++ (x, y, d) :: ys.drop j) := by unfold Hid; rw [HZS.out]; exact set_shift ys j (x, y, d) hjlt
              have HB8 : Hid (Below w.heap.size w w8) := by
                have h9 : Below w.heap.size w w7.drew := HA7.out.2.1.trans (Drawn.below ⟨_, rfl⟩ _)
                exact h9.grown HG8.out h9.size (fun q hq => by obtain rfl := Option.some.inj hq; exact hgb7)
              have HK8 := Lib.hid ((HG8.out.block _ (lt_of_block HK7.out.1) (fun e => HK7.out.2 g7 rfl (Option.some.inj e))).trans HK7.out.1)
              have hzl : zs.length = ys.length + 1 := HZL.out
              obtain ⟨c0, c1, c2, hfr, ht3⟩ := triStore okDomino rfl (fun _ => rfl) (cap := c7) (ls := zs) HO8.out (j := j) (by omega)
              obtain ⟨hst, hgr⟩ := ht3 x y d
              rw [List.length_set, hzl] at hst
              have HBN := Lib.hid (HB8.out.grown hgr HB8.out.size (fun q hq => by obtain rfl := Option.some.inj hq; exact hgb7))
              have hle9 := HBN.out.size
              have HN := Lib.hid hst
              have hj7 : (j : Int) < (ys.length : Int) + 1 := by omega
              obtain ⟨h1, h2, h3⟩ := tri_cells HK8.out
              clear hst hgr ht3 hzl
              go_wp2_with fail
              go_roundw
              case rel => exact ⟨k + 1, _, by omega, by go_num, rfl, by rw [HE0.out, ← HZE.out]; exact ⟨HN.out, HBN.out, Nat.le_refl _, hle9⟩⟩
              case measure => simp [intOf]; omega
          · obtain ⟨m, hm⟩ : ∃ m, j = m + 1 := ⟨j - 1, by omega⟩
            have htz : decide (0 < j) = true := by simp only [decide_eq_true_eq]; omega
            have hjm : IntKind.i64.wrap ((j : Int) - 1) = (m : Int) := by rw [IntWalk.i64_in _ (by omega)]; omega
            have hm0 : (0 : Int) ≤ (m : Int) := by omega
            have hml : m < ys.length := by omega
            have hm1 : (m : Int) < (ys.length : Int) := by omega
            have hmj : m < j := by omega
            have HDJ : Hid (downK ys o j = if o < ordL (dAt ys m) then downK ys o m else m + 1) := by unfold Hid; rw [hm]; rfl
            have HQJ : Hid (downK ys o m = q → downK ys o m = q) := fun h => h
            obtain ⟨Ar, cr, hvr, _, _, Gr⟩ := RdT.of (E := elDomino) rfl (fun _ => rfl) (HA4.out.1.rd okDomino)
            obtain ⟨ad1, hA1, hbl1, r1, r2, r3⟩ := Gr.out m hml
            have hAe : A1 = Ar := by simp at hvr; exact hvr.1
            rw [hA1] at hAe
            subst hAe
            clear hvr Gr hA1
            have HDM : Hid (dAt ys m = (lx ys m, ly ys m, ld ys m)) := rfl
            have HOK := Lib.hid (HYS.out.ok hml)
            rw [HDM.out] at HOK
            have hOKM : domB (lx ys m) (ly ys m) (ld ys m) = true := HOK.out
            have hC1 := Lib.hid fun V => order_Z (lx ys m) (ly ys m) (ld ys m) V hOKM
            have HOM : Hid (ordL (dAt ys m) = domO (lx ys m).toNat (ly ys m).toNat (ld ys m)) := rfl
            rw [HOM.out] at HDJ
            have HEQ : Hid (dAt ys m = (lx ys m, ly ys m, ld ys m)) := rfl
            have hk2 := lt_of_block HK2.out
            have hp2 : (ad1.add (m * 3)).block < wr.heap.size := by rw [addBlock]; exact hbl1
            have HL2 := Lib.hid hk2; have HP2 := Lib.hid hp2
            have HS0 : Hid (PrevT wr wr vn x y d (ad1.add (m * 3)) (lx ys m) (ly ys m) (ld ys m)) := ⟨e1, e2, e3, r1, r2, r3, Nat.le_refl _, Below.refl _ _⟩
            clear HOM HOK hOKM HDM hk2 hp2
            generalize domO (lx ys m).toNat (ly ys m).toNat (ld ys m) = n1 at *
            generalize lx ys m = x2 at *
            generalize ly ys m = y2 at *
            generalize ld ys m = d2 at *
            by_cases hgt : o < n1
            · have hcmp : decide (o < n1) = true := by simpa using hgt
              have HJ2 : Hid (downK ys o m = q) := by unfold Hid; rw [← HJ.out, HDJ.out, if_pos hgt]
              clear hgt HDJ hm
              go_wp2_with fail
              go_region_held3 (fun w' => PrevT wr w' vn x y d (ad1.add (m * 3)) x2 y2 d2)
                (first
                  | exact HS0.out.drew
                  | exact PrevT.keep hb1 HL2.out HP2.out (by assumption))
                (first
                  | (go_at_call 136; (with_reducible refine (hC1.out _).mono ?_); rintro e w3 ⟨rfl, hb1⟩)
                  | (go_at_call 136; (with_reducible refine (hC2.out _).mono ?_); rintro e w3 ⟨rfl, hb1⟩))
              have HP3 := Lib.hid (show PrevT wr _ vn x y d (ad1.add (m * 3)) x2 y2 d2 from by assumption)
              have HB3 := Lib.hid (HB.out.trans (HP3.out.2.2.2.2.2.2.2.mono HB.out.size))
              clear e1 e2 e3 r1 r2 r3
              go_wp2_with fail
              go_roundw
              case rel => exact ⟨m, by omega, rfl, HJ2, HB3⟩
              case measure => simp [intOf]; omega
            · have hcmp : decide (o < n1) = false := by simpa using hgt
              have HQM : Hid (q = j) := by unfold Hid; rw [← HJ.out, HDJ.out, if_neg hgt, hm]
              clear hgt HDJ
              have HM1 := Lib.hid hm
              clear hm
              go_wp2_with fail
              go_region_held3 (fun w' => PrevT wr w' vn x y d (ad1.add (m * 3)) x2 y2 d2)
                (first
                  | exact HS0.out.drew
                  | exact PrevT.keep hb1 HL2.out HP2.out (by assumption))
                (first
                  | (go_at_call 136; (with_reducible refine (hC1.out _).mono ?_); rintro e w3 ⟨rfl, hb1⟩)
                  | (go_at_call 136; (with_reducible refine (hC2.out _).mono ?_); rintro e w3 ⟨rfl, hb1⟩))
              have HP3 := Lib.hid (show PrevT wr _ vn x y d (ad1.add (m * 3)) x2 y2 d2 from by assumption)
              clear e1 e2 e3 r1 r2 r3
              obtain ⟨e1, e2, e3, r1, r2, r3, _, hb3⟩ := HP3.out
              have HB3 := Lib.hid hb3
              clear hb3
              by_cases heq : (x2, y2, d2) = (x, y, d)
              · have HE1 : Hid (st (k + 1) = ys) := by
                  unfold Hid; rw [HE.out, HQM.out, if_pos]
                  rw [HM1.out]
                  simp only [Nat.add_sub_cancel, HEQ.out, heq]
                  simp
                simp only [Prod.mk.injEq] at heq
                obtain ⟨rfl, rfl, rfl⟩ := heq
                go_wp2_with fail
                go_quiet (fail)
                have HA9 := Lib.hid (HA4.out.below (HB3.out.trans (Drawn.below ⟨nq, rfl⟩ _)))
                go_wp2_with fail
                go_roundw
                case rel => exact ⟨k + 1, _, by omega, by go_num, rfl, by rw [HE1.out]; exact HA9⟩
                case measure => simp [intOf]; omega
              · have HE0 : Hid (st (k + 1) = ys.take j ++ (x, y, d) :: ys.drop j) := by
                  unfold Hid; rw [HE.out, HQM.out, if_neg]
                  rw [HM1.out]
                  simp only [Nat.add_sub_cancel, HEQ.out]
                  simpa using heq
                have hsq : ∀ W : World, Sem.run Try.prog (binOp .eql 46 (.agg #[.int .i64 x2, .int .i64 y2, .bool d2]) (.agg #[.int .i64 x, .int .i64 y, .bool d])) W = .ok (.bool false) W := fun W => by
                  by_cases h1 : x2 = x
                  · by_cases h2 : y2 = y
                    · have h3 : ¬ d2 = d := fun h => heq (by rw [h1, h2, h])
                      go_simp
                    · go_simp
                  · go_simp
                clear heq HE
                go_wp2_with fail
                go_quiet (fail)
                clear hsq
                obtain ⟨W6, HW6⟩ : ∃ W6, Hid (W6 = World.drewN w3 nq) := ⟨_, rfl⟩
                rw [← HW6.out]
                have HBW : Hid (Below wr.heap.size wr W6) := by unfold Hid; rw [HW6.out]; exact HB3.out.trans (Drawn.below ⟨_, rfl⟩ _)
                have HA6 := Lib.hid (HA4.out.below HBW.out)
                have HK6 := Lib.hid (blk_below HK2.out HBW.out)
                go_wp2_with (at_builtin; refine wpList_push okDomino rfl _ _ rfl HA6.out rfl (0, 0, false) _ rfl _ rfl rfl (by omega) ?_; intro v7 w7 HA7 HG7; obtain ⟨g7, c7, hv7, hgb7, hglt7⟩ := World.ownsRow.form HA7.out.1 (by simp); rw [List.length_append, List.length_singleton] at hv7; subst hv7)
                have hc7 : ys.length + 1 ≤ c7 := by
                  obtain ⟨A9, c9, hv9, q91, q92, _⟩ := HA7.out.1.rd okDomino
                  simp at hv9 q91
                  omega
                have hge : (0 : Int) ≤ (j : Int) + 1 := by omega
                have HK7 := Lib.hid (blk_grew HK6.out HG7.out HOB.out)
                by_cases hjl : j = ys.length
                · have hle : (j : Int) + 1 ≤ (ys.length : Int) + 1 := by omega
                  have hle' : (j : Int) ≤ (ys.length : Int) + 1 := by omega
                  have hmin : Nat.min (ys.length + 1 - j) (ys.length - j) = 0 := by show min _ _ = 0; omega
                  have HJL := Lib.hid hjl
                  clear hjl
                  refine wp_region_held_drew (S := fun _ => True) (by kernel_rfl) (by exact trivial) (fun hHeld => ?_)
                  refine wpAnyH_take (i := 0) (oi := ⟨_, _, _, _, _, _⟩) (v := ?vap29653q1n0) rfl (by kernel_rfl) (by kernel_rfl) (by kernel_rfl) (fun _ _ _ h => h) (Or.inl ⟨by rfl, ?hap29653q1n0⟩) (by assumption) ?_
                  case hap29653q1n0 => (intro w hSw; (try dsimp only at hSw); go_simp; try with_reducible rfl)
                  try simp only [Act.put, List.setIfInBounds_toArray, List.set_cons_zero, List.set_cons_succ]
                  refine wpAnyH_take (i := 1) (oi := ⟨_, _, _, _, _, _⟩) (v := ?vap29653q2n1) rfl (by kernel_rfl) (by kernel_rfl) (by kernel_rfl) (fun _ _ _ h => h) (Or.inl ⟨by rfl, ?hap29653q2n1⟩) (by assumption) ?_
                  case hap29653q2n1 => (intro w hSw; (try dsimp only at hSw); go_simp; try with_reducible rfl)
                  try simp only [Act.put, List.setIfInBounds_toArray, List.set_cons_zero, List.set_cons_succ]
                  refine wpAnyH_take (i := 2) (oi := ⟨_, _, _, _, _, _⟩) (v := ?vap29653q3n2) rfl (by kernel_rfl) (by kernel_rfl) (by kernel_rfl) (fun _ _ _ h => h) (Or.inl ⟨by rfl, ?hap29653q3n2⟩) (by assumption) ?_
                  case hap29653q3n2 => (intro w hSw; (try dsimp only at hSw); go_simp; try with_reducible rfl)
                  try simp only [Act.put, List.setIfInBounds_toArray, List.set_cons_zero, List.set_cons_succ]
                  refine wpAnyH_take (i := 3) (oi := ⟨_, _, _, _, _, _⟩) (v := ?vap29653q4n3) rfl (by kernel_rfl) (by kernel_rfl) (by kernel_rfl) (fun _ _ _ h => h) (Or.inl ⟨by rfl, ?hap29653q4n3⟩) (by assumption) ?_
                  case hap29653q4n3 => (intro w hSw; (try dsimp only at hSw); go_simp; try with_reducible rfl)
                  try simp only [Act.put, List.setIfInBounds_toArray, List.set_cons_zero, List.set_cons_succ]
                  refine wpAnyH_take (i := 4) (oi := ⟨_, _, _, _, _, _⟩) (v := ?vap29653q5n4) rfl (by kernel_rfl) (by kernel_rfl) (by kernel_rfl) (fun _ _ _ h => h) (Or.inl ⟨by rfl, ?hap29653q5n4⟩) (by assumption) ?_
                  case hap29653q5n4 => (intro w hSw; (try dsimp only at hSw); go_simp; try with_reducible rfl)
                  try simp only [Act.put, List.setIfInBounds_toArray, List.set_cons_zero, List.set_cons_succ]
                  refine wpAnyH_take (i := 5) (oi := ⟨_, _, _, _, _, _⟩) (v := ?vap29653q6n5) rfl (by kernel_rfl) (by kernel_rfl) (by kernel_rfl) (fun _ _ _ h => h) (Or.inl ⟨by rfl, ?hap29653q6n5⟩) (by assumption) ?_
                  case hap29653q6n5 => (intro w hSw; (try dsimp only at hSw); go_simp; try with_reducible rfl)
                  try simp only [Act.put, List.setIfInBounds_toArray, List.set_cons_zero, List.set_cons_succ]
                  refine wpAnyH_take (i := 6) (oi := ⟨_, _, _, _, _, _⟩) (v := ?vap29653q7n6) rfl (by kernel_rfl) (by kernel_rfl) (by kernel_rfl) (fun _ _ _ h => h) (Or.inl ⟨by rfl, ?hap29653q7n6⟩) (by assumption) ?_
                  case hap29653q7n6 => (intro w hSw; (try dsimp only at hSw); go_simp; try with_reducible rfl)
                  try simp only [Act.put, List.setIfInBounds_toArray, List.set_cons_zero, List.set_cons_succ]
                  refine wpAnyH_ready (rs := [7]) (by kernel_rfl) (by simp) ?_
                  refine AllReadyH.cons (o := ⟨_, _, _, _, _, _⟩) rfl (fun K hK => ?_) AllReadyH.nil
                  refine step_copyNone okDomino (by rfl) (.tmp 52) (.tmp 55) (by rfl) (by rfl) (by rfl) hmin ?_
                  refine hK.out _ _ (by exact trivial) (fun hHeld => ?_)
                  clear hK K
                  try simp only [Act.put, List.setIfInBounds_toArray, List.set_cons_zero, List.set_cons_succ]
                  refine wpAnyH_done (by kernel_rfl) ?_ _
                  obtain ⟨w8, HW8⟩ : ∃ w8, Hid (w8 = w7.drew) := ⟨_, rfl⟩
                  rw [← HW8.out]
                  obtain ⟨zs, HZS⟩ : ∃ zs, Hid (zs = ys ++ [((0, 0, false) : Lk)]) := ⟨_, rfl⟩
                  have HO8 : Hid (OwnF elDomino w8 w.heap.size (.slice (some ⟨g7, 0, none⟩) zs.length c7) zs) := by
                    unfold Hid; rw [HW8.out, HZS.out, List.length_append, List.length_singleton]
                    exact HA7.out.1
                  have HZL : Hid (zs.length = ys.length + 1) := by rw [HZS.out]; unfold Hid; simp
                  have HZE : Hid (zs.set j (x, y, d) = ys.take j ++ (x, y, d) :: ys.drop j) := by unfold Hid; rw [HZS.out, HJL.out]; simp
                  have HB8 : Hid (Below w.heap.size w w8) := by unfold Hid; rw [HW8.out]; exact HA7.out.2.1.trans (Drawn.below ⟨_, rfl⟩ _)
                  have HK8 := Lib.hid (show w8.heap[_]? = _ from (congrArg (fun q : World => q.heap[_]?) HW8.out).trans HK7.out.1)
                  have hzl : zs.length = ys.length + 1 := HZL.out
                  obtain ⟨c0, c1, c2, hfr, ht3⟩ := triStore okDomino rfl (fun _ => rfl) (cap := c7) (ls := zs) HO8.out (j := j) (by omega)
                  obtain ⟨hst, hgr⟩ := ht3 x y d
                  rw [List.length_set, hzl] at hst
                  have HBN := Lib.hid (HB8.out.grown hgr HB8.out.size (fun q hq => by obtain rfl := Option.some.inj hq; exact hgb7))
                  have hle9 := HBN.out.size
                  have HN := Lib.hid hst
                  have hj7 : (j : Int) < (ys.length : Int) + 1 := by omega
                  obtain ⟨h1, h2, h3⟩ := tri_cells HK8.out
                  clear hst hgr ht3 hzl
                  go_wp2_with fail
                  go_roundw
                  case rel => exact ⟨k + 1, _, by omega, by go_num, rfl, by rw [HE0.out, ← HZE.out]; exact ⟨HN.out, HBN.out, Nat.le_refl _, hle9⟩⟩
                  case measure => simp [intOf]; omega
                · have hle : (j : Int) + 1 ≤ (ys.length : Int) + 1 := by omega
                  have hle' : (j : Int) ≤ (ys.length : Int) + 1 := by omega
                  have hc8 : ¬ c7 = j + 1 := by omega
                  have hc9 : ¬ c7 = j := by omega
                  have hjlt : j < ys.length := by omega
                  clear hjl
                  refine wp_region_held_drew (S := fun _ => True) (by kernel_rfl) (by exact trivial) (fun hHeld => ?_)
                  refine wpAnyH_take (i := 0) (oi := ⟨_, _, _, _, _, _⟩) (v := ?vap29654q1n0) rfl (by kernel_rfl) (by kernel_rfl) (by kernel_rfl) (fun _ _ _ h => h) (Or.inl ⟨by rfl, ?hap29654q1n0⟩) (by assumption) ?_
                  case hap29654q1n0 => (intro w hSw; (try dsimp only at hSw); go_simp; try with_reducible rfl)
                  try simp only [Act.put, List.setIfInBounds_toArray, List.set_cons_zero, List.set_cons_succ]
                  refine wpAnyH_take (i := 1) (oi := ⟨_, _, _, _, _, _⟩) (v := ?vap29654q2n1) rfl (by kernel_rfl) (by kernel_rfl) (by kernel_rfl) (fun _ _ _ h => h) (Or.inl ⟨by rfl, ?hap29654q2n1⟩) (by assumption) ?_
                  case hap29654q2n1 => (intro w hSw; (try dsimp only at hSw); go_simp; try with_reducible rfl)
                  try simp only [Act.put, List.setIfInBounds_toArray, List.set_cons_zero, List.set_cons_succ]
                  refine wpAnyH_take (i := 2) (oi := ⟨_, _, _, _, _, _⟩) (v := ?vap29654q3n2) rfl (by kernel_rfl) (by kernel_rfl) (by kernel_rfl) (fun _ _ _ h => h) (Or.inl ⟨by rfl, ?hap29654q3n2⟩) (by assumption) ?_
                  case hap29654q3n2 => (intro w hSw; (try dsimp only at hSw); go_simp; try with_reducible rfl)
                  try simp only [Act.put, List.setIfInBounds_toArray, List.set_cons_zero, List.set_cons_succ]
                  refine wpAnyH_take (i := 3) (oi := ⟨_, _, _, _, _, _⟩) (v := ?vap29654q4n3) rfl (by kernel_rfl) (by kernel_rfl) (by kernel_rfl) (fun _ _ _ h => h) (Or.inl ⟨by rfl, ?hap29654q4n3⟩) (by assumption) ?_
                  case hap29654q4n3 => (intro w hSw; (try dsimp only at hSw); go_simp; try with_reducible rfl)
                  try simp only [Act.put, List.setIfInBounds_toArray, List.set_cons_zero, List.set_cons_succ]
                  refine wpAnyH_take (i := 4) (oi := ⟨_, _, _, _, _, _⟩) (v := ?vap29654q5n4) rfl (by kernel_rfl) (by kernel_rfl) (by kernel_rfl) (fun _ _ _ h => h) (Or.inl ⟨by rfl, ?hap29654q5n4⟩) (by assumption) ?_
                  case hap29654q5n4 => (intro w hSw; (try dsimp only at hSw); go_simp; try with_reducible rfl)
                  try simp only [Act.put, List.setIfInBounds_toArray, List.set_cons_zero, List.set_cons_succ]
                  refine wpAnyH_take (i := 5) (oi := ⟨_, _, _, _, _, _⟩) (v := ?vap29654q6n5) rfl (by kernel_rfl) (by kernel_rfl) (by kernel_rfl) (fun _ _ _ h => h) (Or.inl ⟨by rfl, ?hap29654q6n5⟩) (by assumption) ?_
                  case hap29654q6n5 => (intro w hSw; (try dsimp only at hSw); go_simp; try with_reducible rfl)
                  try simp only [Act.put, List.setIfInBounds_toArray, List.set_cons_zero, List.set_cons_succ]
                  refine wpAnyH_take (i := 6) (oi := ⟨_, _, _, _, _, _⟩) (v := ?vap29654q7n6) rfl (by kernel_rfl) (by kernel_rfl) (by kernel_rfl) (fun _ _ _ h => h) (Or.inl ⟨by rfl, ?hap29654q7n6⟩) (by assumption) ?_
                  case hap29654q7n6 => (intro w hSw; (try dsimp only at hSw); go_simp; try with_reducible rfl)
                  try simp only [Act.put, List.setIfInBounds_toArray, List.set_cons_zero, List.set_cons_succ]
                  refine wpAnyH_ready (rs := [7]) (by kernel_rfl) (by simp) ?_
                  refine AllReadyH.cons (o := ⟨_, _, _, _, _, _⟩) rfl (fun K hK => ?_) AllReadyH.nil
                  refine step_copyIn okDomino (by rfl) (.tmp 52) (.tmp 55) (by rfl) g7 c7 j (ys.length - j) _ _ w.heap.size ys (0, 0, false) (by rfl) (by rfl) (by rfl) (show OwnF _ w7.drew _ _ _ from HA7.out.1) hjlt ?_
                  intro w8 HO8 HG8
                  refine hK.out _ _ (by exact trivial) (fun hHeld => ?_)
                  clear hK K
                  try simp only [Act.put, List.setIfInBounds_toArray, List.set_cons_zero, List.set_cons_succ]
                  refine wpAnyH_done (by kernel_rfl) ?_ _
                  obtain ⟨zs, HZS⟩ : ∃ zs, Hid (zs = ys.take (j + 1) ++ ys.drop j) := ⟨_, rfl⟩
                  have HZL : Hid (zs.length = ys.length + 1) := by rw [HZS.out]; unfold Hid; simp; omega
                  have HO8 : Hid (OwnF elDomino w8 w.heap.size (.slice (some ⟨g7, 0, none⟩) zs.length c7) zs) := by
                    unfold Hid; rw [HZL.out, HZS.out]
                    exact HO8.out
                  have HZE : Hid (zs.set j (x, y, d) = ys.take j ++ (x, y, d) :: ys.drop j) := by unfold Hid; rw [HZS.out]; exact set_shift ys j (x, y, d) hjlt
                  have HB8 : Hid (Below w.heap.size w w8) := by
                    have h9 : Below w.heap.size w w7.drew := HA7.out.2.1.trans (Drawn.below ⟨_, rfl⟩ _)
                    exact h9.grown HG8.out h9.size (fun q hq => by obtain rfl := Option.some.inj hq; exact hgb7)
                  have HK8 := Lib.hid ((HG8.out.block _ (lt_of_block HK7.out.1) (fun e => HK7.out.2 g7 rfl (Option.some.inj e))).trans HK7.out.1)
                  have hzl : zs.length = ys.length + 1 := HZL.out
                  obtain ⟨c0, c1, c2, hfr, ht3⟩ := triStore okDomino rfl (fun _ => rfl) (cap := c7) (ls := zs) HO8.out (j := j) (by omega)
                  obtain ⟨hst, hgr⟩ := ht3 x y d
                  rw [List.length_set, hzl] at hst
                  have HBN := Lib.hid (HB8.out.grown hgr HB8.out.size (fun q hq => by obtain rfl := Option.some.inj hq; exact hgb7))
                  have hle9 := HBN.out.size
                  have HN := Lib.hid hst
                  have hj7 : (j : Int) < (ys.length : Int) + 1 := by omega
                  obtain ⟨h1, h2, h3⟩ := tri_cells HK8.out
                  clear hst hgr ht3 hzl
                  go_wp2_with fail
                  go_roundw
                  case rel => exact ⟨k + 1, _, by omega, by go_num, rfl, by rw [HE0.out, ← HZE.out]; exact ⟨HN.out, HBN.out, Nat.le_refl _, hle9⟩⟩
                  case measure => simp [intOf]; omega
    · obtain rfl : k = ls.length := by omega
      have ht : decide ((ls.length : Int) < (ls.length : Int)) = false := by simp
      go_wp2_with fail
      go_ret
      exact ⟨_, rfl, HA.out.1, HA.out.2.1⟩
end Go.Proofs.Ytehnbalbpfmijaa
