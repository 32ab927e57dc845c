/- What the claim's walk rests on: parts Til, TilT, TilE, TilL, ElsP, CopyIn. -/
import Derived.Test.YtehnbalbpfmijaaKt11
import Derived.Test.YtehnbalbpfmijaaKt9
import Derived.Test.YtehnbalbpfmijaaKt10
import Derived.Test.YtehnbalbpfmijaaKt6
import Derived.Test.YtehnbalbpfmijaaKt1
import Derived.Test.YtehnbalbpfmijaaKt4
import Derived.Test.YtehnbalbpfmijaaKt2
import Derived.Laws.CopyOwn
namespace Go.Proofs.Ytehnbalbpfmijaa
open Go.RowKit
set_option linter.unusedVariables false

/-- Whether a domino lies over a cell. -/
def ovr (d : Lk) (i : Nat) : Bool := aI d == i || bI d == i
/-- How many dominoes of a list lie over a cell. -/
def cc (ls : List Lk) (i : Nat) : Nat := ls.countP fun d => ovr d i
theorem cc_cons (d : Lk) (ls : List Lk) (i : Nat) : cc (d :: ls) i = cc ls i + (if ovr d i then 1 else 0) := List.countP_cons
theorem cc_app (l m : List Lk) (i : Nat) : cc (l ++ m) i = cc l i + cc m i := List.countP_append
theorem cc_perm {l m : List Lk} (h : l.Perm m) (i : Nat) : cc l i = cc m i := h.countP_eq _
theorem cc_pos {ls : List Lk} {d : Lk} {i : Nat} (h : d ∈ ls) (ho : ovr d i = true) : 0 < cc ls i := List.countP_pos_iff.2 ⟨d, h, ho⟩
theorem cc_get {ls : List Lk} {i : Nat} (h : 0 < cc ls i) : ∃ d, d ∈ ls ∧ ovr d i = true := List.countP_pos_iff.1 h
theorem ordL_eq (l : Lk) : ordL l = 2 * aI l + if l.2.2 then 1 else 0 := rfl
theorem ab_lt {l : Lk} (h : domL l = true) : aI l < bI l ∧ bI l < 64 := by
  obtain ⟨x, y, d⟩ := l
  have h1 := (domB_iff _ _ _).1 h
  unfold aI bI cix
  cases d <;> simp at h1 ⊢ <;> omega
/-- A tiling of the region with these cells. -/
structure Til (R : Nat) (ls : List Lk) : Prop where
  so : Sorted ls
  cv : ∀ i, i < 64 → cc ls i = if R.testBit i then 1 else 0
theorem covT_bit {ls : List Lk} {k : Nat} (hd : domL (dAt ls k) = true) (i : Nat) : (covTo ls (k + 1)).testBit i = ((covTo ls k).testBit i || ovr (dAt ls k) i) := by
  rw [covTo, if_pos hd, dM_ab, Nat.testBit_or, ab_bit]
  unfold ovr
  by_cases h1 : aI (dAt ls k) = i <;> by_cases h2 : bI (dAt ls k) = i <;> simp [h1, h2]
theorem take_get {ls : List Lk} {k : Nat} (h : k < ls.length) : ls.take (k + 1) = ls.take k ++ [dAt ls k] := by
  rw [dAt_get ls k h, List.take_succ_eq_append_getElem h]
theorem cc_one (d : Lk) (i : Nat) : cc [d] i = if ovr d i then 1 else 0 := by simp [cc]
theorem cc_step {ls : List Lk} {k i : Nat} (h : k < ls.length) : cc (ls.take (k + 1)) i = cc (ls.take k) i + if ovr (dAt ls k) i then 1 else 0 := by rw [take_get h, cc_app, cc_one]
theorem cc_take_le (ls : List Lk) (k i : Nat) : cc (ls.take k) i ≤ cc ls i := (List.take_sublist k ls).countP_le
theorem q_parts {R : Nat} {ls : List Lk} {k : Nat} : qAt R ls k = true ↔ domL (dAt ls k) = true ∧ (k = 0 ∨ domLt (dAt ls (k - 1)) (dAt ls k) = true) ∧ (R.testBit (aI (dAt ls k)) = true ∧ R.testBit (bI (dAt ls k)) = true) ∧ (covTo ls k).testBit (aI (dAt ls k)) = false ∧ (covTo ls k).testBit (bI (dAt ls k)) = false := by
  unfold qAt
  simp only [Bool.and_eq_true, Bool.or_eq_true, Bool.not_eq_true', decide_eq_true_eq]
  constructor
  · rintro ⟨⟨a, b⟩, ⟨⟨c, d⟩, e⟩, f⟩; exact ⟨a, b, ⟨c, d⟩, e, f⟩
  · rintro ⟨a, b, ⟨c, d⟩, e, f⟩; exact ⟨⟨a, b⟩, ⟨⟨c, d⟩, e⟩, f⟩
theorem ovr_no {d : Lk} {T : Nat} (h1 : T.testBit (aI d) = false) (h2 : T.testBit (bI d) = false) {i : Nat} (ho : ovr d i = true) : T.testBit i = false := by
  unfold ovr at ho
  simp only [Bool.or_eq_true, beq_iff_eq] at ho
  rcases ho with rfl | rfl
  · exact h1
  · exact h2
theorem part_cc {R : Nat} {ls : List Lk} (h : sPartB R ls = true) (i : Nat) : ∀ k, k ≤ ls.length → cc (ls.take k) i = if (covTo ls k).testBit i then 1 else 0
  | 0, _ => by simp [cc, covTo]
  | k + 1, hk => by
    have ih := part_cc h i k (by omega)
    obtain ⟨hd, _, _, c1, c2⟩ := q_parts.1 ((upFrom_iff _ _ _).1 h k (Nat.zero_le _) (by omega))
    rw [cc_step (by omega), ih, covT_bit hd]
    cases ho : ovr (dAt ls k) i
    · simp
    · rw [ovr_no c1 c2 ho]; simp
theorem part_sorted {R : Nat} {ls : List Lk} (h : sPartB R ls = true) : Sorted ls := by
  have hq : ∀ k, k < ls.length → _ := fun k hk => q_parts.1 ((upFrom_iff _ _ _).1 h k (Nat.zero_le _) hk)
  have hlt : ∀ j i, i < j → j < ls.length → ordL (dAt ls i) < ordL (dAt ls j) := by
    intro j
    induction j with
    | zero => intro i hi; omega
    | succ j ih =>
      intro i hi hj
      rcases (hq (j + 1) hj).2.1 with h0 | h0
      · omega
      · have h1 : ordL (dAt ls j) < ordL (dAt ls (j + 1)) := by
          unfold domLt at h0
          simp only [Bool.and_eq_true, decide_eq_true_eq] at h0
          exact h0.2
        rcases Nat.lt_succ_iff_lt_or_eq.1 hi with hi | rfl
        · exact Nat.lt_trans (ih i hi (by omega)) h1
        · exact h1
  refine ⟨List.pairwise_iff_getElem.2 fun i j hi hj hij => ?_, fun a ha => ?_⟩
  · have := hlt j i hij hj
    rw [dAt_get ls i hi, dAt_get ls j hj] at this
    exact this
  · obtain ⟨k, hk, rfl⟩ := List.mem_iff_getElem.1 ha
    have := (hq k hk).1
    rwa [dAt_get ls k hk] at this
theorem cnt_ext {A B : Nat} : ∀ n, (∀ i, i < n → A.testBit i = B.testBit i) → cntB A n = cntB B n
  | 0, _ => rfl
  | n + 1, h => by rw [cntB, cntB, cnt_ext n fun i hi => h i (by omega), h n (by omega)]
theorem til_of {R : Nat} {ls : List Lk} (h : Til R ls) : sTileB R ls = true := by
  have hcov : ∀ k, k ≤ ls.length → (∀ i, i < 64 → cc (ls.take k) i = if (covTo ls k).testBit i then 1 else 0) ∧ ∀ j, j < k → qAt R ls j = true := by
    intro k
    induction k with
    | zero => exact fun _ => ⟨fun i _ => by simp [cc, covTo], fun j hj => by omega⟩
    | succ k ih =>
      intro hk
      obtain ⟨i1, i2⟩ := ih (by omega)
      have hd : domL (dAt ls k) = true := h.so.ok (by omega)
      have hab := ab_lt hd
      have hcell : ∀ i, i < 64 → ovr (dAt ls k) i = true → R.testBit i = true ∧ (covTo ls k).testBit i = false := by
        intro i hi ho
        have h1 := cc_step (ls := ls) (k := k) (i := i) (by omega)
        have h2 := cc_take_le ls (k + 1) i
        have h3 := h.cv i hi
        have h4 := i1 i hi
        rw [ho, if_pos rfl] at h1
        cases hr : R.testBit i
        · rw [hr] at h3; simp at h3; omega
        · rw [hr] at h3
          refine ⟨rfl, ?_⟩
          cases hc : (covTo ls k).testBit i
          · rfl
          · rw [hc] at h4; simp at h3 h4; omega
      have ha := hcell (aI (dAt ls k)) (by omega) (by simp [ovr])
      have hb := hcell (bI (dAt ls k)) (by omega) (by simp [ovr])
      have hqk : qAt R ls k = true := by
        refine q_parts.2 ⟨hd, ?_, ⟨ha.1, hb.1⟩, ha.2, hb.2⟩
        by_cases h0 : k = 0
        · exact .inl h0
        · refine .inr ?_
          have h1 := h.so.at (i := k - 1) (j := k) (by omega) (by omega)
          have h2 : domL (dAt ls (k - 1)) = true := h.so.ok (by omega)
          unfold domLt
          simp only [Bool.and_eq_true, decide_eq_true_eq]
          exact ⟨⟨h2, hd⟩, h1⟩
      refine ⟨fun i hi => ?_, fun j hj => ?_⟩
      · rw [cc_step (by omega), i1 i hi, covT_bit hd]
        cases ho : ovr (dAt ls k) i
        · simp
        · rw [(hcell i hi ho).2]; simp
      · rcases Nat.lt_succ_iff_lt_or_eq.1 hj with hj | rfl
        · exact i2 j hj
        · exact hqk
  obtain ⟨h1, h2⟩ := hcov ls.length (Nat.le_refl _)
  have hp : sPartB R ls = true := (upFrom_iff _ _ _).2 fun k _ hk => h2 k hk
  have h3 := (cov_facts hp ls.length (Nat.le_refl _)).1
  have h4 : cntB (covTo ls ls.length) 64 = cntB R 64 := by
    refine cnt_ext 64 fun i hi => ?_
    have g1 := h1 i hi
    rw [List.take_length, h.cv i hi] at g1
    cases hr : R.testBit i <;> cases hc : (covTo ls ls.length).testBit i <;> rw [hr, hc] at g1 <;> simp at g1 ⊢
  unfold sTileB
  rw [hp, Bool.true_and, decide_eq_true_eq]
  omega
theorem til_to {R : Nat} (hR : R < 18446744073709551616) {ls : List Lk} (h : sTileB R ls = true) : Til R ls := by
  have h2 := h
  rw [← tile_eq hR] at h2
  unfold tileB at h2
  unfold sTileB at h
  simp only [Bool.and_eq_true, beq_iff_eq] at h h2
  refine ⟨part_sorted h.1, fun i _ => ?_⟩
  have h3 := part_cc h.1 i ls.length (Nat.le_refl _)
  rw [List.take_length, h2.2] at h3
  exact h3
theorem Sorted.nodup {ls : List Lk} (h : Sorted ls) : ls.Nodup := h.1.imp fun hab e => by subst e; omega
theorem Sorted.eq {l m : List Lk} (hl : Sorted l) (hm : Sorted m) (h : l.Perm m) : l = m :=
  h.eq_of_pairwise (fun a b _ _ h1 h2 => absurd h1 (by omega)) hl.1 hm.1

/-! ### Sorting -/
theorem insI_perm {d : Lk} {ys : List Lk} (h : d ∉ ys) : (insI d ys).Perm (d :: ys) := by
  unfold insI
  obtain ⟨h1, _, _⟩ := downK_spec ys (ordL d) ys.length
  generalize downK ys (ordL d) ys.length = k at *
  dsimp only
  split
  · rename_i hk
    simp only [Bool.and_eq_true, decide_eq_true_eq, beq_iff_eq] at hk
    refine absurd ?_ h
    rw [← hk.2, dAt_get ys (k - 1) (by omega)]
    exact List.getElem_mem _
  · refine List.perm_middle.trans ?_
    rw [List.take_append_drop]
theorem sortI_perm {ls : List Lk} (hn : ls.Nodup) (hd : ∀ d ∈ ls, domL d = true) : ∀ k, k ≤ ls.length → (sortI ls k).Perm (ls.take k)
  | 0, _ => by simp [sortI]
  | k + 1, hk => by
    have ih := sortI_perm hn hd k (by omega)
    have hg := dAt_get ls k (by omega)
    have h1 : domL (dAt ls k) = true := by rw [hg]; exact hd _ (List.getElem_mem _)
    have h2 : dAt ls k ∉ sortI ls k := by
      intro hm
      have hm2 := ih.mem_iff.1 hm
      rw [hg] at hm2
      obtain ⟨j, hj, he⟩ := List.mem_iff_getElem.1 hm2
      rw [List.getElem_take] at he
      rw [List.length_take] at hj
      exact (List.pairwise_iff_getElem.1 hn) j k (by omega) (by omega) (by omega) he
    rw [sortI, if_pos h1, take_get (by omega)]
    refine (insI_perm h2).trans ((ih.cons _).trans ?_)
    exact (List.perm_append_singleton _ _).symm
theorem sort_til {R : Nat} {ls : List Lk} (hn : ls.Nodup) (hd : ∀ d ∈ ls, domL d = true) (hc : ∀ i, i < 64 → cc ls i = if R.testBit i then 1 else 0) : Til R (sortI ls ls.length) := by
  have hp := sortI_perm hn hd ls.length (Nat.le_refl _)
  rw [List.take_length] at hp
  exact ⟨(sort_same ls ls.length).2, fun i hi => by rw [cc_perm hp]; exact hc i hi⟩
theorem nodup_of_cc {R : Nat} {ls : List Lk} (hd : ∀ d ∈ ls, domL d = true) (hc : ∀ i, i < 64 → cc ls i = if R.testBit i then 1 else 0) : ls.Nodup := by
  have key : ∀ l : List Lk, (∀ d ∈ l, domL d = true) → (∀ i, i < 64 → cc l i ≤ 1) → l.Nodup := by
    intro l
    induction l with
    | nil => intro _ _; exact List.nodup_nil
    | cons d l ih =>
      intro h1 h2
      have hdd := h1 d (by simp)
      refine List.nodup_cons.2 ⟨fun hm => ?_, ih (fun x hx => h1 x (by simp [hx])) fun i hi => by have := h2 i hi; rw [cc_cons] at this; omega⟩
      have h3 := h2 (aI d) (by have := ab_lt hdd; omega)
      have h4 : ovr d (aI d) = true := by simp [ovr]
      have h5 := cc_pos hm h4
      rw [cc_cons, if_pos h4] at h3
      omega
  exact key ls hd fun i hi => by rw [hc i hi]; split <;> omega

/-! ### Flips -/
/-- The other domino over the four cells at a cell. -/
def prt (l : Lk) : Lk := if l.2.2 then (l.1 + 1, l.2.1, true) else (l.1, l.2.1 + 1, false)
def quadL (x y : Int) (d : Bool) : Lk × Lk := ((x, y, d), prt (x, y, d))
theorem quad_dom {x y : Int} (hx : 0 ≤ x ∧ x ≤ 6) (hy : 0 ≤ y ∧ y ≤ 6) (d : Bool) : domL (quadL x y d).1 = true ∧ domL (quadL x y d).2 = true := by
  unfold domL
  rw [domB_iff, domB_iff]
  cases d <;> simp [quadL, prt] <;> omega
theorem quad_cc {x y : Int} (hx : 0 ≤ x ∧ x ≤ 6) (hy : 0 ≤ y ∧ y ≤ 6) (d : Bool) (i : Nat) : (if ovr (quadL x y d).1 i then 1 else 0) + (if ovr (quadL x y d).2 i then 1 else 0) = (if ovr (quadL x y (!d)).1 i then 1 else 0) + (if ovr (quadL x y (!d)).2 i then 1 else 0) := by
  obtain ⟨n, rfl⟩ := Int.eq_ofNat_of_zero_le hx.1
  obtain ⟨m, rfl⟩ := Int.eq_ofNat_of_zero_le hy.1
  have e1 : ((n : Int) + 1).toNat = n + 1 := by omega
  have e2 : ((m : Int) + 1).toNat = m + 1 := by omega
  unfold ovr quadL prt aI bI cix
  cases d <;> simp [e1, e2] <;> (repeat' split) <;> omega
/-- The dominoes at a cell are turned. -/
def flipL (ls : List Lk) (x y : Int) (d : Bool) : List Lk := (quadL x y (!d)).1 :: (quadL x y (!d)).2 :: ls.filter fun l => l != (quadL x y d).1 && l != (quadL x y d).2
theorem perm_two {ls : List Lk} (hn : ls.Nodup) {a b : Lk} (ha : a ∈ ls) (hb : b ∈ ls) (hab : a ≠ b) : ls.Perm (a :: b :: ls.filter fun l => l != a && l != b) := by
  have h1 := List.perm_cons_erase ha
  have hb' : b ∈ ls.erase a := (List.mem_erase_of_ne (Ne.symm hab)).2 hb
  have h2 := List.perm_cons_erase hb'
  refine h1.trans ((h2.cons a).trans ?_)
  rw [(hn.erase a).erase_eq_filter, hn.erase_eq_filter, List.filter_filter]
  have : (fun l : Lk => l != b && l != a) = fun l => l != a && l != b := by funext l; exact Bool.and_comm _ _
  rw [this]
theorem flip_til {R : Nat} {ls : List Lk} (h : Til R ls) {x y : Int} (hx : 0 ≤ x ∧ x ≤ 6) (hy : 0 ≤ y ∧ y ≤ 6) {d : Bool} (h1 : (quadL x y d).1 ∈ ls) (h2 : (quadL x y d).2 ∈ ls) : Til R (sortI (flipL ls x y d) (flipL ls x y d).length) := by
  have hne : (quadL x y d).1 ≠ (quadL x y d).2 := by cases d <;> simp [quadL, prt] <;> omega
  have hp := perm_two h.so.nodup h1 h2 hne
  have hdom : ∀ l ∈ flipL ls x y d, domL l = true := by
    intro l hl
    unfold flipL at hl
    rcases List.mem_cons.1 hl with rfl | hl
    · exact (quad_dom hx hy (!d)).1
    rcases List.mem_cons.1 hl with rfl | hl
    · exact (quad_dom hx hy (!d)).2
    · exact h.so.2 _ (List.mem_filter.1 hl).1
  have hcc : ∀ i, i < 64 → cc (flipL ls x y d) i = if R.testBit i then 1 else 0 := by
    intro i hi
    have g1 := h.cv i hi
    rw [cc_perm hp, cc_cons, cc_cons] at g1
    have g2 := quad_cc hx hy d i
    unfold flipL
    rw [cc_cons, cc_cons]
    omega
  exact sort_til (nodup_of_cc hdom hcc) hdom hcc

/-! ### Every tiling of a small region has a flip -/
def anyF (hd : List Lk) : Bool := hd.any fun l => hd.contains (prt l)
theorem anyF_get {hd : List Lk} (h : anyF hd = true) : ∃ l, l ∈ hd ∧ prt l ∈ hd := by
  unfold anyF at h
  obtain ⟨l, h1, h2⟩ := List.any_eq_true.1 h
  exact ⟨l, h1, by simpa using h2⟩
/-- The first cell of a set. -/
def loB (s : Nat) : Nat → Nat → Nat
  | 0, i => i
  | f + 1, i => if s.testBit i then i else loB s f (i + 1)
theorem loB_spec (s : Nat) : ∀ f i, (∀ j, i ≤ j → j < loB s f i → s.testBit j = false) ∧ (loB s f i < i + f → s.testBit (loB s f i) = true) ∧ i ≤ loB s f i ∧ loB s f i ≤ i + f
  | 0, i => ⟨fun j h1 h2 => by simp [loB] at h2; omega, fun h => by simp [loB] at h, Nat.le_refl _, Nat.le_refl _⟩
  | f + 1, i => by
    rw [loB]
    cases h : s.testBit i
    · obtain ⟨h1, h2, h3, h4⟩ := loB_spec s f (i + 1)
      simp only [Bool.false_eq_true, if_false]
      refine ⟨fun j g1 g2 => ?_, fun g => h2 (by omega), by omega, by omega⟩
      rcases Nat.eq_or_lt_of_le g1 with rfl | g1
      · exact h
      · exact h1 j g1 g2
    · simp only [if_true]
      exact ⟨fun j g1 g2 => by omega, fun _ => h, Nat.le_refl _, by omega⟩
def dK (k : Nat) (dn : Bool) : Lk := (((k % 8 : Nat) : Int), ((k / 8 : Nat) : Int), dn)
theorem dK_of {t : Lk} (h : domL t = true) : t = dK (aI t) t.2.2 := by
  obtain ⟨x, y, d⟩ := t
  have h1 := (domB_iff x y d).1 h
  have h2 : x ≤ 7 := by have := h1.2; cases d <;> simp at this <;> omega
  have hx := h1.1.1
  have hy := h1.1.2
  have e1 : x = (((y.toNat * 8 + x.toNat) % 8 : Nat) : Int) := by omega
  have e2 : y = (((y.toNat * 8 + x.toNat) / 8 : Nat) : Int) := by omega
  exact Prod.ext e1 (Prod.ext e2 rfl)
def chkF : Nat → Nat → List Lk → Bool
  | 0, _, hd => anyF hd
  | f + 1, s, hd => anyF hd || (decide (loB s 64 0 < 64) && [false, true].all fun dn =>
      let t := dK (loB s 64 0) dn
      !(domL t && s.testBit (bI t)) || chkF f (s ^^^ dM t) (hd ++ [t]))
theorem chkF_all : ∀ (f s : Nat) (hd : List Lk), chkF f s hd = true → ∀ tl, Sorted tl → (∀ i, i < 64 → cc tl i = if s.testBit i then 1 else 0) → ∃ l, l ∈ hd ++ tl ∧ prt l ∈ hd ++ tl
  | 0, s, hd, h, tl, _, _ => by
    obtain ⟨l, h1, h2⟩ := anyF_get h
    exact ⟨l, by simp [h1], by simp [h2]⟩
  | f + 1, s, hd, h, tl, hs, hc => by
    rw [chkF, Bool.or_eq_true] at h
    rcases h with h | h
    · obtain ⟨l, h1, h2⟩ := anyF_get h
      exact ⟨l, by simp [h1], by simp [h2]⟩
    · rw [Bool.and_eq_true, decide_eq_true_eq] at h
      obtain ⟨hk, hall⟩ := h
      obtain ⟨p1, p2, _, _⟩ := loB_spec s 64 0
      have hbit := p2 (by omega)
      generalize loB s 64 0 = k at *
      have hck := hc k hk
      rw [hbit, if_pos rfl] at hck
      cases tl with
      | nil => simp [cc] at hck
      | cons t tl =>
        have htd : domL t = true := hs.2 t (by simp)
        have htl := ab_lt htd
        have hin : ∀ m ∈ t :: tl, ∀ i, i < 64 → ovr m i = true → s.testBit i = true := by
          intro m hm i hi ho
          have g1 := cc_pos hm ho
          rw [hc i hi] at g1
          cases hb : s.testBit i
          · rw [hb] at g1; simp at g1
          · rfl
        have hta : k ≤ aI t := by
          have g := hin t (by simp) (aI t) (by omega) (by simp [ovr])
          rcases Nat.lt_or_ge (aI t) k with g2 | g2
          · rw [p1 _ (Nat.zero_le _) g2] at g; simp at g
          · exact g2
        have htk : aI t = k := by
          obtain ⟨m, hm, ho⟩ := cc_get (ls := t :: tl) (i := k) (by omega)
          have hmd := hs.2 m hm
          have hml := ab_lt hmd
          have hma : k ≤ aI m := by
            have g := hin m hm (aI m) (by omega) (by simp [ovr])
            rcases Nat.lt_or_ge (aI m) k with g2 | g2
            · rw [p1 _ (Nat.zero_le _) g2] at g; simp at g
            · exact g2
          have hmk : aI m = k := by
            unfold ovr at ho
            simp only [Bool.or_eq_true, beq_iff_eq] at ho
            rcases ho with ho | ho
            · exact ho
            · omega
          rcases List.mem_cons.1 hm with rfl | hm
          · exact hmk
          · have h1 := (List.pairwise_cons.1 hs.1).1 m hm
            rw [ordL_eq, ordL_eq] at h1
            split at h1 <;> split at h1 <;> omega
        have hte := dK_of htd
        rw [htk] at hte
        have hbt : s.testBit (bI t) = true := hin t (by simp) (bI t) (by omega) (by simp [ovr])
        have hch : chkF f (s ^^^ dM t) (hd ++ [t]) = true := by
          have g := List.all_eq_true.1 hall t.2.2 (by cases t.2.2 <;> simp)
          simp only [← hte, htd, hbt, Bool.and_self, Bool.not_true, Bool.false_or] at g
          exact g
        obtain ⟨l, q1, q2⟩ := chkF_all f _ _ hch tl ⟨(List.pairwise_cons.1 hs.1).2, fun a ha => hs.2 a (by simp [ha])⟩ (fun i hi => by
          have g1 := hc i hi
          rw [cc_cons] at g1
          rw [Nat.testBit_xor, dM_ab, ab_bit]
          have g2 : (decide (aI t = i) || decide (bI t = i)) = ovr t i := by
            unfold ovr
            by_cases e1 : aI t = i <;> by_cases e2 : bI t = i <;> simp [e1, e2]
          rw [g2]
          cases ho : ovr t i
          · rw [ho] at g1; simp at g1 ⊢; exact g1
          · have g3 := hin t (by simp) i hi ho
            rw [ho, g3] at g1
            rw [g3]; simp at g1 ⊢; omega)
        exact ⟨l, by simpa using q1, by simpa using q2⟩
theorem flip_some {R : Nat} {ls : List Lk} (hk : chkF 40 R [] = true) (h : Til R ls) : ∃ l, l ∈ ls ∧ prt l ∈ ls := by
  obtain ⟨l, h1, h2⟩ := chkF_all 40 R [] hk ls h.so h.cv
  exact ⟨l, by simpa using h1, by simpa using h2⟩
theorem prt_quad {l : Lk} (h : domL l = true) (hp : domL (prt l) = true) : (0 ≤ l.1 ∧ l.1 ≤ 6) ∧ (0 ≤ l.2.1 ∧ l.2.1 ≤ 6) ∧ (quadL l.1 l.2.1 l.2.2).1 = l ∧ (quadL l.1 l.2.1 l.2.2).2 = prt l := by
  obtain ⟨x, y, d⟩ := l
  have h1 := (domB_iff _ _ _).1 h
  cases d
  · have h2 := (domB_iff _ _ _).1 (show domB x (y + 1) false = true from hp)
    simp at h1 h2
    exact ⟨by simp; omega, by simp; omega, rfl, rfl⟩
  · have h2 := (domB_iff _ _ _).1 (show domB (x + 1) y true = true from hp)
    simp at h1 h2
    exact ⟨by simp; omega, by simp; omega, rfl, rfl⟩
end Go.Proofs.Ytehnbalbpfmijaa

namespace Go.Proofs.Ytehnbalbpfmijaa
open Go.RowKit
set_option linter.unusedVariables false

theorem insI_mem {d x : Lk} {ys : List Lk} : x ∈ insI d ys ↔ x = d ∨ x ∈ ys := by
  unfold insI
  obtain ⟨h1, _, _⟩ := downK_spec ys (ordL d) ys.length
  generalize downK ys (ordL d) ys.length = k at *
  dsimp only
  split
  · rename_i hk
    simp only [Bool.and_eq_true, decide_eq_true_eq, beq_iff_eq] at hk
    constructor
    · exact .inr
    · rintro (rfl | h)
      · rw [← hk.2, dAt_get ys (k - 1) (by omega)]; exact List.getElem_mem _
      · exact h
  · have e : x ∈ ys ↔ x ∈ ys.take k ∨ x ∈ ys.drop k := by rw [← List.mem_append, List.take_append_drop]
    rw [List.mem_append, List.mem_cons, e]
    constructor
    · rintro (h | h | h)
      · exact .inr (.inl h)
      · exact .inl h
      · exact .inr (.inr h)
    · rintro (h | h | h)
      · exact .inr (.inl h)
      · exact .inl h
      · exact .inr (.inr h)
theorem sortI_mem {ls : List Lk} {x : Lk} : ∀ k, k ≤ ls.length → (x ∈ sortI ls k ↔ x ∈ ls.take k ∧ domL x = true)
  | 0, _ => by simp [sortI]
  | k + 1, hk => by
    have ih := sortI_mem (ls := ls) (x := x) k (by omega)
    rw [sortI, take_get (by omega), List.mem_append, List.mem_singleton]
    by_cases hd : domL (dAt ls k) = true
    · rw [if_pos hd, insI_mem, ih]
      constructor
      · rintro (rfl | ⟨h1, h2⟩)
        · exact ⟨.inr rfl, hd⟩
        · exact ⟨.inl h1, h2⟩
      · rintro ⟨h1 | h1, h2⟩
        · exact .inr ⟨h1, h2⟩
        · exact .inl h1
    · rw [if_neg hd, ih]
      constructor
      · rintro ⟨h1, h2⟩; exact ⟨.inl h1, h2⟩
      · rintro ⟨h1 | rfl, h2⟩
        · exact ⟨h1, h2⟩
        · exact absurd h2 hd
theorem sortI_ext {X Y : List Lk} (h : ∀ x, x ∈ X ↔ x ∈ Y) : sortI X X.length = sortI Y Y.length := by
  have s1 := (sort_same X X.length).2
  have s2 := (sort_same Y Y.length).2
  refine s1.eq s2 ((List.perm_ext_iff_of_nodup s1.nodup s2.nodup).2 fun x => ?_)
  rw [sortI_mem _ (Nat.le_refl _), sortI_mem _ (Nat.le_refl _), List.take_length, List.take_length, h x]
def wayD (d : Int × Int → Int × Int) (v : Int × Int) : Lk := overL (pad v (d v)).1 (pad v (d v)).2 v.1 v.2
theorem over_comm (x y a b : Int) : overL x y a b = overL a b x y := by
  unfold overL
  have e : (x == a) = (a == x) := by rw [Bool.eq_iff_iff, beq_iff_eq, beq_iff_eq]; exact eq_comm
  rw [Int.min_comm x a, Int.min_comm y b, e]
/-- L is the tiling of the tree. -/
def TilP (w h : Nat) (ls L : List Lk) : Prop :=
  ∃ (R0 : Int × Int → Prop) (d0 : Int × Int → Int × Int) (k0 : Int × Int → Nat) (R1 : Int × Int → Prop) (d1 : Int × Int → Int × Int) (k1 : Int × Int → Nat) (X : List Lk),
    Reach 0 (2 * w - 1) (2 * h - 1) (has0 ls) isO R0 d0 k0 ∧ Reach 1 (2 * w - 1) (2 * h - 1) (has1 (2 * w - 1) (2 * h - 1) ls) (out1 (2 * w - 1) (2 * h - 1)) R1 d1 k1 ∧
    (∀ x, x ∈ X ↔ (∃ v, R0 v ∧ x = wayD d0 v) ∨ ∃ v, R1 v ∧ x = wayD d1 v) ∧ L = sortI X X.length
def freeE (w h : Nat) (ls : List Lk) : List (Int × Int) := (edgesZ w h).filter fun c => !(ls.map lkC).contains c
theorem filter_split {α : Type} (p : α → Bool) : ∀ l : List α, (l.filter p).length + (l.filter fun c => !p c).length = l.length
  | [] => rfl
  | a :: l => by
    have := filter_split p l
    cases h : p a <;> simp [h] <;> omega
theorem freeE_len {w h : Nat} {ls : List Lk} (hf : FloorOk w h) (ht : TreeOk w h ls) : (freeE w h ls).length ≤ (nodes1 w h).length := by
  have h1 : ((edgesZ w h).filter fun c => (ls.map lkC).contains c).length + (freeE w h ls).length = (edgesZ w h).length := by
    unfold freeE
    exact filter_split _ _
  have h2 := sub_len (ls.map lkC) ((edgesZ w h).filter fun c => (ls.map lkC).contains c) ht.nd fun x hx => by
    obtain ⟨l, hl, rfl⟩ := List.mem_map.1 hx
    exact List.mem_filter.2 ⟨List.mem_map.2 ⟨l, ht.sb l hl, rfl⟩, List.contains_iff_mem.2 hx⟩
  rw [hf.le] at h1
  rw [List.length_map, ht.ln] at h2
  simp only [nodes1, List.length_map, List.length_range]
  omega
theorem node0_iff {w h : Nat} {ls : List Lk} {R : Int × Int → Prop} {d : Int × Int → Int × Int} {rk : Int × Int → Nat} (hf : FloorOk w h) (hw : 0 < w * h) (ht : TreeOk w h ls) (hr : Reach 0 (2 * w - 1) (2 * h - 1) (has0 ls) isO R d rk) (v : Int × Int) : R v ↔ v ∈ nodes0 w h :=
  ⟨fun h1 => (hf.m0 v).2 ⟨(hr.rng v h1).1, (hr.rng v h1).2.1, (hr.rng v h1).2.2⟩, hr.full0 hf hw ht v⟩
theorem node1_iff {w h : Nat} {ls : List Lk} {R0 R : Int × Int → Prop} {d0 d : Int × Int → Int × Int} {k0 rk : Int × Int → Nat} (hf : FloorOk w h) (hw : 0 < w * h) (ht : TreeOk w h ls) (h0 : Reach 0 (2 * w - 1) (2 * h - 1) (has0 ls) isO R0 d0 k0)
    (hr : Reach 1 (2 * w - 1) (2 * h - 1) (has1 (2 * w - 1) (2 * h - 1) ls) (out1 (2 * w - 1) (2 * h - 1)) R d rk) (v : Int × Int) : R v ↔ v ∈ nodes1 w h :=
  ⟨fun h1 => (hf.m1 v).2 ⟨(hr.rng v h1).1, (hr.rng v h1).2.1⟩, Reach.full1 hf ht h0 (h0.full0 hf hw ht) hr v⟩
theorem ways_same {w h : Nat} {ls : List Lk} (hf : FloorOk w h) (hw : 0 < w * h) (ht : TreeOk w h ls) {R0 R0' R1 R1' : Int × Int → Prop} {d0 d0' d1 d1' : Int × Int → Int × Int} {k0 k0' k1 k1' : Int × Int → Nat}
    (a0 : Reach 0 (2 * w - 1) (2 * h - 1) (has0 ls) isO R0 d0 k0) (b0 : Reach 0 (2 * w - 1) (2 * h - 1) (has0 ls) isO R0' d0' k0')
    (a1 : Reach 1 (2 * w - 1) (2 * h - 1) (has1 (2 * w - 1) (2 * h - 1) ls) (out1 (2 * w - 1) (2 * h - 1)) R1 d1 k1) (b1 : Reach 1 (2 * w - 1) (2 * h - 1) (has1 (2 * w - 1) (2 * h - 1) ls) (out1 (2 * w - 1) (2 * h - 1)) R1' d1' k1') :
    (∀ v ∈ nodes0 w h, d0 v = d0' v) ∧ ∀ v ∈ nodes1 w h, d1 v = d1' v := by
  refine ⟨a0.uniq b0 (nodes0 w h) (ls.map lkC) hf.n0 ?_ (fun v _ e _ q => q) (a0.full0 hf hw ht) (b0.full0 hf hw ht), a1.uniq b1 (nodes1 w h) (freeE w h ls) hf.n1 (freeE_len hf ht) (fun v hv e he q => ?_) (Reach.full1 hf ht a0 (a0.full0 hf hw ht) a1) (Reach.full1 hf ht a0 (a0.full0 hf hw ht) b1)⟩
  · rw [List.length_map, ht.ln]; simp [nodes0]
  · refine List.mem_filter.2 ⟨(hf.me _).2 ⟨q.1, ?_⟩, by simpa using q.2⟩
    obtain ⟨_, p1, p2⟩ := (hf.m1 v).1 hv
    obtain ⟨x, y⟩ := v
    simp only at p1 p2
    rcases (dirs4_iff e).1 he with rfl | rfl | rfl | rfl <;> simp [pad] <;> omega
theorem TilP.uniq {w h : Nat} {ls L L' : List Lk} (ht : treeB w h ls = true) (h1 : TilP w h ls L) (h2 : TilP w h ls L') : L = L' := by
  obtain ⟨hg, hok⟩ := tree_ok ht
  have hb := (gridB_iff _ _).1 hg
  have hf := floor_ok hg
  have hw : 0 < w * h := Nat.mul_pos (by omega) (by omega)
  obtain ⟨R0, d0, k0, R1, d1, k1, X, a0, a1, hX, rfl⟩ := h1
  obtain ⟨R0', d0', k0', R1', d1', k1', X', b0, b1, hX', rfl⟩ := h2
  obtain ⟨s0, s1⟩ := ways_same hf hw hok a0 b0 a1 b1
  refine sortI_ext fun x => ?_
  rw [hX, hX']
  have e0 : ∀ v, R0 v ↔ R0' v := fun v => (node0_iff hf hw hok a0 v).trans (node0_iff hf hw hok b0 v).symm
  have e1 : ∀ v, R1 v ↔ R1' v := fun v => (node1_iff hf hw hok a0 a1 v).trans (node1_iff hf hw hok b0 b1 v).symm
  constructor
  · rintro (⟨v, hv, rfl⟩ | ⟨v, hv, rfl⟩)
    · exact .inl ⟨v, (e0 v).1 hv, by unfold wayD; rw [s0 v ((node0_iff hf hw hok a0 v).1 hv)]⟩
    · exact .inr ⟨v, (e1 v).1 hv, by unfold wayD; rw [s1 v ((node1_iff hf hw hok a0 a1 v).1 hv)]⟩
  · rintro (⟨v, hv, rfl⟩ | ⟨v, hv, rfl⟩)
    · exact .inl ⟨v, (e0 v).2 hv, by unfold wayD; rw [s0 v ((node0_iff hf hw hok b0 v).1 hv)]⟩
    · exact .inr ⟨v, (e1 v).2 hv, by unfold wayD; rw [s1 v ((node1_iff hf hw hok b0 b1 v).1 hv)]⟩
open Classical in
/-- The tiling of a tree. -/
noncomputable def tilZ (w h : Nat) (ls : List Lk) : List Lk := if hx : ∃ L, TilP w h ls L then hx.choose else []
theorem tilZ_eq {w h : Nat} {ls L : List Lk} (ht : treeB w h ls = true) (h1 : TilP w h ls L) : L = tilZ w h ls := by
  unfold tilZ
  rw [dif_pos ⟨L, h1⟩]
  exact h1.uniq ht (Exists.choose_spec (⟨L, h1⟩ : ∃ L, TilP w h ls L))
theorem Reach.congr {r W H : Int} {has has' init R : Int × Int → Prop} {d : Int × Int → Int × Int} {rk : Int × Int → Nat} (h : Reach r W H has init R d rk) (hc : ∀ c, has c ↔ has' c) : Reach r W H has' init R d rk :=
  ⟨h.rng, h.dir, fun v hv => (hc _).1 (h.edg v hv), h.par, fun v hv e he hi hh => h.clo v hv e he hi ((hc _).2 hh)⟩
/-- The way back to the first post, told as a search of the lattice. -/
theorem root_reach {w h : Nat} {ls : List Lk} (hf : FloorOk w h) (hw : 0 < w * h) (ht : TreeOk w h ls) {zs : List Int} (hc : ∀ i, i < w * h → (0 ≤ el zs i ↔ Con (ls.map (lkN w)) 0 i)) (hz : WayZ (w * h) (ls.map (lkN w)) zs) :
    ∃ (d : Int × Int → Int × Int) (rk : Int × Int → Nat), Reach 0 (2 * w - 1) (2 * h - 1) (has0 ls) isO (fun v => v ∈ nodes0 w h) d rk ∧
      ∀ i, 0 < i → i < w * h → ∃ j : Nat, el zs i = (j : Int) ∧ j < w * h ∧ pad (cellP w i) (d (cellP w i)) = (((i % w : Nat) : Int) + ((j % w : Nat) : Int), ((i / w : Nat) : Int) + ((j / w : Nat) : Int)) := by
  have hw0 : 0 < w := Nat.pos_of_ne_zero fun e => by subst e; simp at hw
  obtain ⟨r, hr⟩ := hz
  have key : ∀ i, 0 < i → i < w * h → ∃ d, d ∈ dirs4 ∧ has0 ls (pad (cellP w i) d) ∧ ∃ j : Nat, el zs i = (j : Int) ∧ j < w * h ∧ r j < r i ∧ pad (pad (cellP w i) d) d = cellP w j := by
    intro i h0 hi
    obtain ⟨j, j1, j2, _, j4, j5⟩ := hr i hi (by omega) ((hc i hi).2 (ht.cn i hi))
    rcases j5 with j5 | j5
    · obtain ⟨l, hl, e⟩ := List.mem_map.1 j5
      obtain ⟨_, δ, hδ, c3, c4⟩ := hf.lk l (ht.sb l hl)
      rw [e] at c3 c4
      exact ⟨δ, hδ, by rw [c3]; exact List.mem_map.2 ⟨l, hl, rfl⟩, j, j1, j2, j4, by rw [c3]; exact c4⟩
    · obtain ⟨l, hl, e⟩ := List.mem_map.1 j5
      obtain ⟨_, δ, hδ, c3, c4⟩ := hf.lk l (ht.sb l hl)
      rw [e] at c3 c4
      have e1 : pad (cellP w i) (neg δ) = lkC l := by rw [← c4]; exact pad_back.1
      exact ⟨neg δ, neg_dir hδ, by rw [e1]; exact List.mem_map.2 ⟨l, hl, rfl⟩, j, j1, j2, j4, by rw [e1, ← c3]; exact pad_back.1⟩
  have hch : ∀ i, ∃ d, 0 < i → i < w * h → d ∈ dirs4 ∧ has0 ls (pad (cellP w i) d) ∧ ∃ j : Nat, el zs i = (j : Int) ∧ j < w * h ∧ r j < r i ∧ pad (pad (cellP w i) d) d = cellP w j := by
    intro i
    by_cases h0 : 0 < i
    · by_cases hi : i < w * h
      · obtain ⟨d, hd⟩ := key i h0 hi
        exact ⟨d, fun _ _ => hd⟩
      · exact ⟨(0, 0), fun _ q => absurd q hi⟩
    · exact ⟨(0, 0), fun q => absurd q h0⟩
  obtain ⟨D, hD⟩ : ∃ D : Nat → Int × Int, ∀ i, 0 < i → i < w * h → D i ∈ dirs4 ∧ has0 ls (pad (cellP w i) (D i)) ∧ ∃ j : Nat, el zs i = (j : Int) ∧ j < w * h ∧ r j < r i ∧ pad (pad (cellP w i) (D i)) (D i) = cellP w j := ⟨fun i => (hch i).choose, fun i => (hch i).choose_spec⟩
  let num : Int × Int → Nat := fun v => (v.2 / 2 * (w : Int) + v.1 / 2).toNat
  have hnum : ∀ i, num (cellP w i) = i := by
    intro i
    show ((cellP w i).2 / 2 * (w : Int) + (cellP w i).1 / 2).toNat = i
    unfold cellP
    simp only
    rw [show (2 * ((i / w : Nat) : Int)) / 2 = ((i / w : Nat) : Int) by omega, show (2 * ((i % w : Nat) : Int)) / 2 = ((i % w : Nat) : Int) by omega]
    have q1 := Nat.div_add_mod i w
    have q2 : ((i / w : Nat) : Int) * (w : Int) + ((i % w : Nat) : Int) = ((i / w * w + i % w : Nat) : Int) := by simp
    rw [q2, Int.toNat_natCast, Nat.mul_comm]; exact q1
  have hmem : ∀ v, v ∈ nodes0 w h → ∃ i, 0 < i ∧ i < w * h ∧ v = cellP w i := by
    intro v hv
    obtain ⟨k, hk, rfl⟩ := List.mem_map.1 hv
    simp only [List.mem_range] at hk
    exact ⟨k + 1, by omega, by omega, rfl⟩
  have hin : ∀ i, i < w * h → cellP w i = (0, 0) ∨ cellP w i ∈ nodes0 w h := by
    intro i hi
    by_cases h0 : i = 0
    · subst h0; left; simp [cellP]
    · right; exact List.mem_map.2 ⟨i - 1, by simp; omega, by rw [Nat.sub_add_cancel (by omega)]⟩
  refine ⟨fun v => D (num v), fun v => r (num v), ⟨?_, ?_, ?_, ?_, ?_⟩, ?_⟩
  · intro v hv
    have := (hf.m0 v).1 hv
    exact ⟨this.1, this.2.1, this.2.2⟩
  · intro v hv
    obtain ⟨i, h0, hi, rfl⟩ := hmem v hv
    show D (num (cellP w i)) ∈ dirs4
    rw [hnum]; exact (hD i h0 hi).1
  · intro v hv
    obtain ⟨i, h0, hi, rfl⟩ := hmem v hv
    show has0 ls (pad (cellP w i) (D (num (cellP w i))))
    rw [hnum]; exact (hD i h0 hi).2.1
  · intro v hv
    obtain ⟨i, h0, hi, rfl⟩ := hmem v hv
    obtain ⟨_, _, j, j1, j2, j3, j4⟩ := hD i h0 hi
    show isO (pad (pad (cellP w i) (D (num (cellP w i)))) (D (num (cellP w i)))) ∨ (pad (pad (cellP w i) (D (num (cellP w i)))) (D (num (cellP w i))) ∈ nodes0 w h ∧ r (num (pad (pad (cellP w i) (D (num (cellP w i)))) (D (num (cellP w i))))) < r (num (cellP w i)))
    rw [hnum, j4, hnum]
    rcases hin j j2 with q | q
    · exact .inl q
    · exact .inr ⟨q, j3⟩
  · intro v hv e he hi hh
    have hpar : v.1 % 2 = 0 ∧ v.2 % 2 = 0 := by
      rcases hv with hv | hv
      · unfold isO at hv; subst hv; simp
      · exact ((hf.m0 v).1 hv).2.1
    by_cases hz : pad (pad v e) e = (0, 0)
    · exact .inl hz
    · right
      refine (hf.m0 _).2 ⟨hi, ?_, hz⟩
      obtain ⟨x, y⟩ := v
      simp only at hpar
      rcases (dirs4_iff e).1 he with rfl | rfl | rfl | rfl <;> simp [pad] <;> omega
  · intro i h0 hi
    obtain ⟨hd, _, j, j1, j2, _, j4⟩ := hD i h0 hi
    refine ⟨j, j1, j2, ?_⟩
    show pad (cellP w i) (D (num (cellP w i))) = _
    rw [hnum]
    unfold pad cellP at j4 ⊢
    simp only [Prod.mk.injEq] at j4 ⊢
    omega
end Go.Proofs.Ytehnbalbpfmijaa

namespace Go.Proofs.Ytehnbalbpfmijaa
open Go.RowKit
set_option linter.unusedVariables false

theorem least_of {p : Nat → Prop} : ∀ n, p n → ∃ k, p k ∧ ∀ m, m < k → ¬ p m := by
  intro n
  induction n using Nat.strongRecOn with
  | ind n ih =>
    intro hn
    by_cases h : ∃ m, m < n ∧ p m
    · obtain ⟨m, hm, hp⟩ := h
      exact ih m hm hp
    · exact ⟨n, hn, fun m hm hp => h ⟨m, hm, hp⟩⟩
/-- The nodes that n steps find. -/
def Lay (r W H : Int) (has init : Int × Int → Prop) : Nat → Int × Int → Prop
  | 0, v => init v
  | n + 1, v => inW W H v ∧ (v.1 % 2 = r ∧ v.2 % 2 = r) ∧ ¬ init v ∧ ∃ e, e ∈ dirs4 ∧ Lay r W H has init n (pad (pad v e) e) ∧ has (pad v e)
theorem par_two {r : Int} {v e : Int × Int} (he : e ∈ dirs4) (hv : v.1 % 2 = r ∧ v.2 % 2 = r) : (pad (pad v e) e).1 % 2 = r ∧ (pad (pad v e) e).2 % 2 = r := by
  obtain ⟨x, y⟩ := v
  simp only at hv
  rcases (dirs4_iff e).1 he with rfl | rfl | rfl | rfl <;> simp [pad] <;> omega
open Classical in
theorem reach_ex {r W H : Int} {has init : Int × Int → Prop} (hp : ∀ v, init v → v.1 % 2 = r ∧ v.2 % 2 = r) : ∃ R d rk, Reach r W H has init R d rk := by
  have key : ∀ v, ∃ (e : Int × Int) (n : Nat), (∃ n, Lay r W H has init (n + 1) v) → e ∈ dirs4 ∧ has (pad v e) ∧ Lay r W H has init n (pad (pad v e) e) ∧ Lay r W H has init (n + 1) v ∧ ∀ m, m < n → ¬ Lay r W H has init (m + 1) v := by
    intro v
    by_cases h : ∃ n, Lay r W H has init (n + 1) v
    · obtain ⟨n, hn⟩ := h
      obtain ⟨k, hk, hm⟩ := least_of (p := fun n => Lay r W H has init (n + 1) v) n hn
      obtain ⟨_, _, _, e, h1, h2, h3⟩ := id hk
      exact ⟨e, k, fun _ => ⟨h1, h3, h2, hk, hm⟩⟩
    · exact ⟨(0, 0), 0, fun q => absurd q h⟩
  let d : Int × Int → Int × Int := fun v => (key v).choose
  let rk : Int × Int → Nat := fun v => (key v).choose_spec.choose
  have hs : ∀ v, (∃ n, Lay r W H has init (n + 1) v) → d v ∈ dirs4 ∧ has (pad v (d v)) ∧ Lay r W H has init (rk v) (pad (pad v (d v)) (d v)) ∧ Lay r W H has init (rk v + 1) v ∧ ∀ m, m < rk v → ¬ Lay r W H has init (m + 1) v :=
    fun v => (key v).choose_spec.choose_spec
  refine ⟨fun v => ∃ n, Lay r W H has init (n + 1) v, d, rk, ⟨fun v hv => ?_, fun v hv => (hs v hv).1, fun v hv => (hs v hv).2.1, fun v hv => ?_, fun v hv e he hi hh => ?_⟩⟩
  · obtain ⟨n, h1, h2, h3, _⟩ := hv
    exact ⟨h1, h2, h3⟩
  · have h4 := (hs v hv).2.2.1
    revert h4
    show Lay r W H has init (rk v) (pad (pad v (d v)) (d v)) → _
    cases hn : rk v with
    | zero => intro h4; exact .inl h4
    | succ m =>
      intro h4
      refine .inr ⟨⟨m, h4⟩, ?_⟩
      have h6 := (hs _ ⟨m, h4⟩).2.2.2.2
      refine Nat.lt_of_not_le fun hle => ?_
      exact h6 m hle h4
  · by_cases hz : init (pad (pad v e) e)
    · exact .inl hz
    · right
      have hL : ∃ n, Lay r W H has init n v := by
        rcases hv with hv | ⟨n, hn⟩
        · exact ⟨0, hv⟩
        · exact ⟨n + 1, hn⟩
      have hpv : v.1 % 2 = r ∧ v.2 % 2 = r := by
        rcases hv with hv | ⟨n, hn⟩
        · exact hp v hv
        · exact hn.2.1
      obtain ⟨n, hn⟩ := hL
      refine ⟨n, hi, par_two he hpv, hz, neg e, neg_dir he, ?_, ?_⟩
      · rw [pad_back.1, pad_back.1]; exact hn
      · rw [pad_back.1]; exact hh

theorem tilP_ex {w h : Nat} {ls : List Lk} (ht : treeB w h ls = true) : ∃ L, TilP w h ls L := by
  obtain ⟨hg, hok⟩ := tree_ok ht
  have hb := (gridB_iff _ _).1 hg
  have hf := floor_ok hg
  have hw : 0 < w * h := Nat.mul_pos (by omega) (by omega)
  obtain ⟨R0, d0, k0, a0⟩ := reach_ex (r := 0) (W := 2 * w - 1) (H := 2 * h - 1) (has := has0 ls) (init := isO) (fun v hv => by unfold isO at hv; subst hv; simp)
  obtain ⟨R1, d1, k1, a1⟩ := reach_ex (r := 1) (W := 2 * w - 1) (H := 2 * h - 1) (has := has1 (2 * w - 1) (2 * h - 1) ls) (init := out1 (2 * w - 1) (2 * h - 1)) (fun v hv => hv.1)
  refine ⟨_, R0, d0, k0, R1, d1, k1, (nodes0 w h).map (wayD d0) ++ (nodes1 w h).map (wayD d1), a0, a1, fun x => ?_, rfl⟩
  rw [List.mem_append, List.mem_map, List.mem_map]
  constructor
  · rintro (⟨v, hv, rfl⟩ | ⟨v, hv, rfl⟩)
    · exact .inl ⟨v, (node0_iff hf hw hok a0 v).2 hv, rfl⟩
    · exact .inr ⟨v, (node1_iff hf hw hok a0 a1 v).2 hv, rfl⟩
  · rintro (⟨v, hv, rfl⟩ | ⟨v, hv, rfl⟩)
    · exact .inl ⟨v, (node0_iff hf hw hok a0 v).1 hv, rfl⟩
    · exact .inr ⟨v, (node1_iff hf hw hok a0 a1 v).1 hv, rfl⟩
theorem tilZ_p {w h : Nat} {ls : List Lk} (ht : treeB w h ls = true) : TilP w h ls (tilZ w h ls) := by
  obtain ⟨L, hL⟩ := tilP_ex ht
  rw [← tilZ_eq ht hL]; exact hL

/-! ### The cells of the floor -/
def cellI (i : Nat) : Int × Int := (((i % 8 : Nat) : Int), ((i / 8 : Nat) : Int))
theorem flr_tab : ((List.range 5).all fun w => (List.range 5).all fun h => w == 0 || h == 0 || (List.range 64).all fun i => (setZ (floorZ w h)).testBit i == (decide (i % 8 + 1 < 2 * w) && decide (i / 8 + 1 < 2 * h) && i != 0)) = true := by decide +kernel
theorem floor_bit {w h : Nat} (hg : gridB w h = true) {i : Nat} (hi : i < 64) : (setZ (floorZ w h)).testBit i = true ↔ inW (2 * w - 1) (2 * h - 1) (cellI i) ∧ cellI i ≠ (0, 0) := by
  obtain ⟨⟨a1, a2⟩, a3, a4⟩ := (gridB_iff _ _).1 hg
  have ht := all2 flr_tab w h (by omega) (by omega)
  simp only [Bool.or_eq_true, beq_iff_eq] at ht
  have hb : ((List.range 64).all fun i => (setZ (floorZ w h)).testBit i == (decide (i % 8 + 1 < 2 * w) && decide (i / 8 + 1 < 2 * h) && i != 0)) = true := by
    rcases ht with (e | e) | e
    · omega
    · omega
    · exact e
  simp only [List.all_eq_true, List.mem_range, beq_iff_eq] at hb
  rw [hb i hi]
  simp only [Bool.and_eq_true, decide_eq_true_eq, bne_iff_ne, inW, cellI, ne_eq, Prod.mk.injEq]
  omega
theorem cellI_of {x y : Int} (hx : 0 ≤ x ∧ x ≤ 7) (hy : 0 ≤ y ∧ y ≤ 7) {i : Nat} : cix x.toNat y.toNat = i ↔ cellI i = (x, y) := by
  unfold cix cellI
  simp only [Prod.mk.injEq]
  omega
theorem ovr_over {x y a b : Int} (h : nextB x y a b) {i : Nat} : ovr (overL x y a b) i = true ↔ cellI i = (x, y) ∨ cellI i = (a, b) := by
  unfold nextB at h
  obtain ⟨h1, h2, h3, h4, ⟨rfl, h5 | h5⟩ | ⟨rfl, h5 | h5⟩⟩ := h <;> subst h5
  · rw [← cellI_of h1 h2, ← cellI_of h1 h4]
    unfold ovr overL aI bI
    rw [show min x x = x by omega, show min y (y + 1) = y by omega, show (y + 1).toNat = y.toNat + 1 by omega]
    simp
  · rw [← cellI_of h1 h2, ← cellI_of h1 h4]
    unfold ovr overL aI bI
    rw [show min x x = x by omega, show min (b + 1) b = b by omega, show (b + 1).toNat = b.toNat + 1 by omega]
    simp [or_comm]
  · rw [← cellI_of h1 h2, ← cellI_of h3 h2]
    unfold ovr overL aI bI
    rw [show min x (x + 1) = x by omega, show min y y = y by omega, show (x + 1).toNat = x.toNat + 1 by omega, show (x == x + 1) = false by rw [beq_eq_false_iff_ne]; omega]
    simp
  · rw [← cellI_of h1 h2, ← cellI_of h3 h2]
    unfold ovr overL aI bI
    rw [show min (a + 1) a = a by omega, show min y y = y by omega, show (a + 1).toNat = a.toNat + 1 by omega, show (a + 1 == a) = false by rw [beq_eq_false_iff_ne]; omega]
    simp [or_comm]
theorem over_dom {x y a b : Int} (h : nextB x y a b) : domL (overL x y a b) = true := by
  refine (domB_iff _ _ _).2 ?_
  unfold nextB at h
  unfold overL
  obtain ⟨h1, h2, h3, h4, ⟨rfl, h5 | h5⟩ | ⟨rfl, h5 | h5⟩⟩ := h <;> subst h5
  · simp; omega
  · simp; omega
  · rw [show (x == x + 1) = false by rw [beq_eq_false_iff_ne]; omega]; simp; omega
  · rw [show (a + 1 == a) = false by rw [beq_eq_false_iff_ne]; omega]; simp; omega
theorem way_next {v d : Int × Int} (hd : d ∈ dirs4) {W H : Int} (hv : inW W H v) (hW : W ≤ 8) (hH : H ≤ 8) (hp : inW W H (pad v d)) : nextB v.1 v.2 (pad v d).1 (pad v d).2 := by
  obtain ⟨x, y⟩ := v
  obtain ⟨⟨a1, a2⟩, a3, a4⟩ := hv
  obtain ⟨⟨b1, b2⟩, b3, b4⟩ := hp
  unfold nextB
  rcases (dirs4_iff d).1 hd with rfl | rfl | rfl | rfl <;> simp [pad] at a1 a2 a3 a4 b1 b2 b3 b4 ⊢ <;> omega
theorem countP_uni {α : Type} [DecidableEq α] (p : α → Bool) (v : α) : ∀ V : List α, V.Nodup → v ∈ V → (∀ u ∈ V, p u = true ↔ u = v) → V.countP p = 1
  | [], _, h, _ => by simp at h
  | a :: V, hn, hv, hu => by
    obtain ⟨h1, h2⟩ := List.nodup_cons.1 hn
    rw [List.countP_cons]
    by_cases e : a = v
    · subst e
      rw [if_pos ((hu a (by simp)).2 rfl), List.countP_eq_zero.2 fun u hm hp => h1 (by rw [← (hu u (by simp [hm])).1 hp]; exact hm)]
    · rw [if_neg (fun q => e ((hu a (by simp)).1 q))]
      have hv' : v ∈ V := by
        rcases List.mem_cons.1 hv with q | q
        · exact absurd q.symm e
        · exact q
      exact countP_uni p v V h2 hv' fun u hm => hu u (by simp [hm])

/-- The nodes with their ways. -/
structure Ways (w h : Nat) (V : List (Int × Int)) (D : Int × Int → Int × Int) : Prop where
  nd : V.Nodup
  mv : ∀ v, v ∈ V ↔ inW (2 * w - 1) (2 * h - 1) v ∧ (v.1 + v.2) % 2 = 0 ∧ v ≠ (0, 0)
  dr : ∀ v ∈ V, D v ∈ dirs4
  ed : ∀ v ∈ V, inW (2 * w - 1) (2 * h - 1) (pad v (D v)) ∧ ((pad v (D v)).1 + (pad v (D v)).2) % 2 = 1
  inj : ∀ u ∈ V, ∀ v ∈ V, pad u (D u) = pad v (D v) → u = v
  all : ∀ c, inW (2 * w - 1) (2 * h - 1) c → (c.1 + c.2) % 2 = 1 → ∃ v ∈ V, pad v (D v) = c
theorem Ways.cc {w h : Nat} (hg : gridB w h = true) {V : List (Int × Int)} {D : Int × Int → Int × Int} (k : Ways w h V D) {i : Nat} (hi : i < 64) : cc (V.map (wayD D)) i = if (setZ (floorZ w h)).testBit i then 1 else 0 := by
  obtain ⟨⟨a1, a2⟩, a3, a4⟩ := (gridB_iff _ _).1 hg
  have hn : ∀ v ∈ V, nextB (pad v (D v)).1 (pad v (D v)).2 v.1 v.2 := fun v hv => by
    have h1 := way_next (k.dr v hv) ((k.mv v).1 hv).1 (by omega) (by omega) (k.ed v hv).1
    unfold nextB at h1 ⊢
    omega
  have hp : ∀ v ∈ V, (ovr (wayD D v) i = true ↔ cellI i = pad v (D v) ∨ cellI i = v) := fun v hv => ovr_over (hn v hv)
  unfold Proofs.Ytehnbalbpfmijaa.cc
  rw [List.countP_map]
  by_cases hin : inW (2 * w - 1) (2 * h - 1) (cellI i) ∧ cellI i ≠ (0, 0)
  · rw [if_pos ((floor_bit hg hi).2 hin)]
    generalize cellI i = c at *
    by_cases hc : (c.1 + c.2) % 2 = 0
    · refine countP_uni _ c V k.nd ((k.mv c).2 ⟨hin.1, hc, hin.2⟩) fun u hu => ?_
      show ovr (wayD D u) i = true ↔ _
      rw [hp u hu]
      constructor
      · rintro (e | e)
        · have := (k.ed u hu).2; rw [← e] at this; omega
        · exact e.symm
      · intro e; exact .inr e.symm
    · obtain ⟨v, hv, e⟩ := k.all c hin.1 (by omega)
      refine countP_uni _ v V k.nd hv fun u hu => ?_
      show ovr (wayD D u) i = true ↔ _
      rw [hp u hu]
      constructor
      · rintro (e1 | e1)
        · exact k.inj u hu v hv (e1.symm.trans e.symm)
        · have := ((k.mv u).1 hu).2.1; rw [← e1] at this; exact absurd this hc
      · rintro rfl; exact .inl e.symm
  · rw [if_neg fun q => hin ((floor_bit hg hi).1 q)]
    rw [List.countP_eq_zero]
    intro u hu q
    have q : ovr (wayD D u) i = true := q
    rw [hp u hu] at q
    rcases q with q | q
    · refine hin ⟨by rw [q]; exact (k.ed u hu).1, fun e => ?_⟩
      have := (k.ed u hu).2
      rw [← q, e] at this; simp at this
    · refine hin ⟨by rw [q]; exact ((k.mv u).1 hu).1, by rw [q]; exact ((k.mv u).1 hu).2.2⟩
theorem Ways.dom {w h : Nat} (hg : gridB w h = true) {V : List (Int × Int)} {D : Int × Int → Int × Int} (k : Ways w h V D) : ∀ d ∈ V.map (wayD D), domL d = true := by
  obtain ⟨⟨a1, a2⟩, a3, a4⟩ := (gridB_iff _ _).1 hg
  intro d hd
  obtain ⟨v, hv, rfl⟩ := List.mem_map.1 hd
  unfold wayD
  rw [over_comm]
  exact over_dom (way_next (k.dr v hv) ((k.mv v).1 hv).1 (by omega) (by omega) (k.ed v hv).1)
theorem Ways.til {w h : Nat} (hg : gridB w h = true) {V : List (Int × Int)} {D : Int × Int → Int × Int} (k : Ways w h V D) : Til (setZ (floorZ w h)) (sortI (V.map (wayD D)) (V.map (wayD D)).length) :=
  sort_til (nodup_of_cc (k.dom hg) fun i hi => k.cc hg hi) (k.dom hg) fun i hi => k.cc hg hi
/-- Both kinds of nodes side by side. -/
def both (d0 d1 : Int × Int → Int × Int) (v : Int × Int) : Int × Int := if v.1 % 2 = 0 then d0 v else d1 v
theorem ways_of {w h : Nat} {ls : List Lk} (hf : FloorOk w h) (hw : 0 < w * h) (ht : TreeOk w h ls) {R0 R1 : Int × Int → Prop} {d0 d1 : Int × Int → Int × Int} {k0 k1 : Int × Int → Nat}
    (a0 : Reach 0 (2 * w - 1) (2 * h - 1) (has0 ls) isO R0 d0 k0) (a1 : Reach 1 (2 * w - 1) (2 * h - 1) (has1 (2 * w - 1) (2 * h - 1) ls) (out1 (2 * w - 1) (2 * h - 1)) R1 d1 k1) :
    Ways w h (nodes0 w h ++ nodes1 w h) (both d0 d1) := by
  have e0 : ∀ v, v ∈ nodes0 w h → both d0 d1 v = d0 v ∧ R0 v := fun v hv => ⟨if_pos ((hf.m0 v).1 hv).2.1.1, (node0_iff hf hw ht a0 v).2 hv⟩
  have e1 : ∀ v, v ∈ nodes1 w h → both d0 d1 v = d1 v ∧ R1 v := fun v hv => ⟨if_neg (by have := ((hf.m1 v).1 hv).2.1; omega), (node1_iff hf hw ht a0 a1 v).2 hv⟩
  have g0 : ∀ v ∈ nodes0 w h, pad v (both d0 d1 v) ∈ ls.map lkC := fun v hv => by rw [(e0 v hv).1]; exact a0.edg v (e0 v hv).2
  have g1 : ∀ v ∈ nodes1 w h, pad v (both d0 d1 v) ∉ ls.map lkC := fun v hv => by rw [(e1 v hv).1]; exact (a1.edg v (e1 v hv).2).2
  have hed : ∀ v ∈ nodes0 w h ++ nodes1 w h, pad v (both d0 d1 v) ∈ edgesZ w h := by
    intro v hv
    rcases List.mem_append.1 hv with hv | hv
    · obtain ⟨l, hl, e⟩ := List.mem_map.1 (g0 v hv)
      rw [← e]
      exact List.mem_map.2 ⟨l, ht.sb l hl, rfl⟩
    · rw [(e1 v hv).1]
      refine (hf.me _).2 ⟨(a1.edg v (e1 v hv).2).1, ?_⟩
      obtain ⟨_, p1, p2⟩ := (hf.m1 v).1 hv
      have hd := a1.dir v (e1 v hv).2
      obtain ⟨x, y⟩ := v
      simp only at p1 p2
      rcases (dirs4_iff _).1 hd with e | e | e | e <;> rw [e] <;> simp [pad] <;> omega
  have hinj : ∀ u ∈ nodes0 w h ++ nodes1 w h, ∀ v ∈ nodes0 w h ++ nodes1 w h, pad u (both d0 d1 u) = pad v (both d0 d1 v) → u = v := by
    intro u hu v hv e
    rcases List.mem_append.1 hu with hu | hu <;> rcases List.mem_append.1 hv with hv | hv
    · rw [(e0 u hu).1, (e0 v hv).1] at e; exact a0.inj (e0 u hu).2 (e0 v hv).2 e
    · exact absurd (by rw [← e]; exact g0 u hu) (g1 v hv)
    · exact absurd (by rw [e]; exact g0 v hv) (g1 u hu)
    · rw [(e1 u hu).1, (e1 v hv).1] at e; exact a1.inj (e1 u hu).2 (e1 v hv).2 e
  have hnd : (nodes0 w h ++ nodes1 w h).Nodup := by
    refine List.nodup_append.2 ⟨hf.n0, hf.n1, fun a ha b hb e => ?_⟩
    subst e
    have h1 := ((hf.m0 a).1 ha).2.1.1
    have h2 := ((hf.m1 a).1 hb).2.1
    omega
  refine ⟨hnd, fun v => ?_, fun v hv => ?_, fun v hv => (hf.me _).1 (hed v hv), hinj, fun c h1 h2 => ?_⟩
  · rw [List.mem_append, hf.m0, hf.m1]
    constructor
    · rintro (⟨h1, h2, h3⟩ | ⟨h1, h2, h3⟩)
      · exact ⟨h1, by omega, h3⟩
      · exact ⟨h1, by omega, fun e => by subst e; simp at h2⟩
    · rintro ⟨h1, h2, h3⟩
      by_cases hp : v.1 % 2 = 0
      · exact .inl ⟨h1, ⟨hp, by omega⟩, h3⟩
      · exact .inr ⟨h1, by omega, by omega⟩
  · rcases List.mem_append.1 hv with hv | hv
    · rw [(e0 v hv).1]; exact a0.dir v (e0 v hv).2
    · rw [(e1 v hv).1]; exact a1.dir v (e1 v hv).2
  · have hm := (hf.me c).2 ⟨h1, h2⟩
    have := all_hit (map_nodup hnd hinj) (E := edgesZ w h) (fun x hx => by obtain ⟨v, hv, rfl⟩ := List.mem_map.1 hx; exact hed v hv) (by rw [hf.le, List.length_map, List.length_append]; simp [nodes0, nodes1]) hm
    obtain ⟨v, hv, e⟩ := List.mem_map.1 this
    exact ⟨v, hv, e⟩
/-- The tiling of a tree tiles the floor. -/
theorem TilP.til {w h : Nat} {ls L : List Lk} (ht : treeB w h ls = true) (h1 : TilP w h ls L) : Til (setZ (floorZ w h)) L := by
  obtain ⟨hg, hok⟩ := tree_ok ht
  have hb := (gridB_iff _ _).1 hg
  have hf := floor_ok hg
  have hw : 0 < w * h := Nat.mul_pos (by omega) (by omega)
  obtain ⟨R0, d0, k0, R1, d1, k1, X, a0, a1, hX, rfl⟩ := h1
  have hk := ways_of hf hw hok a0 a1
  have hE : sortI X X.length = sortI ((nodes0 w h ++ nodes1 w h).map (wayD (both d0 d1))) ((nodes0 w h ++ nodes1 w h).map (wayD (both d0 d1))).length := by
    refine sortI_ext fun x => ?_
    rw [hX, List.mem_map]
    have q0 : ∀ v, v ∈ nodes0 w h → wayD (both d0 d1) v = wayD d0 v := fun v hv => by unfold wayD both; rw [if_pos ((hf.m0 v).1 hv).2.1.1]
    have q1 : ∀ v, v ∈ nodes1 w h → wayD (both d0 d1) v = wayD d1 v := fun v hv => by unfold wayD both; rw [if_neg (by have := ((hf.m1 v).1 hv).2.1; omega)]
    constructor
    · rintro (⟨v, hv, rfl⟩ | ⟨v, hv, rfl⟩)
      · have hm := (node0_iff hf hw hok a0 v).1 hv
        exact ⟨v, List.mem_append.2 (.inl hm), q0 v hm⟩
      · have hm := (node1_iff hf hw hok a0 a1 v).1 hv
        exact ⟨v, List.mem_append.2 (.inr hm), q1 v hm⟩
    · rintro ⟨v, hv, rfl⟩
      rcases List.mem_append.1 hv with hv | hv
      · exact .inl ⟨v, (node0_iff hf hw hok a0 v).2 hv, q0 v hv⟩
      · exact .inr ⟨v, (node1_iff hf hw hok a0 a1 v).2 hv, q1 v hv⟩
  rw [hE]
  exact hk.til hg
theorem tilZ_til {w h : Nat} {ls : List Lk} (ht : treeB w h ls = true) : Til (setZ (floorZ w h)) (tilZ w h ls) := (tilZ_p ht).til ht
end Go.Proofs.Ytehnbalbpfmijaa

namespace Go.Proofs.Ytehnbalbpfmijaa
open Go.RowKit
set_option linter.unusedVariables false

/-- The two dominoes over the cell of a link and a post. -/
def lkA (l : Lk) : Lk := (2 * l.1, 2 * l.2.1, l.2.2)
def lkB (l : Lk) : Lk := if l.2.2 then (2 * l.1, 2 * l.2.1 + 1, true) else (2 * l.1 + 1, 2 * l.2.1, false)
def inT (L : List Lk) (l : Lk) : Bool := decide (lkA l ∈ L) || decide (lkB l ∈ L)
def toT (p q : Int) (L : List Lk) : List Lk := (linksZ p q).filter (inT L)
/-- The other cell of a domino. -/
def sx (x : Int) (d : Bool) : Int := if d then x else x + 1
def sy (y : Int) (d : Bool) : Int := if d then y + 1 else y
theorem snd_s {x y : Int} {d : Bool} (h : domB x y d = true) : sndX x d = sx x d ∧ sndY y d = sy y d := by
  have hd := (domB_iff _ _ _).1 h
  unfold sndX sndY sx sy
  cases d
  · exact ⟨by simpa using IntWalk.wrap64_in _ (by simp at hd; omega), rfl⟩
  · exact ⟨rfl, by simpa using IntWalk.wrap64_in _ (by simp at hd; omega)⟩
def evC (x y : Int) : Bool := (x % 2 == 0) && (y % 2 == 0)
def evD (d : Lk) : Bool := evC d.1 d.2.1 || evC (sx d.1 d.2.2) (sy d.2.1 d.2.2)
theorem cc_only {L : List Lk} (hn : L.Nodup) {i : Nat} (h : cc L i ≤ 1) {d e : Lk} (hd : d ∈ L) (he : e ∈ L) (od : ovr d i = true) (oe : ovr e i = true) : d = e := by
  refine Decidable.byContradiction fun hne => ?_
  have hp := perm_two hn hd he hne
  rw [cc_perm hp, cc_cons, cc_cons, if_pos od, if_pos oe] at h
  omega
/-- The number of the cell of a link. -/
def lkI (l : Lk) : Nat := cix (lkC l).1.toNat (lkC l).2.toNat
theorem link_box {w h : Nat} (hg : gridB w h = true) {l : Lk} (hl : l ∈ linksZ w h) : (inW (2 * w - 1) (2 * h - 1) (lkC l) ∧ ((lkC l).1 + (lkC l).2) % 2 = 1) ∧ (0 ≤ l.1 ∧ l.1 ≤ 3) ∧ 0 ≤ l.2.1 ∧ l.2.1 ≤ 3 := by
  have hf := floor_ok hg
  have hb := (gridB_iff _ _).1 hg
  have h1 := (hf.me (lkC l)).1 (List.mem_map.2 ⟨l, hl, rfl⟩)
  refine ⟨h1, ?_⟩
  obtain ⟨x, y, d⟩ := l
  obtain ⟨⟨⟨h1, h2⟩, h3, h4⟩, _⟩ := h1
  unfold lkC at h1 h2 h3 h4
  cases d <;> simp at h1 h2 h3 h4 ⊢ <;> omega
theorem lkI_cell {w h : Nat} (hg : gridB w h = true) {l : Lk} (hl : l ∈ linksZ w h) : lkI l < 64 ∧ cellI (lkI l) = lkC l ∧ (setZ (floorZ w h)).testBit (lkI l) = true := by
  obtain ⟨⟨h1, h2⟩, h3⟩ := link_box hg hl
  have hb := (gridB_iff _ _).1 hg
  have e : cellI (lkI l) = lkC l := (cellI_of (x := (lkC l).1) (y := (lkC l).2) (by unfold inW at h1; omega) (by unfold inW at h1; omega)).1 rfl
  have hi : lkI l < 64 := by
    unfold lkI cix
    unfold inW at h1
    omega
  refine ⟨hi, e, (floor_bit hg hi).2 ?_⟩
  rw [e]
  exact ⟨h1, fun q => by rw [q] at h2; simp at h2⟩
theorem ovr_cells {d : Lk} (hd : domL d = true) {c : Int × Int} {i : Nat} (hc : cellI i = c) : ovr d i = true ↔ c = (d.1, d.2.1) ∨ c = (sx d.1 d.2.2, sy d.2.1 d.2.2) := by
  subst hc
  obtain ⟨x, y, b⟩ := d
  have hdb := (domB_iff _ _ _).1 hd
  simp only at hdb
  unfold ovr aI bI
  rw [Bool.or_eq_true, beq_iff_eq, beq_iff_eq]
  cases b
  · simp only [Bool.false_eq_true, if_false] at hdb ⊢
    rw [cellI_of (by omega) (by omega), show (x.toNat + 1) = (x + 1).toNat by omega, cellI_of (by omega) (by omega)]
    simp [sx, sy]
  · simp only [if_true] at hdb ⊢
    rw [cellI_of (by omega) (by omega), show (y.toNat + 1) = (y + 1).toNat by omega, cellI_of (by omega) (by omega)]
    simp [sx, sy]
theorem ev_iff {d l : Lk} (h : lkC l = (d.1, d.2.1) ∨ lkC l = (sx d.1 d.2.2, sy d.2.1 d.2.2)) : evD d = true ↔ d = lkA l ∨ d = lkB l := by
  obtain ⟨x, y, b⟩ := d
  obtain ⟨a, c, e⟩ := l
  unfold evD evC lkA lkB
  unfold lkC at h
  cases b <;> cases e <;> simp [sx, sy] at h ⊢ <;> omega
theorem lk_cov {l : Lk} : (lkC l = ((lkA l).1, (lkA l).2.1) ∨ lkC l = (sx (lkA l).1 (lkA l).2.2, sy (lkA l).2.1 (lkA l).2.2)) ∧ (lkC l = ((lkB l).1, (lkB l).2.1) ∨ lkC l = (sx (lkB l).1 (lkB l).2.2, sy (lkB l).2.1 (lkB l).2.2)) := by
  obtain ⟨a, c, e⟩ := l
  unfold lkC lkA lkB
  cases e <;> simp [sx, sy]
theorem far_tab : ((List.range 5).all fun w => (List.range 5).all fun h => w == 0 || h == 0 || (linksZ w h).all fun l => decide ((if l.2.2 then 2 * l.1 else 2 * l.1 + 2) ≤ 6) && decide ((if l.2.2 then 2 * l.2.1 + 2 else 2 * l.2.1) ≤ 6)) = true := by decide +kernel
/-- The other post of a link lies in the grid, too. -/
theorem link_far {w h : Nat} (hg : gridB w h = true) {l : Lk} (hl : l ∈ linksZ w h) : inW 7 7 (if l.2.2 then 2 * l.1 else 2 * l.1 + 2, if l.2.2 then 2 * l.2.1 + 2 else 2 * l.2.1) := by
  obtain ⟨⟨a1, a2⟩, a3, a4⟩ := (gridB_iff _ _).1 hg
  obtain ⟨_, h2, h3⟩ := link_box hg hl
  have ht := all2 far_tab w h (by omega) (by omega)
  simp only [Bool.or_eq_true, beq_iff_eq] at ht
  have hb : ((linksZ w h).all fun l => decide ((if l.2.2 then 2 * l.1 else 2 * l.1 + 2) ≤ 6) && decide ((if l.2.2 then 2 * l.2.1 + 2 else 2 * l.2.1) ≤ 6)) = true := by
    rcases ht with (e | e) | e
    · omega
    · omega
    · exact e
  simp only [List.all_eq_true, Bool.and_eq_true, decide_eq_true_eq] at hb
  have hq := hb l hl
  unfold inW
  obtain ⟨x, y, d⟩ := l
  cases d <;> simp at hq h2 h3 ⊢ <;> omega
/-- Where the list tiles the floor, the domino over the cell of a link tells. -/
theorem inT_ev {w h : Nat} (hg : gridB w h = true) {L : List Lk} (ht : Til (setZ (floorZ w h)) L) {l : Lk} (hl : l ∈ linksZ w h) {d : Lk} (hd : d ∈ L) (ho : ovr d (lkI l) = true) : inT L l = evD d := by
  obtain ⟨h1, h2, h3⟩ := lkI_cell hg hl
  have hcc := ht.cv _ h1
  rw [h3, if_pos rfl] at hcc
  have hn := ht.so.nodup
  have hdm := ht.so.2 d hd
  have hc := (ovr_cells hdm h2).1 ho
  rw [Bool.eq_iff_iff, ev_iff hc]
  unfold inT
  rw [Bool.or_eq_true, decide_eq_true_eq, decide_eq_true_eq]
  constructor
  · rintro (q | q)
    · exact .inl (cc_only hn (by omega) hd q ho ((ovr_cells (ht.so.2 _ q) h2).2 lk_cov.1))
    · exact .inr (cc_only hn (by omega) hd q ho ((ovr_cells (ht.so.2 _ q) h2).2 lk_cov.2))
  · rintro (q | q)
    · exact .inl (by rw [← q]; exact hd)
    · exact .inr (by rw [← q]; exact hd)
theorem til_over {w h : Nat} (hg : gridB w h = true) {L : List Lk} (ht : Til (setZ (floorZ w h)) L) {l : Lk} (hl : l ∈ linksZ w h) : ∃ d, d ∈ L ∧ ovr d (lkI l) = true := by
  obtain ⟨h1, h2, h3⟩ := lkI_cell hg hl
  have hcc := ht.cv _ h1
  rw [h3, if_pos rfl] at hcc
  exact cc_get (by omega)
end Go.Proofs.Ytehnbalbpfmijaa

namespace Go.Proofs.Ytehnbalbpfmijaa
open Go.RowKit
set_option linter.unusedVariables false

section
variable {α : Type} {K : Kd α}
/-- The elements: each in an interval of its own, none with a block of O. -/
def ElsP (K : Kd α) (w : World) (lo hi : Nat) (O : Nat → Prop) (ss : List Sl) (xs : List α) : Prop :=
  ss.length = xs.length ∧ ∃ a b : Nat → Nat, (∀ i s x, ss[i]? = some s → xs[i]? = some x → lo ≤ a i ∧ b i ≤ hi ∧ K.P w (a i) (b i) (slV s) x ∧ ∀ g, O g → g < a i ∨ b i ≤ g) ∧ ∀ i j, i < j → j < xs.length → b i ≤ a j
theorem ElsP.nil (w : World) (lo hi : Nat) (O : Nat → Prop) : ElsP K w lo hi O [] [] := ⟨rfl, fun _ => 0, fun _ => 0, fun i s x h => by simp at h, fun i j _ h => by simp at h⟩
theorem ElsP.kept {w w' : World} {lo hi : Nat} {O : Nat → Prop} {ss : List Sl} {xs : List α} (h : ElsP K w lo hi O ss xs) (hs : w.heap.size ≤ w'.heap.size) (hk : ∀ k, lo ≤ k → k < hi → ¬ O k → w'.heap[k]? = w.heap[k]?) : ElsP K w' lo hi O ss xs := by
  obtain ⟨h1, a, b, h2, h3⟩ := h
  refine ⟨h1, a, b, fun i s x hi hx => ?_, h3⟩
  obtain ⟨p1, p2, p3, p4⟩ := h2 i s x hi hx
  exact ⟨p1, p2, K.keep p3 hs fun k q1 q2 => hk k (by omega) (by omega) (fun e => by have := p4 k e; omega), p4⟩
theorem ElsP.excl {w : World} {lo hi : Nat} {O O' : Nat → Prop} {ss : List Sl} {xs : List α} (h : ElsP K w lo hi O ss xs) (ho : ∀ g, O' g → O g ∨ hi ≤ g ∨ g < lo) : ElsP K w lo hi O' ss xs := by
  obtain ⟨h1, a, b, h2, h3⟩ := h
  refine ⟨h1, a, b, fun i s x hi hx => ?_, h3⟩
  obtain ⟨p1, p2, p3, p4⟩ := h2 i s x hi hx
  refine ⟨p1, p2, p3, fun g hg => ?_⟩
  rcases ho g hg with h | h | h
  · exact p4 g h
  · exact .inr (by omega)
  · exact .inl (by omega)
theorem ElsP.els {w : World} {lo hi : Nat} {O : Nat → Prop} {o : Option Nat} {ss : List Sl} {xs : List α} (h : ElsP K w lo hi O ss xs) (ho : ∀ g, o = some g → O g) : Els K w lo hi o ss xs := by
  obtain ⟨h1, a, b, h2, h3⟩ := h
  refine ⟨h1, a, b, fun i s x hi hx => ?_, h3⟩
  obtain ⟨p1, p2, p3, p4⟩ := h2 i s x hi hx
  exact ⟨p1, p2, p3, fun g hg => p4 g (ho g hg)⟩
theorem ElsP.push {w : World} {lo hi hi' a b : Nat} {O : Nat → Prop} {ss : List Sl} {xs : List α} {s : Sl} {x : α} (h : ElsP K w lo hi O ss xs) (hx : K.P w a b (slV s) x) (hl : lo ≤ a) (ha : hi ≤ a) (hb : b ≤ hi') (hh : hi ≤ hi') (hO : ∀ g, O g → g < a ∨ b ≤ g) : ElsP K w lo hi' O (ss ++ [s]) (xs ++ [x]) := by
  obtain ⟨e1, fa, fb, e2, e3⟩ := h
  refine ⟨by simp [e1], fun i => if i < xs.length then fa i else a, fun i => if i < xs.length then fb i else b, fun i s' x' h1 h2 => ?_, fun i j hij hj => ?_⟩
  · by_cases e : i < xs.length
    · rw [List.getElem?_append_left (by omega)] at h1
      rw [List.getElem?_append_left e] at h2
      simp only [e, if_true]
      obtain ⟨p1, p2, p3, p4⟩ := e2 i s' x' h1 h2
      exact ⟨p1, by omega, p3, p4⟩
    · rw [List.getElem?_append_right (by omega)] at h1 h2
      by_cases e4 : i = xs.length
      · subst e4
        rw [e1] at h1
        simp at h1 h2
        subst h1 h2
        simp only [Nat.lt_irrefl, if_false]
        exact ⟨hl, hb, hx, hO⟩
      · rw [List.getElem?_eq_none (by simp; omega)] at h2; simp at h2
  · simp only [List.length_append, List.length_singleton] at hj
    simp only [show i < xs.length by omega, if_true]
    by_cases e : j < xs.length
    · simp only [e, if_true]; exact e3 i j hij e
    · simp only [e, if_false]
      obtain ⟨s', hs'⟩ : ∃ s', ss[i]? = some s' := ⟨_, List.getElem?_eq_getElem (by omega)⟩
      obtain ⟨x', hx'⟩ : ∃ x', xs[i]? = some x' := ⟨_, List.getElem?_eq_getElem (by omega)⟩
      have := (e2 i s' x' hs' hx').2.1
      omega
end

section
variable {α : Type} {E : El α}
theorem OwnF.same {w w' : World} {lo : Nat} {v : Value} {xs : List α} (h : OwnF E w lo v xs) (hk : ∀ k, v.ownBlock = some k → w'.heap[k]? = w.heap[k]?) : OwnF E w' lo v xs := by
  refine ⟨h.1, ?_⟩
  rcases h.2 with hn | ⟨g, cap, cur, rfl, hb, hgg, rest⟩
  · exact .inl hn
  · exact .inr ⟨g, cap, cur, rfl, hb, (hk g rfl).trans hgg, rest⟩
/-- The last element is cut off. -/
theorem OwnF.pop (hE : ∀ x, (E.f x).length = E.s) {w : World} {lo : Nat} {v : Value} {xs : List α} {x : α} (h : OwnF E w lo v (xs ++ [x])) :
    ∃ g c, v = .slice (some ⟨g, 0, none⟩) (xs.length + 1) c ∧ xs.length + 1 ≤ c ∧ c ≤ maxLen ∧ OwnF E w lo (.slice (some ⟨g, 0, none⟩) xs.length c) xs := by
  rcases h.2 with ⟨_, h0⟩ | ⟨g, cap, cur, hv, hb, hgg, h1, h2, h3, h4⟩
  · simp at h0
  · simp only [List.length_append, List.length_singleton] at hv h1 h4
    refine ⟨g, cap, hv, h1, h2, flat_length hE xs, .inr ⟨g, cap, cur, rfl, hb, hgg, by omega, h2, h3, ?_⟩⟩
    rw [List.flatMap_append] at h4
    have h5 := congrArg (List.take (xs.length * E.s)) h4
    rw [List.take_take, Nat.min_eq_left (Nat.mul_le_mul_right _ (by omega)), List.take_append_of_le_length (by rw [flat_length hE]; exact Nat.le_refl _), List.take_of_length_le (l := xs.flatMap E.f) (by rw [flat_length hE]; exact Nat.le_refl _)] at h5
    exact h5
theorem OwnF.rdFull {P : Program} (hE : E.Ok P) {w : World} {lo : Nat} {v : Value} {xs : List α} (h : OwnF E w lo v xs) : RdF E w w.heap.size v xs := h.rd hE

/-- Where the list and the row lie. -/
structure TLay where
  po : Nat
  pw : Nat
  o0 : Nat
  m0 : Nat
  lo : Nat
  lo2 : Nat
structure TLay.Ok (L : TLay) : Prop where
  o : L.lo ≤ L.o0
  m : L.lo ≤ L.m0
  o2 : L.o0 < L.lo2
  m2 : L.m0 < L.lo2
  p2 : L.po < L.lo2
  w2 : L.pw < L.lo2
  om : L.o0 ≠ L.m0
  pw_ : L.po ≠ L.pw
  po0 : L.po ≠ L.o0
  pm0 : L.po ≠ L.m0
  wo0 : L.pw ≠ L.o0
  wm0 : L.pw ≠ L.m0
  lp : L.lo ≤ L.po
  lw : L.lo ≤ L.pw
/-- All other blocks below stay. -/
def Fix (L : TLay) (w w' : World) : Prop := ∀ k, k < L.lo2 → k ≠ L.po → k ≠ L.pw → k ≠ L.o0 → k ≠ L.m0 → w'.heap[k]? = w.heap[k]?
theorem Fix.refl (L : TLay) (w : World) : Fix L w w := fun _ _ _ _ _ _ => rfl
theorem Fix.trans {L : TLay} {a b c : World} (h : Fix L a b) (h' : Fix L b c) : Fix L a c := fun k h1 h2 h3 h4 h5 => (h' k h1 h2 h3 h4 h5).trans (h k h1 h2 h3 h4 h5)
theorem Fix.below {L : TLay} {a b : World} (h : Below a.heap.size a b) (hl : L.lo2 ≤ a.heap.size) : Fix L a b := fun k h1 _ _ _ _ => h.block k (by omega)

structure TS (E : El α) (ES : El Sl) (w0 : World) (L : TLay) (wr : World) (vo vw : Value) (ho : Nat) (ss : List Sl) (hd : List α) (os : List (List α)) : Prop where
  co : wr.heap[L.po]? = some (.cells #[vo] ES.t (0, 0))
  cw : wr.heap[L.pw]? = some (.cells #[vw] E.t (0, 0))
  ao : Acc ES w0 L.lo wr vo ss
  aw : Acc E w0 L.lo wr vw hd
  el : ElsP (kdF E) wr L.lo2 ho (fun g => vo.ownBlock = some g ∨ vw.ownBlock = some g) ss os
  lh : L.lo2 ≤ ho
  hs : ho ≤ wr.heap.size
  bo : ∀ g, vo.ownBlock = some g → g = L.o0 ∨ L.lo2 ≤ g
  bw : ∀ g, vw.ownBlock = some g → g = L.m0 ∨ L.lo2 ≤ g
  ne : ∀ g, vo.ownBlock = some g → vw.ownBlock ≠ some g
def TSt (E : El α) (ES : El Sl) (w0 : World) (L : TLay) (wr : World) (hd : List α) (os : List (List α)) : Prop := ∃ vo vw ho ss, TS E ES w0 L wr vo vw ho ss hd os

variable {ES : El Sl} {w0 wr w1 w2 : World} {L : TLay} {vo vw v' : Value} {ho : Nat} {ss : List Sl} {hd : List α} {os : List (List α)} {x : α}
theorem TS.below (h : TS E ES w0 L wr vo vw ho ss hd os) (hb : Below wr.heap.size wr w1) : TS E ES w0 L w1 vo vw ho ss hd os :=
  ⟨(hb.block _ (lt_of_block h.co)).trans h.co, (hb.block _ (lt_of_block h.cw)).trans h.cw, h.ao.below hb, h.aw.below hb, h.el.kept hb.size fun k _ hk _ => hb.block k (by have := h.hs; omega), h.lh, Nat.le_trans h.hs hb.size, h.bo, h.bw, h.ne⟩
theorem TS.fix (h : TS E ES w0 L wr vo vw ho ss hd os) (hb : Below wr.heap.size wr w1) : Fix L wr w1 := Fix.below hb (Nat.le_trans h.lh h.hs)
theorem TS.big (h : TS E ES w0 L wr vo vw ho ss hd os) : Below w0.heap.size w0 wr := h.ao.2.1
theorem TS.cello (h : TS E ES w0 L wr vo vw ho ss hd os) : wr.cell? ⟨L.po, 0, none⟩ = some vo := cell_of_one h.co
theorem TS.cellw (h : TS E ES w0 L wr vo vw ho ss hd os) : wr.cell? ⟨L.pw, 0, none⟩ = some vw := cell_of_one h.cw
theorem TS.lenw {P : Program} (hE : E.Ok P) (h : TS E ES w0 L wr vo vw ho ss hd os) : ∃ A c, vw = .slice A hd.length c ∧ hd.length ≤ c ∧ c ≤ maxLen := by
  obtain ⟨A, c, hv, h1, h2, _⟩ := h.aw.1.rd hE; exact ⟨A, c, hv, h1, h2⟩
theorem TS.leno {P : Program} (hE : ES.Ok P) (h : TS E ES w0 L wr vo vw ho ss hd os) : ∃ A c, vo = .slice A ss.length c ∧ ss.length ≤ c ∧ c ≤ maxLen := by
  obtain ⟨A, c, hv, h1, h2, _⟩ := h.ao.1.rd hE; exact ⟨A, c, hv, h1, h2⟩
/-- The row grows by one. -/
theorem TS.pushOwn (hL : L.Ok) (h : TS E ES w0 L wr vo vw ho ss hd os) (HA : Acc E w0 L.lo w2 v' (hd ++ [x])) (HG : Grew wr w2 vw v') :
    TS E ES w0 L (w2.setCell ⟨L.pw, 0, none⟩ v') vo v' ho ss (hd ++ [x]) os ∧ Fix L wr (w2.setCell ⟨L.pw, 0, none⟩ v') ∧ (∃ u, w2.heap[L.pw]? = some (.cells #[u] E.t (0, 0))) := by
  obtain ⟨g1, g, g2, g3, g4⟩ := HG
  have l1 := hL.w2; have l2 := hL.p2; have l3 := hL.o2; have l4 := hL.m2; have l5 := hL.pw_; have l6 := hL.wo0; have l7 := hL.wm0; have l8 := hL.po0; have l9 := hL.pm0; have l10 := hL.om; have l11 := hL.lw
  have hlo := Nat.le_trans h.lh h.hs
  have hsame : ∀ k, k < wr.heap.size → vw.ownBlock ≠ some k → k ≠ L.pw → (w2.setCell ⟨L.pw, 0, none⟩ v').heap[k]? = wr.heap[k]? := fun k k1 k2 k3 =>
    (Below.heap_setCell _ _ _ _ (by show k ≠ L.pw; exact k3)).trans (g1.block k k1 (fun e => k2 e.symm))
  have hpw : w2.heap[L.pw]? = some (.cells #[vw] E.t (0, 0)) := (g1.block L.pw (by omega) (fun e => by have := h.bw L.pw e.symm; omega)).trans h.cw
  have hgb : g = L.m0 ∨ L.lo2 ≤ g := by
    rcases g3 with g3 | g3
    · exact h.bw g g3
    · exact .inr (by omega)
  have hw0 : w0.heap.size ≤ L.pw := Nat.le_trans h.aw.2.2.1 l11
  refine ⟨⟨?_, ?_, ⟨h.ao.1.same fun k hk => ?_, HA.2.1.setCell hw0 _, h.ao.2.2.1, by simpa using HA.2.2.2⟩, ⟨HA.1.same fun k hk => Below.heap_setCell _ _ _ _ ?_, HA.2.1.setCell hw0 _, HA.2.2.1, by simpa using HA.2.2.2⟩, ?_, h.lh, ?_, h.bo, ?_, ?_⟩, ?_, ⟨_, hpw⟩⟩
  · exact (hsame L.po (by omega) (fun e => by have := h.bw _ e; omega) l5).trans h.co
  · exact (blk_setCell hpw _).trans (by simp)
  · exact hsame k ((h.ao.1.lt k hk).2) (h.ne k hk) (by have := h.bo k hk; omega)
  · rw [g2] at hk; obtain rfl := Option.some.inj hk; show g ≠ L.pw; omega
  · refine (h.el.kept (w' := w2.setCell ⟨L.pw, 0, none⟩ v') (by simpa using g1.size) fun k k1 k2 k3 => hsame k (by have := h.hs; omega) (fun e => k3 (.inr e)) (by omega)).excl fun k hk => ?_
    rcases hk with hk | hk
    · exact .inl (.inl hk)
    · rw [g2] at hk
      obtain rfl := Option.some.inj hk
      rcases g3 with g3 | g3
      · exact .inl (.inr g3)
      · exact .inr (.inl (by have := h.hs; omega))
  · simpa using Nat.le_trans h.hs g1.size
  · intro k hk; rw [g2] at hk; obtain rfl := Option.some.inj hk; exact hgb
  · intro k hk e
    rw [g2] at e
    obtain rfl := Option.some.inj e
    rcases g3 with g3 | g3
    · exact h.ne g hk g3
    · have := (h.ao.1.lt g hk).2; omega
  · intro k k1 k2 k3 k4 k5
    exact hsame k (by omega) (fun e => by have := h.bw k e; omega) k3
/-- The row's last element is cut off. -/
theorem TS.popOwn (hE : ∀ x, (E.f x).length = E.s) (hL : L.Ok) (h : TS E ES w0 L wr vo vw ho ss (hd ++ [x]) os) :
    ∃ g c, vw = .slice (some ⟨g, 0, none⟩) (hd.length + 1) c ∧ hd.length + 1 ≤ c ∧ c ≤ maxLen ∧
      Hid (TS E ES w0 L (wr.setCell ⟨L.pw, 0, none⟩ (.slice (some ⟨g, 0, none⟩) hd.length c)) vo (.slice (some ⟨g, 0, none⟩) hd.length c) ho ss hd os ∧ Fix L wr (wr.setCell ⟨L.pw, 0, none⟩ (.slice (some ⟨g, 0, none⟩) hd.length c))) := by
  obtain ⟨g, c, rfl, h1, h2, h3⟩ := h.aw.1.pop hE
  have l1 := hL.w2; have l2 := hL.p2; have l3 := hL.o2; have l4 := hL.m2; have l5 := hL.pw_; have l6 := hL.wo0; have l7 := hL.wm0; have l8 := hL.po0; have l9 := hL.pm0; have l10 := hL.om; have l11 := hL.lw
  have hw0 : w0.heap.size ≤ L.pw := Nat.le_trans h.aw.2.2.1 l11
  have hb := h.bw g rfl
  have hsame : ∀ k, k ≠ L.pw → (wr.setCell ⟨L.pw, 0, none⟩ (.slice (some ⟨g, 0, none⟩) hd.length c)).heap[k]? = wr.heap[k]? := fun k k3 => Below.heap_setCell _ _ _ _ k3
  refine ⟨g, c, rfl, h1, h2, ⟨?_, ?_, ⟨h.ao.1.same fun k hk => hsame k (by have := h.bo k hk; omega), h.ao.2.1.setCell hw0 _, h.ao.2.2.1, by simpa using h.ao.2.2.2⟩, ⟨h3.same fun k hk => hsame k ?_, h.aw.2.1.setCell hw0 _, h.aw.2.2.1, by simpa using h.aw.2.2.2⟩, ?_, h.lh, by simpa using h.hs, h.bo, h.bw, h.ne⟩, fun k k1 k2 k3 k4 k5 => hsame k k3⟩
  · exact (hsame _ l5).trans h.co
  · exact (blk_setCell h.cw _).trans (by simp)
  · simp only [Value.ownBlock, Option.some.injEq] at hk; subst hk; omega
  · exact h.el.kept (by simp) fun k k1 k2 k3 => hsame k (by omega)
/-- A row is added to the list. -/
theorem TS.pushOut {p : Nat} {s : Sl} {y : List α} (hL : L.Ok) (h : TS E ES w0 L wr vo vw ho ss hd os) (hp : ho ≤ p) (hpw : p ≤ wr.heap.size) (hx : OwnF E wr p (slV s) y) (hvw : ∀ g, vw.ownBlock = some g → g < p) (hvo : ∀ g, vo.ownBlock = some g → g < p)
    (HA : Acc ES w0 L.lo w2 v' (ss ++ [s])) (HG : Grew wr w2 vo v') :
    TS E ES w0 L (w2.setCell ⟨L.po, 0, none⟩ v') v' vw w2.heap.size (ss ++ [s]) hd (os ++ [y]) ∧ Fix L wr (w2.setCell ⟨L.po, 0, none⟩ v') ∧ (∃ u, w2.heap[L.po]? = some (.cells #[u] ES.t (0, 0))) := by
  obtain ⟨g1, g, g2, g3, g4⟩ := HG
  have l1 := hL.w2; have l2 := hL.p2; have l3 := hL.o2; have l4 := hL.m2; have l5 := hL.pw_; have l6 := hL.wo0; have l7 := hL.wm0; have l8 := hL.po0; have l9 := hL.pm0; have l10 := hL.om; have l11 := hL.lp
  have hlo := Nat.le_trans h.lh h.hs
  have hsz := g1.size
  have hlh := h.lh
  have hsame : ∀ k, k < wr.heap.size → vo.ownBlock ≠ some k → k ≠ L.po → (w2.setCell ⟨L.po, 0, none⟩ v').heap[k]? = wr.heap[k]? := fun k k1 k2 k3 =>
    (Below.heap_setCell _ _ _ _ (by show k ≠ L.po; exact k3)).trans (g1.block k k1 (fun e => k2 e.symm))
  have hpo : w2.heap[L.po]? = some (.cells #[vo] ES.t (0, 0)) := (g1.block L.po (by omega) (fun e => by have := h.bo L.po e.symm; omega)).trans h.co
  have hgb : g = L.o0 ∨ L.lo2 ≤ g := by
    rcases g3 with g3 | g3
    · exact h.bo g g3
    · exact .inr (by omega)
  have hw0 : w0.heap.size ≤ L.po := Nat.le_trans h.ao.2.2.1 l11
  refine ⟨⟨?_, ?_, ⟨HA.1.same fun k hk => Below.heap_setCell _ _ _ _ ?_, HA.2.1.setCell hw0 _, HA.2.2.1, by simpa using HA.2.2.2⟩, ⟨h.aw.1.same fun k hk => ?_, HA.2.1.setCell hw0 _, h.aw.2.2.1, by simpa using HA.2.2.2⟩, ?_, by omega, by simp, ?_, h.bw, ?_⟩, ?_, ⟨_, hpo⟩⟩
  · exact (blk_setCell hpo _).trans (by simp)
  · exact (hsame L.pw (by omega) (fun e => by have := h.bo _ e; omega) (Ne.symm l5)).trans h.cw
  · rw [g2] at hk; obtain rfl := Option.some.inj hk; show g ≠ L.po; omega
  · exact hsame k ((h.aw.1.lt k hk).2) (fun e => h.ne k e hk) (by have := h.bw k hk; omega)
  · have e1 := (h.el.kept (w' := w2.setCell ⟨L.po, 0, none⟩ v') (by simpa using hsz) fun k k1 k2 k3 => hsame k (by have := h.hs; omega) (fun e => k3 (.inl e)) (by omega)).excl (O' := fun g => v'.ownBlock = some g ∨ vw.ownBlock = some g) fun k hk => ?_
    · refine e1.push (a := p) (b := wr.heap.size) ⟨hx.same fun k hk => ?_, fun k hk => (hx.lt k hk).2⟩ (by omega) hp (by simpa using hsz) (by simpa using Nat.le_trans h.hs hsz) fun k hk => ?_
      · have := hx.lt k hk
        exact hsame k this.2 (fun e => by have := hvo k e; omega) (by omega)
      · rcases hk with hk | hk
        · rw [g2] at hk
          obtain rfl := Option.some.inj hk
          rcases g3 with g3 | g3
          · exact .inl (hvo g g3)
          · exact .inr g3
        · exact .inl (hvw k hk)
    · rcases hk with hk | hk
      · rw [g2] at hk
        obtain rfl := Option.some.inj hk
        rcases g3 with g3 | g3
        · exact .inl (.inl g3)
        · exact .inr (.inl (by have := h.hs; omega))
      · exact .inl (.inr hk)
  · intro k hk; rw [g2] at hk; obtain rfl := Option.some.inj hk; exact hgb
  · intro k hk e
    rw [g2] at hk
    obtain rfl := Option.some.inj hk
    rcases g3 with g3 | g3
    · exact h.ne g g3 e
    · have := (h.aw.1.lt g e).2; omega
  · intro k k1 k2 k3 k4 k5
    exact hsame k (by omega) (fun e => by have := h.bo k e; omega) k2
/-- The list alone. -/
theorem TS.nrel (h : TS E ES w0 L wr vo vw ho ss hd os) : NRel (kdF E) ES w0 L.lo L.lo2 wr ho vo os := ⟨ss, h.ao, h.el.els fun g hg => .inl hg, h.hs⟩
end
def RetN {α : Type} (K : Kd α) (E : El Sl) (w : World) (xs : List α) (e : Ending) (w' : World) : Prop := ∃ v hi, e = .returned v ∧ NRel K E w w.heap.size w.heap.size w' hi v xs
end Go.Proofs.Ytehnbalbpfmijaa

namespace Go.Proofs.Ytehnbalbpfmijaa
open Go.RowKit
set_option linter.unusedVariables false

theorem run_copy_rowF {P : Program} (w : World) (dT sT ty elem : TypeId) (s g o dLen dCap : Nat) (a : Addr) (sLen sCap : Nat) (cur : Array Value) (t : TypeId) (cs : List Value)
    (hu : P.underlying dT = some (.slice elem)) (hs : (P.info? elem).map (·.size) = some s)
    (hg : w.heap[g]? = some (.cells cur t (0, 0))) (hn : cs.length = Nat.min sLen dLen * s)
    (hsrc : ∀ j v, cs[j]? = some v → w.cell? (a.add j) = some v) (hfit : o + cs.length ≤ cur.size) (h1 : ∀ v ∈ cs, v.oneCell' = true) :
    (Builtin.copy_ #[dT, sT] ty #[.slice (some ⟨g, o, none⟩) dLen dCap, .slice (some a) sLen sCap]).run P w =
      .ok (goInt (Nat.min sLen dLen)) (w.setRow g (cur.toList.take o ++ cs ++ cur.toList.drop (o + cs.length)).toArray) := by
  have hl := run_loadCells_list (P := P) w a cs hsrc
  have hst := run_storeCells_at P g o t cs 0 cur w hg (by simpa using hfit) h1
  cases hq : P.info? elem with
  | none => simp [hq] at hs
  | some i =>
    have hi : i.size = s := by simpa [hq] using hs
    simp [Builtin.copy_, run_underlying hu, Builtin.lenOf, Builtin.firstCells, sizeOf, typeInfo, hq, hi, ← hn, hl, hst]

section
variable {α : Type} {E : El α} {P : Program}
theorem El.Ok.size (hE : E.Ok P) : (P.info? E.e).map (·.size) = some E.s := by
  have := hE.info
  cases h : P.info? E.e with
  | none => simp [h] at this
  | some i => simp [h] at this; simp [this]
theorem flat_take (hE : ∀ x, (E.f x).length = E.s) (xs : List α) (k : Nat) (hk : k ≤ xs.length) : (xs.flatMap E.f).take (k * E.s) = (xs.take k).flatMap E.f := by
  have h : xs.flatMap E.f = (xs.take k).flatMap E.f ++ (xs.drop k).flatMap E.f := by rw [← List.flatMap_append, List.take_append_drop]
  have hl : ((xs.take k).flatMap E.f).length = k * E.s := by rw [flat_length hE, List.length_take, Nat.min_eq_left hk]
  rw [h, ← hl, List.take_left']
  rfl
theorem flat_drop (hE : ∀ x, (E.f x).length = E.s) (xs : List α) (k : Nat) (hk : k ≤ xs.length) : (xs.flatMap E.f).drop (k * E.s) = (xs.drop k).flatMap E.f := by
  have h : xs.flatMap E.f = (xs.take k).flatMap E.f ++ (xs.drop k).flatMap E.f := by rw [← List.flatMap_append, List.take_append_drop]
  have hl : ((xs.take k).flatMap E.f).length = k * E.s := by rw [flat_length hE, List.length_take, Nat.min_eq_left hk]
  rw [h, ← hl, List.drop_left']
  rfl
theorem OwnF.shift (hE : E.Ok P) {w : World} {lo g cap k dCap sCap : Nat} {xs : List α} {z : α} {dT sT ty : TypeId} (hu : P.underlying dT = some (.slice E.e))
    (h : OwnF E w lo (.slice (some ⟨g, 0, none⟩) (xs.length + 1) cap) (xs ++ [z])) (hk : k < xs.length) :
    ∃ w', (Builtin.copy_ #[dT, sT] ty #[.slice (some ⟨g, (k + 1) * E.s, none⟩) (xs.length - k) dCap, .slice (some ⟨g, k * E.s, none⟩) (xs.length + 1 - k) sCap]).run P w = .ok (goInt ((xs.length - k : Nat) : Int)) w' ∧
      OwnF E w' lo (.slice (some ⟨g, 0, none⟩) (xs.length + 1) cap) (xs.take (k + 1) ++ xs.drop k) ∧ w.grownBy w' (some g) := by
  have hrow : w.ownsRow lo E.e E.s (.slice (some ⟨g, 0, none⟩) (xs.length + 1) cap) (xs.length + 1) ((xs ++ [z]).flatMap E.f) := by
    have := h
    unfold OwnF at this
    rwa [List.length_append, List.length_singleton] at this
  rcases h.2 with ⟨_, h0⟩ | ⟨g', cap', cur, hv, hb, hgg, h1, h2, h3, h4⟩
  · simp at h0
  · obtain ⟨rfl, rfl⟩ : g = g' ∧ cap = cap' := by simp at hv; exact hv
    have hl := hE.len
    have hcl : ((xs.drop k).flatMap E.f).length = (xs.length - k) * E.s := by rw [flat_length hl, List.length_drop]
    have hmin : Nat.min (xs.length + 1 - k) (xs.length - k) = xs.length - k := Nat.min_eq_right (by omega)
    simp only [List.length_append, List.length_singleton] at h1 h4
    have hfit : (k + 1) * E.s + (xs.length - k) * E.s = (xs.length + 1) * E.s := by rw [← Nat.add_mul]; congr 1; omega
    have hcs : (xs.length + 1) * E.s ≤ cur.size := by rw [h3]; exact Nat.mul_le_mul_right _ h1
    have hrun := run_copy_rowF (P := P) w dT sT ty E.e E.s g ((k + 1) * E.s) (xs.length - k) dCap ⟨g, k * E.s, none⟩ (xs.length + 1 - k) sCap cur E.e ((xs.drop k).flatMap E.f) hu hE.size hgg (by rw [hmin, hcl])
      (fun j v hj => by
        have hj' : j < (xs.length - k) * E.s := by rw [← hcl]; exact (List.getElem?_eq_some_iff.1 hj).1
        have hle : k * E.s + (xs.length - k) * E.s = xs.length * E.s := by rw [← Nat.add_mul]; congr 1; omega
        have hlt : k * E.s + j < (xs.length + 1) * E.s := by rw [Nat.add_mul]; omega
        have hc := World.ownsRow.cellAt hrow (k * E.s + j) hlt
        rw [show (⟨g, k * E.s, none⟩ : Addr).add j = ⟨g, k * E.s + j, none⟩ by simp [Addr.add], hc, List.flatMap_append, List.getElem?_append_left (by rw [flat_length hl]; omega), ← List.getElem?_drop, flat_drop hl _ _ (by omega)]
        exact hj)
      (by rw [hcl, hfit]; exact hcs)
      (fun v hv => by obtain ⟨x, _, hx⟩ := List.mem_flatMap.1 hv; exact hE.one x v hx)
    rw [hmin] at hrun
    refine ⟨_, hrun, ⟨?_, .inr ⟨g, cap, _, by simp; omega, hb, setRow_heap w g _ _ _ _ hgg, by simp; omega, h2, ?_, ?_⟩⟩, ?_⟩
    · rw [flat_length hl]
    · rw [hcl, hfit, ← h3]
      simp only [List.size_toArray, List.length_append, List.length_take, List.length_drop, hcl, Array.length_toList]
      rw [Nat.min_eq_left (by omega)]
      omega
    · have ht : cur.toList.take ((k + 1) * E.s) = (xs.take (k + 1)).flatMap E.f := by
        have := congrArg (List.take ((k + 1) * E.s)) h4
        rw [List.take_take, Nat.min_eq_left (Nat.mul_le_mul_right _ (by omega)), flat_take hl _ _ (by simp; omega), List.take_append_of_le_length (by omega)] at this
        exact this
      rw [ht, ← List.flatMap_append]
      have hlen : (xs.take (k + 1) ++ xs.drop k).length = xs.length + 1 := by simp; omega
      rw [hlen]
      simp only []
      rw [List.take_append_of_le_length (by rw [flat_length hl, hlen]; exact Nat.le_refl _), List.take_of_length_le (by rw [flat_length hl, hlen]; exact Nat.le_refl _)]
    · exact ⟨rfl, rfl, rfl, by simp [World.setRow], fun j hj hne => setRow_other w g j _ (by intro e; exact hne (by rw [e]))⟩
end

theorem wpList_copyIn {α : Type} {E : El α} {P : Program} (hE : E.Ok P) {w : World} {ops : Array Oper} {rest : List Oper} {o : Oper} {a : Act} {Q : Exit → Act → World → Prop} (hgd : o.guard = none) (d s : Operand)
    (ho : o.op = .call { callee := .builtin .copy, args := #[d, s], argTypes := #[E.t, E.t] }) (g cap k m dCap sCap lo : Nat) (xs : List α) (z : α) (hm : xs.length - k = m)
    (hd : a.eval d = .slice (some ⟨g, (k + 1) * E.s, none⟩) m dCap) (hs : a.eval s = .slice (some ⟨g, k * E.s, none⟩) (xs.length + 1 - k) sCap)
    (hown : OwnF E w lo (.slice (some ⟨g, 0, none⟩) (xs.length + 1) cap) (xs ++ [z])) (hk : k < xs.length)
    (h : ∀ w', Hid (OwnF E w' lo (.slice (some ⟨g, 0, none⟩) (xs.length + 1) cap) (xs.take (k + 1) ++ xs.drop k)) → Hid (w.grownBy w' (some g)) → wpList P ops Q rest (a.put o.dst (goInt (m : Int))) w') :
    wpList P ops Q (o :: rest) a w := by
  refine wpList_plain hgd fun K hK => ?_
  obtain ⟨w', hrun, h1, h2⟩ := OwnF.shift (dT := E.t) (sT := E.t) (ty := o.type) (dCap := dCap) (sCap := sCap) hE hE.und hown hk
  rw [hm] at hrun
  unfold Oper.wp
  simp [execOp, ho, resolve, invoke, builtin, hd, hs, hrun, Result.andThen]
  exact hK _ _ (h _ h1 h2)
theorem step_copyIn {α : Type} {E : El α} {P : Program} (hE : E.Ok P) {ops : Array Oper} {o : Oper} {a : Act} {w : World} {K : Act → World → Prop} {Q : Exit → Act → World → Prop} {X : Prop} (hgd : o.guard = none) (d s : Operand)
    (ho : o.op = .call { callee := .builtin .copy, args := #[d, s], argTypes := #[E.t, E.t] }) (g cap k m dCap sCap lo : Nat) (xs : List α) (z : α) (hm : xs.length - k = m)
    (hd : a.eval d = .slice (some ⟨g, (k + 1) * E.s, none⟩) m dCap) (hs : a.eval s = .slice (some ⟨g, k * E.s, none⟩) (xs.length + 1 - k) sCap)
    (hown : OwnF E w lo (.slice (some ⟨g, 0, none⟩) (xs.length + 1) cap) (xs ++ [z])) (hk : k < xs.length)
    (h : ∀ w', Hid (OwnF E w' lo (.slice (some ⟨g, 0, none⟩) (xs.length + 1) cap) (xs.take (k + 1) ++ xs.drop k)) → Hid (w.grownBy w' (some g)) → K (a.put o.dst (goInt (m : Int))) w') :
    if Region.wanted o (yielded ops a.tmps) = true then Oper.wp P o a w K Q else X := by
  have hw : Region.wanted o (yielded ops a.tmps) = true := by simp [Region.wanted, hgd]
  rw [if_pos hw]
  obtain ⟨w', hrun, h1, h2⟩ := OwnF.shift (dT := E.t) (sT := E.t) (ty := o.type) (dCap := dCap) (sCap := sCap) hE hE.und hown hk
  rw [hm] at hrun
  unfold Oper.wp
  simp [execOp, ho, resolve, invoke, builtin, hd, hs, hrun, Result.andThen]
  exact h _ h1 h2
theorem run_copy_noneF {P : Program} (w : World) (dT sT ty elem : TypeId) (s : Nat) (d a : Option Addr) (dLen dCap sLen sCap : Nat) (hu : P.underlying dT = some (.slice elem)) (hs : (P.info? elem).map (·.size) = some s) (hn : Nat.min sLen dLen = 0) :
    (Builtin.copy_ #[dT, sT] ty #[.slice d dLen dCap, .slice a sLen sCap]).run P w = .ok (goInt 0) w := by
  cases hq : P.info? elem with
  | none => simp [hq] at hs
  | some i =>
    have hmin : min sLen dLen = 0 := hn
    cases d <;> cases a <;> simp [Builtin.copy_, run_underlying hu, Builtin.lenOf, Builtin.firstCells, sizeOf, typeInfo, hq, hmin, storeCells, loadCells, loadCellsFrom]
theorem step_copyNone {α : Type} {E : El α} {P : Program} (hE : E.Ok P) {ops : Array Oper} {o : Oper} {a : Act} {w : World} {K : Act → World → Prop} {Q : Exit → Act → World → Prop} {X : Prop} (hgd : o.guard = none) (d s : Operand)
    (ho : o.op = .call { callee := .builtin .copy, args := #[d, s], argTypes := #[E.t, E.t] }) {dp sp : Option Addr} {dLen dCap sLen sCap : Nat}
    (hd : a.eval d = .slice dp dLen dCap) (hs : a.eval s = .slice sp sLen sCap) (hn : Nat.min sLen dLen = 0) (h : K (a.put o.dst (goInt 0)) w) :
    if Region.wanted o (yielded ops a.tmps) = true then Oper.wp P o a w K Q else X := by
  have hw : Region.wanted o (yielded ops a.tmps) = true := by simp [Region.wanted, hgd]
  rw [if_pos hw]
  have hrun := run_copy_noneF (P := P) w E.t E.t o.type E.e E.s dp sp dLen dCap sLen sCap hE.und hE.size hn
  unfold Oper.wp
  simp [execOp, ho, resolve, invoke, builtin, hd, hs, hrun, Result.andThen]
  exact h
end Go.Proofs.Ytehnbalbpfmijaa
