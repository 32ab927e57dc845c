/- What the claim's walk rests on: parts DmLaw, ProfF. -/
import Derived.Test.YtehnbalbpfmijaaKDm9
import Derived.Test.YtehnbalbpfmijaaKDm12
import Derived.Test.YtehnbalbpfmijaaKDm8
namespace Go.Proofs.Ytehnbalbpfmijaa
open Go.RowKit
set_option linter.unusedVariables false

/-- A tiling's first domino lies over the first cell. -/
theorem head_dom {s : Nat} {tl : List Lk} (hs : Sorted tl) (hc : ∀ i, i < 64 → cc tl i = if s.testBit i then 1 else 0) (hk : loB s 64 0 < 64) :
    ∃ t tl', tl = t :: tl' ∧ t = dK (loB s 64 0) t.2.2 ∧ domL t = true ∧ s.testBit (bI t) = true ∧ Sorted tl' ∧ ∀ i, i < 64 → cc tl' i = if (s ^^^ dM t).testBit i then 1 else 0 := by
  obtain ⟨p1, p2, _, _⟩ := loB_spec s 64 0
  have hbit := p2 (by omega)
  generalize loB s 64 0 = k at *
  have hck := hc k hk
  rw [hbit, if_pos rfl] at hck
  cases tl with
  | nil => simp [cc] at hck
  | cons t tl =>
    have htd : domL t = true := hs.2 t (by simp)
    have htl := ab_lt htd
    have hin : ∀ m ∈ t :: tl, ∀ i, i < 64 → ovr m i = true → s.testBit i = true := by
      intro m hm i hi ho
      have g1 := cc_pos hm ho
      rw [hc i hi] at g1
      cases hb : s.testBit i
      · rw [hb] at g1; simp at g1
      · rfl
    have hge : ∀ m ∈ t :: tl, k ≤ aI m := by
      intro m hm
      have hml := ab_lt (hs.2 m hm)
      have g := hin m hm (aI m) (by omega) (by simp [ovr])
      rcases Nat.lt_or_ge (aI m) k with g2 | g2
      · rw [p1 _ (Nat.zero_le _) g2] at g; simp at g
      · exact g2
    have htk : aI t = k := by
      obtain ⟨m, hm, ho⟩ := cc_get (ls := t :: tl) (i := k) (by omega)
      have hml := ab_lt (hs.2 m hm)
      have hma := hge m hm
      have hmk : aI m = k := by
        unfold ovr at ho
        simp only [Bool.or_eq_true, beq_iff_eq] at ho
        rcases ho with ho | ho
        · exact ho
        · omega
      rcases List.mem_cons.1 hm with rfl | hm
      · exact hmk
      · have h1 := (List.pairwise_cons.1 hs.1).1 m hm
        have hta := hge t (by simp)
        rw [ordL_eq, ordL_eq] at h1
        split at h1 <;> split at h1 <;> omega
    have hte := dK_of htd
    rw [htk] at hte
    refine ⟨t, tl, rfl, hte, htd, hin t (by simp) (bI t) (by omega) (by simp [ovr]), ⟨(List.pairwise_cons.1 hs.1).2, fun a ha => hs.2 a (by simp [ha])⟩, fun i hi => ?_⟩
    have g1 := hc i hi
    rw [cc_cons] at g1
    rw [Nat.testBit_xor, dM_ab, ab_bit]
    have g2 : (decide (aI t = i) || decide (bI t = i)) = ovr t i := by
      unfold ovr
      by_cases e1 : aI t = i <;> by_cases e2 : bI t = i <;> simp [e1, e2]
    rw [g2]
    cases ho : ovr t i
    · rw [ho] at g1; simp at g1 ⊢; exact g1
    · have g3 := hin t (by simp) i hi ho
      rw [ho, g3] at g1
      rw [g3]; simp at g1 ⊢; omega
/-- Whether all tilings of a set that continue a list have a property. -/
def allF (P : List Lk → Bool) : Nat → Nat → List Lk → Bool
  | 0, _, _ => false
  | f + 1, s, hd => if loB s 64 0 < 64 then [false, true].all fun dn =>
      let t := dK (loB s 64 0) dn
      !(domL t && s.testBit (bI t)) || allF P f (s ^^^ dM t) (hd ++ [t])
    else P hd
theorem allF_all (P : List Lk → Bool) : ∀ (f s : Nat) (hd : List Lk), allF P f s hd = true → ∀ tl, Sorted tl → (∀ i, i < 64 → cc tl i = if s.testBit i then 1 else 0) → P (hd ++ tl) = true
  | 0, s, hd, h, tl, _, _ => by simp [allF] at h
  | f + 1, s, hd, h, tl, hs, hc => by
    rw [allF] at h
    by_cases hk : loB s 64 0 < 64
    · rw [if_pos hk] at h
      obtain ⟨t, tl', rfl, hte, htd, hbt, hs', hc'⟩ := head_dom hs hc hk
      have g := List.all_eq_true.1 h t.2.2 (by cases t.2.2 <;> simp)
      simp only [← hte, htd, hbt, Bool.and_self, Bool.not_true, Bool.false_or] at g
      have := allF_all P f _ _ g tl' hs' hc'
      rw [List.append_assoc] at this
      exact this
    · rw [if_neg hk] at h
      obtain ⟨p1, _, _, _⟩ := loB_spec s 64 0
      cases tl with
      | nil => rw [List.append_nil]; exact h
      | cons t tl =>
        have htl := ab_lt (hs.2 t (by simp))
        have g := cc_pos (ls := t :: tl) (d := t) (i := aI t) (by simp) (by simp [ovr])
        rw [hc _ (by omega), p1 _ (Nat.zero_le _) (by omega)] at g
        simp at g
/-- The grown dominoes and the squares, filled as told. -/
def fillTo (sq : List (Int × Int)) (f : Nat → Bool) : Nat → List Lk
  | 0 => []
  | k + 1 => fillTo sq f k ++ [(quadL (dx sq k) (dy sq k) (f k)).1, (quadL (dx sq k) (dy sq k) (f k)).2]
def dmP (s : Nat) (ls : List Lk) : Bool :=
  let g := growZ s ls
  let sq := esZ s ls
  growB s ls && sPartB (dmR (s + 1)) g && decide (sq.length = s + 1 + (ls.length - g.length) / 2) && decide (g.length ≤ ls.length) && decide (cntB (dmR (s + 1)) 64 = 2 * g.length + 4 * sq.length) &&
    ((List.range sq.length).all fun k => decide (0 ≤ dx sq k) && decide (dx sq k ≤ 6) && decide (0 ≤ dy sq k) && decide (dy sq k ≤ 6)) &&
    ((List.range 64).all fun i => cc (g ++ fillTo sq (fun _ => false) sq.length) i == if (dmR (s + 1)).testBit i then 1 else 0)
theorem dm1_tab : allF (dmP 1) 40 (dmR 1) [] = true := by decide +kernel
theorem dm2_tab : allF (dmP 2) 40 (dmR 2) [] = true := by decide +kernel
theorem dm3_tab : allF (dmP 3) 40 (dmR 3) [] = true := by decide +kernel
theorem dm_all {s : Nat} (hs : s = 1 ∨ s = 2 ∨ s = 3) {ls : List Lk} (h : Til (dmR s) ls) : dmP s ls = true := by
  have key : allF (dmP s) 40 (dmR s) [] = true := by
    rcases hs with rfl | rfl | rfl
    · exact dm1_tab
    · exact dm2_tab
    · exact dm3_tab
  exact allF_all (dmP s) 40 (dmR s) [] key ls h.so h.cv
theorem fill_cc (sq : List (Int × Int)) (f : Nat → Bool) (i : Nat) : ∀ k, (∀ j, j < k → (0 ≤ dx sq j ∧ dx sq j ≤ 6) ∧ 0 ≤ dy sq j ∧ dy sq j ≤ 6) → cc (fillTo sq f k) i = cc (fillTo sq (fun _ => false) k) i ∧ ∀ d ∈ fillTo sq f k, domL d = true
  | 0, _ => ⟨rfl, fun d hd => by simp [fillTo] at hd⟩
  | k + 1, h => by
    obtain ⟨h1, h2⟩ := fill_cc sq f i k fun j hj => h j (by omega)
    obtain ⟨hx, hy⟩ := h k (by omega)
    refine ⟨?_, fun d hd => ?_⟩
    · rw [fillTo, fillTo, cc_app, cc_app, h1, cc_cons, cc_cons, cc_cons, cc_cons]
      cases f k
      · rfl
      · have := quad_cc hx hy true i
        simp only [Bool.not_true] at this
        omega
    · rw [fillTo] at hd
      rcases List.mem_append.1 hd with hd | hd
      · exact h2 d hd
      · have := quad_dom hx hy (f k)
        simp only [List.mem_cons, List.not_mem_nil, or_false] at hd
        rcases hd with rfl | rfl
        · exact this.1
        · exact this.2
/-- What the law asks of a drawn tiling. -/
structure DmOk (s : Nat) (ls : List Lk) : Prop where
  g : growB s ls = true
  p : sPartB (dmR (s + 1)) (growZ s ls) = true
  l : (esZ s ls).length = s + 1 + (ls.length - (growZ s ls).length) / 2
  le : (growZ s ls).length ≤ ls.length
  c : cntB (dmR (s + 1)) 64 = 2 * (growZ s ls).length + 4 * (esZ s ls).length
  q : ∀ k, k < (esZ s ls).length → (0 ≤ dx (esZ s ls) k ∧ dx (esZ s ls) k ≤ 6) ∧ 0 ≤ dy (esZ s ls) k ∧ dy (esZ s ls) k ≤ 6
  f : ∀ f, sTileB (dmR (s + 1)) (sortI (growZ s ls ++ fillTo (esZ s ls) f (esZ s ls).length) (growZ s ls ++ fillTo (esZ s ls) f (esZ s ls).length).length) = true
theorem dm_ok {s : Nat} (hs : s = 1 ∨ s = 2 ∨ s = 3) {ls : List Lk} (h : Til (dmR s) ls) : DmOk s ls := by
  have hp := dm_all hs h
  unfold dmP at hp
  simp only [Bool.and_eq_true, decide_eq_true_eq, List.all_eq_true, List.mem_range, beq_iff_eq] at hp
  obtain ⟨⟨⟨⟨⟨⟨a, b⟩, c⟩, d⟩, e⟩, f⟩, g⟩ := hp
  have hq : ∀ k, k < (esZ s ls).length → (0 ≤ dx (esZ s ls) k ∧ dx (esZ s ls) k ≤ 6) ∧ 0 ≤ dy (esZ s ls) k ∧ dy (esZ s ls) k ≤ 6 := fun k hk => by
    obtain ⟨⟨⟨q1, q2⟩, q3⟩, q4⟩ := f k hk
    exact ⟨⟨q1, q2⟩, q3, q4⟩
  refine ⟨a, b, c, d, e, hq, fun fn => til_of ?_⟩
  have hdom : ∀ l ∈ growZ s ls ++ fillTo (esZ s ls) fn (esZ s ls).length, domL l = true := by
    intro l hl
    rcases List.mem_append.1 hl with hl | hl
    · exact (part_sorted b).2 l hl
    · exact (fill_cc (esZ s ls) fn 0 _ hq).2 l hl
  have hcc : ∀ i, i < 64 → cc (growZ s ls ++ fillTo (esZ s ls) fn (esZ s ls).length) i = if (dmR (s + 1)).testBit i then 1 else 0 := by
    intro i hi
    have g1 := g i hi
    rw [cc_app] at g1 ⊢
    rw [(fill_cc (esZ s ls) fn i _ hq).1]
    exact g1
  exact sort_til (nodup_of_cc hdom hcc) hdom hcc
end Go.Proofs.Ytehnbalbpfmijaa

namespace Go.Proofs.Ytehnbalbpfmijaa
open Go.RowKit
set_option linter.unusedVariables false

def stepF (h b r : Bool) (x : Nat) : List Int → Nat → List Int → List Int
  | [], _, nx => nx
  | n :: zs, k, nx => stepF h b r x zs (k + 1) (inZ h b r x n k nx)
theorem stepF_eq (h b r : Bool) (x : Nat) (zs : List Int) : ∀ (l : List Int) (k : Nat), zs.drop k = l → stepF h b r x l k (stepTo h b r x zs k) = stepTo h b r x zs (k + l.length)
  | [], k, _ => rfl
  | n :: l, k, hd => by
    have hk : k < zs.length := by
      refine Nat.lt_of_not_le fun hle => ?_
      rw [List.drop_of_length_le hle] at hd; simp at hd
    rw [List.drop_eq_getElem_cons hk] at hd
    injection hd with h1 h2
    have he : el zs k = n := by rw [el, List.getD_eq_getElem?_getD, List.getElem?_eq_getElem hk]; exact h1
    rw [stepF]
    have ih := stepF_eq h b r x zs l (k + 1) h2
    rw [stepTo, he] at ih
    rw [ih, List.length_cons, show k + 1 + l.length = k + (l.length + 1) by omega]
def profF (T : Nat) : Nat → List Int
  | 0 => zeros.set 0 1
  | i + 1 => stepF (hasC T (i % 8) (i / 8)) (hasC T (i % 8) (i / 8 + 1)) (hasC T (i % 8 + 1) (i / 8)) (i % 8) (profF T i) 0 zeros
theorem profF_eq (T : Nat) : ∀ i, profF T i = profTo T i
  | 0 => rfl
  | i + 1 => by
    rw [profF, profTo, profF_eq T i]
    have h := stepF_eq (hasC T (i % 8) (i / 8)) (hasC T (i % 8) (i / 8 + 1)) (hasC T (i % 8 + 1) (i / 8)) (i % 8) (profTo T i) (profTo T i) 0 rfl
    rw [Nat.zero_add, profTo_len] at h
    exact h
/-- The count, so reckoned. -/
def profK (T : Nat) : Int := (profF T 64).headD 0
theorem profK_eq (T : Nat) : profZ T = profK T := by
  unfold profZ profK
  rw [profF_eq]
  unfold el
  cases profTo T 64 <;> rfl
end Go.Proofs.Ytehnbalbpfmijaa
