/- The plain law of CountFaultless: parts of a length, products of counts. -/
import Derived.Test.YtiecphhenpapoaaProfB
import Derived.Test.YtiecphhenpapoaaRectI
namespace Go.Proofs.Ytiecphhenpapoaa
open Go.RowKit
set_option linter.unusedVariables false

def rcZ (a b : Nat) : Int := profZ (setZ (rectZ a b))
theorem rc_tab : ((List.range 7).all fun a => (List.range 7).all fun b => cellsTo (setZ (rectZ a b)) 64 == a * b) = true := by decide +kernel
theorem rc_bd (a b : Nat) (ha : a ≤ 6) (hb : b ≤ 6) : 0 ≤ rcZ a b ∧ rcZ a b ≤ 2 ^ (a * b) := by
  have h := rc_tab
  rw [List.all_eq_true] at h
  have h := h a (by simp; omega)
  rw [List.all_eq_true] at h
  have h := h b (by simp; omega)
  rw [beq_iff_eq] at h
  have h36 : a * b ≤ 6 * 6 := Nat.mul_le_mul ha hb
  have := prof_bd (setZ (rectZ a b)) (by omega)
  rw [h] at this
  exact this

/-! ### Parts -/
/-- The parts behind the first k places, and the last line. -/
def ptTo (s : Nat) : Nat → List Nat × Nat
  | 0 => ([], 0)
  | k + 1 => if s.testBit k then ((ptTo s k).1 ++ [k + 1 - (ptTo s k).2], k + 1) else ptTo s k
def ptZ (len s : Nat) : List Nat := (ptTo s (len - 1)).1 ++ [len - (ptTo s (len - 1)).2]
theorem ptTo_le (s : Nat) : ∀ k, (ptTo s k).2 ≤ k ∧ (ptTo s k).1.length ≤ k
  | 0 => by simp [ptTo]
  | k + 1 => by
    have := ptTo_le s k
    rw [ptTo]
    split
    · refine ⟨Nat.le_refl _, ?_⟩; simp; omega
    · omega
theorem pt_tab : ((List.range 7).all fun len => (List.range 32).all fun s => len == 0 || ((ptZ len s).sum == len && (ptZ len s).all fun x => decide (1 ≤ x) && decide (x ≤ 6)) && decide ((ptZ len s).length ≤ 6)) = true := by decide +kernel
theorem pt_at {len s : Nat} (h1 : 1 ≤ len) (h6 : len ≤ 6) (hs : s < 32) : (ptZ len s).sum = len ∧ (∀ x ∈ ptZ len s, 1 ≤ x ∧ x ≤ 6) ∧ (ptZ len s).length ≤ 6 ∧ 1 ≤ (ptZ len s).length := by
  have h := pt_tab
  rw [List.all_eq_true] at h
  have h := h len (by simp; omega)
  rw [List.all_eq_true] at h
  have h := h s (by simp; omega)
  simp only [Bool.or_eq_true, Bool.and_eq_true, beq_iff_eq, decide_eq_true_eq, List.all_eq_true] at h
  rcases h with h | ⟨⟨h2, h3⟩, h4⟩
  · omega
  · exact ⟨h2, h3, h4, by unfold ptZ; simp⟩

/-! ### Products -/
def mulI (n c : Int) : Int := if 0 < n then wrap64 (n * c) else n
def mulS (n c : Int) : Int := wrap64 (n * c)
def rowF (f : Int → Int → Int) (c : Nat) (rows : List Nat) (n : Int) : Int := rows.foldl (fun n h => f n (rcZ c h)) n
def colF (f : Int → Int → Int) (cols rows : List Nat) (n : Int) : Int := cols.foldl (fun n c => rowF f c rows n) n
theorem rowF_take (f : Int → Int → Int) (c : Nat) (rows : List Nat) (n : Int) (j : Nat) (h : j < rows.length) : rowF f c (rows.take (j + 1)) n = f (rowF f c (rows.take j) n) (rcZ c rows[j]) := by
  unfold rowF; rw [List.take_succ_eq_append_getElem h, List.foldl_append]; rfl
theorem colF_take (f : Int → Int → Int) (cols rows : List Nat) (n : Int) (i : Nat) (h : i < cols.length) : colF f (cols.take (i + 1)) rows n = rowF f cols[i] rows (colF f (cols.take i) rows n) := by
  unfold colF; rw [List.take_succ_eq_append_getElem h, List.foldl_append]; rfl
theorem mul_bd {n c : Int} {E e : Nat} (h0 : 0 ≤ n) (h1 : n ≤ 2 ^ E) (c0 : 0 ≤ c) (c1 : c ≤ 2 ^ e) (hE : E + e ≤ 40) : mulI n c = n * c ∧ mulS n c = n * c ∧ 0 ≤ n * c ∧ n * c ≤ 2 ^ (E + e) := by
  have h2 : 0 ≤ n * c := Int.mul_nonneg h0 c0
  have h3 : n * c ≤ 2 ^ E * 2 ^ e := Int.mul_le_mul h1 c1 c0 (by exact Int.pow_nonneg (by omega))
  rw [← Int.pow_add] at h3
  have h4 : (2 : Int) ^ (E + e) ≤ 2 ^ 40 := by
    have := Nat.pow_le_pow_right (n := 2) (by omega) hE
    exact_mod_cast this
  have hw : wrap64 (n * c) = n * c := by unfold wrap64; omega
  refine ⟨?_, hw, h2, h3⟩
  unfold mulI
  split
  · exact hw
  · have : n = 0 := by omega
    subst this; simp
theorem row_same (c : Nat) (hc : c ≤ 6) : ∀ (rows : List Nat) (n : Int) (E : Nat), (∀ x ∈ rows, 1 ≤ x ∧ x ≤ 6) → 0 ≤ n → n ≤ 2 ^ E → E + c * rows.sum ≤ 40 → rowF mulI c rows n = rowF mulS c rows n ∧ 0 ≤ rowF mulS c rows n ∧ rowF mulS c rows n ≤ 2 ^ (E + c * rows.sum)
  | [], n, E, _, h0, h1, _ => by simp [rowF]; exact ⟨h0, h1⟩
  | x :: rows, n, E, hx, h0, h1, hE => by
    rw [List.sum_cons, Nat.mul_add] at hE ⊢
    obtain ⟨c0, c1⟩ := rc_bd c x hc (hx x (by simp)).2
    obtain ⟨m1, m2, m3, m4⟩ := mul_bd h0 h1 c0 c1 (by omega)
    have := row_same c hc rows (n * rcZ c x) (E + c * x) (fun y hy => hx y (by simp [hy])) m3 m4 (by omega)
    unfold rowF at *
    rw [List.foldl_cons, List.foldl_cons, m1, m2]
    rw [show E + (c * x + c * rows.sum) = E + c * x + c * rows.sum by omega]
    exact this
theorem col_same : ∀ (cols rows : List Nat) (n : Int) (E : Nat), (∀ x ∈ cols, 1 ≤ x ∧ x ≤ 6) → (∀ x ∈ rows, 1 ≤ x ∧ x ≤ 6) → 0 ≤ n → n ≤ 2 ^ E → E + cols.sum * rows.sum ≤ 40 → colF mulI cols rows n = colF mulS cols rows n ∧ 0 ≤ colF mulS cols rows n ∧ colF mulS cols rows n ≤ 2 ^ (E + cols.sum * rows.sum)
  | [], rows, n, E, _, _, h0, h1, _ => by simp [colF]; exact ⟨h0, h1⟩
  | c :: cols, rows, n, E, hc, hr, h0, h1, hE => by
    rw [List.sum_cons, Nat.add_mul] at hE ⊢
    obtain ⟨m1, m2, m3⟩ := row_same c (hc c (by simp)).2 rows n E hr h0 h1 (by omega)
    have := col_same cols rows (rowF mulS c rows n) (E + c * rows.sum) (fun y hy => hc y (by simp [hy])) hr m2 m3 (by omega)
    unfold colF at *
    rw [List.foldl_cons, List.foldl_cons, m1]
    rw [show E + (c * rows.sum + cols.sum * rows.sum) = E + c * rows.sum + cols.sum * rows.sum by omega]
    exact this
/-- What one pair of sets of lines adds. -/
def prodZ (a b s t : Nat) : Int := colF mulS (ptZ a s) (ptZ b t) 1
def termZ (a b s t : Nat) : Int := if ((ptZ a s).length + (ptZ b t).length) % 2 = 1 then -prodZ a b s t else prodZ a b s t
theorem prod_bd {a b s t : Nat} (ha : 1 ≤ a ∧ a ≤ 6) (hb : 1 ≤ b ∧ b ≤ 6) (hab : a * b ≤ 30) (hs : s < 32) (ht : t < 32) : colF mulI (ptZ a s) (ptZ b t) 1 = prodZ a b s t ∧ 0 ≤ prodZ a b s t ∧ prodZ a b s t ≤ 1073741824 := by
  obtain ⟨p1, p2, p3, _⟩ := pt_at ha.1 ha.2 hs
  obtain ⟨q1, q2, q3, _⟩ := pt_at hb.1 hb.2 ht
  obtain ⟨h1, h2, h3⟩ := col_same (ptZ a s) (ptZ b t) 1 0 p2 q2 (by omega) (by omega) (by rw [p1, q1]; omega)
  refine ⟨h1, h2, Int.le_trans h3 ?_⟩
  rw [p1, q1, Nat.zero_add]
  have h : (2 : Int) ^ (a * b) ≤ 2 ^ 30 := by
    have := Nat.pow_le_pow_right (n := 2) (by omega) hab
    exact_mod_cast this
  exact Int.le_trans h (by decide)
def inT (a b s : Nat) (o : Int) : Nat → Int
  | 0 => o
  | t + 1 => wrap64 (inT a b s o t + termZ a b s t)
def outS (a b : Nat) : Nat → Int
  | 0 => 0
  | s + 1 => inT a b s (outS a b s) (2 ^ (b - 1))
/-- What CountFaultless returns. -/
def fewB (a b : Int) : Bool := inB a 1 6 && inB b 1 6 && decide (a * b ≤ 30)
def fltlZ (a b : Int) : Int := if fewB a b then outS a.toNat b.toNat (2 ^ (a.toNat - 1)) else -1
end Go.Proofs.Ytiecphhenpapoaa
