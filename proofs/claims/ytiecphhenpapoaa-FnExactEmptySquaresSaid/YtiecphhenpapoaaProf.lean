/- Counting by profiles, in plain words; rows of integers in a block. -/
import Derived.Test.YtiecphhenpapoaaReg
import Derived.Test.YtiecphhenpapoaaBlk
namespace Go.Proofs.Ytiecphhenpapoaa
open Go.RowKit
set_option linter.unusedVariables false

/-! ### Rows -/
def rwC (zs : List Int) : Array Value := (zs.map (Value.int .i64)).toArray
theorem rwC_get (zs : List Int) (k : Nat) (h : k < zs.length) : (rwC zs)[k]? = some (.int .i64 (el zs k)) := by simp [rwC, el_get _ _ h, h]
theorem rwC_set (zs : List Int) (k : Nat) (z : Int) : (rwC zs).setIfInBounds k (.int .i64 z) = rwC (zs.set k z) := by
  apply Array.ext'
  simp [rwC, List.map_set]
theorem rep_set (n k : Nat) : (List.replicate n (0 : Int)).set k 0 = List.replicate n 0 := by
  apply List.ext_getElem
  · simp
  · intro i h1 h2; simp
theorem rep_el (n k : Nat) : el (List.replicate n (0 : Int)) k = 0 := by
  unfold el
  rw [List.getD_eq_getElem?_getD, List.getElem?_replicate]
  split <;> rfl
def zeros : List Int := List.replicate 256 0
theorem zeros_len : zeros.length = 256 := List.length_replicate
theorem zeros_set (k : Nat) : zeros.set k 0 = zeros := rep_set 256 k
theorem zeros_el (k : Nat) : el zeros k = 0 := rep_el 256 k
theorem made256 : madeCells #[.int .i64 0] 256 = rwC zeros := by kernel_rfl
/-- A row of 256 integers. -/
def Row256 (w : World) (g : Nat) (zs : List Int) : Prop := w.heap[g]? = some (.cells (rwC zs) 3 (0, 0)) ∧ zs.length = 256
theorem Row256.cell {w : World} {g : Nat} {zs : List Int} (h : Row256 w g zs) {k : Nat} (hk : k < 256) : w.cell? ⟨g, k, none⟩ = some (.int .i64 (el zs k)) := by rw [blk_cell h.1]; exact rwC_get _ _ (by rw [h.2]; exact hk)
theorem Row256.free {w : World} {g : Nat} {zs : List Int} (h : Row256 w g zs) (k : Nat) : w.frozen? ⟨g, k, none⟩ = false := blk_free h.1
theorem Row256.set {w : World} {g : Nat} {zs : List Int} (h : Row256 w g zs) (k : Nat) (z : Int) : Row256 (w.setCell ⟨g, k, none⟩ (.int .i64 z)) g (zs.set k z) := by
  refine ⟨?_, by simpa using h.2⟩
  rw [blk_setCell h.1, rwC_set]
theorem Row256.keep {w w' : World} {g : Nat} {zs : List Int} (h : Row256 w g zs) (hk : w'.heap[g]? = w.heap[g]?) : Row256 w' g zs := ⟨hk.trans h.1, h.2⟩
theorem Row256.made (w : World) : Row256 (w.alloc (.cells (madeCells #[.int .i64 0] 256) 3)) w.heap.size zeros := ⟨by rw [made256]; exact heap_alloc_new w _, zeros_len⟩

/-! ### The count -/
def putZ (nx : List Int) (j : Nat) (n : Int) : List Int := nx.set j (wrap64 (el nx j + n))
def inZ (h b r : Bool) (x : Nat) (n : Int) (k : Nat) (nx : List Int) : List Int :=
  if n = 0 then nx
  else if h then
    (if k.testBit x then putZ nx (k - 2 ^ x) n
     else if r && !k.testBit (x + 1) then putZ (if b then putZ nx (k ||| 2 ^ x) n else nx) (k ||| 2 ^ (x + 1)) n else if b then putZ nx (k ||| 2 ^ x) n else nx)
  else if k.testBit x then nx else putZ nx k n
def stepTo (h b r : Bool) (x : Nat) (zs : List Int) : Nat → List Int
  | 0 => zeros
  | k + 1 => inZ h b r x (el zs k) k (stepTo h b r x zs k)
/-- A set has a cell that may lie outside. -/
def hasC (T x y : Nat) : Bool := decide (x ≤ 7) && decide (y ≤ 7) && hasB T x y
def profTo (T : Nat) : Nat → List Int
  | 0 => zeros.set 0 1
  | i + 1 => stepTo (hasC T (i % 8) (i / 8)) (hasC T (i % 8) (i / 8 + 1)) (hasC T (i % 8 + 1) (i / 8)) (i % 8) (profTo T i) 256
def profZ (T : Nat) : Int := el (profTo T 64) 0

theorem putZ_len (nx : List Int) (j : Nat) (n : Int) : (putZ nx j n).length = nx.length := by simp [putZ]
theorem inZ_len (h b r : Bool) (x : Nat) (n : Int) (k : Nat) (nx : List Int) : (inZ h b r x n k nx).length = nx.length := by
  unfold inZ
  split
  · rfl
  · split
    · split
      · exact putZ_len _ _ _
      · split
        · rw [putZ_len]; split <;> simp [putZ_len]
        · split <;> simp [putZ_len]
    · split <;> simp [putZ_len]
theorem stepTo_len (h b r : Bool) (x : Nat) (zs : List Int) : ∀ k, (stepTo h b r x zs k).length = 256
  | 0 => zeros_len
  | k + 1 => by rw [stepTo, inZ_len]; exact stepTo_len h b r x zs k
theorem profTo_len (T : Nat) : ∀ i, (profTo T i).length = 256
  | 0 => by rw [profTo, List.length_set]; exact zeros_len
  | i + 1 => stepTo_len _ _ _ _ _ _
/-- All numbers are in range. -/
def WOk (zs : List Int) : Prop := ∀ j, wrap64 (el zs j) = el zs j
theorem wrap_wrap (a : Int) : wrap64 (wrap64 a) = wrap64 a := by unfold wrap64; omega
theorem el_set' (zs : List Int) (k : Nat) (z : Int) (j : Nat) : el (zs.set k z) j = if j = k ∧ k < zs.length then z else el zs j := by
  unfold el
  simp only [List.getD_eq_getElem?_getD, List.getElem?_set]
  by_cases e : k = j
  · subst e
    by_cases h : k < zs.length
    · simp [h]
    · simp [h]
  · simp [e, show ¬ j = k from fun h => e h.symm]
theorem WOk.put {nx : List Int} (h : WOk nx) (j : Nat) (n : Int) : WOk (putZ nx j n) := fun i => by
  unfold putZ
  rw [el_set']
  split
  · exact wrap_wrap _
  · exact h i
theorem WOk.zeros : WOk zeros := fun j => by rw [zeros_el]; simp [wrap64]
theorem WOk.in_ {h b r : Bool} {x k : Nat} {n : Int} {nx : List Int} (hn : WOk nx) : WOk (inZ h b r x n k nx) := by
  unfold inZ
  split
  · exact hn
  · split
    · split
      · exact hn.put _ _
      · split
        · refine WOk.put ?_ _ _; split
          · exact hn.put _ _
          · exact hn
        · split
          · exact hn.put _ _
          · exact hn
    · split
      · exact hn
      · exact hn.put _ _
theorem WOk.step (h b r : Bool) (x : Nat) (zs : List Int) : ∀ k, WOk (stepTo h b r x zs k)
  | 0 => WOk.zeros
  | k + 1 => (WOk.step h b r x zs k).in_
theorem WOk.prof (T : Nat) : ∀ i, WOk (profTo T i)
  | 0 => fun j => by
    rw [profTo, el_set']
    split
    · simp [wrap64]
    · rw [zeros_el]; simp [wrap64]
  | i + 1 => WOk.step _ _ _ _ _ _
/-- The program's put: where nothing stands, the number alone. -/
theorem putZ_zero {nx : List Int} {j : Nat} {n : Int} (h : el nx j = 0) (hn : wrap64 n = n) : nx.set j n = putZ nx j n := by
  unfold putZ; rw [h, Int.zero_add, hn]

/-! ### Bits -/
theorem bits_tab : ((List.range 256).all fun k => (List.range 8).all fun x =>
    ((bits .and .i64 (k : Int) ((2 ^ x : Nat) : Int) == 0) == !k.testBit x) && (!k.testBit x || bits .andNot .i64 (k : Int) ((2 ^ x : Nat) : Int) == ((k - 2 ^ x : Nat) : Int)) && (bits .or .i64 (k : Int) ((2 ^ x : Nat) : Int) == ((k ||| 2 ^ x : Nat) : Int)) &&
    (bits .and .i64 ((k : Int) / ((2 ^ x : Nat) : Int)) 1 == if k.testBit x then 1 else 0) && decide (k ||| 2 ^ x < 256)) = true := by decide +kernel
theorem bits_at (k x : Nat) (hk : k < 256) (hx : x ≤ 7) : ((bits .and .i64 (k : Int) ((2 ^ x : Nat) : Int) == 0) = !k.testBit x) ∧ (k.testBit x = true → bits .andNot .i64 (k : Int) ((2 ^ x : Nat) : Int) = ((k - 2 ^ x : Nat) : Int)) ∧
    (bits .or .i64 (k : Int) ((2 ^ x : Nat) : Int) = ((k ||| 2 ^ x : Nat) : Int)) ∧ (bits .and .i64 ((k : Int) / ((2 ^ x : Nat) : Int)) 1 = if k.testBit x then 1 else 0) ∧ k ||| 2 ^ x < 256 := by
  have h := bits_tab
  rw [List.all_eq_true] at h
  have h := h k (by simpa using hk)
  rw [List.all_eq_true] at h
  have h := h x (by simp; omega)
  simp only [Bool.and_eq_true, Bool.or_eq_true, beq_iff_eq, decide_eq_true_eq] at h
  obtain ⟨⟨⟨⟨h1, h2⟩, h3⟩, h4⟩, h5⟩ := h
  refine ⟨h1, fun ht => ?_, h3, h4, h5⟩
  rcases h2 with h2 | h2
  · rw [ht] at h2; simp at h2
  · exact h2
end Go.Proofs.Ytiecphhenpapoaa
