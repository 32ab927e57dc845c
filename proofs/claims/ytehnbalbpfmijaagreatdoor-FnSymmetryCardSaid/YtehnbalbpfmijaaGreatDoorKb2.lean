/- What the claim's walk rests on: parts Prof, ProfI, First, EachB, Box, IntSS, Aft. -/
import Derived.Test.YtehnbalbpfmijaaGreatDoorKb1
import Derived.Test.YtehnbalbpfmijaaGreatDoorBasic
import Derived.Deep.RegionHeld3
import Derived.StillTailTactics
import Derived.Laws.EntriesVeiled
import Derived.Below
import Derived.Laws.AppendOwn
namespace Go.Proofs.YtehnbalbpfmijaaGreatDoor
open Go.RowKit
set_option linter.unusedVariables false

/-! ### Rows -/
def rwC (zs : List Int) : Array Value := (zs.map (Value.int .i64)).toArray
theorem rwC_get (zs : List Int) (k : Nat) (h : k < zs.length) : (rwC zs)[k]? = some (.int .i64 (el zs k)) := by simp [rwC, el_get _ _ h, h]
theorem rwC_set (zs : List Int) (k : Nat) (z : Int) : (rwC zs).setIfInBounds k (.int .i64 z) = rwC (zs.set k z) := by
  apply Array.ext'
  simp [rwC, List.map_set]
theorem rep_set (n k : Nat) : (List.replicate n (0 : Int)).set k 0 = List.replicate n 0 := by
  apply List.ext_getElem
  · simp
  · intro i h1 h2; simp
theorem rep_el (n k : Nat) : el (List.replicate n (0 : Int)) k = 0 := by
  unfold el
  rw [List.getD_eq_getElem?_getD, List.getElem?_replicate]
  split <;> rfl
def zeros : List Int := List.replicate 256 0
theorem zeros_len : zeros.length = 256 := List.length_replicate
theorem zeros_set (k : Nat) : zeros.set k 0 = zeros := rep_set 256 k
theorem zeros_el (k : Nat) : el zeros k = 0 := rep_el 256 k
theorem made256 : madeCells #[.int .i64 0] 256 = rwC zeros := by kernel_rfl
/-- A row of 256 integers. -/
def Row256 (w : World) (g : Nat) (zs : List Int) : Prop := w.heap[g]? = some (.cells (rwC zs) 3 (0, 0)) ∧ zs.length = 256
theorem Row256.cell {w : World} {g : Nat} {zs : List Int} (h : Row256 w g zs) {k : Nat} (hk : k < 256) : w.cell? ⟨g, k, none⟩ = some (.int .i64 (el zs k)) := by rw [blk_cell h.1]; exact rwC_get _ _ (by rw [h.2]; exact hk)
theorem Row256.free {w : World} {g : Nat} {zs : List Int} (h : Row256 w g zs) (k : Nat) : w.frozen? ⟨g, k, none⟩ = false := blk_free h.1
theorem Row256.set {w : World} {g : Nat} {zs : List Int} (h : Row256 w g zs) (k : Nat) (z : Int) : Row256 (w.setCell ⟨g, k, none⟩ (.int .i64 z)) g (zs.set k z) := by
  refine ⟨?_, by simpa using h.2⟩
  rw [blk_setCell h.1, rwC_set]
theorem Row256.keep {w w' : World} {g : Nat} {zs : List Int} (h : Row256 w g zs) (hk : w'.heap[g]? = w.heap[g]?) : Row256 w' g zs := ⟨hk.trans h.1, h.2⟩
theorem Row256.made (w : World) : Row256 (w.alloc (.cells (madeCells #[.int .i64 0] 256) 3)) w.heap.size zeros := ⟨by rw [made256]; exact heap_alloc_new w _, zeros_len⟩

/-! ### The count -/
def putZ (nx : List Int) (j : Nat) (n : Int) : List Int := nx.set j (wrap64 (el nx j + n))
def inZ (h b r : Bool) (x : Nat) (n : Int) (k : Nat) (nx : List Int) : List Int :=
  if n = 0 then nx
  else if h then
    (if k.testBit x then putZ nx (k - 2 ^ x) n
     else if r && !k.testBit (x + 1) then putZ (if b then putZ nx (k ||| 2 ^ x) n else nx) (k ||| 2 ^ (x + 1)) n else if b then putZ nx (k ||| 2 ^ x) n else nx)
  else if k.testBit x then nx else putZ nx k n
def stepTo (h b r : Bool) (x : Nat) (zs : List Int) : Nat → List Int
  | 0 => zeros
  | k + 1 => inZ h b r x (el zs k) k (stepTo h b r x zs k)
/-- A set has a cell that may lie outside. -/
def hasC (T x y : Nat) : Bool := decide (x ≤ 7) && decide (y ≤ 7) && hasB T x y
def profTo (T : Nat) : Nat → List Int
  | 0 => zeros.set 0 1
  | i + 1 => stepTo (hasC T (i % 8) (i / 8)) (hasC T (i % 8) (i / 8 + 1)) (hasC T (i % 8 + 1) (i / 8)) (i % 8) (profTo T i) 256
def profZ (T : Nat) : Int := el (profTo T 64) 0

theorem putZ_len (nx : List Int) (j : Nat) (n : Int) : (putZ nx j n).length = nx.length := by simp [putZ]
theorem inZ_len (h b r : Bool) (x : Nat) (n : Int) (k : Nat) (nx : List Int) : (inZ h b r x n k nx).length = nx.length := by
  unfold inZ
  split
  · rfl
  · split
    · split
      · exact putZ_len _ _ _
      · split
        · rw [putZ_len]; split <;> simp [putZ_len]
        · split <;> simp [putZ_len]
    · split <;> simp [putZ_len]
theorem stepTo_len (h b r : Bool) (x : Nat) (zs : List Int) : ∀ k, (stepTo h b r x zs k).length = 256
  | 0 => zeros_len
  | k + 1 => by rw [stepTo, inZ_len]; exact stepTo_len h b r x zs k
theorem profTo_len (T : Nat) : ∀ i, (profTo T i).length = 256
  | 0 => by rw [profTo, List.length_set]; exact zeros_len
  | i + 1 => stepTo_len _ _ _ _ _ _
/-- All numbers are in range. -/
def WOk (zs : List Int) : Prop := ∀ j, wrap64 (el zs j) = el zs j
theorem wrap_wrap (a : Int) : wrap64 (wrap64 a) = wrap64 a := by unfold wrap64; omega
theorem el_set' (zs : List Int) (k : Nat) (z : Int) (j : Nat) : el (zs.set k z) j = if j = k ∧ k < zs.length then z else el zs j := by
  unfold el
  simp only [List.getD_eq_getElem?_getD, List.getElem?_set]
  by_cases e : k = j
  · subst e
    by_cases h : k < zs.length
    · simp [h]
    · simp [h]
  · simp [e, show ¬ j = k from fun h => e h.symm]
theorem WOk.put {nx : List Int} (h : WOk nx) (j : Nat) (n : Int) : WOk (putZ nx j n) := fun i => by
  unfold putZ
  rw [el_set']
  split
  · exact wrap_wrap _
  · exact h i
theorem WOk.zeros : WOk zeros := fun j => by rw [zeros_el]; simp [wrap64]
theorem WOk.in_ {h b r : Bool} {x k : Nat} {n : Int} {nx : List Int} (hn : WOk nx) : WOk (inZ h b r x n k nx) := by
  unfold inZ
  split
  · exact hn
  · split
    · split
      · exact hn.put _ _
      · split
        · refine WOk.put ?_ _ _; split
          · exact hn.put _ _
          · exact hn
        · split
          · exact hn.put _ _
          · exact hn
    · split
      · exact hn
      · exact hn.put _ _
theorem WOk.step (h b r : Bool) (x : Nat) (zs : List Int) : ∀ k, WOk (stepTo h b r x zs k)
  | 0 => WOk.zeros
  | k + 1 => (WOk.step h b r x zs k).in_
theorem WOk.prof (T : Nat) : ∀ i, WOk (profTo T i)
  | 0 => fun j => by
    rw [profTo, el_set']
    split
    · simp [wrap64]
    · rw [zeros_el]; simp [wrap64]
  | i + 1 => WOk.step _ _ _ _ _ _
/-- The program's put: where nothing stands, the number alone. -/
theorem putZ_zero {nx : List Int} {j : Nat} {n : Int} (h : el nx j = 0) (hn : wrap64 n = n) : nx.set j n = putZ nx j n := by
  unfold putZ; rw [h, Int.zero_add, hn]

/-! ### Bits -/
theorem bits_tab : ((List.range 256).all fun k => (List.range 8).all fun x =>
    ((bits .and .i64 (k : Int) ((2 ^ x : Nat) : Int) == 0) == !k.testBit x) && (!k.testBit x || bits .andNot .i64 (k : Int) ((2 ^ x : Nat) : Int) == ((k - 2 ^ x : Nat) : Int)) && (bits .or .i64 (k : Int) ((2 ^ x : Nat) : Int) == ((k ||| 2 ^ x : Nat) : Int)) &&
    (bits .and .i64 ((k : Int) / ((2 ^ x : Nat) : Int)) 1 == if k.testBit x then 1 else 0) && decide (k ||| 2 ^ x < 256)) = true := by decide +kernel
theorem bits_at (k x : Nat) (hk : k < 256) (hx : x ≤ 7) : ((bits .and .i64 (k : Int) ((2 ^ x : Nat) : Int) == 0) = !k.testBit x) ∧ (k.testBit x = true → bits .andNot .i64 (k : Int) ((2 ^ x : Nat) : Int) = ((k - 2 ^ x : Nat) : Int)) ∧
    (bits .or .i64 (k : Int) ((2 ^ x : Nat) : Int) = ((k ||| 2 ^ x : Nat) : Int)) ∧ (bits .and .i64 ((k : Int) / ((2 ^ x : Nat) : Int)) 1 = if k.testBit x then 1 else 0) ∧ k ||| 2 ^ x < 256 := by
  have h := bits_tab
  rw [List.all_eq_true] at h
  have h := h k (by simpa using hk)
  rw [List.all_eq_true] at h
  have h := h x (by simp; omega)
  simp only [Bool.and_eq_true, Bool.or_eq_true, beq_iff_eq, decide_eq_true_eq] at h
  obtain ⟨⟨⟨⟨h1, h2⟩, h3⟩, h4⟩, h5⟩ := h
  refine ⟨h1, fun ht => ?_, h3, h4, h5⟩
  rcases h2 with h2 | h2
  · rw [ht] at h2; simp at h2
  · exact h2
end Go.Proofs.YtehnbalbpfmijaaGreatDoor

namespace Go.Proofs.YtehnbalbpfmijaaGreatDoor
open Go.RowKit
set_option linter.unusedVariables false

/-! ### The closures -/
theorem count1_any (a b : Int) (w : World) : Calls Tryz.prog 85 #[.int .i64 a, .int .i64 b] w fun e w' => e = .returned (.int .i64 (wrap64 (a + b))) ∧ w = w' := by
  go_enter Tryz.func85, Tryz.ntmps85
  go_wp2_with fail
  go_ret
  exact ⟨rfl, rfl⟩
theorem count2_any (n x y : Int) (d : Bool) (w : World) : Calls Tryz.prog 86 #[.int .i64 n, .agg #[.int .i64 x, .int .i64 y, .bool d]] w fun e w' => e = .returned (.int .i64 (if x < 0 then 1 else n)) ∧ Below w.heap.size w w' := by
  by_cases h : x < 0
  · rw [if_pos h]
    go_enter Tryz.func86, Tryz.ntmps86
    go_wp2_with fail
    go_ret
    exact ⟨rfl, (Below.refl _ _).alloc (Nat.le_refl _) _⟩
  · rw [if_neg h]
    go_enter Tryz.func86, Tryz.ntmps86
    go_wp2_with fail
    go_ret
    exact ⟨rfl, (Below.refl _ _).alloc (Nat.le_refl _) _⟩

abbrev fn1 : Value := .func (.func 85) #[] #[]
abbrev fn2 : Value := .func (.func 86) #[] #[]
/-! ### put -/
/-- What put finds: the variable of the next row, the row, none, and add. -/
structure PutS (w : World) (pn p0 g : Nat) (nx : List Int) : Prop where
  en : w.heap[pn]? = some (.cells #[.slice (some ⟨g, 0, none⟩) 256 256] 33 (0, 0))
  e0 : w.heap[p0]? = some (.cells #[.int .i64 0] 3 (0, 0))
  ea : w.heap[p0 + 1]? = some (.cells #[fn1] 37 (0, 0))
  row : Row256 w g nx
def PutPost (w : World) (g : Nat) (nx : List Int) (e : Ending) (w' : World) : Prop := e = .returned (.tuple #[]) ∧ Row256 w' g nx ∧ w.grownBy w' (some g)
set_option maxRecDepth 100000 in
set_option maxHeartbeats 2000000 in
theorem put_any (k : Nat) (hk : k < 256) (n : Int) (hn : wrap64 n = n) (pn p0 g : Nat) (nx : List Int) (w : World) (h : PutS w pn p0 g nx) :
    Calls Tryz.prog 92 #[.int .i64 (k : Int), .int .i64 n, .pointer (some ⟨pn, 0, none⟩), .pointer (some ⟨p0, 0, none⟩), .pointer (some ⟨p0 + 1, 0, none⟩)] w (PutPost w g (putZ nx k n)) := by
  have c1 : w.cell? ⟨pn, 0, none⟩ = some (.slice (some ⟨g, 0, none⟩) 256 256) := cell_of_one h.en
  have c2 : w.cell? ⟨p0, 0, none⟩ = some (.int .i64 0) := cell_of_one h.e0
  have c3 : w.cell? ⟨p0 + 1, 0, none⟩ = some fn1 := cell_of_one h.ea
  have c4 := h.row.cell hk
  have c5 := h.row.free k
  have HR := Lib.hid h.row
  have hk0 : (0 : Int) ≤ (k : Int) := by omega
  have hk1 : (k : Int) < 256 := by omega
  have HN := Lib.hid hn
  clear h hn
  by_cases hz : el nx k = 0
  · have HZ := Lib.hid (putZ_zero (n := n) hz HN.out)
    rw [hz] at c4
    clear hz
    go_enter Tryz.func92, Tryz.ntmps92
    go_wp2_with fail
    go_quiet (fail)
    go_wp2_with fail
    go_end0
    rw [← HZ.out]
    exact ⟨rfl, (show Row256 ((w.drewN _).setCell ⟨g, k, none⟩ (.int .i64 n)) g (nx.set k n) from (HR.out.keep rfl).set k n), (grownBy_drewN w _ (some g)).trans (grownBy_set _ g k _)⟩
  · have t1 : (el nx k == 0) = false := by rw [beq_eq_false_iff_ne]; exact hz
    have HZ : Hid (putZ nx k n = nx.set k (wrap64 (el nx k + n))) := rfl
    generalize el nx k = q at *
    clear hz
    go_enter Tryz.func92, Tryz.ntmps92
    go_wp2_with fail
    go_quiet (fail)
    have d1 : (w.drewN nq).cell? ⟨pn, 0, none⟩ = some (.slice (some ⟨g, 0, none⟩) 256 256) := c1
    have d3 : (w.drewN nq).cell? ⟨p0 + 1, 0, none⟩ = some fn1 := c3
    have d4 : (w.drewN nq).cell? ⟨g, k, none⟩ = some (.int .i64 q) := c4
    have HDR : Hid (Row256 (w.drewN nq) g nx) := HR.out.keep rfl
    have HG1 := Lib.hid (grownBy_drewN w nq (some g))
    clear c1 c2 c3 c4 c5
    generalize w.drewN nq = W0 at *
    go_wp2_with fail
    refine wp_region_still_tail 10 (by kernel_rfl) (by kernel_rfl) ?_
    simp only [List.take_succ_cons, List.take_zero, List.drop_succ_cons, List.drop_zero]
    repeat still_step
    still_call ((count1_any q n _).mono fun _ _ ⟨he, hw⟩ => ⟨he, hw.symm⟩)
    repeat still_step
    refine wpStill_nil ?_
    change wpList _ _ _ _ _ W0.drew
    have HDR2 : Hid (Row256 W0.drew g nx) := HDR.out.keep rfl
    have HG2 : Hid (w.grownBy W0.drew (some g)) := HG1.out.trans (grownBy_drewN W0 1 _)
    have c6 : W0.drew.frozen? ⟨g, k, none⟩ = false := HDR2.out.free k
    have c7 := HDR2.out.cell hk
    clear d1 d3 d4
    generalize W0.drew = W at *
    go_wp2_with fail
    go_end0
    rw [HZ.out]
    exact ⟨rfl, HDR2.out.set k _, HG2.out.trans (grownBy_set _ g k _)⟩

/-! ### has, at any place near -/
set_option maxHeartbeats 400000 in
theorem has_any (T x y : Nat) (hT : T < 18446744073709551616) (hx : x ≤ 8) (hy : y ≤ 8) (w : World) :
    Calls Tryz.prog 93 #[.int .u64 (T : Int), spotV x y] w fun e w' => e = .returned (.bool (hasC T x y)) ∧ Below w.heap.size w w' := by
  by_cases h : x ≤ 7 ∧ y ≤ 7
  · have e : hasC T x y = hasB T x y := by simp [hasC, h.1, h.2]
    rw [e]
    exact has_yes T x y hT h.1 h.2 w
  · have hok : spotB 7 x y = false := by
      cases hs : spotB 7 x y
      · rfl
      · have := (spotB_iff _ _ _).1 hs; omega
    have e : hasC T x y = false := by
      unfold hasC
      by_cases h7 : x ≤ 7
      · have : ¬ y ≤ 7 := fun h9 => h ⟨h7, h9⟩
        simp [this]
      · simp [h7]
    rw [e]
    clear h e
    go_enter Tryz.func93, Tryz.ntmps93
    go_wp2_with fail
    refine (CellOk_any _ _ _).mono ?_
    rintro e w1 ⟨rfl, hb1⟩
    rw [hok]
    go_wp2_with fail
    go_ret
    exact ⟨rfl, ((Below.refl _ _).alloc (Nat.le_refl _) _).trans (hb1.mono (by simp))⟩

theorem cellAt_any (k : Nat) (hk : k ≤ 63) (w : World) :
    Calls Tryz.prog 87 #[.int .i64 (k : Int)] w fun e w' => e = .returned (spotV ((k % 8 : Nat) : Int) ((k / 8 : Nat) : Int)) ∧ Below w.heap.size w w' := by
  have e1 : (k : Int) % 8 = ((k % 8 : Nat) : Int) := by omega
  have e2 : (k : Int) / 8 = ((k / 8 : Nat) : Int) := by omega
  have HE1 := Lib.hid e1
  have HE2 := Lib.hid e2
  clear e1 e2
  go_enter Tryz.func87, Tryz.ntmps87
  go_wp2_with fail
  rw [HE1.out, HE2.out]
  exact bodyPost_ret (v := spotV ((k % 8 : Nat) : Int) ((k / 8 : Nat) : Int)) (by simp [results, Tryz.results87, go_sem]) rfl ⟨rfl, (Below.refl _ _).alloc (Nat.le_refl _) _⟩

/-! ### The state of the walk -/
structure PF (w wr : World) (p5 gn p12 gx pn x y : Nat) (zs nx : List Int) : Prop where
  e5 : wr.heap[p5]? = some (.cells #[.int .i64 0] 3 (0, 0))
  e6 : wr.heap[p5 + 1]? = some (.cells #[fn1] 37 (0, 0))
  rn : Row256 wr gn zs
  ec : wr.heap[p12]? = some (.cells #[.int .i64 (x : Int), .int .i64 (y : Int)] 44 (0, 0))
  en : wr.heap[pn]? = some (.cells #[.slice (some ⟨gx, 0, none⟩) 256 256] 33 (0, 0))
  rx : Row256 wr gx nx
  big : Below w.heap.size w wr
  l5 : w.heap.size ≤ p5
  n5 : gx ≠ p5 ∧ gx ≠ p5 + 1
  nn : gx ≠ gn
  nc : gx ≠ p12
  np : gx ≠ pn
  lx : w.heap.size ≤ gx
section
variable {w wr w1 : World} {p5 gn p12 gx pn x y : Nat} {zs nx nx' : List Int}
theorem PF.below (h : PF w wr p5 gn p12 gx pn x y zs nx) (hb : Below wr.heap.size wr w1) : PF w w1 p5 gn p12 gx pn x y zs nx :=
  ⟨blk_below h.e5 hb, blk_below h.e6 hb, h.rn.keep (hb.block _ (lt_of_block h.rn.1)), blk_below h.ec hb, blk_below h.en hb, h.rx.keep (hb.block _ (lt_of_block h.rx.1)), h.big.trans (hb.mono h.big.size), h.l5, h.n5, h.nn, h.nc, h.np, h.lx⟩
theorem PF.put (h : PF w wr p5 gn p12 gx pn x y zs nx) (hr : Row256 w1 gx nx') (hg : wr.grownBy w1 (some gx)) : PF w w1 p5 gn p12 gx pn x y zs nx' := by
  have hk : ∀ k, k < wr.heap.size → gx ≠ k → w1.heap[k]? = wr.heap[k]? := fun k h1 h2 => hg.block k h1 (fun e => h2 (Option.some.inj e).symm)
  exact ⟨(hk _ (lt_of_block h.e5) h.n5.1).trans h.e5, (hk _ (lt_of_block h.e6) h.n5.2).trans h.e6, h.rn.keep (hk _ (lt_of_block h.rn.1) h.nn), (hk _ (lt_of_block h.ec) h.nc).trans h.ec, (hk _ (lt_of_block h.en) h.np).trans h.en, hr,
    h.big.grown hg h.big.size (fun k hk => by obtain rfl := Option.some.inj hk; exact h.lx), h.l5, h.n5, h.nn, h.nc, h.np, h.lx⟩
theorem PF.puts (h : PF w wr p5 gn p12 gx pn x y zs nx) : PutS wr pn p5 gx nx := ⟨h.en, h.e5, h.e6, h.rx⟩
theorem PF.cells (h : PF w wr p5 gn p12 gx pn x y zs nx) : wr.cell? ⟨p5, 0, none⟩ = some (.int .i64 0) ∧ wr.cell? ⟨p12, 0, none⟩ = some (.int .i64 (x : Int)) ∧ wr.cell? ⟨p12, 1, none⟩ = some (.int .i64 (y : Int)) ∧ wr.cell? ⟨pn, 0, none⟩ = some (.slice (some ⟨gx, 0, none⟩) 256 256) :=
  ⟨cell_of_one h.e5, by rw [blk_cell h.ec]; rfl, by rw [blk_cell h.ec]; rfl, cell_of_one h.en⟩
end
end Go.Proofs.YtehnbalbpfmijaaGreatDoor

namespace Go.Proofs.YtehnbalbpfmijaaGreatDoor
open Go.RowKit
set_option linter.unusedVariables false

theorem shl_p (x : Nat) (hx : x ≤ 7) : wrap64 ((2 : Int) ^ x) = ((2 ^ x : Nat) : Int) := by
  have h : (2 ^ x : Nat) ≤ 2 ^ 7 := Nat.pow_le_pow_right (by omega) hx
  have e : ((2 : Int) ^ x) = ((2 ^ x : Nat) : Int) := by simp
  rw [e]
  generalize (2 ^ x : Nat) = p at *
  simp at h
  unfold wrap64
  omega

structure PB (w wr : World) (p5 gn : Nat) (zs : List Int) : Prop where
  e5 : wr.heap[p5]? = some (.cells #[.int .i64 0] 3 (0, 0))
  e6 : wr.heap[p5 + 1]? = some (.cells #[fn1] 37 (0, 0))
  rn : Row256 wr gn zs
  big : Below w.heap.size w wr
  l5 : w.heap.size ≤ p5
  ln : p5 + 1 < gn
section
variable {w wr w1 : World} {p5 gn : Nat} {zs : List Int}
theorem PB.below (h : PB w wr p5 gn zs) (hb : Below wr.heap.size wr w1) : PB w w1 p5 gn zs :=
  ⟨blk_below h.e5 hb, blk_below h.e6 hb, h.rn.keep (hb.block _ (lt_of_block h.rn.1)), h.big.trans (hb.mono h.big.size), h.l5, h.ln⟩
theorem PB.set (h : PB w wr p5 gn zs) (k : Nat) (z : Int) : PB w (wr.setCell ⟨gn, k, none⟩ (.int .i64 z)) p5 gn (zs.set k z) := by
  have hl := h.ln
  have hl5 := h.l5
  have hk : ∀ j, j ≠ gn → (wr.setCell ⟨gn, k, none⟩ (.int .i64 z)).heap[j]? = wr.heap[j]? := fun j hj => Below.heap_setCell _ _ _ _ hj
  exact ⟨(hk _ (by omega)).trans h.e5, (hk _ (by omega)).trans h.e6, h.rn.set k z, h.big.setCell (by show w.heap.size ≤ gn; omega) _, h.l5, h.ln⟩
theorem PB.drew (h : PB w wr p5 gn zs) : PB w wr.drew p5 gn zs := h.below (Below.refl _ _).drew
end

set_option maxRecDepth 100000 in
set_option maxHeartbeats 8000000 in
theorem profile_any (T : Nat) (hT : T < 18446744073709551616) (w : World) :
    Calls Tryz.prog 84 #[.int .u64 (T : Int), .int .i64 0, fn1, fn2] w fun e w' => e = .returned (.int .i64 (profZ T)) ∧ Below w.heap.size w w' := by
  obtain ⟨pf, HPF⟩ : ∃ pf : Nat → List Int, Hid (pf = profTo T) := ⟨_, rfl⟩
  obtain ⟨z0, HZ0⟩ : ∃ z : List Int, Hid (z = zeros) := ⟨_, rfl⟩
  have HPS : Hid (∀ i, pf (i + 1) = stepTo (hasC T (i % 8) (i / 8)) (hasC T (i % 8) (i / 8 + 1)) (hasC T (i % 8 + 1) (i / 8)) (i % 8) (pf i) 256) := by rw [HPF.out]; exact fun i => rfl
  have HPW : Hid (∀ i, WOk (pf i)) := by rw [HPF.out]; exact WOk.prof T
  have HP00 : Hid (pf 0 = z0.set 0 1) := by rw [HPF.out, HZ0.out]; rfl
  have HFZ : Hid (∀ r, pf 64 = r → profZ T = el r 0) := by rw [HPF.out]; exact fun r h => by rw [← h]; rfl
  have HST0 : Hid (∀ (h b r : Bool) (x : Nat) (zs : List Int), stepTo h b r x zs 0 = z0) := by rw [HZ0.out]; exact fun _ _ _ _ _ => rfl
  have HZL : Hid (z0.length = 256) := by rw [HZ0.out]; exact zeros_len
  have HZS0 : Hid (∀ k, z0.set k 0 = z0) := by rw [HZ0.out]; exact zeros_set
  obtain ⟨res, HRES⟩ : ∃ r, Hid (profZ T = r) := ⟨_, rfl⟩
  rw [HRES.out] at HFZ ⊢
  have hmk : ∀ w : World, (Instr.makeSlice 33 (.int .i64 256) (.int .i64 256)).run Tryz.prog w = .ok (.slice (some ⟨w.heap.size, 0, none⟩) 256 256) (w.alloc (.cells (madeCells #[.int .i64 0] 256) 3)) := fun _ => by kernel_rfl
  have hmf : ∀ (fn : Fn) (first cap : Array Value) (w : World), (Instr.makeFunc fn first cap).run Tryz.prog w = .ok (.func fn first cap) w := fun _ _ _ _ => rfl
  rw [made256, ← HZ0.out] at hmk
  clear HPF HZ0 HRES
  go_enter Tryz.func84, Tryz.ntmps84
  go_wp2_with fail
  obtain ⟨W, hW, k0, k1, k2, hb0⟩ := three_alloc w (.cells #[.int .i64 0] 3) (.cells #[fn1] 37) (.cells (rwC z0) 3)
  rw [← hW]
  have HP0 : Hid (PB w W w.heap.size (w.heap.size + 2) z0) := ⟨k0, k1, ⟨k2, HZL.out⟩, hb0, Nat.le_refl _, by omega⟩
  clear hW k0 k1 k2 hb0
  go_loopw [22] (fun s wr => ∃ k : Nat, k ≤ 256 ∧ s = .int .i64 k ∧ Hid (PB w wr w.heap.size (w.heap.size + 2) z0)) (fun s _ => 256 - (intOf s).toNat)
  case atStart => exact ⟨0, Nat.zero_le _, rfl, HP0⟩
  case round =>
    obtain ⟨k, hk, rfl, HP⟩ := hrel
    have c5 : wr.cell? ⟨w.heap.size, 0, none⟩ = some (.int .i64 0) := cell_of_one HP.out.e5
    by_cases hlt : k < 256
    · have ht : decide ((k : Int) < 256) = true := by simp only [decide_eq_true_eq]; omega
      have hk0 : (0 : Int) ≤ (k : Int) := by omega
      have hk1 : (k : Int) < 256 := by omega
      have cr : wr.cell? ⟨w.heap.size + 1 + 1, k, none⟩ = _ := HP.out.rn.cell hlt
      have fr : wr.frozen? ⟨w.heap.size + 1 + 1, k, none⟩ = false := HP.out.rn.free k
      have HP2 := Lib.hid (HP.out.set k 0)
      rw [HZS0.out] at HP2
      go_wp2_with fail
      go_roundw
      case rel => exact ⟨k + 1, by omega, by go_num, HP2⟩
      case measure => simp [intOf]; omega
    · have ht : decide ((k : Int) < 256) = false := by simp only [decide_eq_false_iff_not]; omega
      have HP1 : Hid (PB w wr w.heap.size (w.heap.size + 2) z0) := HP
      clear hk hlt
      go_wp2_with fail
      refine (count2_any _ _ _ _ _).mono ?_
      rintro e w2 ⟨rfl, hb2⟩
      have HP2 := Lib.hid (HP1.out.below hb2)
      have fr2 : w2.frozen? ⟨w.heap.size + 1 + 1, 0, none⟩ = false := HP2.out.rn.free 0
      have cr2 : w2.cell? ⟨w.heap.size + 1 + 1, 0, none⟩ = _ := HP2.out.rn.cell (k := 0) (by omega)
      have HP3 : Hid (PB w (w2.setCell ⟨w.heap.size + 2, 0, none⟩ (.int .i64 1)) w.heap.size (w.heap.size + 2) (pf 0)) := by rw [HP00.out]; exact HP2.out.set 0 1
      clear c5 hb2 HP HP1
      go_wp2_with fail
      go_loopw [9, 36] (fun v s wr => ∃ (i gn : Nat), i ≤ 64 ∧ s = .int .i64 i ∧ v = .slice (some ⟨gn, 0, none⟩) 256 256 ∧ Hid (PB w wr w.heap.size gn (pf i))) (fun _ s _ => 64 - (intOf s).toNat)
      case atStart => exact ⟨0, _, Nat.zero_le _, rfl, rfl, HP3⟩
      case round =>
        obtain ⟨i, gn, hi, rfl, rfl, HQ⟩ := hrel
        by_cases hli : i < 64
        · have hti : decide ((i : Int) < 64) = true := by simp only [decide_eq_true_eq]; omega
          have HS := Lib.hid (HPS.out i)
          have HWO := Lib.hid (HPW.out i)
          have hx7 : i % 8 ≤ 7 := by omega
          have hy7 : i / 8 ≤ 7 := by omega
          go_wp2_with fail
          refine (cellAt_any i (by omega) _).mono ?_
          rintro e w1 ⟨rfl, hb1⟩
          have HQ1 := Lib.hid (HQ.out.below hb1)
          obtain ⟨zs, HZS⟩ : ∃ zs, Hid (pf i = zs) := ⟨_, rfl⟩
          obtain ⟨zs2, HZS2⟩ : ∃ zs, Hid (pf (i + 1) = zs) := ⟨_, rfl⟩
          rw [HZS.out] at HQ1 HS HWO
          rw [HZS2.out] at HS
          generalize i % 8 = x at *
          generalize i / 8 = y at *
          clear hb1 HQ
          go_wp2_with fail
          obtain ⟨W2, hW2, q0, q1, q2, hb2⟩ := three_alloc w1 (.cells #[.int .i64 (x : Int), .int .i64 (y : Int)] 44) (.cells (rwC z0) 3) (.cells #[.slice (some ⟨w1.heap.size + 1, 0, none⟩) 256 256] 33)
          rw [← hW2]
          have HF0 : Hid (PF w W2 w.heap.size gn w1.heap.size (w1.heap.size + 1) (w1.heap.size + 2) x y zs z0) := by
            have h := HQ1.out.below hb2
            have l1 := lt_of_block HQ1.out.e6
            have l2 := lt_of_block HQ1.out.rn.1
            have l3 := HQ1.out.big.size
            exact ⟨h.e5, h.e6, h.rn, q0, q2, ⟨q1, HZL.out⟩, h.big, Nat.le_refl _, by omega, by omega, by omega, by omega, by omega⟩
          clear hW2 q0 q1 q2 hb2 HQ1
          generalize w1.heap.size = n1 at *
          go_loopw [44] (fun s wr => ∃ k : Nat, k ≤ 256 ∧ s = .int .i64 k ∧ Hid (PF w wr w.heap.size gn n1 (n1 + 1) (n1 + 2) x y zs z0)) (fun s _ => 256 - (intOf s).toNat)
          case atStart => exact ⟨0, Nat.zero_le _, rfl, HF0⟩
          case round =>
            obtain ⟨k, hk, rfl, HF⟩ := hrel
            obtain ⟨f1, f2, f3, f4⟩ := HF.out.cells
            by_cases hlt : k < 256
            · have ht : decide ((k : Int) < 256) = true := by simp only [decide_eq_true_eq]; omega
              have hk0 : (0 : Int) ≤ (k : Int) := by omega
              have hk1 : (k : Int) < 256 := by omega
              have cr := HF.out.rx.cell hlt
              have fr := HF.out.rx.free k
              have HF2 := Lib.hid (HF.out.put (HF.out.rx.set k 0) (grownBy_set _ _ _ _))
              rw [HZS0.out] at HF2
              go_wp2_with fail
              go_roundw
              case rel => exact ⟨k + 1, by omega, by go_num, HF2⟩
              case measure => simp [intOf]; omega
            · have ht : decide ((k : Int) < 256) = false := by simp only [decide_eq_false_iff_not]; omega
              clear hk hlt
              obtain ⟨wb, HWB⟩ : ∃ wb, Hid (wb = wr) := ⟨_, rfl⟩
              obtain ⟨h, HH⟩ : ∃ h, Hid (hasC T x y = h) := ⟨_, rfl⟩
              obtain ⟨b, HB⟩ : ∃ h, Hid (hasC T x (y + 1) = h) := ⟨_, rfl⟩
              obtain ⟨r, HR⟩ : ∃ h, Hid (hasC T (x + 1) y = h) := ⟨_, rfl⟩
              have HR7 : Hid (r = true → x < 7) := fun e => by have h9 := HR.out; rw [e] at h9; unfold hasC at h9; simp only [Bool.and_eq_true, decide_eq_true_eq] at h9; omega
              rw [HH.out, HB.out, HR.out] at HS
              obtain ⟨st, HST⟩ : ∃ st : Nat → List Int, Hid (st = stepTo h b r x zs) := ⟨_, rfl⟩
              have HSIN : Hid (∀ k, st (k + 1) = inZ h b r x (el zs k) k (st k)) := by rw [HST.out]; exact fun k => rfl
              have HF3 : Hid (PF w wb w.heap.size gn n1 (n1 + 1) (n1 + 2) x y zs (st 0)) := by rw [HWB.out, HST.out, HST0.out]; exact HF.out
              rw [← HST.out] at HS
              clear HST
              have HP := Lib.hid (shl_p x hx7)
              obtain ⟨p, HPP⟩ : ∃ p : Nat, Hid ((2 : Nat) ^ x = p) := ⟨_, rfl⟩
              rw [HPP.out] at HP
              have HBT := Lib.hid (fun (k : Nat) (hk : k < 256) => bits_at k x hk hx7)
              rw [HPP.out] at HBT
              go_wp2_with fail
              rw [← HWB.out, HP.out]
              clear HF f1 f2 f3 f4 HP
              go_loopw [58] (fun s wr => ∃ k : Nat, k ≤ 256 ∧ s = .int .i64 k ∧ Hid (PF w wr w.heap.size gn n1 (n1 + 1) (n1 + 2) x y zs (st k))) (fun s _ => 256 - (intOf s).toNat)
              case atStart => exact ⟨0, Nat.zero_le _, rfl, HF3⟩
              case round =>
                obtain ⟨k, hk, rfl, HF4⟩ := hrel
                obtain ⟨f1, f2, f3, f4⟩ := HF4.out.cells
                by_cases hlt : k < 256
                · have ht : decide ((k : Int) < 256) = true := by simp only [decide_eq_true_eq]; omega
                  have hk0 : (0 : Int) ≤ (k : Int) := by omega
                  have hk1 : (k : Int) < 256 := by omega
                  have cr := HF4.out.rn.cell hlt
                  have HN := Lib.hid (HWO.out k)
                  have HIN := Lib.hid (HSIN.out k)
                  obtain ⟨b1, b2, b3, b4, b5⟩ := HBT.out k hlt
                  have HB2 := Lib.hid b2; have HB3 := Lib.hid b3; have HB5 := Lib.hid b5
                  clear b2 b3 b4 b5
                  generalize st k = nx at *
                  generalize el zs k = n at *
                  by_cases hn0 : n = 0
                  · have t0 : (n == 0) = true := by simp [hn0]
                    have HF5 : Hid (PF w wr w.heap.size gn n1 (n1 + 1) (n1 + 2) x y zs (st (k + 1))) := by rw [HIN.out, inZ, if_pos hn0]; exact HF4.out
                    clear hn0 b1
                    go_wp2_with fail
                    go_roundw
                    case rel => exact ⟨k + 1, by omega, by go_num, HF5⟩
                    case measure => simp [intOf]; omega
                  · have t0 : (n == 0) = false := by rw [beq_eq_false_iff_ne]; exact hn0
                    cases h
                    · cases hb : k.testBit x
                      · rw [hb] at b1
                        have b1' : (bits .and .i64 (k : Int) (p : Int) == 0) = true := b1
                        have HX : Hid (st (k + 1) = putZ nx k n) := by unfold Hid; rw [HIN.out, inZ, if_neg hn0]; simp [hb]
                        clear b1 hn0
                        go_wp2_with fail
                        refine (has_any T x y hT (by omega) (by omega) _).mono ?_
                        rintro e w5 ⟨rfl, hb5⟩
                        rw [HH.out]
                        have HF5 := Lib.hid (HF4.out.below hb5)
                        clear f1 f2 f3 f4 hb5
                        obtain ⟨f1, f2, f3, f4⟩ := HF5.out.cells
                        go_wp2_with fail
                        refine (put_any k hlt n HN.out _ _ _ _ _ HF5.out.puts).mono ?_
                        rintro e w6 ⟨rfl, hr6, hg6⟩
                        have HF6 := Lib.hid (HF5.out.put hr6 hg6)
                        clear f1 f2 f3 f4 hr6 hg6
                        obtain ⟨f1, f2, f3, f4⟩ := HF6.out.cells
                        have HF7 : Hid (PF w w6 w.heap.size gn n1 (n1 + 1) (n1 + 2) x y zs (st (k + 1))) := by rw [HX.out]; exact HF6.out
                        go_wp2_with fail
                        go_roundw
                        case rel => exact ⟨k + 1, by omega, by go_num, HF7⟩
                        case measure => simp [intOf]; omega
                      · rw [hb] at b1
                        have b1' : (bits .and .i64 (k : Int) (p : Int) == 0) = false := b1
                        have HX : Hid (st (k + 1) = nx) := by unfold Hid; rw [HIN.out, inZ, if_neg hn0]; simp [hb]
                        clear b1 hn0
                        go_wp2_with fail
                        refine (has_any T x y hT (by omega) (by omega) _).mono ?_
                        rintro e w5 ⟨rfl, hb5⟩
                        rw [HH.out]
                        have HF5 := Lib.hid (HF4.out.below hb5)
                        clear f1 f2 f3 f4 hb5
                        obtain ⟨f1, f2, f3, f4⟩ := HF5.out.cells
                        go_wp2_with fail
                        refine (has_any T x y hT (by omega) (by omega) _).mono ?_
                        rintro e w6 ⟨rfl, hb6⟩
                        rw [HH.out]
                        have HF6 := Lib.hid (HF5.out.below hb6)
                        clear f1 f2 f3 f4 hb6
                        obtain ⟨f1, f2, f3, f4⟩ := HF6.out.cells
                        go_wp2_with fail
                        refine (has_any T x y hT (by omega) (by omega) _).mono ?_
                        rintro e w7 ⟨rfl, hb7⟩
                        rw [HH.out]
                        have HF7 := Lib.hid (HF6.out.below hb7)
                        clear f1 f2 f3 f4 hb7
                        obtain ⟨f1, f2, f3, f4⟩ := HF7.out.cells
                        have HF8 : Hid (PF w w7 w.heap.size gn n1 (n1 + 1) (n1 + 2) x y zs (st (k + 1))) := by rw [HX.out]; exact HF7.out
                        go_wp2_with fail
                        go_roundw
                        case rel => exact ⟨k + 1, by omega, by go_num, HF8⟩
                        case measure => simp [intOf]; omega
                    · cases hb : k.testBit x
                      · rw [hb] at b1
                        have b1' : (bits .and .i64 (k : Int) (p : Int) == 0) = true := b1
                        have b2' : (bits .and .i64 (k : Int) (p : Int) != 0) = false := by unfold bne; rw [b1']; rfl
                        clear b1
                        go_wp2_with fail
                        refine (has_any T x y hT (by omega) (by omega) _).mono ?_
                        rintro e w5 ⟨rfl, hb5⟩
                        rw [HH.out]
                        have HF5 := Lib.hid (HF4.out.below hb5)
                        clear f1 f2 f3 f4 hb5
                        obtain ⟨f1, f2, f3, f4⟩ := HF5.out.cells
                        go_wp2_with fail
                        refine (has_any T x y hT (by omega) (by omega) _).mono ?_
                        rintro e w6 ⟨rfl, hb6⟩
                        rw [HH.out]
                        have HF6 := Lib.hid (HF5.out.below hb6)
                        clear f1 f2 f3 f4 hb6
                        obtain ⟨f1, f2, f3, f4⟩ := HF6.out.cells
                        go_wp2_with fail
                        refine (has_any T x y hT (by omega) (by omega) _).mono ?_
                        rintro e w7 ⟨rfl, hb7⟩
                        rw [HH.out]
                        have HF7 := Lib.hid (HF6.out.below hb7)
                        clear f1 f2 f3 f4 hb7
                        obtain ⟨f1, f2, f3, f4⟩ := HF7.out.cells
                        have HX : Hid (st (k + 1) = if r && !k.testBit (x + 1) then putZ (if b then putZ nx (k ||| p) n else nx) (k ||| 2 ^ (x + 1)) n else if b then putZ nx (k ||| p) n else nx) := by unfold Hid; rw [HIN.out, inZ, if_neg hn0]; simp only [hb, if_true, HPP.out]; rfl
                        have HY1 : Hid ((y : Int) + 1 = ((y + 1 : Nat) : Int)) := by unfold Hid; omega
                        have HX1 : Hid ((x : Int) + 1 = ((x + 1 : Nat) : Int)) := by unfold Hid; omega
                        clear hn0
                        go_wp2_with fail
                        rw [HY1.out]
                        refine (has_any T x (y + 1) hT (by omega) (by omega) _).mono ?_
                        rintro e w8 ⟨rfl, hb8⟩
                        rw [HB.out]
                        have HF8 := Lib.hid (HF7.out.below hb8)
                        clear f1 f2 f3 f4 hb8
                        obtain ⟨f1, f2, f3, f4⟩ := HF8.out.cells
                        have HTAIL : True := trivial
                        cases b
                        · skip
                          have HX2 : Hid (st (k + 1) = if r && !k.testBit (x + 1) then putZ nx (k ||| 2 ^ (x + 1)) n else nx) := HX.out
                          clear HX
                          go_wp2_with fail
                          rw [HX1.out]
                          refine (has_any T (x + 1) y hT (by omega) (by omega) _).mono ?_
                          rintro e w9 ⟨rfl, hb9⟩
                          rw [HR.out]
                          have HF9 := Lib.hid (HF8.out.below hb9)
                          clear f1 f2 f3 f4 hb9
                          obtain ⟨f1, f2, f3, f4⟩ := HF9.out.cells
                          cases r
                          · have HE : Hid (PF w w9 w.heap.size gn n1 (n1 + 1) (n1 + 2) x y zs (st (k + 1))) := by rw [HX2.out]; exact HF9.out
                            go_wp2_with fail
                            go_roundw
                            case rel => exact ⟨k + 1, by omega, by go_num, HE⟩
                            case measure => simp [intOf]; omega
                          · have hx6 := HR7.out rfl
                            have hp1 : 1 ≤ p := by rw [← HPP.out]; exact Nat.one_le_two_pow
                            have hp2 : p ≤ 64 := by rw [← HPP.out]; exact Nat.pow_le_pow_right (n := 2) (by omega) (show x ≤ 6 by omega)
                            obtain ⟨q1, _, q3, _, q5⟩ := bits_at k (x + 1) hlt (by omega)
                            rw [show ((2 ^ (x + 1) : Nat) : Int) = (p : Int) * 2 by rw [← HPP.out, Nat.pow_succ]; simp] at q1 q3
                            have HQ3 := Lib.hid q3
                            have HQ5 := Lib.hid q5
                            clear q3 q5
                            cases hb2 : k.testBit (x + 1)
                            · rw [hb2] at q1 HX2
                              have q1' : (bits .and .i64 (k : Int) ((p : Int) * 2) == 0) = true := q1
                              clear q1
                              go_wp2_with fail
                              refine (count2_any _ _ _ _ _).mono ?_
                              rintro e w10 ⟨rfl, hb10⟩
                              rw [if_neg (show ¬ (x : Int) < 0 by omega)]
                              have HF10 := Lib.hid (HF9.out.below hb10)
                              clear f1 f2 f3 f4 hb10
                              obtain ⟨f1, f2, f3, f4⟩ := HF10.out.cells
                              go_wp2_with fail
                              rw [HQ3.out]
                              refine (put_any (k ||| 2 ^ (x + 1)) HQ5.out n HN.out _ _ _ _ _ HF10.out.puts).mono ?_
                              rintro e w11 ⟨rfl, hr11, hg11⟩
                              have HF11 := Lib.hid (HF10.out.put hr11 hg11)
                              clear f1 f2 f3 f4 hr11 hg11
                              obtain ⟨f1, f2, f3, f4⟩ := HF11.out.cells
                              have HE : Hid (PF w w11 w.heap.size gn n1 (n1 + 1) (n1 + 2) x y zs (st (k + 1))) := by rw [HX2.out]; exact HF11.out
                              go_wp2_with fail
                              go_roundw
                              case rel => exact ⟨k + 1, by omega, by go_num, HE⟩
                              case measure => simp [intOf]; omega
                            · rw [hb2] at q1 HX2
                              have q1' : (bits .and .i64 (k : Int) ((p : Int) * 2) == 0) = false := q1
                              clear q1
                              have HE : Hid (PF w w9 w.heap.size gn n1 (n1 + 1) (n1 + 2) x y zs (st (k + 1))) := by rw [HX2.out]; exact HF9.out
                              go_wp2_with fail
                              go_roundw
                              case rel => exact ⟨k + 1, by omega, by go_num, HE⟩
                              case measure => simp [intOf]; omega
                        · skip
                          go_wp2_with fail
                          refine (count2_any _ _ _ _ _).mono ?_
                          rintro e w9 ⟨rfl, hb9⟩
                          rw [if_neg (show ¬ (x : Int) < 0 by omega)]
                          have HF9 := Lib.hid (HF8.out.below hb9)
                          clear f1 f2 f3 f4 hb9
                          obtain ⟨f1, f2, f3, f4⟩ := HF9.out.cells
                          go_wp2_with fail
                          rw [HB3.out]
                          refine (put_any (k ||| p) HB5.out n HN.out _ _ _ _ _ HF9.out.puts).mono ?_
                          rintro e w10 ⟨rfl, hr10, hg10⟩
                          have HF10 := Lib.hid (HF9.out.put hr10 hg10)
                          clear f1 f2 f3 f4 hr10 hg10
                          obtain ⟨f1, f2, f3, f4⟩ := HF10.out.cells
                          have HX2 : Hid (st (k + 1) = if r && !k.testBit (x + 1) then putZ (putZ nx (k ||| p) n) (k ||| 2 ^ (x + 1)) n else (putZ nx (k ||| p) n)) := HX.out
                          clear HX
                          go_wp2_with fail
                          rw [HX1.out]
                          refine (has_any T (x + 1) y hT (by omega) (by omega) _).mono ?_
                          rintro e w11 ⟨rfl, hb11⟩
                          rw [HR.out]
                          have HF11 := Lib.hid (HF10.out.below hb11)
                          clear f1 f2 f3 f4 hb11
                          obtain ⟨f1, f2, f3, f4⟩ := HF11.out.cells
                          cases r
                          · have HE : Hid (PF w w11 w.heap.size gn n1 (n1 + 1) (n1 + 2) x y zs (st (k + 1))) := by rw [HX2.out]; exact HF11.out
                            go_wp2_with fail
                            go_roundw
                            case rel => exact ⟨k + 1, by omega, by go_num, HE⟩
                            case measure => simp [intOf]; omega
                          · have hx6 := HR7.out rfl
                            have hp1 : 1 ≤ p := by rw [← HPP.out]; exact Nat.one_le_two_pow
                            have hp2 : p ≤ 64 := by rw [← HPP.out]; exact Nat.pow_le_pow_right (n := 2) (by omega) (show x ≤ 6 by omega)
                            obtain ⟨q1, _, q3, _, q5⟩ := bits_at k (x + 1) hlt (by omega)
                            rw [show ((2 ^ (x + 1) : Nat) : Int) = (p : Int) * 2 by rw [← HPP.out, Nat.pow_succ]; simp] at q1 q3
                            have HQ3 := Lib.hid q3
                            have HQ5 := Lib.hid q5
                            clear q3 q5
                            cases hb2 : k.testBit (x + 1)
                            · rw [hb2] at q1 HX2
                              have q1' : (bits .and .i64 (k : Int) ((p : Int) * 2) == 0) = true := q1
                              clear q1
                              go_wp2_with fail
                              refine (count2_any _ _ _ _ _).mono ?_
                              rintro e w12 ⟨rfl, hb12⟩
                              rw [if_neg (show ¬ (x : Int) < 0 by omega)]
                              have HF12 := Lib.hid (HF11.out.below hb12)
                              clear f1 f2 f3 f4 hb12
                              obtain ⟨f1, f2, f3, f4⟩ := HF12.out.cells
                              go_wp2_with fail
                              rw [HQ3.out]
                              refine (put_any (k ||| 2 ^ (x + 1)) HQ5.out n HN.out _ _ _ _ _ HF12.out.puts).mono ?_
                              rintro e w13 ⟨rfl, hr13, hg13⟩
                              have HF13 := Lib.hid (HF12.out.put hr13 hg13)
                              clear f1 f2 f3 f4 hr13 hg13
                              obtain ⟨f1, f2, f3, f4⟩ := HF13.out.cells
                              have HE : Hid (PF w w13 w.heap.size gn n1 (n1 + 1) (n1 + 2) x y zs (st (k + 1))) := by rw [HX2.out]; exact HF13.out
                              go_wp2_with fail
                              go_roundw
                              case rel => exact ⟨k + 1, by omega, by go_num, HE⟩
                              case measure => simp [intOf]; omega
                            · rw [hb2] at q1 HX2
                              have q1' : (bits .and .i64 (k : Int) ((p : Int) * 2) == 0) = false := q1
                              clear q1
                              have HE : Hid (PF w w11 w.heap.size gn n1 (n1 + 1) (n1 + 2) x y zs (st (k + 1))) := by rw [HX2.out]; exact HF11.out
                              go_wp2_with fail
                              go_roundw
                              case rel => exact ⟨k + 1, by omega, by go_num, HE⟩
                              case measure => simp [intOf]; omega
                      · rw [hb] at b1
                        have b1' : (bits .and .i64 (k : Int) (p : Int) == 0) = false := b1
                        have b2' : (bits .and .i64 (k : Int) (p : Int) != 0) = true := by unfold bne; rw [b1']; rfl
                        have HAN := Lib.hid (HB2.out hb)
                        have HX : Hid (st (k + 1) = putZ nx (k - p) n) := by unfold Hid; rw [HIN.out, inZ, if_neg hn0]; simp [hb, HPP.out]
                        clear b1 hn0
                        go_wp2_with fail
                        refine (has_any T x y hT (by omega) (by omega) _).mono ?_
                        rintro e w5 ⟨rfl, hb5⟩
                        rw [HH.out]
                        have HF5 := Lib.hid (HF4.out.below hb5)
                        clear f1 f2 f3 f4 hb5
                        obtain ⟨f1, f2, f3, f4⟩ := HF5.out.cells
                        go_wp2_with fail
                        refine (has_any T x y hT (by omega) (by omega) _).mono ?_
                        rintro e w6 ⟨rfl, hb6⟩
                        rw [HH.out]
                        have HF6 := Lib.hid (HF5.out.below hb6)
                        clear f1 f2 f3 f4 hb6
                        obtain ⟨f1, f2, f3, f4⟩ := HF6.out.cells
                        go_wp2_with fail
                        rw [HAN.out]
                        refine (put_any (k - p) (by omega) n HN.out _ _ _ _ _ HF6.out.puts).mono ?_
                        rintro e w7 ⟨rfl, hr7, hg7⟩
                        have HF7 := Lib.hid (HF6.out.put hr7 hg7)
                        have HF8 : Hid (PF w w7 w.heap.size gn n1 (n1 + 1) (n1 + 2) x y zs (st (k + 1))) := by rw [HX.out]; exact HF7.out
                        clear f1 f2 f3 f4 hr7 hg7
                        obtain ⟨f1, f2, f3, f4⟩ := HF7.out.cells
                        go_wp2_with fail
                        go_roundw
                        case rel => exact ⟨k + 1, by omega, by go_num, HF8⟩
                        case measure => simp [intOf]; omega
                · have ht : decide ((k : Int) < 256) = false := by simp only [decide_eq_false_iff_not]; omega
                  obtain rfl : k = 256 := by omega
                  rw [← HS.out] at HF4
                  have HFN : Hid (PB w wr w.heap.size (n1 + 1) (pf (i + 1))) := by
                    have h := HF4.out
                    rw [HZS2.out]
                    exact ⟨h.e5, h.e6, h.rx, h.big, h.l5, by have := h.lx; have := h.n5; have := h.l5; omega⟩
                  go_wp2_with fail
                  go_roundw
                  case rel => exact ⟨i + 1, _, by omega, by go_num, rfl, HFN⟩
                  case measure => simp [intOf]; omega
        · have hti : decide ((i : Int) < 64) = false := by simp only [decide_eq_false_iff_not]; omega
          obtain rfl : i = 64 := by omega
          have cq := HQ.out.rn.cell (k := 0) (by omega)
          have HF : Hid (el (pf 64) 0 = res) := (HFZ.out _ rfl).symm
          go_wp2_with fail
          go_ret
          exact ⟨ret_int HF.out, HQ.out.big⟩
end Go.Proofs.YtehnbalbpfmijaaGreatDoor

namespace Go.Proofs.YtehnbalbpfmijaaGreatDoor
open Go.RowKit
set_option linter.unusedVariables false

/-- The index of the first cell. -/
def fstTo (s : Nat) : Nat → Nat → Nat
  | 0, i => i
  | d + 1, i => if s.testBit i then i else fstTo s d (i + 1)
def fstN (s : Nat) : Nat := fstTo s 64 0
theorem fstTo_spec (s : Nat) : ∀ d i, (∃ j, i ≤ j ∧ j < i + d ∧ s.testBit j = true) → s.testBit (fstTo s d i) = true ∧ i ≤ fstTo s d i ∧ fstTo s d i < i + d ∧ ∀ j, i ≤ j → j < fstTo s d i → s.testBit j = false
  | 0, i, ⟨j, h1, h2, _⟩ => by omega
  | d + 1, i, ⟨j, h1, h2, h3⟩ => by
    rw [fstTo]
    cases hb : s.testBit i
    · rw [if_neg (by simp)]
      have hij : i ≠ j := fun e => by rw [e, h3] at hb; simp at hb
      obtain ⟨q1, q2, q3, q4⟩ := fstTo_spec s d (i + 1) ⟨j, by omega, by omega, h3⟩
      refine ⟨q1, by omega, by omega, fun k k1 k2 => ?_⟩
      by_cases e : k = i
      · rw [e]; exact hb
      · exact q4 k (by omega) k2
    · rw [if_pos rfl]
      exact ⟨hb, Nat.le_refl _, by omega, fun k k1 k2 => by omega⟩
theorem exists_bit {s : Nat} (hs : s ≠ 0) (hl : s < 18446744073709551616) : ∃ j, j < 64 ∧ s.testBit j = true := by
  refine Classical.byContradiction fun h => hs ?_
  apply Nat.eq_of_testBit_eq
  intro j
  rw [Nat.zero_testBit]
  by_cases hj : j < 64
  · cases hb : s.testBit j
    · rfl
    · exact absurd ⟨j, hj, hb⟩ h
  · exact Nat.testBit_lt_two_pow (Nat.lt_of_lt_of_le hl (Nat.pow_le_pow_right (n := 2) (i := 64) (by omega) (by omega)))
theorem fstN_spec {s : Nat} (hs : s ≠ 0) (hl : s < 18446744073709551616) : s.testBit (fstN s) = true ∧ fstN s < 64 ∧ ∀ j, j < fstN s → s.testBit j = false := by
  obtain ⟨j, h1, h2⟩ := exists_bit hs hl
  obtain ⟨q1, _, q3, q4⟩ := fstTo_spec s 64 0 ⟨j, Nat.zero_le _, by omega, h2⟩
  exact ⟨q1, by unfold fstN; omega, fun j hj => q4 j (Nat.zero_le _) hj⟩

set_option maxHeartbeats 2000000 in
theorem firstCell_any (s : Nat) (hs : s ≠ 0) (hl : s < 18446744073709551616) (w : World) :
    Calls Tryz.prog 70 #[.int .u64 (s : Int)] w fun e w' => e = .returned (spotV ((fstN s % 8 : Nat) : Int) ((fstN s / 8 : Nat) : Int)) ∧ Below w.heap.size w w' := by
  obtain ⟨f1, f2, f3⟩ := fstN_spec hs hl
  generalize fstN s = m at *
  have HF3 := Lib.hid f3
  have HB0 : Hid (Below w.heap.size w (w.alloc (.cells #[.int .i64 0, .int .i64 0] 44))) := (Below.refl _ _).alloc (Nat.le_refl _) _
  have HN0 := Lib.hid (heap_alloc_new w (.cells #[.int .i64 0, .int .i64 0] 44))
  clear f3
  go_enter Tryz.func70, Tryz.ntmps70
  go_wp2_with fail
  generalize w.alloc (.cells #[.int .i64 0, .int .i64 0] 44) = W at *
  go_loop [3] (fun i => ∃ k : Nat, k ≤ m ∧ i = .int .i64 k) (fun i => m - (intOf i).toNat)
  case atStart => exact ⟨0, Nat.zero_le _, rfl⟩
  case round =>
    obtain ⟨k, hk, rfl⟩ := hrel
    have hk64 : k ≤ 63 := by omega
    have hsv : (s : Int) / 2 ^ k = ((s / 2 ^ k : Nat) : Int) := by simp
    have hba := bit_and s k hl
    have hk0 : (0 : Int) ≤ (k : Int) := by omega
    by_cases hlt : k < m
    · rw [HF3.out k hlt] at hba
      have hba2 : (bits .and .u64 ((s : Int) / 2 ^ k) 1 == 0) = true := by rw [hsv, hba]; rfl
      clear hba hsv
      go_wp2_with fail
      go_round
      case rel => exact ⟨k + 1, by omega, by go_num⟩
      case measure => simp [intOf]; omega
    · obtain rfl : k = m := by omega
      rw [f1] at hba
      have hba2 : (bits .and .u64 ((s : Int) / 2 ^ k) 1 == 0) = false := by rw [hsv, hba]; rfl
      clear hba hsv
      go_wp2_with fail
      refine (cellAt_any k hk64 _).mono ?_
      rintro e w2 ⟨rfl, hb2⟩
      have hk2 := blk_below HN0.out hb2
      have c0 : w2.cell? ⟨w.heap.size, 0, none⟩ = some (.int .i64 0) := by rw [blk_cell hk2]; rfl
      have c1 : w2.cell? ⟨w.heap.size, 1, none⟩ = some (.int .i64 0) := by rw [blk_cell hk2]; rfl
      have d0 : w2.frozen? ⟨w.heap.size, 0, none⟩ = false := blk_free hk2
      have d1 : w2.frozen? ⟨w.heap.size, 1, none⟩ = false := blk_free hk2
      have HB2 := Lib.hid (HB0.out.trans (hb2.mono HB0.out.size))
      have HK2 := Lib.hid hk2
      clear hb2 hk2
      go_wp2_with fail
      have hx := blk_setCell (k := 1) (blk_setCell (k := 0) HK2.out (.int .i64 ((k : Int) % 8))) (.int .i64 ((k : Int) / 8))
      have hbx : Below w.heap.size w ((w2.setCell ⟨w.heap.size, 0, none⟩ (.int .i64 ((k : Int) % 8))).setCell ⟨w.heap.size, 1, none⟩ (.int .i64 ((k : Int) / 8))) := (HB2.out.setCell (p := ⟨w.heap.size, 0, none⟩) (Nat.le_refl _) _).setCell (p := ⟨w.heap.size, 1, none⟩) (Nat.le_refl _) _
      generalize (w2.setCell ⟨w.heap.size, 0, none⟩ (.int .i64 ((k : Int) % 8))).setCell ⟨w.heap.size, 1, none⟩ (.int .i64 ((k : Int) / 8)) = X at *
      have r0 : X.cell? ⟨w.heap.size, 0, none⟩ = some (.int .i64 ((k : Int) % 8)) := by rw [blk_cell hx]; rfl
      have r1 : X.cell? ⟨w.heap.size, 1, none⟩ = some (.int .i64 ((k : Int) / 8)) := by rw [blk_cell hx]; rfl
      have e1 : ((k % 8 : Nat) : Int) = (k : Int) % 8 := by omega
      have e2 : ((k / 8 : Nat) : Int) = (k : Int) / 8 := by omega
      rw [e1, e2]
      exact bodyPost_ret (v := spotV ((k : Int) % 8) ((k : Int) / 8)) (by simp [results, Tryz.results70, go_sem, r0, r1]) rfl ⟨rfl, hbx⟩
end Go.Proofs.YtehnbalbpfmijaaGreatDoor

namespace Go.Proofs.YtehnbalbpfmijaaGreatDoor
open Go.RowKit
set_option linter.unusedVariables false

/-- The domino at a cell. -/
def dOf (k : Nat) (down : Bool) : Lk := (((k % 8 : Nat) : Int), ((k / 8 : Nat) : Int), down)
def fitB (s : Nat) (l : Lk) : Bool := domL l && (s &&& dM l == dM l)
def minN (s m : Nat) : Nat := s &&& (18446744073709551615 - m)
abbrev reV (n : Nat) : Value := .func (.func 69) #[] #[.pointer (some ⟨n, 0, none⟩), .pointer (some ⟨n + 2, 0, none⟩), .pointer (some ⟨n + 3, 0, none⟩)]
/-- How many cells a set has. -/
def bitsN (s : Nat) : Nat := (List.range 64).countP fun j => s.testBit j
theorem countP_lt' {p q : Nat → Bool} : ∀ (l : List Nat) (x : Nat), (∀ y ∈ l, p y = true → q y = true) → x ∈ l → q x = true → p x = false → l.countP p < l.countP q
  | y :: l, x, h, hx, h1, h2 => by
    have hle : l.countP p ≤ l.countP q := List.countP_mono_left fun z hz hp => h z (List.mem_cons_of_mem _ hz) hp
    rcases List.mem_cons.1 hx with rfl | hx
    · rw [List.countP_cons, List.countP_cons, h1, h2]; simp; omega
    · have := countP_lt' l x (fun z hz => h z (List.mem_cons_of_mem _ hz)) hx h1 h2
      have h3 := h y (by simp)
      rw [List.countP_cons, List.countP_cons]
      cases hp : p y
      · simp; omega
      · rw [h3 hp]; simp; omega
theorem minN_bit (s m j : Nat) (hm : m < 18446744073709551616) (hj : j < 64) : (minN s m).testBit j = (s.testBit j && !m.testBit j) := by
  unfold minN
  rw [Nat.testBit_and]
  have h := Nat.testBit_two_pow_sub_succ (x := m) (n := 64) (by simpa using hm) j
  rw [show 2 ^ 64 - (m + 1) = 18446744073709551615 - m by omega] at h
  rw [h]
  simp [hj]
theorem minN_lt (s m : Nat) (hs : s < 18446744073709551616) : minN s m < 18446744073709551616 := Nat.lt_of_le_of_lt Nat.and_le_left hs
theorem dOf_bit (f : Nat) (dn : Bool) : (dM (dOf f dn)).testBit f = true := by
  have h : cix (f % 8) (f / 8) = f := by unfold cix; omega
  unfold dM dOf domM
  simp only [Int.toNat_natCast, h, Nat.testBit_or, Nat.testBit_two_pow_self, Bool.true_or]
theorem bits_less {s : Nat} (hs : s ≠ 0) (hl : s < 18446744073709551616) {dn : Bool} (hf : fitB s (dOf (fstN s) dn) = true) : bitsN (minN s (dM (dOf (fstN s) dn))) < bitsN s := by
  obtain ⟨h1, h2, _⟩ := fstN_spec hs hl
  have hd : domL (dOf (fstN s) dn) = true := by unfold fitB at hf; simp only [Bool.and_eq_true] at hf; exact hf.1
  have hm := dM_lt hd
  refine countP_lt' _ (fstN s) (fun y hy hp => ?_) (by simpa using h2) h1 ?_
  · rw [minN_bit _ _ _ hm (by simpa using hy)] at hp
    simp only [Bool.and_eq_true] at hp
    exact hp.1
  · rw [minN_bit _ _ _ hm h2, dOf_bit]; simp
theorem cell_of_bools {w : World} {p : Nat} {t : TypeId} (h : w.heap[p]? = some (.cells #[.bool false, .bool true] t (0, 0))) (j : Nat) (hj : j < 2) : w.cell? ⟨p, j, none⟩ = some (.bool (decide (j = 1))) := by
  rw [blk_cell h]
  rcases (show j = 0 ∨ j = 1 by omega) with rfl | rfl <;> rfl
/-- What the last region reads. -/
abbrev EachS (w : World) (n p : Nat) (x y : Int) (d : Bool) : Prop := w.cell? ⟨n + 3, 0, none⟩ = some (reV n) ∧ w.cell? ⟨p, 0, none⟩ = some (.int .i64 x) ∧ w.cell? ⟨p, 1, none⟩ = some (.int .i64 y) ∧ w.cell? ⟨p, 2, none⟩ = some (.bool d)
theorem EachS.of {w : World} {n p : Nat} {x y : Int} {d : Bool} {t t' : TypeId} (h : w.heap[n + 3]? = some (.cells #[reV n] t (0, 0))) (k : w.heap[p]? = some (.cells #[.int .i64 x, .int .i64 y, .bool d] t' (0, 0))) : EachS w n p x y d :=
  ⟨cell_of_one h, by rw [blk_cell k]; rfl, by rw [blk_cell k]; rfl, by rw [blk_cell k]; rfl⟩
end Go.Proofs.YtehnbalbpfmijaaGreatDoor

namespace Go.Proofs.YtehnbalbpfmijaaGreatDoor
open Go.RowKit

def boxB (a b c : Int) : Bool := inB a 1 3 && inB b 1 3 && inB c 1 3
theorem boxB_iff (a b c : Int) : boxB a b c = true ↔ (1 ≤ a ∧ a ≤ 3) ∧ (1 ≤ b ∧ b ≤ 3) ∧ 1 ≤ c ∧ c ≤ 3 := by
  simp [boxB, inB_iff, and_assoc]

end Go.Proofs.YtehnbalbpfmijaaGreatDoor

namespace Go.Proofs.YtehnbalbpfmijaaGreatDoor

def fallB (zs : List Int) (k : Nat) : Bool := decide (0 < k) && decide (el zs (k - 1) < el zs k)
def overB (up zs : List Int) (i k : Nat) : Bool := decide (0 < i) && decide (el up k < el zs k)
/-- One row of a heap as the program looks at it. -/
def hrowB (b c : Int) (up zs : List Int) (i : Nat) : Bool :=
  decide ((zs.length : Int) = b) && allB zs 0 c && upFrom (fun k => !(fallB zs k || overB up zs i k)) 0 zs.length
def heapB (a b c : Int) (zss : List (List Int)) : Bool :=
  boxB a b c && decide ((zss.length : Int) = a) && upFrom (fun i => hrowB b c (rw' zss (i - 1)) (rw' zss i) i) 0 zss.length
/-- A row as the reference looks at it. -/
def rowB (b c : Int) (zs : List Int) : Bool :=
  upFrom (fun k => inB (el zs k) 0 c && !fallB zs k) 0 zs.length && (inB b 1 3 && inB c 1 3 && decide ((zs.length : Int) = b))
/-- The rows of paths that do not touch. -/
def apartB (b c : Int) (up low : List Int) : Bool := rowB b c up && rowB b c low && upFrom (fun k => !decide (el up k < el low k)) 0 b.toNat

theorem allB_up (zs : List Int) (a b : Int) : allB zs a b = true ↔ ∀ j, j < zs.length → inB (el zs j) a b = true := by
  unfold allB
  rw [List.all_eq_true]
  constructor
  · intro h j hj; rw [el_get zs j hj]; exact h _ (List.getElem_mem hj)
  · intro h z hz
    obtain ⟨j, hj, rfl⟩ := List.getElem_of_mem hz
    rw [← el_get zs j hj]; exact h j hj
theorem fallB_iff (zs : List Int) (k : Nat) : fallB zs k = false ↔ (0 < k → el zs k ≤ el zs (k - 1)) := by
  rw [fallB, Bool.and_eq_false_iff, decide_eq_false_iff_not, decide_eq_false_iff_not]; omega
theorem overB_iff (up zs : List Int) (i k : Nat) : overB up zs i k = false ↔ (0 < i → el zs k ≤ el up k) := by
  rw [overB, Bool.and_eq_false_iff, decide_eq_false_iff_not, decide_eq_false_iff_not]; omega
theorem hrowB_iff (b c : Int) (up zs : List Int) (i : Nat) : hrowB b c up zs i = true ↔
    (zs.length : Int) = b ∧ (∀ j, j < zs.length → 0 ≤ el zs j ∧ el zs j ≤ c) ∧ ∀ j, j < zs.length → (0 < j → el zs j ≤ el zs (j - 1)) ∧ (0 < i → el zs j ≤ el up j) := by
  simp only [hrowB, Bool.and_eq_true, decide_eq_true_eq, allB_up, inB_iff, upFrom_iff, Bool.not_eq_true', Bool.or_eq_false_iff, fallB_iff, overB_iff, Nat.zero_le, true_implies, and_assoc]
theorem rowB_iff (b c : Int) (zs : List Int) : rowB b c zs = true ↔
    (∀ j, j < zs.length → (0 ≤ el zs j ∧ el zs j ≤ c) ∧ (0 < j → el zs j ≤ el zs (j - 1))) ∧ (1 ≤ b ∧ b ≤ 3) ∧ (1 ≤ c ∧ c ≤ 3) ∧ (zs.length : Int) = b := by
  simp only [rowB, Bool.and_eq_true, decide_eq_true_eq, inB_iff, upFrom_iff, Bool.not_eq_true', fallB_iff, Nat.zero_le, true_implies, and_assoc]
theorem apartB_iff (b c : Int) (up low : List Int) : apartB b c up low = true ↔ rowB b c up = true ∧ rowB b c low = true ∧ ∀ j, j < b.toNat → el low j ≤ el up j := by
  simp only [apartB, Bool.and_eq_true, upFrom_iff, Bool.not_eq_true', decide_eq_false_iff_not, Int.not_lt, Nat.zero_le, true_implies, and_assoc]
theorem heapB_iff (a b c : Int) (zss : List (List Int)) : heapB a b c zss = true ↔
    ((1 ≤ a ∧ a ≤ 3) ∧ (1 ≤ b ∧ b ≤ 3) ∧ 1 ≤ c ∧ c ≤ 3) ∧ (zss.length : Int) = a ∧ ∀ i, i < zss.length → hrowB b c (rw' zss (i - 1)) (rw' zss i) i = true := by
  simp only [heapB, Bool.and_eq_true, boxB_iff, decide_eq_true_eq, upFrom_iff, Nat.zero_le, true_implies, and_assoc]
theorem apart_heap (b c : Int) (up low : List Int) : heapB 2 b c [up, low] = apartB b c up low := by
  rw [Bool.eq_iff_iff, heapB_iff, apartB_iff, rowB_iff, rowB_iff]
  constructor
  · rintro ⟨⟨_, hb, hc⟩, _, h⟩
    obtain ⟨l0, a0, f0⟩ := (hrowB_iff _ _ _ _ _).1 (h 0 (by simp))
    obtain ⟨l1, a1, f1⟩ := (hrowB_iff _ _ _ _ _).1 (h 1 (by simp))
    change (up.length : Int) = b at l0
    change (low.length : Int) = b at l1
    refine ⟨⟨fun j hj => ⟨a0 j hj, (f0 j hj).1⟩, hb, hc, l0⟩, ⟨fun j hj => ⟨a1 j hj, (f1 j hj).1⟩, hb, hc, l1⟩, fun j hj => (f1 j (show j < low.length by omega)).2 (by omega)⟩
  · rintro ⟨⟨p0, hb, hc, l0⟩, ⟨p1, _, _, l1⟩, hj⟩
    refine ⟨⟨by omega, hb, hc⟩, rfl, fun i hi => ?_⟩
    rw [hrowB_iff]
    match i, hi with
    | 0, _ => exact ⟨l0, fun j h => (p0 j h).1, fun j h => ⟨(p0 j h).2, fun h' => absurd h' (Nat.lt_irrefl 0)⟩⟩
    | 1, _ => exact ⟨l1, fun j h => (p1 j h).1, fun j h => ⟨(p1 j h).2, fun _ => hj j (by have h2 : j < low.length := h; omega)⟩⟩
    | n + 2, hi => exact absurd hi (by simp)
theorem one_heap (b c : Int) (zs : List Int) : heapB 1 b c [zs] = rowB b c zs := by
  rw [Bool.eq_iff_iff, heapB_iff, rowB_iff]
  constructor
  · rintro ⟨⟨_, hb, hc⟩, _, h⟩
    obtain ⟨l0, a0, f0⟩ := (hrowB_iff _ _ _ _ _).1 (h 0 (by simp))
    exact ⟨fun j hj => ⟨a0 j hj, (f0 j hj).1⟩, hb, hc, l0⟩
  · rintro ⟨p0, hb, hc, l0⟩
    refine ⟨⟨by omega, hb, hc⟩, rfl, fun i hi => ?_⟩
    rw [hrowB_iff]
    match i, hi with
    | 0, _ => exact ⟨l0, fun j h => (p0 j h).1, fun j h => ⟨(p0 j h).2, fun h' => absurd h' (Nat.lt_irrefl 0)⟩⟩
    | n + 1, hi => exact absurd hi (by simp)
theorem seven : ∀ b1 b2 b3 b4 : Bool, (b1 = true ∧ b2 = true) ∨ (b1 = false ∧ b3 = false) ∨ (b1 = false ∧ b3 = true ∧ b4 = true) ∨ (b1 = false ∧ b3 = true ∧ b4 = false) ∨
    (b1 = true ∧ b2 = false ∧ b3 = false) ∨ (b1 = true ∧ b2 = false ∧ b3 = true ∧ b4 = true) ∨ (b1 = true ∧ b2 = false ∧ b3 = true ∧ b4 = false) := by decide
end Go.Proofs.YtehnbalbpfmijaaGreatDoor

namespace Go.Proofs.YtehnbalbpfmijaaGreatDoor
open Go.RowKit

theorem Rd.el {w : World} {B : Nat} {A : Option Addr} {zs : List Int} (h : Rd w B A (zs.map (Value.int .i64))) {k : Nat} (hk : k < zs.length) :
    ∃ ad, A = some ad ∧ ad.block < B ∧ w.cell? (ad.add k) = some (.int .i64 (el zs k)) := by
  rw [el_get zs k hk]; exact h.int hk

/-- v is a slice of slices that reads as zss. -/
def RdII (w : World) (B : Nat) (v : Value) (zss : List (List Int)) : Prop :=
  ∃ A c vs, v = .slice A zss.length c ∧ zss.length ≤ c ∧ c ≤ maxLen ∧ vs.length = zss.length ∧ Rd w B A vs ∧ ∀ i u, vs[i]? = some u → RdI w B u (rw' zss i)
theorem RdII.below {w w' : World} {B : Nat} {v : Value} {zss : List (List Int)} (h : RdII w B v zss) (hb : Below B w w') : RdII w' B v zss := by
  obtain ⟨A, c, vs, e, h1, h2, h3, h4, h5⟩ := h
  exact ⟨A, c, vs, e, h1, h2, h3, h4.below hb, fun i u hu => (h5 i u hu).below hb⟩
theorem RdII.more {w : World} {B B' : Nat} {v : Value} {zss : List (List Int)} (h : RdII w B v zss) (hb : B ≤ B') : RdII w B' v zss := by
  obtain ⟨A, c, vs, e, h1, h2, h3, h4, h5⟩ := h
  exact ⟨A, c, vs, e, h1, h2, h3, h4.more hb, fun i u hu => (h5 i u hu).more hb⟩
/-- The row at an index. -/
def RowAt (w : World) (B : Nat) (A : Option Addr) (zss : List (List Int)) : Prop :=
  ∀ i, i < zss.length → ∃ ad u, A = some ad ∧ ad.block < B ∧ w.cell? (ad.add i) = some u ∧ RdI w B u (rw' zss i)
theorem RdII.open_ {w : World} {B : Nat} {v : Value} {zss : List (List Int)} (h : RdII w B v zss) : ∃ A c, v = .slice A zss.length c ∧ zss.length ≤ c ∧ c ≤ maxLen ∧ RowAt w B A zss := by
  obtain ⟨A, c, vs, e, h1, h2, h3, h4, h5⟩ := h
  refine ⟨A, c, e, h1, h2, fun i hi => ?_⟩
  obtain ⟨ad, ha, hb, hc⟩ := h4.at (k := i) (by omega)
  exact ⟨ad, vs[i]'(by omega), ha, hb, hc, h5 i _ (List.getElem?_eq_getElem (by omega))⟩

end Go.Proofs.YtehnbalbpfmijaaGreatDoor

namespace Go.Proofs.YtehnbalbpfmijaaGreatDoor
open Go.RowKit

theorem infoRow : (Tryz.prog.info? 33).map (fun i => (i.zero, i.size, i.bytes)) = some (some (.slice none 0 0), 1, 24) := by kernel_rfl

/-! ### Sizes -/
def szRows : List (List Int) → Int → Int
  | [], l => l
  | z :: t, l => if l - (z.length : Int) < 0 then -1 else szRows t (l - z.length)
def szSS (zss : List (List Int)) (left : Int) : Int := if left - (zss.length : Int) < 0 then -1 else szRows zss (left - zss.length)
theorem szRows_bd : ∀ (zss : List (List Int)) (l : Int), 0 ≤ l → 0 ≤ szRows zss l → ∀ z, z ∈ zss → (z.length : Int) ≤ l
  | [], _, _, _, _, hz => by cases hz
  | z :: t, l, _, h, y, hy => by
    unfold szRows at h
    split at h
    · omega
    · rcases List.mem_cons.1 hy with rfl | hy
      · omega
      · have := szRows_bd t _ (by omega) h y hy; omega
theorem szSS_bd (zss : List (List Int)) (left : Int) (_hl : 0 ≤ left) (h : 0 ≤ szSS zss left) : (zss.length : Int) ≤ left ∧ ∀ i, i < zss.length → ((rw' zss i).length : Int) ≤ left := by
  unfold szSS at h
  split at h
  · omega
  · refine ⟨by omega, fun i hi => ?_⟩
    have := szRows_bd zss _ (by omega) h (rw' zss i) (by rw [rw_get zss i hi]; exact List.getElem_mem hi)
    omega
theorem szRows_drop (zss : List (List Int)) (k : Nat) (l : Int) (hk : k < zss.length) : szRows (zss.drop k) l = if l - ((rw' zss k).length : Int) < 0 then -1 else szRows (zss.drop (k + 1)) (l - (rw' zss k).length) := by
  rw [List.drop_eq_getElem_cons hk, szRows, rw_get zss k hk]

/-! ### A slice of slices of the call's own -/
def OwnII (w : World) (lo : Nat) (v : Value) (zss : List (List Int)) : Prop :=
  ∃ vs, w.ownsRow lo 33 1 v zss.length vs ∧ (∀ i u, vs[i]? = some u → OwnI w lo u (rw' zss i)) ∧
    (∀ (i j : Nat) (u u' : Value) (a b : Nat), i < j → vs[i]? = some u → vs[j]? = some u' → u.ownBlock = some a → u'.ownBlock = some b → a < b)
theorem OwnII.rd {w : World} {lo : Nat} {v : Value} {zss : List (List Int)} (h : OwnII w lo v zss) : RdII w w.heap.size v zss := by
  obtain ⟨vs, h1, h2, _⟩ := h
  have hl : vs.length = zss.length := by have := h1.1; omega
  rcases h1.2 with ⟨rfl, h0⟩ | ⟨g, cap, cur, rfl, hb, hh, hn, hm, hs, ht⟩
  · have e : zss = [] := List.eq_nil_of_length_eq_zero h0
    subst e
    have e2 : vs = [] := List.eq_nil_of_length_eq_zero hl
    subst e2
    exact ⟨none, 0, [], rfl, Nat.le_refl _, Nat.zero_le _, rfl, Rd.nil, fun i u hu => by simp at hu⟩
  · exact ⟨some ⟨g, 0, none⟩, cap, vs, rfl, hn, hm, hl, fun _ => ⟨_, rfl, (World.ownsRow.lt h1 g rfl).2, World.ownsRow.cells h1 rfl⟩, fun i u hu => (h2 i u hu).rd⟩
theorem ownsRow_below {w w' : World} {lo : Nat} {e : TypeId} {size n : Nat} {v : Value} {xs : List Value} (h : w.ownsRow lo e size v n xs) (hb : Below w.heap.size w w') : w'.ownsRow lo e size v n xs := by
  refine World.ownsRow.kept h (row := none) ⟨hb.os, hb.tape, hb.output, hb.size, fun k hk _ => hb.block k hk⟩ ?_
  cases v.ownBlock
  · exact .inl rfl
  · exact .inr (by simp)
theorem OwnII.below {w w' : World} {lo : Nat} {v : Value} {zss : List (List Int)} (h : OwnII w lo v zss) (hb : Below w.heap.size w w') : OwnII w' lo v zss := by
  obtain ⟨vs, h1, h2, h3⟩ := h
  exact ⟨vs, ownsRow_below h1 hb, fun i u hu => (h2 i u hu).below hb, h3⟩
def RetOwnII (w : World) (zss : List (List Int)) (e : Ending) (w' : World) : Prop := ∃ v, e = .returned v ∧ OwnII w' w.heap.size v zss ∧ Below w.heap.size w w'

/-- Behind k rounds of toIntSS. -/
def SSrel (w wr : World) (zss : List (List Int)) (k : Nat) : Prop :=
  ∃ f : Nat → Value, wr.rowIs w.heap.size 33 zss.length (fun j => if j < k then f j else .slice none 0 0) ∧ (∀ j, j < k → OwnI wr (w.heap.size + 1) (f j) (rw' zss j)) ∧
    (∀ i j a b, i < j → j < k → (f i).ownBlock = some a → (f j).ownBlock = some b → a < b) ∧ Below w.heap.size w wr ∧ w.heap.size + 1 ≤ wr.heap.size
theorem SS_start (w : World) (zss : List (List Int)) : SSrel w (w.alloc (.cells (madeCells #[.slice none 0 0] zss.length) 33)) zss 0 :=
  ⟨fun _ => .slice none 0 0, (World.rowIs_made w _ _ _).congr fun i _ => by simp, fun j hj => absurd hj (by omega), fun i j a b _ hj => absurd hj (by omega), (Below.refl _ _).alloc (Nat.le_refl _) _, by simp⟩
theorem OwnI.setCell {w : World} {lo : Nat} {v : Value} {zs : List Int} (h : OwnI w lo v zs) {p : Addr} (hp : p.block < lo) (u : Value) : OwnI (w.setCell p u) lo v zs := ownsRow_setCell_below h hp u
theorem OwnI.mono {w : World} {lo lo' : Nat} {v : Value} {zs : List Int} (h : OwnI w lo v zs) (hl : lo' ≤ lo) : OwnI w lo' v zs := by
  refine ⟨h.1, ?_⟩
  rcases h.2 with h2 | ⟨g, cap, cur, e, hb, r⟩
  · exact .inl h2
  · exact .inr ⟨g, cap, cur, e, by omega, r⟩
theorem SS_step {w wr w1 : World} {zss : List (List Int)} {k : Nat} {v : Value} (h : SSrel w wr zss k) (hk : k < zss.length) (hv : OwnI w1 wr.heap.size v (rw' zss k)) (hb : Below wr.heap.size wr w1) :
    SSrel w (w1.setCell ⟨w.heap.size, k, none⟩ v) zss (k + 1) := by
  obtain ⟨f, h1, h2, h3, h4, h5⟩ := h
  have hsz := hb.size
  refine ⟨fun j => if j = k then v else f j, ((h1.of_block (hb.block _ (by omega))).set k v).congr fun j hj => ?_, fun j hj => ?_, fun i j a b hij hj ha hb' => ?_, (h4.trans (hb.mono (by omega))).setCell (Nat.le_refl _) _, by simp; omega⟩
  · by_cases e : j = k
    · subst e; simp
    · by_cases e2 : j < k
      · simp [e, e2, show j < k + 1 by omega]
      · simp [e, e2, show ¬ j < k + 1 by omega]
  · by_cases e : j = k
    · subst e; simp only [if_true]; exact (hv.mono (by omega)).setCell (Nat.lt_succ_self _) _
    · simp only [if_neg e]; exact ((h2 j (by omega)).below hb).setCell (Nat.lt_succ_self _) _
  · have hi : i ≠ k := by omega
    simp only [if_neg hi] at ha
    by_cases e : j = k
    · simp only [if_pos e] at hb'
      have l1 := ((h2 i (by omega)).lt a ha).2
      have l2 := (hv.lt b hb').1
      omega
    · simp only [if_neg e] at hb'
      exact h3 i j a b hij (by omega) ha hb'
theorem SS_end {w wr : World} {zss : List (List Int)} (hl : zss.length ≤ 9223372036854775807) (h : SSrel w wr zss zss.length) : OwnII wr w.heap.size (.slice (some ⟨w.heap.size, 0, none⟩) zss.length zss.length) zss := by
  obtain ⟨f, h1, h2, h3, h4, h5⟩ := h
  obtain ⟨c, hb, hs, hc⟩ := h1
  have hget : ∀ j, j < zss.length → c[j]? = some (f j) := fun j hj => by rw [hc j hj]; simp [hj]
  refine ⟨c.toList, ⟨by simp [hs], .inr ⟨w.heap.size, zss.length, c, rfl, Nat.le_refl _, hb, Nat.le_refl _, by unfold maxLen; omega, by omega, List.take_of_length_le (by simp; omega)⟩⟩, fun i u hu => ?_, fun i j u u' a b hij hu hu' ha hb' => ?_⟩
  · have hi : i < zss.length := by
      have := (List.getElem?_eq_some_iff.1 hu).1; simpa [hs] using this
    rw [Array.getElem?_toList, hget i hi] at hu
    obtain rfl := Option.some.inj hu
    exact (h2 i hi).mono (by omega)
  · have hj : j < zss.length := by
      have := (List.getElem?_eq_some_iff.1 hu').1; simpa [hs] using this
    rw [Array.getElem?_toList, hget i (by omega)] at hu
    rw [Array.getElem?_toList, hget j hj] at hu'
    obtain rfl := Option.some.inj hu
    obtain rfl := Option.some.inj hu'
    exact h3 i j a b hij hj ha hb'

end Go.Proofs.YtehnbalbpfmijaaGreatDoor

namespace Go.Proofs.YtehnbalbpfmijaaGreatDoor
open Go.RowKit

structure Aft (lo hi : Nat) (w w' : World) : Prop where
  os : w'.os = w.os
  tape : w'.tape = w.tape
  output : w'.output = w.output
  size : w.heap.size ≤ w'.heap.size
  block : ∀ k, k < w.heap.size → (k < lo ∨ hi ≤ k) → w'.heap[k]? = w.heap[k]?
theorem Aft.refl (lo hi : Nat) (w : World) : Aft lo hi w w := ⟨rfl, rfl, rfl, Nat.le_refl _, fun _ _ _ => rfl⟩
theorem Aft.trans {lo hi : Nat} {a b c : World} (h : Aft lo hi a b) (k : Aft lo hi b c) : Aft lo hi a c :=
  ⟨k.os.trans h.os, k.tape.trans h.tape, k.output.trans h.output, Nat.le_trans h.size k.size, fun i hi hh => (k.block i (Nat.lt_of_lt_of_le hi h.size) hh).trans (h.block i hi hh)⟩
theorem Aft.below {lo hi : Nat} {w w' : World} (h : Aft lo hi w w') (hl : lo ≤ w.heap.size) : Below lo w w' :=
  ⟨h.os, h.tape, h.output, h.size, fun k hk => h.block k (Nat.lt_of_lt_of_le hk hl) (.inl hk)⟩
theorem Aft.ofBelow {lo hi : Nat} {w w' : World} (h : Below w.heap.size w w') : Aft lo hi w w' := ⟨h.os, h.tape, h.output, h.size, fun k hk _ => h.block k hk⟩
theorem Aft.ofGrown {lo hi : Nat} {w w' : World} {row : Option Nat} (h : w.grownBy w' row) (hr : ∀ k, row = some k → lo ≤ k ∧ k < hi) : Aft lo hi w w' :=
  ⟨h.os, h.tape, h.output, h.size, fun k hk hh => h.block k hk fun e => by have := hr k e.symm; omega⟩
theorem Aft.more {lo hi lo' hi' : Nat} {w w' : World} (h : Aft lo hi w w') (h1 : lo' ≤ lo) (h2 : hi ≤ hi') : Aft lo' hi' w w' := ⟨h.os, h.tape, h.output, h.size, fun k hk hh => h.block k hk (by omega)⟩
/-- What lies apart from the interval: the same blocks, as a growth of no row. -/
theorem Aft.row {lo hi : Nat} {w w' : World} {base : Nat} {e : TypeId} {size n : Nat} {v : Value} {xs : List Value} (h : Aft lo hi w w') (ho : w.ownsRow base e size v n xs) (ha : ∀ k, v.ownBlock = some k → k < lo ∨ hi ≤ k) : w'.ownsRow base e size v n xs := by
  refine ⟨ho.1, ?_⟩
  rcases ho.2 with hn | ⟨g, cap, cur, rfl, hb, hgg, rest⟩
  · exact .inl hn
  · refine .inr ⟨g, cap, cur, rfl, hb, ?_, rest⟩
    rw [h.block g (Array.getElem?_eq_some_iff.1 hgg).1 (ha g rfl)]
    exact hgg
end Go.Proofs.YtehnbalbpfmijaaGreatDoor
