/- The contract of the program's profile, with the closures of count; count. -/
import Derived.Test.YtpejphholomenaaProf
import Derived.Deep.RegionHeld3
import Derived.StillTailTactics
import Derived.Laws.EntriesVeiled
namespace Go.Proofs.Ytpejphholomenaa
open Go.RowKit
set_option linter.unusedVariables false

/-! ### The closures -/
theorem count1_any (a b : Int) (w : World) : Calls Try.prog 170 #[.int .i64 a, .int .i64 b] w fun e w' => e = .returned (.int .i64 (wrap64 (a + b))) ∧ w = w' := by
  go_enter Try.func170, Try.ntmps170
  go_wp2_with fail
  go_ret
  exact ⟨rfl, rfl⟩
theorem count2_any (n x y : Int) (d : Bool) (w : World) : Calls Try.prog 171 #[.int .i64 n, .agg #[.int .i64 x, .int .i64 y, .bool d]] w fun e w' => e = .returned (.int .i64 (if x < 0 then 1 else n)) ∧ Below w.heap.size w w' := by
  by_cases h : x < 0
  · rw [if_pos h]
    go_enter Try.func171, Try.ntmps171
    go_wp2_with fail
    go_ret
    exact ⟨rfl, (Below.refl _ _).alloc (Nat.le_refl _) _⟩
  · rw [if_neg h]
    go_enter Try.func171, Try.ntmps171
    go_wp2_with fail
    go_ret
    exact ⟨rfl, (Below.refl _ _).alloc (Nat.le_refl _) _⟩

abbrev fn1 : Value := .func (.func 170) #[] #[]
abbrev fn2 : Value := .func (.func 171) #[] #[]
/-! ### put -/
/-- What put finds: the variable of the next row, the row, none, and add. -/
structure PutS (w : World) (pn p0 g : Nat) (nx : List Int) : Prop where
  en : w.heap[pn]? = some (.cells #[.slice (some ⟨g, 0, none⟩) 256 256] 34 (0, 0))
  e0 : w.heap[p0]? = some (.cells #[.int .i64 0] 3 (0, 0))
  ea : w.heap[p0 + 1]? = some (.cells #[fn1] 51 (0, 0))
  row : Row256 w g nx
def PutPost (w : World) (g : Nat) (nx : List Int) (e : Ending) (w' : World) : Prop := e = .returned (.tuple #[]) ∧ Row256 w' g nx ∧ w.grownBy w' (some g)
set_option maxRecDepth 100000 in
set_option maxHeartbeats 2000000 in
theorem put_any (k : Nat) (hk : k < 256) (n : Int) (hn : wrap64 n = n) (pn p0 g : Nat) (nx : List Int) (w : World) (h : PutS w pn p0 g nx) :
    Calls Try.prog 179 #[.int .i64 (k : Int), .int .i64 n, .pointer (some ⟨pn, 0, none⟩), .pointer (some ⟨p0, 0, none⟩), .pointer (some ⟨p0 + 1, 0, none⟩)] w (PutPost w g (putZ nx k n)) := by
  have c1 : w.cell? ⟨pn, 0, none⟩ = some (.slice (some ⟨g, 0, none⟩) 256 256) := cell_of_one h.en
  have c2 : w.cell? ⟨p0, 0, none⟩ = some (.int .i64 0) := cell_of_one h.e0
  have c3 : w.cell? ⟨p0 + 1, 0, none⟩ = some fn1 := cell_of_one h.ea
  have c4 := h.row.cell hk
  have c5 := h.row.free k
  have HR := Lib.hid h.row
  have hk0 : (0 : Int) ≤ (k : Int) := by omega
  have hk1 : (k : Int) < 256 := by omega
  have HN := Lib.hid hn
  clear h hn
  by_cases hz : el nx k = 0
  · have HZ := Lib.hid (putZ_zero (n := n) hz HN.out)
    rw [hz] at c4
    clear hz
    go_enter Try.func179, Try.ntmps179
    go_wp2_with fail
    go_quiet (fail)
    go_wp2_with fail
    go_end0
    rw [← HZ.out]
    exact ⟨rfl, (show Row256 ((w.drewN _).setCell ⟨g, k, none⟩ (.int .i64 n)) g (nx.set k n) from (HR.out.keep rfl).set k n), (grownBy_drewN w _ (some g)).trans (grownBy_set _ g k _)⟩
  · have t1 : (el nx k == 0) = false := by rw [beq_eq_false_iff_ne]; exact hz
    have HZ : Hid (putZ nx k n = nx.set k (wrap64 (el nx k + n))) := rfl
    generalize el nx k = q at *
    clear hz
    go_enter Try.func179, Try.ntmps179
    go_wp2_with fail
    go_quiet (fail)
    have d1 : (w.drewN nq).cell? ⟨pn, 0, none⟩ = some (.slice (some ⟨g, 0, none⟩) 256 256) := c1
    have d3 : (w.drewN nq).cell? ⟨p0 + 1, 0, none⟩ = some fn1 := c3
    have d4 : (w.drewN nq).cell? ⟨g, k, none⟩ = some (.int .i64 q) := c4
    have HDR : Hid (Row256 (w.drewN nq) g nx) := HR.out.keep rfl
    have HG1 := Lib.hid (grownBy_drewN w nq (some g))
    clear c1 c2 c3 c4 c5
    generalize w.drewN nq = W0 at *
    go_wp2_with fail
    refine wp_region_still_tail 10 (by kernel_rfl) (by kernel_rfl) ?_
    simp only [List.take_succ_cons, List.take_zero, List.drop_succ_cons, List.drop_zero]
    repeat still_step
    still_call ((count1_any q n _).mono fun _ _ ⟨he, hw⟩ => ⟨he, hw.symm⟩)
    repeat still_step
    refine wpStill_nil ?_
    change wpList _ _ _ _ _ W0.drew
    have HDR2 : Hid (Row256 W0.drew g nx) := HDR.out.keep rfl
    have HG2 : Hid (w.grownBy W0.drew (some g)) := HG1.out.trans (grownBy_drewN W0 1 _)
    have c6 : W0.drew.frozen? ⟨g, k, none⟩ = false := HDR2.out.free k
    have c7 := HDR2.out.cell hk
    clear d1 d3 d4
    generalize W0.drew = W at *
    go_wp2_with fail
    go_end0
    rw [HZ.out]
    exact ⟨rfl, HDR2.out.set k _, HG2.out.trans (grownBy_set _ g k _)⟩

/-! ### has, at any place near -/
set_option maxHeartbeats 400000 in
theorem has_any (T x y : Nat) (hT : T < 18446744073709551616) (hx : x ≤ 8) (hy : y ≤ 8) (w : World) :
    Calls Try.prog 126 #[.int .u64 (T : Int), spotV x y] w fun e w' => e = .returned (.bool (hasC T x y)) ∧ Below w.heap.size w w' := by
  by_cases h : x ≤ 7 ∧ y ≤ 7
  · have e : hasC T x y = hasB T x y := by simp [hasC, h.1, h.2]
    rw [e]
    exact has_yes T x y hT h.1 h.2 w
  · have hok : spotB 7 x y = false := by
      cases hs : spotB 7 x y
      · rfl
      · have := (spotB_iff _ _ _).1 hs; omega
    have e : hasC T x y = false := by
      unfold hasC
      by_cases h7 : x ≤ 7
      · have : ¬ y ≤ 7 := fun h9 => h ⟨h7, h9⟩
        simp [this]
      · simp [h7]
    rw [e]
    clear h e
    go_enter Try.func126, Try.ntmps126
    go_wp2_with fail
    refine (CellOk_any _ _ _).mono ?_
    rintro e w1 ⟨rfl, hb1⟩
    rw [hok]
    go_wp2_with fail
    go_ret
    exact ⟨rfl, ((Below.refl _ _).alloc (Nat.le_refl _) _).trans (hb1.mono (by simp))⟩

theorem cellAt_any (k : Nat) (hk : k ≤ 63) (w : World) :
    Calls Try.prog 172 #[.int .i64 (k : Int)] w fun e w' => e = .returned (spotV ((k % 8 : Nat) : Int) ((k / 8 : Nat) : Int)) ∧ Below w.heap.size w w' := by
  have e1 : (k : Int) % 8 = ((k % 8 : Nat) : Int) := by omega
  have e2 : (k : Int) / 8 = ((k / 8 : Nat) : Int) := by omega
  have HE1 := Lib.hid e1
  have HE2 := Lib.hid e2
  clear e1 e2
  go_enter Try.func172, Try.ntmps172
  go_wp2_with fail
  rw [HE1.out, HE2.out]
  exact bodyPost_ret (v := spotV ((k % 8 : Nat) : Int) ((k / 8 : Nat) : Int)) (by simp [results, Try.results172, go_sem]) rfl ⟨rfl, (Below.refl _ _).alloc (Nat.le_refl _) _⟩

/-! ### The state of the walk -/
structure PF (w wr : World) (p5 gn p12 gx pn x y : Nat) (zs nx : List Int) : Prop where
  e5 : wr.heap[p5]? = some (.cells #[.int .i64 0] 3 (0, 0))
  e6 : wr.heap[p5 + 1]? = some (.cells #[fn1] 51 (0, 0))
  rn : Row256 wr gn zs
  ec : wr.heap[p12]? = some (.cells #[.int .i64 (x : Int), .int .i64 (y : Int)] 91 (0, 0))
  en : wr.heap[pn]? = some (.cells #[.slice (some ⟨gx, 0, none⟩) 256 256] 34 (0, 0))
  rx : Row256 wr gx nx
  big : Below w.heap.size w wr
  l5 : w.heap.size ≤ p5
  n5 : gx ≠ p5 ∧ gx ≠ p5 + 1
  nn : gx ≠ gn
  nc : gx ≠ p12
  np : gx ≠ pn
  lx : w.heap.size ≤ gx
section
variable {w wr w1 : World} {p5 gn p12 gx pn x y : Nat} {zs nx nx' : List Int}
theorem PF.below (h : PF w wr p5 gn p12 gx pn x y zs nx) (hb : Below wr.heap.size wr w1) : PF w w1 p5 gn p12 gx pn x y zs nx :=
  ⟨blk_below h.e5 hb, blk_below h.e6 hb, h.rn.keep (hb.block _ (lt_of_block h.rn.1)), blk_below h.ec hb, blk_below h.en hb, h.rx.keep (hb.block _ (lt_of_block h.rx.1)), h.big.trans (hb.mono h.big.size), h.l5, h.n5, h.nn, h.nc, h.np, h.lx⟩
theorem PF.put (h : PF w wr p5 gn p12 gx pn x y zs nx) (hr : Row256 w1 gx nx') (hg : wr.grownBy w1 (some gx)) : PF w w1 p5 gn p12 gx pn x y zs nx' := by
  have hk : ∀ k, k < wr.heap.size → gx ≠ k → w1.heap[k]? = wr.heap[k]? := fun k h1 h2 => hg.block k h1 (fun e => h2 (Option.some.inj e).symm)
  exact ⟨(hk _ (lt_of_block h.e5) h.n5.1).trans h.e5, (hk _ (lt_of_block h.e6) h.n5.2).trans h.e6, h.rn.keep (hk _ (lt_of_block h.rn.1) h.nn), (hk _ (lt_of_block h.ec) h.nc).trans h.ec, (hk _ (lt_of_block h.en) h.np).trans h.en, hr,
    h.big.grown hg h.big.size (fun k hk => by obtain rfl := Option.some.inj hk; exact h.lx), h.l5, h.n5, h.nn, h.nc, h.np, h.lx⟩
theorem PF.puts (h : PF w wr p5 gn p12 gx pn x y zs nx) : PutS wr pn p5 gx nx := ⟨h.en, h.e5, h.e6, h.rx⟩
theorem PF.cells (h : PF w wr p5 gn p12 gx pn x y zs nx) : wr.cell? ⟨p5, 0, none⟩ = some (.int .i64 0) ∧ wr.cell? ⟨p12, 0, none⟩ = some (.int .i64 (x : Int)) ∧ wr.cell? ⟨p12, 1, none⟩ = some (.int .i64 (y : Int)) ∧ wr.cell? ⟨pn, 0, none⟩ = some (.slice (some ⟨gx, 0, none⟩) 256 256) :=
  ⟨cell_of_one h.e5, by rw [blk_cell h.ec]; rfl, by rw [blk_cell h.ec]; rfl, cell_of_one h.en⟩
end
end Go.Proofs.Ytpejphholomenaa
