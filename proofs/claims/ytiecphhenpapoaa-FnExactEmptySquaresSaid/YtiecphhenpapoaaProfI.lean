/- The contract of the program's profile, with the closures of count; count. -/
import Derived.Test.YtiecphhenpapoaaProf
import Derived.Deep.RegionHeld3
import Derived.StillTailTactics
import Derived.Laws.EntriesVeiled
namespace Go.Proofs.Ytiecphhenpapoaa
open Go.RowKit
set_option linter.unusedVariables false

/-! ### The closures -/
theorem count1_any (a b : Int) (w : World) : Calls Try.prog 191 #[.int .i64 a, .int .i64 b] w fun e w' => e = .returned (.int .i64 (wrap64 (a + b))) ∧ w = w' := by
  go_enter Try.func191, Try.ntmps191
  go_wp2_with fail
  go_ret
  exact ⟨rfl, rfl⟩
theorem count2_any (n x y : Int) (d : Bool) (w : World) : Calls Try.prog 192 #[.int .i64 n, .agg #[.int .i64 x, .int .i64 y, .bool d]] w fun e w' => e = .returned (.int .i64 (if x < 0 then 1 else n)) ∧ Below w.heap.size w w' := by
  by_cases h : x < 0
  · rw [if_pos h]
    go_enter Try.func192, Try.ntmps192
    go_wp2_with fail
    go_ret
    exact ⟨rfl, (Below.refl _ _).alloc (Nat.le_refl _) _⟩
  · rw [if_neg h]
    go_enter Try.func192, Try.ntmps192
    go_wp2_with fail
    go_ret
    exact ⟨rfl, (Below.refl _ _).alloc (Nat.le_refl _) _⟩

abbrev fn1 : Value := .func (.func 191) #[] #[]
abbrev fn2 : Value := .func (.func 192) #[] #[]
/-! ### put -/
/-- What put finds: the variable of the next row, the row, none, and add. -/
structure PutS (w : World) (pn p0 g : Nat) (nx : List Int) : Prop where
  en : w.heap[pn]? = some (.cells #[.slice (some ⟨g, 0, none⟩) 256 256] 32 (0, 0))
  e0 : w.heap[p0]? = some (.cells #[.int .i64 0] 3 (0, 0))
  ea : w.heap[p0 + 1]? = some (.cells #[fn1] 22 (0, 0))
  row : Row256 w g nx
def PutPost (w : World) (g : Nat) (nx : List Int) (e : Ending) (w' : World) : Prop := e = .returned (.tuple #[]) ∧ Row256 w' g nx ∧ w.grownBy w' (some g)
set_option maxRecDepth 100000 in
set_option maxHeartbeats 2000000 in
theorem put_any (k : Nat) (hk : k < 256) (n : Int) (hn : wrap64 n = n) (pn p0 g : Nat) (nx : List Int) (w : World) (h : PutS w pn p0 g nx) :
    Calls Try.prog 194 #[.int .i64 (k : Int), .int .i64 n, .pointer (some ⟨pn, 0, none⟩), .pointer (some ⟨p0, 0, none⟩), .pointer (some ⟨p0 + 1, 0, none⟩)] w (PutPost w g (putZ nx k n)) := by
  have c1 : w.cell? ⟨pn, 0, none⟩ = some (.slice (some ⟨g, 0, none⟩) 256 256) := cell_of_one h.en
  have c2 : w.cell? ⟨p0, 0, none⟩ = some (.int .i64 0) := cell_of_one h.e0
  have c3 : w.cell? ⟨p0 + 1, 0, none⟩ = some fn1 := cell_of_one h.ea
  have c4 := h.row.cell hk
  have c5 := h.row.free k
  have HR := Lib.hid h.row
  have hk0 : (0 : Int) ≤ (k : Int) := by omega
  have hk1 : (k : Int) < 256 := by omega
  have HN := Lib.hid hn
  clear h hn
  by_cases hz : el nx k = 0
  · have HZ := Lib.hid (putZ_zero (n := n) hz HN.out)
    rw [hz] at c4
    clear hz
    go_enter Try.func194, Try.ntmps194
    go_wp2_with fail
    go_quiet (fail)
    go_wp2_with fail
    go_end0
    rw [← HZ.out]
    exact ⟨rfl, (show Row256 ((w.drewN _).setCell ⟨g, k, none⟩ (.int .i64 n)) g (nx.set k n) from (HR.out.keep rfl).set k n), (grownBy_drewN w _ (some g)).trans (grownBy_set _ g k _)⟩
  · have t1 : (el nx k == 0) = false := by rw [beq_eq_false_iff_ne]; exact hz
    have HZ : Hid (putZ nx k n = nx.set k (wrap64 (el nx k + n))) := rfl
    generalize el nx k = q at *
    clear hz
    go_enter Try.func194, Try.ntmps194
    go_wp2_with fail
    go_quiet (fail)
    have d1 : (w.drewN nq).cell? ⟨pn, 0, none⟩ = some (.slice (some ⟨g, 0, none⟩) 256 256) := c1
    have d3 : (w.drewN nq).cell? ⟨p0 + 1, 0, none⟩ = some fn1 := c3
    have d4 : (w.drewN nq).cell? ⟨g, k, none⟩ = some (.int .i64 q) := c4
    have HDR : Hid (Row256 (w.drewN nq) g nx) := HR.out.keep rfl
    have HG1 := Lib.hid (grownBy_drewN w nq (some g))
    clear c1 c2 c3 c4 c5
    generalize w.drewN nq = W0 at *
    go_wp2_with fail
    refine wp_region_still_tail 10 (by kernel_rfl) (by kernel_rfl) ?_
    simp only [List.take_succ_cons, List.take_zero, List.drop_succ_cons, List.drop_zero]
    repeat still_step
    still_call ((count1_any q n _).mono fun _ _ ⟨he, hw⟩ => ⟨he, hw.symm⟩)
    repeat still_step
    refine wpStill_nil ?_
    change wpList _ _ _ _ _ W0.drew
    have HDR2 : Hid (Row256 W0.drew g nx) := HDR.out.keep rfl
    have HG2 : Hid (w.grownBy W0.drew (some g)) := HG1.out.trans (grownBy_drewN W0 1 _)
    have c6 : W0.drew.frozen? ⟨g, k, none⟩ = false := HDR2.out.free k
    have c7 := HDR2.out.cell hk
    clear d1 d3 d4
    generalize W0.drew = W at *
    go_wp2_with fail
    go_end0
    rw [HZ.out]
    exact ⟨rfl, HDR2.out.set k _, HG2.out.trans (grownBy_set _ g k _)⟩

/-! ### has, at any place near -/
set_option maxHeartbeats 400000 in
theorem has_any (T x y : Nat) (hT : T < 18446744073709551616) (hx : x ≤ 8) (hy : y ≤ 8) (w : World) :
    Calls Try.prog 107 #[.int .u64 (T : Int), spotV x y] w fun e w' => e = .returned (.bool (hasC T x y)) ∧ Below w.heap.size w w' := by
  by_cases h : x ≤ 7 ∧ y ≤ 7
  · have e : hasC T x y = hasB T x y := by simp [hasC, h.1, h.2]
    rw [e]
    exact has_yes T x y hT h.1 h.2 w
  · have hok : spotB 7 x y = false := by
      cases hs : spotB 7 x y
      · rfl
      · have := (spotB_iff _ _ _).1 hs; omega
    have e : hasC T x y = false := by
      unfold hasC
      by_cases h7 : x ≤ 7
      · have : ¬ y ≤ 7 := fun h9 => h ⟨h7, h9⟩
        simp [this]
      · simp [h7]
    rw [e]
    clear h e
    go_enter Try.func107, Try.ntmps107
    go_wp2_with fail
    refine (CellOk_any _ _ _).mono ?_
    rintro e w1 ⟨rfl, hb1⟩
    rw [hok]
    go_wp2_with fail
    go_ret
    exact ⟨rfl, ((Below.refl _ _).alloc (Nat.le_refl _) _).trans (hb1.mono (by simp))⟩

theorem cellAt_any (k : Nat) (hk : k ≤ 63) (w : World) :
    Calls Try.prog 162 #[.int .i64 (k : Int)] w fun e w' => e = .returned (spotV ((k % 8 : Nat) : Int) ((k / 8 : Nat) : Int)) ∧ Below w.heap.size w w' := by
  have e1 : (k : Int) % 8 = ((k % 8 : Nat) : Int) := by omega
  have e2 : (k : Int) / 8 = ((k / 8 : Nat) : Int) := by omega
  have HE1 := Lib.hid e1
  have HE2 := Lib.hid e2
  clear e1 e2
  go_enter Try.func162, Try.ntmps162
  go_wp2_with fail
  rw [HE1.out, HE2.out]
  exact bodyPost_ret (v := spotV ((k % 8 : Nat) : Int) ((k / 8 : Nat) : Int)) (by simp [results, Try.results162, go_sem]) rfl ⟨rfl, (Below.refl _ _).alloc (Nat.le_refl _) _⟩

/-! ### The state of the walk -/
structure PF (w wr : World) (p5 gn p12 gx pn x y : Nat) (zs nx : List Int) : Prop where
  e5 : wr.heap[p5]? = some (.cells #[.int .i64 0] 3 (0, 0))
  e6 : wr.heap[p5 + 1]? = some (.cells #[fn1] 22 (0, 0))
  rn : Row256 wr gn zs
  ec : wr.heap[p12]? = some (.cells #[.int .i64 (x : Int), .int .i64 (y : Int)] 56 (0, 0))
  en : wr.heap[pn]? = some (.cells #[.slice (some ⟨gx, 0, none⟩) 256 256] 32 (0, 0))
  rx : Row256 wr gx nx
  big : Below w.heap.size w wr
  l5 : w.heap.size ≤ p5
  n5 : gx ≠ p5 ∧ gx ≠ p5 + 1
  nn : gx ≠ gn
  nc : gx ≠ p12
  np : gx ≠ pn
  lx : w.heap.size ≤ gx
section
variable {w wr w1 : World} {p5 gn p12 gx pn x y : Nat} {zs nx nx' : List Int}
theorem PF.below (h : PF w wr p5 gn p12 gx pn x y zs nx) (hb : Below wr.heap.size wr w1) : PF w w1 p5 gn p12 gx pn x y zs nx :=
  ⟨blk_below h.e5 hb, blk_below h.e6 hb, h.rn.keep (hb.block _ (lt_of_block h.rn.1)), blk_below h.ec hb, blk_below h.en hb, h.rx.keep (hb.block _ (lt_of_block h.rx.1)), h.big.trans (hb.mono h.big.size), h.l5, h.n5, h.nn, h.nc, h.np, h.lx⟩
theorem PF.put (h : PF w wr p5 gn p12 gx pn x y zs nx) (hr : Row256 w1 gx nx') (hg : wr.grownBy w1 (some gx)) : PF w w1 p5 gn p12 gx pn x y zs nx' := by
  have hk : ∀ k, k < wr.heap.size → gx ≠ k → w1.heap[k]? = wr.heap[k]? := fun k h1 h2 => hg.block k h1 (fun e => h2 (Option.some.inj e).symm)
  exact ⟨(hk _ (lt_of_block h.e5) h.n5.1).trans h.e5, (hk _ (lt_of_block h.e6) h.n5.2).trans h.e6, h.rn.keep (hk _ (lt_of_block h.rn.1) h.nn), (hk _ (lt_of_block h.ec) h.nc).trans h.ec, (hk _ (lt_of_block h.en) h.np).trans h.en, hr,
    h.big.grown hg h.big.size (fun k hk => by obtain rfl := Option.some.inj hk; exact h.lx), h.l5, h.n5, h.nn, h.nc, h.np, h.lx⟩
theorem PF.puts (h : PF w wr p5 gn p12 gx pn x y zs nx) : PutS wr pn p5 gx nx := ⟨h.en, h.e5, h.e6, h.rx⟩
theorem PF.cells (h : PF w wr p5 gn p12 gx pn x y zs nx) : wr.cell? ⟨p5, 0, none⟩ = some (.int .i64 0) ∧ wr.cell? ⟨p12, 0, none⟩ = some (.int .i64 (x : Int)) ∧ wr.cell? ⟨p12, 1, none⟩ = some (.int .i64 (y : Int)) ∧ wr.cell? ⟨pn, 0, none⟩ = some (.slice (some ⟨gx, 0, none⟩) 256 256) :=
  ⟨cell_of_one h.e5, by rw [blk_cell h.ec]; rfl, by rw [blk_cell h.ec]; rfl, cell_of_one h.en⟩
end
end Go.Proofs.Ytiecphhenpapoaa

namespace Go.Proofs.Ytiecphhenpapoaa
open Go.RowKit
set_option linter.unusedVariables false

theorem shl_p (x : Nat) (hx : x ≤ 7) : wrap64 ((2 : Int) ^ x) = ((2 ^ x : Nat) : Int) := by
  have h : (2 ^ x : Nat) ≤ 2 ^ 7 := Nat.pow_le_pow_right (by omega) hx
  have e : ((2 : Int) ^ x) = ((2 ^ x : Nat) : Int) := by simp
  rw [e]
  generalize (2 ^ x : Nat) = p at *
  simp at h
  unfold wrap64
  omega

structure PB (w wr : World) (p5 gn : Nat) (zs : List Int) : Prop where
  e5 : wr.heap[p5]? = some (.cells #[.int .i64 0] 3 (0, 0))
  e6 : wr.heap[p5 + 1]? = some (.cells #[fn1] 22 (0, 0))
  rn : Row256 wr gn zs
  big : Below w.heap.size w wr
  l5 : w.heap.size ≤ p5
  ln : p5 + 1 < gn
section
variable {w wr w1 : World} {p5 gn : Nat} {zs : List Int}
theorem PB.below (h : PB w wr p5 gn zs) (hb : Below wr.heap.size wr w1) : PB w w1 p5 gn zs :=
  ⟨blk_below h.e5 hb, blk_below h.e6 hb, h.rn.keep (hb.block _ (lt_of_block h.rn.1)), h.big.trans (hb.mono h.big.size), h.l5, h.ln⟩
theorem PB.set (h : PB w wr p5 gn zs) (k : Nat) (z : Int) : PB w (wr.setCell ⟨gn, k, none⟩ (.int .i64 z)) p5 gn (zs.set k z) := by
  have hl := h.ln
  have hl5 := h.l5
  have hk : ∀ j, j ≠ gn → (wr.setCell ⟨gn, k, none⟩ (.int .i64 z)).heap[j]? = wr.heap[j]? := fun j hj => Below.heap_setCell _ _ _ _ hj
  exact ⟨(hk _ (by omega)).trans h.e5, (hk _ (by omega)).trans h.e6, h.rn.set k z, h.big.setCell (by show w.heap.size ≤ gn; omega) _, h.l5, h.ln⟩
theorem PB.drew (h : PB w wr p5 gn zs) : PB w wr.drew p5 gn zs := h.below (Below.refl _ _).drew
end

set_option maxRecDepth 100000 in
set_option maxHeartbeats 8000000 in
theorem profile_any (T : Nat) (hT : T < 18446744073709551616) (w : World) :
    Calls Try.prog 190 #[.int .u64 (T : Int), .int .i64 0, fn1, fn2] w fun e w' => e = .returned (.int .i64 (profZ T)) ∧ Below w.heap.size w w' := by
  obtain ⟨pf, HPF⟩ : ∃ pf : Nat → List Int, Hid (pf = profTo T) := ⟨_, rfl⟩
  obtain ⟨z0, HZ0⟩ : ∃ z : List Int, Hid (z = zeros) := ⟨_, rfl⟩
  have HPS : Hid (∀ i, pf (i + 1) = stepTo (hasC T (i % 8) (i / 8)) (hasC T (i % 8) (i / 8 + 1)) (hasC T (i % 8 + 1) (i / 8)) (i % 8) (pf i) 256) := by rw [HPF.out]; exact fun i => rfl
  have HPW : Hid (∀ i, WOk (pf i)) := by rw [HPF.out]; exact WOk.prof T
  have HP00 : Hid (pf 0 = z0.set 0 1) := by rw [HPF.out, HZ0.out]; rfl
  have HFZ : Hid (∀ r, pf 64 = r → profZ T = el r 0) := by rw [HPF.out]; exact fun r h => by rw [← h]; rfl
  have HST0 : Hid (∀ (h b r : Bool) (x : Nat) (zs : List Int), stepTo h b r x zs 0 = z0) := by rw [HZ0.out]; exact fun _ _ _ _ _ => rfl
  have HZL : Hid (z0.length = 256) := by rw [HZ0.out]; exact zeros_len
  have HZS0 : Hid (∀ k, z0.set k 0 = z0) := by rw [HZ0.out]; exact zeros_set
  obtain ⟨res, HRES⟩ : ∃ r, Hid (profZ T = r) := ⟨_, rfl⟩
  rw [HRES.out] at HFZ ⊢
  have hmk : ∀ w : World, (Instr.makeSlice 32 (.int .i64 256) (.int .i64 256)).run Try.prog w = .ok (.slice (some ⟨w.heap.size, 0, none⟩) 256 256) (w.alloc (.cells (madeCells #[.int .i64 0] 256) 3)) := fun _ => by kernel_rfl
  have hmf : ∀ (fn : Fn) (first cap : Array Value) (w : World), (Instr.makeFunc fn first cap).run Try.prog w = .ok (.func fn first cap) w := fun _ _ _ _ => rfl
  rw [made256, ← HZ0.out] at hmk
  clear HPF HZ0 HRES
  go_enter Try.func190, Try.ntmps190
  go_wp2_with fail
  obtain ⟨W, hW, k0, k1, k2, hb0⟩ := three_alloc w (.cells #[.int .i64 0] 3) (.cells #[fn1] 22) (.cells (rwC z0) 3)
  rw [← hW]
  have HP0 : Hid (PB w W w.heap.size (w.heap.size + 2) z0) := ⟨k0, k1, ⟨k2, HZL.out⟩, hb0, Nat.le_refl _, by omega⟩
  clear hW k0 k1 k2 hb0
  go_loopw [22] (fun s wr => ∃ k : Nat, k ≤ 256 ∧ s = .int .i64 k ∧ Hid (PB w wr w.heap.size (w.heap.size + 2) z0)) (fun s _ => 256 - (intOf s).toNat)
  case atStart => exact ⟨0, Nat.zero_le _, rfl, HP0⟩
  case round =>
    obtain ⟨k, hk, rfl, HP⟩ := hrel
    have c5 : wr.cell? ⟨w.heap.size, 0, none⟩ = some (.int .i64 0) := cell_of_one HP.out.e5
    by_cases hlt : k < 256
    · have ht : decide ((k : Int) < 256) = true := by simp only [decide_eq_true_eq]; omega
      have hk0 : (0 : Int) ≤ (k : Int) := by omega
      have hk1 : (k : Int) < 256 := by omega
      have cr : wr.cell? ⟨w.heap.size + 1 + 1, k, none⟩ = _ := HP.out.rn.cell hlt
      have fr : wr.frozen? ⟨w.heap.size + 1 + 1, k, none⟩ = false := HP.out.rn.free k
      have HP2 := Lib.hid (HP.out.set k 0)
      rw [HZS0.out] at HP2
      go_wp2_with fail
      go_roundw
      case rel => exact ⟨k + 1, by omega, by go_num, HP2⟩
      case measure => simp [intOf]; omega
    · have ht : decide ((k : Int) < 256) = false := by simp only [decide_eq_false_iff_not]; omega
      have HP1 : Hid (PB w wr w.heap.size (w.heap.size + 2) z0) := HP
      clear hk hlt
      go_wp2_with fail
      refine (count2_any _ _ _ _ _).mono ?_
      rintro e w2 ⟨rfl, hb2⟩
      have HP2 := Lib.hid (HP1.out.below hb2)
      have fr2 : w2.frozen? ⟨w.heap.size + 1 + 1, 0, none⟩ = false := HP2.out.rn.free 0
      have cr2 : w2.cell? ⟨w.heap.size + 1 + 1, 0, none⟩ = _ := HP2.out.rn.cell (k := 0) (by omega)
      have HP3 : Hid (PB w (w2.setCell ⟨w.heap.size + 2, 0, none⟩ (.int .i64 1)) w.heap.size (w.heap.size + 2) (pf 0)) := by rw [HP00.out]; exact HP2.out.set 0 1
      clear c5 hb2 HP HP1
      go_wp2_with fail
      go_loopw [9, 36] (fun v s wr => ∃ (i gn : Nat), i ≤ 64 ∧ s = .int .i64 i ∧ v = .slice (some ⟨gn, 0, none⟩) 256 256 ∧ Hid (PB w wr w.heap.size gn (pf i))) (fun _ s _ => 64 - (intOf s).toNat)
      case atStart => exact ⟨0, _, Nat.zero_le _, rfl, rfl, HP3⟩
      case round =>
        obtain ⟨i, gn, hi, rfl, rfl, HQ⟩ := hrel
        by_cases hli : i < 64
        · have hti : decide ((i : Int) < 64) = true := by simp only [decide_eq_true_eq]; omega
          have HS := Lib.hid (HPS.out i)
          have HWO := Lib.hid (HPW.out i)
          have hx7 : i % 8 ≤ 7 := by omega
          have hy7 : i / 8 ≤ 7 := by omega
          go_wp2_with fail
          refine (cellAt_any i (by omega) _).mono ?_
          rintro e w1 ⟨rfl, hb1⟩
          have HQ1 := Lib.hid (HQ.out.below hb1)
          obtain ⟨zs, HZS⟩ : ∃ zs, Hid (pf i = zs) := ⟨_, rfl⟩
          obtain ⟨zs2, HZS2⟩ : ∃ zs, Hid (pf (i + 1) = zs) := ⟨_, rfl⟩
          rw [HZS.out] at HQ1 HS HWO
          rw [HZS2.out] at HS
          generalize i % 8 = x at *
          generalize i / 8 = y at *
          clear hb1 HQ
          go_wp2_with fail
          obtain ⟨W2, hW2, q0, q1, q2, hb2⟩ := three_alloc w1 (.cells #[.int .i64 (x : Int), .int .i64 (y : Int)] 56) (.cells (rwC z0) 3) (.cells #[.slice (some ⟨w1.heap.size + 1, 0, none⟩) 256 256] 32)
          rw [← hW2]
          have HF0 : Hid (PF w W2 w.heap.size gn w1.heap.size (w1.heap.size + 1) (w1.heap.size + 2) x y zs z0) := by
            have h := HQ1.out.below hb2
            have l1 := lt_of_block HQ1.out.e6
            have l2 := lt_of_block HQ1.out.rn.1
            have l3 := HQ1.out.big.size
            exact ⟨h.e5, h.e6, h.rn, q0, q2, ⟨q1, HZL.out⟩, h.big, Nat.le_refl _, by omega, by omega, by omega, by omega, by omega⟩
          clear hW2 q0 q1 q2 hb2 HQ1
          generalize w1.heap.size = n1 at *
          go_loopw [44] (fun s wr => ∃ k : Nat, k ≤ 256 ∧ s = .int .i64 k ∧ Hid (PF w wr w.heap.size gn n1 (n1 + 1) (n1 + 2) x y zs z0)) (fun s _ => 256 - (intOf s).toNat)
          case atStart => exact ⟨0, Nat.zero_le _, rfl, HF0⟩
          case round =>
            obtain ⟨k, hk, rfl, HF⟩ := hrel
            obtain ⟨f1, f2, f3, f4⟩ := HF.out.cells
            by_cases hlt : k < 256
            · have ht : decide ((k : Int) < 256) = true := by simp only [decide_eq_true_eq]; omega
              have hk0 : (0 : Int) ≤ (k : Int) := by omega
              have hk1 : (k : Int) < 256 := by omega
              have cr := HF.out.rx.cell hlt
              have fr := HF.out.rx.free k
              have HF2 := Lib.hid (HF.out.put (HF.out.rx.set k 0) (grownBy_set _ _ _ _))
              rw [HZS0.out] at HF2
              go_wp2_with fail
              go_roundw
              case rel => exact ⟨k + 1, by omega, by go_num, HF2⟩
              case measure => simp [intOf]; omega
            · have ht : decide ((k : Int) < 256) = false := by simp only [decide_eq_false_iff_not]; omega
              clear hk hlt
              obtain ⟨wb, HWB⟩ : ∃ wb, Hid (wb = wr) := ⟨_, rfl⟩
              obtain ⟨h, HH⟩ : ∃ h, Hid (hasC T x y = h) := ⟨_, rfl⟩
              obtain ⟨b, HB⟩ : ∃ h, Hid (hasC T x (y + 1) = h) := ⟨_, rfl⟩
              obtain ⟨r, HR⟩ : ∃ h, Hid (hasC T (x + 1) y = h) := ⟨_, rfl⟩
              have HR7 : Hid (r = true → x < 7) := fun e => by have h9 := HR.out; rw [e] at h9; unfold hasC at h9; simp only [Bool.and_eq_true, decide_eq_true_eq] at h9; omega
              rw [HH.out, HB.out, HR.out] at HS
              obtain ⟨st, HST⟩ : ∃ st : Nat → List Int, Hid (st = stepTo h b r x zs) := ⟨_, rfl⟩
              have HSIN : Hid (∀ k, st (k + 1) = inZ h b r x (el zs k) k (st k)) := by rw [HST.out]; exact fun k => rfl
              have HF3 : Hid (PF w wb w.heap.size gn n1 (n1 + 1) (n1 + 2) x y zs (st 0)) := by rw [HWB.out, HST.out, HST0.out]; exact HF.out
              rw [← HST.out] at HS
              clear HST
              have HP := Lib.hid (shl_p x hx7)
              obtain ⟨p, HPP⟩ : ∃ p : Nat, Hid ((2 : Nat) ^ x = p) := ⟨_, rfl⟩
              rw [HPP.out] at HP
              have HBT := Lib.hid (fun (k : Nat) (hk : k < 256) => bits_at k x hk hx7)
              rw [HPP.out] at HBT
              go_wp2_with fail
              rw [← HWB.out, HP.out]
              clear HF f1 f2 f3 f4 HP
              go_loopw [58] (fun s wr => ∃ k : Nat, k ≤ 256 ∧ s = .int .i64 k ∧ Hid (PF w wr w.heap.size gn n1 (n1 + 1) (n1 + 2) x y zs (st k))) (fun s _ => 256 - (intOf s).toNat)
              case atStart => exact ⟨0, Nat.zero_le _, rfl, HF3⟩
              case round =>
                obtain ⟨k, hk, rfl, HF4⟩ := hrel
                obtain ⟨f1, f2, f3, f4⟩ := HF4.out.cells
                by_cases hlt : k < 256
                · have ht : decide ((k : Int) < 256) = true := by simp only [decide_eq_true_eq]; omega
                  have hk0 : (0 : Int) ≤ (k : Int) := by omega
                  have hk1 : (k : Int) < 256 := by omega
                  have cr := HF4.out.rn.cell hlt
                  have HN := Lib.hid (HWO.out k)
                  have HIN := Lib.hid (HSIN.out k)
                  obtain ⟨b1, b2, b3, b4, b5⟩ := HBT.out k hlt
                  have HB2 := Lib.hid b2; have HB3 := Lib.hid b3; have HB5 := Lib.hid b5
                  clear b2 b3 b4 b5
                  generalize st k = nx at *
                  generalize el zs k = n at *
                  by_cases hn0 : n = 0
                  · have t0 : (n == 0) = true := by simp [hn0]
                    have HF5 : Hid (PF w wr w.heap.size gn n1 (n1 + 1) (n1 + 2) x y zs (st (k + 1))) := by rw [HIN.out, inZ, if_pos hn0]; exact HF4.out
                    clear hn0 b1
                    go_wp2_with fail
                    go_roundw
                    case rel => exact ⟨k + 1, by omega, by go_num, HF5⟩
                    case measure => simp [intOf]; omega
                  · have t0 : (n == 0) = false := by rw [beq_eq_false_iff_ne]; exact hn0
                    cases h
                    · cases hb : k.testBit x
                      · rw [hb] at b1
                        have b1' : (bits .and .i64 (k : Int) (p : Int) == 0) = true := b1
                        have HX : Hid (st (k + 1) = putZ nx k n) := by unfold Hid; rw [HIN.out, inZ, if_neg hn0]; simp [hb]
                        clear b1 hn0
                        go_wp2_with fail
                        refine (has_any T x y hT (by omega) (by omega) _).mono ?_
                        rintro e w5 ⟨rfl, hb5⟩
                        rw [HH.out]
                        have HF5 := Lib.hid (HF4.out.below hb5)
                        clear f1 f2 f3 f4 hb5
                        obtain ⟨f1, f2, f3, f4⟩ := HF5.out.cells
                        go_wp2_with fail
                        refine (put_any k hlt n HN.out _ _ _ _ _ HF5.out.puts).mono ?_
                        rintro e w6 ⟨rfl, hr6, hg6⟩
                        have HF6 := Lib.hid (HF5.out.put hr6 hg6)
                        clear f1 f2 f3 f4 hr6 hg6
                        obtain ⟨f1, f2, f3, f4⟩ := HF6.out.cells
                        have HF7 : Hid (PF w w6 w.heap.size gn n1 (n1 + 1) (n1 + 2) x y zs (st (k + 1))) := by rw [HX.out]; exact HF6.out
                        go_wp2_with fail
                        go_roundw
                        case rel => exact ⟨k + 1, by omega, by go_num, HF7⟩
                        case measure => simp [intOf]; omega
                      · rw [hb] at b1
                        have b1' : (bits .and .i64 (k : Int) (p : Int) == 0) = false := b1
                        have HX : Hid (st (k + 1) = nx) := by unfold Hid; rw [HIN.out, inZ, if_neg hn0]; simp [hb]
                        clear b1 hn0
                        go_wp2_with fail
                        refine (has_any T x y hT (by omega) (by omega) _).mono ?_
                        rintro e w5 ⟨rfl, hb5⟩
                        rw [HH.out]
                        have HF5 := Lib.hid (HF4.out.below hb5)
                        clear f1 f2 f3 f4 hb5
                        obtain ⟨f1, f2, f3, f4⟩ := HF5.out.cells
                        go_wp2_with fail
                        refine (has_any T x y hT (by omega) (by omega) _).mono ?_
                        rintro e w6 ⟨rfl, hb6⟩
                        rw [HH.out]
                        have HF6 := Lib.hid (HF5.out.below hb6)
                        clear f1 f2 f3 f4 hb6
                        obtain ⟨f1, f2, f3, f4⟩ := HF6.out.cells
                        go_wp2_with fail
                        refine (has_any T x y hT (by omega) (by omega) _).mono ?_
                        rintro e w7 ⟨rfl, hb7⟩
                        rw [HH.out]
                        have HF7 := Lib.hid (HF6.out.below hb7)
                        clear f1 f2 f3 f4 hb7
                        obtain ⟨f1, f2, f3, f4⟩ := HF7.out.cells
                        have HF8 : Hid (PF w w7 w.heap.size gn n1 (n1 + 1) (n1 + 2) x y zs (st (k + 1))) := by rw [HX.out]; exact HF7.out
                        go_wp2_with fail
                        go_roundw
                        case rel => exact ⟨k + 1, by omega, by go_num, HF8⟩
                        case measure => simp [intOf]; omega
                    · cases hb : k.testBit x
                      · rw [hb] at b1
                        have b1' : (bits .and .i64 (k : Int) (p : Int) == 0) = true := b1
                        have b2' : (bits .and .i64 (k : Int) (p : Int) != 0) = false := by unfold bne; rw [b1']; rfl
                        clear b1
                        go_wp2_with fail
                        refine (has_any T x y hT (by omega) (by omega) _).mono ?_
                        rintro e w5 ⟨rfl, hb5⟩
                        rw [HH.out]
                        have HF5 := Lib.hid (HF4.out.below hb5)
                        clear f1 f2 f3 f4 hb5
                        obtain ⟨f1, f2, f3, f4⟩ := HF5.out.cells
                        go_wp2_with fail
                        refine (has_any T x y hT (by omega) (by omega) _).mono ?_
                        rintro e w6 ⟨rfl, hb6⟩
                        rw [HH.out]
                        have HF6 := Lib.hid (HF5.out.below hb6)
                        clear f1 f2 f3 f4 hb6
                        obtain ⟨f1, f2, f3, f4⟩ := HF6.out.cells
                        go_wp2_with fail
                        refine (has_any T x y hT (by omega) (by omega) _).mono ?_
                        rintro e w7 ⟨rfl, hb7⟩
                        rw [HH.out]
                        have HF7 := Lib.hid (HF6.out.below hb7)
                        clear f1 f2 f3 f4 hb7
                        obtain ⟨f1, f2, f3, f4⟩ := HF7.out.cells
                        have HX : Hid (st (k + 1) = if r && !k.testBit (x + 1) then putZ (if b then putZ nx (k ||| p) n else nx) (k ||| 2 ^ (x + 1)) n else if b then putZ nx (k ||| p) n else nx) := by unfold Hid; rw [HIN.out, inZ, if_neg hn0]; simp only [hb, if_true, HPP.out]; rfl
                        have HY1 : Hid ((y : Int) + 1 = ((y + 1 : Nat) : Int)) := by unfold Hid; omega
                        have HX1 : Hid ((x : Int) + 1 = ((x + 1 : Nat) : Int)) := by unfold Hid; omega
                        clear hn0
                        go_wp2_with fail
                        rw [HY1.out]
                        refine (has_any T x (y + 1) hT (by omega) (by omega) _).mono ?_
                        rintro e w8 ⟨rfl, hb8⟩
                        rw [HB.out]
                        have HF8 := Lib.hid (HF7.out.below hb8)
                        clear f1 f2 f3 f4 hb8
                        obtain ⟨f1, f2, f3, f4⟩ := HF8.out.cells
                        have HTAIL : True := trivial
                        cases b
                        · skip
                          have HX2 : Hid (st (k + 1) = if r && !k.testBit (x + 1) then putZ nx (k ||| 2 ^ (x + 1)) n else nx) := HX.out
                          clear HX
                          go_wp2_with fail
                          rw [HX1.out]
                          refine (has_any T (x + 1) y hT (by omega) (by omega) _).mono ?_
                          rintro e w9 ⟨rfl, hb9⟩
                          rw [HR.out]
                          have HF9 := Lib.hid (HF8.out.below hb9)
                          clear f1 f2 f3 f4 hb9
                          obtain ⟨f1, f2, f3, f4⟩ := HF9.out.cells
                          cases r
                          · have HE : Hid (PF w w9 w.heap.size gn n1 (n1 + 1) (n1 + 2) x y zs (st (k + 1))) := by rw [HX2.out]; exact HF9.out
                            go_wp2_with fail
                            go_roundw
                            case rel => exact ⟨k + 1, by omega, by go_num, HE⟩
                            case measure => simp [intOf]; omega
                          · have hx6 := HR7.out rfl
                            have hp1 : 1 ≤ p := by rw [← HPP.out]; exact Nat.one_le_two_pow
                            have hp2 : p ≤ 64 := by rw [← HPP.out]; exact Nat.pow_le_pow_right (n := 2) (by omega) (show x ≤ 6 by omega)
                            obtain ⟨q1, _, q3, _, q5⟩ := bits_at k (x + 1) hlt (by omega)
                            rw [show ((2 ^ (x + 1) : Nat) : Int) = (p : Int) * 2 by rw [← HPP.out, Nat.pow_succ]; simp] at q1 q3
                            have HQ3 := Lib.hid q3
                            have HQ5 := Lib.hid q5
                            clear q3 q5
                            cases hb2 : k.testBit (x + 1)
                            · rw [hb2] at q1 HX2
                              have q1' : (bits .and .i64 (k : Int) ((p : Int) * 2) == 0) = true := q1
                              clear q1
                              go_wp2_with fail
                              refine (count2_any _ _ _ _ _).mono ?_
                              rintro e w10 ⟨rfl, hb10⟩
                              rw [if_neg (show ¬ (x : Int) < 0 by omega)]
                              have HF10 := Lib.hid (HF9.out.below hb10)
                              clear f1 f2 f3 f4 hb10
                              obtain ⟨f1, f2, f3, f4⟩ := HF10.out.cells
                              go_wp2_with fail
                              rw [HQ3.out]
                              refine (put_any (k ||| 2 ^ (x + 1)) HQ5.out n HN.out _ _ _ _ _ HF10.out.puts).mono ?_
                              rintro e w11 ⟨rfl, hr11, hg11⟩
                              have HF11 := Lib.hid (HF10.out.put hr11 hg11)
                              clear f1 f2 f3 f4 hr11 hg11
                              obtain ⟨f1, f2, f3, f4⟩ := HF11.out.cells
                              have HE : Hid (PF w w11 w.heap.size gn n1 (n1 + 1) (n1 + 2) x y zs (st (k + 1))) := by rw [HX2.out]; exact HF11.out
                              go_wp2_with fail
                              go_roundw
                              case rel => exact ⟨k + 1, by omega, by go_num, HE⟩
                              case measure => simp [intOf]; omega
                            · rw [hb2] at q1 HX2
                              have q1' : (bits .and .i64 (k : Int) ((p : Int) * 2) == 0) = false := q1
                              clear q1
                              have HE : Hid (PF w w9 w.heap.size gn n1 (n1 + 1) (n1 + 2) x y zs (st (k + 1))) := by rw [HX2.out]; exact HF9.out
                              go_wp2_with fail
                              go_roundw
                              case rel => exact ⟨k + 1, by omega, by go_num, HE⟩
                              case measure => simp [intOf]; omega
                        · skip
                          go_wp2_with fail
                          refine (count2_any _ _ _ _ _).mono ?_
                          rintro e w9 ⟨rfl, hb9⟩
                          rw [if_neg (show ¬ (x : Int) < 0 by omega)]
                          have HF9 := Lib.hid (HF8.out.below hb9)
                          clear f1 f2 f3 f4 hb9
                          obtain ⟨f1, f2, f3, f4⟩ := HF9.out.cells
                          go_wp2_with fail
                          rw [HB3.out]
                          refine (put_any (k ||| p) HB5.out n HN.out _ _ _ _ _ HF9.out.puts).mono ?_
                          rintro e w10 ⟨rfl, hr10, hg10⟩
                          have HF10 := Lib.hid (HF9.out.put hr10 hg10)
                          clear f1 f2 f3 f4 hr10 hg10
                          obtain ⟨f1, f2, f3, f4⟩ := HF10.out.cells
                          have HX2 : Hid (st (k + 1) = if r && !k.testBit (x + 1) then putZ (putZ nx (k ||| p) n) (k ||| 2 ^ (x + 1)) n else (putZ nx (k ||| p) n)) := HX.out
                          clear HX
                          go_wp2_with fail
                          rw [HX1.out]
                          refine (has_any T (x + 1) y hT (by omega) (by omega) _).mono ?_
                          rintro e w11 ⟨rfl, hb11⟩
                          rw [HR.out]
                          have HF11 := Lib.hid (HF10.out.below hb11)
                          clear f1 f2 f3 f4 hb11
                          obtain ⟨f1, f2, f3, f4⟩ := HF11.out.cells
                          cases r
                          · have HE : Hid (PF w w11 w.heap.size gn n1 (n1 + 1) (n1 + 2) x y zs (st (k + 1))) := by rw [HX2.out]; exact HF11.out
                            go_wp2_with fail
                            go_roundw
                            case rel => exact ⟨k + 1, by omega, by go_num, HE⟩
                            case measure => simp [intOf]; omega
                          · have hx6 := HR7.out rfl
                            have hp1 : 1 ≤ p := by rw [← HPP.out]; exact Nat.one_le_two_pow
                            have hp2 : p ≤ 64 := by rw [← HPP.out]; exact Nat.pow_le_pow_right (n := 2) (by omega) (show x ≤ 6 by omega)
                            obtain ⟨q1, _, q3, _, q5⟩ := bits_at k (x + 1) hlt (by omega)
                            rw [show ((2 ^ (x + 1) : Nat) : Int) = (p : Int) * 2 by rw [← HPP.out, Nat.pow_succ]; simp] at q1 q3
                            have HQ3 := Lib.hid q3
                            have HQ5 := Lib.hid q5
                            clear q3 q5
                            cases hb2 : k.testBit (x + 1)
                            · rw [hb2] at q1 HX2
                              have q1' : (bits .and .i64 (k : Int) ((p : Int) * 2) == 0) = true := q1
                              clear q1
                              go_wp2_with fail
                              refine (count2_any _ _ _ _ _).mono ?_
                              rintro e w12 ⟨rfl, hb12⟩
                              rw [if_neg (show ¬ (x : Int) < 0 by omega)]
                              have HF12 := Lib.hid (HF11.out.below hb12)
                              clear f1 f2 f3 f4 hb12
                              obtain ⟨f1, f2, f3, f4⟩ := HF12.out.cells
                              go_wp2_with fail
                              rw [HQ3.out]
                              refine (put_any (k ||| 2 ^ (x + 1)) HQ5.out n HN.out _ _ _ _ _ HF12.out.puts).mono ?_
                              rintro e w13 ⟨rfl, hr13, hg13⟩
                              have HF13 := Lib.hid (HF12.out.put hr13 hg13)
                              clear f1 f2 f3 f4 hr13 hg13
                              obtain ⟨f1, f2, f3, f4⟩ := HF13.out.cells
                              have HE : Hid (PF w w13 w.heap.size gn n1 (n1 + 1) (n1 + 2) x y zs (st (k + 1))) := by rw [HX2.out]; exact HF13.out
                              go_wp2_with fail
                              go_roundw
                              case rel => exact ⟨k + 1, by omega, by go_num, HE⟩
                              case measure => simp [intOf]; omega
                            · rw [hb2] at q1 HX2
                              have q1' : (bits .and .i64 (k : Int) ((p : Int) * 2) == 0) = false := q1
                              clear q1
                              have HE : Hid (PF w w11 w.heap.size gn n1 (n1 + 1) (n1 + 2) x y zs (st (k + 1))) := by rw [HX2.out]; exact HF11.out
                              go_wp2_with fail
                              go_roundw
                              case rel => exact ⟨k + 1, by omega, by go_num, HE⟩
                              case measure => simp [intOf]; omega
                      · rw [hb] at b1
                        have b1' : (bits .and .i64 (k : Int) (p : Int) == 0) = false := b1
                        have b2' : (bits .and .i64 (k : Int) (p : Int) != 0) = true := by unfold bne; rw [b1']; rfl
                        have HAN := Lib.hid (HB2.out hb)
                        have HX : Hid (st (k + 1) = putZ nx (k - p) n) := by unfold Hid; rw [HIN.out, inZ, if_neg hn0]; simp [hb, HPP.out]
                        clear b1 hn0
                        go_wp2_with fail
                        refine (has_any T x y hT (by omega) (by omega) _).mono ?_
                        rintro e w5 ⟨rfl, hb5⟩
                        rw [HH.out]
                        have HF5 := Lib.hid (HF4.out.below hb5)
                        clear f1 f2 f3 f4 hb5
                        obtain ⟨f1, f2, f3, f4⟩ := HF5.out.cells
                        go_wp2_with fail
                        refine (has_any T x y hT (by omega) (by omega) _).mono ?_
                        rintro e w6 ⟨rfl, hb6⟩
                        rw [HH.out]
                        have HF6 := Lib.hid (HF5.out.below hb6)
                        clear f1 f2 f3 f4 hb6
                        obtain ⟨f1, f2, f3, f4⟩ := HF6.out.cells
                        go_wp2_with fail
                        rw [HAN.out]
                        refine (put_any (k - p) (by omega) n HN.out _ _ _ _ _ HF6.out.puts).mono ?_
                        rintro e w7 ⟨rfl, hr7, hg7⟩
                        have HF7 := Lib.hid (HF6.out.put hr7 hg7)
                        have HF8 : Hid (PF w w7 w.heap.size gn n1 (n1 + 1) (n1 + 2) x y zs (st (k + 1))) := by rw [HX.out]; exact HF7.out
                        clear f1 f2 f3 f4 hr7 hg7
                        obtain ⟨f1, f2, f3, f4⟩ := HF7.out.cells
                        go_wp2_with fail
                        go_roundw
                        case rel => exact ⟨k + 1, by omega, by go_num, HF8⟩
                        case measure => simp [intOf]; omega
                · have ht : decide ((k : Int) < 256) = false := by simp only [decide_eq_false_iff_not]; omega
                  obtain rfl : k = 256 := by omega
                  rw [← HS.out] at HF4
                  have HFN : Hid (PB w wr w.heap.size (n1 + 1) (pf (i + 1))) := by
                    have h := HF4.out
                    rw [HZS2.out]
                    exact ⟨h.e5, h.e6, h.rx, h.big, h.l5, by have := h.lx; have := h.n5; have := h.l5; omega⟩
                  go_wp2_with fail
                  go_roundw
                  case rel => exact ⟨i + 1, _, by omega, by go_num, rfl, HFN⟩
                  case measure => simp [intOf]; omega
        · have hti : decide ((i : Int) < 64) = false := by simp only [decide_eq_false_iff_not]; omega
          obtain rfl : i = 64 := by omega
          have cq := HQ.out.rn.cell (k := 0) (by omega)
          have HF : Hid (el (pf 64) 0 = res) := (HFZ.out _ rfl).symm
          go_wp2_with fail
          go_ret
          exact ⟨ret_int HF.out, HQ.out.big⟩
end Go.Proofs.Ytiecphhenpapoaa
