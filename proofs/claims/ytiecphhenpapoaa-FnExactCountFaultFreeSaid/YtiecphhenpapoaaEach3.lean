/- The program's each, for CountFaultFree; CountFaultFree. -/
import Derived.Test.YtiecphhenpapoaaEach2
import Derived.Test.YtiecphhenpapoaaFltP
import Derived.StillTailTactics
import Derived.Laws.EntriesVeiled
namespace Go.Proofs.Ytiecphhenpapoaa
open Go.RowKit
set_option linter.unusedVariables false

/-- How many cells a set has. -/
def bitsN (s : Nat) : Nat := (List.range 64).countP fun j => s.testBit j
theorem countP_lt' {p q : Nat → Bool} : ∀ (l : List Nat) (x : Nat), (∀ y ∈ l, p y = true → q y = true) → x ∈ l → q x = true → p x = false → l.countP p < l.countP q
  | y :: l, x, h, hx, h1, h2 => by
    have hle : l.countP p ≤ l.countP q := List.countP_mono_left fun z hz hp => h z (List.mem_cons_of_mem _ hz) hp
    rcases List.mem_cons.1 hx with rfl | hx
    · rw [List.countP_cons, List.countP_cons, h1, h2]; simp; omega
    · have := countP_lt' l x (fun z hz => h z (List.mem_cons_of_mem _ hz)) hx h1 h2
      have h3 := h y (by simp)
      rw [List.countP_cons, List.countP_cons]
      cases hp : p y
      · simp; omega
      · rw [h3 hp]; simp; omega
theorem minN_bit (s m j : Nat) (hm : m < 18446744073709551616) (hj : j < 64) : (minN s m).testBit j = (s.testBit j && !m.testBit j) := by
  unfold minN
  rw [Nat.testBit_and]
  have h := Nat.testBit_two_pow_sub_succ (x := m) (n := 64) (by simpa using hm) j
  rw [show 2 ^ 64 - (m + 1) = 18446744073709551615 - m by omega] at h
  rw [h]
  simp [hj]
theorem minN_lt (s m : Nat) (hs : s < 18446744073709551616) : minN s m < 18446744073709551616 := Nat.lt_of_le_of_lt Nat.and_le_left hs
theorem dOf_bit (f : Nat) (dn : Bool) : (dM (dOf f dn)).testBit f = true := by
  have h : cix (f % 8) (f / 8) = f := by unfold cix; omega
  unfold dM dOf domM
  simp only [Int.toNat_natCast, h, Nat.testBit_or, Nat.testBit_two_pow_self, Bool.true_or]
theorem bits_less {s : Nat} (hs : s ≠ 0) (hl : s < 18446744073709551616) {dn : Bool} (hf : fitB s (dOf (fstN s) dn) = true) : bitsN (minN s (dM (dOf (fstN s) dn))) < bitsN s := by
  obtain ⟨h1, h2, _⟩ := fstN_spec hs hl
  have hd : domL (dOf (fstN s) dn) = true := by unfold fitB at hf; simp only [Bool.and_eq_true] at hf; exact hf.1
  have hm := dM_lt hd
  refine countP_lt' _ (fstN s) (fun y hy hp => ?_) (by simpa using h2) h1 ?_
  · rw [minN_bit _ _ _ hm (by simpa using hy)] at hp
    simp only [Bool.and_eq_true] at hp
    exact hp.1
  · rw [minN_bit _ _ _ hm h2, dOf_bit]; simp
theorem each_all (w0 : World) (n0 n a b : Nat) : ∀ (d s : Nat) (hd : List Lk), bitsN s < d → s < 18446744073709551616 → hd.length + bitsN s ≤ 100 → EachAt w0 n0 n a b d s hd
  | 0, s, hd, h, _, _ => absurd h (by omega)
  | d + 1, s, hd, h, hl, hh => by
    by_cases hs : s = 0
    · subst hs; exact each_end w0 n0 n a b d hd
    · refine each_step w0 n0 n a b d s hd hs hl (by omega) fun dn hf => ?_
      have h1 := bits_less hs hl hf
      exact each_all w0 n0 n a b d _ _ (by omega) (minN_lt _ _ hl) (by simp; omega)

/-- What each leaves behind. -/
def EachRes (W0 : World) (n0 n a b : Nat) (z : Int) (e : Ending) (w' : World) : Prop := e = .returned (.tuple #[]) ∧ ∃ vw', CF W0 w' n0 n a b z vw' []
set_option maxRecDepth 100000 in
set_option maxHeartbeats 4000000 in
theorem eachF_any (n0 a b s : Nat) (x : Int) (w : World) (hs : s < 18446744073709551616) (hb : bitsN s ≤ 60) (h0 : w.heap[n0]? = some (.cells #[.int .i64 a] 3 (0, 0))) (h1 : w.heap[n0 + 1]? = some (.cells #[.int .i64 b] 3 (0, 0))) (h2 : w.heap[n0 + 2]? = some (.cells #[.int .i64 x] 3 (0, 0)))
    (hl : n0 + 2 < w.heap.size) (W0 : World) (hW : Below W0.heap.size W0 w) (hn : W0.heap.size ≤ n0) :
    Calls Try.prog 71 #[.int .u64 (s : Int), cbV n0] w (EachRes W0 n0 w.heap.size a b (cntE (iffB a b) 61 s [] x)) := by
  have hmf : ∀ (fn : Fn) (first cap : Array Value) (w : World), (Instr.makeFunc fn first cap).run Try.prog w = .ok (.func fn first cap) w := fun _ _ _ _ => rfl
  have HALL := Lib.hid (each_all W0 n0 w.heap.size a b 61 s [] (by omega) hs (by simp; omega))
  obtain ⟨z, HZ⟩ : ∃ z, Hid (cntE (iffB a b) 61 s [] x = z) := ⟨_, rfl⟩
  rw [HZ.out]
  have HEA : Hid (∀ wr vw, CF W0 wr n0 w.heap.size a b x vw [] → Calls Try.prog 139 #[.int .u64 (s : Int), .pointer (some ⟨w.heap.size, 0, none⟩), .pointer (some ⟨w.heap.size + 2, 0, none⟩), .pointer (some ⟨w.heap.size + 3, 0, none⟩)] wr (EPost W0 wr n0 w.heap.size a b z vw [])) := fun wr vw h => by rw [← HZ.out]; exact HALL.out wr x vw h
  clear HALL HZ
  obtain ⟨W4, hW4, q0, q1, q2, q3, hb4⟩ := four_alloc w (.cells #[cbV n0] 84) (.cells #[] 58) (.cells #[.slice (some ⟨w.heap.size + 1, 0, none⟩) 0 0] 29) (.cells #[reV w.heap.size] 140)
  have HCF : Hid (CF W0 W4 n0 w.heap.size a b x (.slice (some ⟨w.heap.size + 1, 0, none⟩) 0 0) []) := by
    have hw := hW.trans (hb4.mono hW.size)
    refine ⟨blk_below h0 hb4, blk_below h1 hb4, blk_below h2 hb4, q0, q2, q3, ⟨?_, hw, by have := hW.size; omega, by have := lt_of_block q3; omega⟩, fun g hg => ?_, hl, hn⟩
    · exact ⟨by simp, .inr ⟨_, 0, #[], rfl, Nat.le_refl _, q1, Nat.le_refl _, by simp [maxLen], by simp, by simp⟩⟩
    · simp only [Value.ownBlock, Option.some.injEq] at hg; exact .inl hg.symm
  have HWW := Lib.hid hW4
  clear h0 h1 h2 hl q0 q1 q2 q3 hb4 hW hW4 hn
  go_enter Try.func71, Try.ntmps71
  go_wp2_with fail
  have hww : W4 = (((w.alloc (.cells #[cbV n0] 84)).alloc (.cells #[] 58)).alloc (.cells #[.slice (some ⟨w.heap.size + 1, 0, none⟩) 0 0] 29)).alloc (.cells #[.func (.func 139) #[] #[.pointer (some ⟨w.heap.size, 0, none⟩), .pointer (some ⟨w.heap.size + 1 + 1, 0, none⟩), .pointer (some ⟨w.heap.size + 1 + 1 + 1, 0, none⟩)]] 140) := HWW.out
  rw [← hww]
  refine (HEA.out W4 _ HCF.out).mono ?_
  rintro e w5 ⟨rfl, vw5, h5, _⟩
  have H5 := Lib.hid h5
  clear h5 hww HWW HCF HEA
  go_wp2_with fail
  go_end0
  exact ⟨rfl, _, H5.out⟩

theorem bits_rect_tab : ((List.range 7).all fun a => (List.range 7).all fun b => decide (bitsN (setZ (rectZ a b)) ≤ 36)) = true := by decide +kernel
theorem bits_rect (a b : Nat) (ha : a ≤ 6) (hb : b ≤ 6) : bitsN (setZ (rectZ a b)) ≤ 36 := by
  have h := bits_rect_tab
  rw [List.all_eq_true] at h
  have h := h a (by simp; omega)
  rw [List.all_eq_true] at h
  have h := h b (by simp; omega)
  simpa using h
/-- What the program's CountFaultFree returns. -/
def cffI (a b : Int) : Int := if fewB a b then cntE (iffB a b) 61 (setZ (rectZ a.toNat b.toNat)) [] 0 else -1
set_option maxRecDepth 100000 in
set_option maxHeartbeats 4000000 in
theorem CountFaultFree_yes (a b : Nat) (ha : 1 ≤ a ∧ a ≤ 6) (hb : 1 ≤ b ∧ b ≤ 6) (w : World) (hf : fewB a b = true) :
    Calls Try.prog 15 #[.int .i64 (a : Int), .int .i64 (b : Int)] w fun e w' => e = .returned (.int .i64 (cntE (iffB a b) 61 (setZ (rectZ a b)) [] 0)) ∧ Below w.heap.size w w' := by
  have hmf : ∀ (fn : Fn) (first cap : Array Value) (w : World), (Instr.makeFunc fn first cap).run Try.prog w = .ok (.func fn first cap) w := fun _ _ _ _ => rfl
  have HOK := Lib.hid (rectZ_ok a b (by omega) (by omega))
  have HRT := Lib.hid (Rectangle_yes a b (by omega) (by omega))
  have HBT := Lib.hid (bits_rect a b ha.2 hb.2)
  obtain ⟨zs, HZS⟩ : ∃ zs, Hid (rectZ a b = zs) := ⟨_, rfl⟩
  rw [HZS.out] at HOK HRT HBT ⊢
  have HSL := Lib.hid (setZ_lt HOK.out)
  obtain ⟨s, HS⟩ : ∃ s, Hid (setZ zs = s) := ⟨_, rfl⟩
  rw [HS.out] at HBT HSL ⊢
  obtain ⟨z, HZ⟩ : ∃ z, Hid (cntE (iffB a b) 61 s [] 0 = z) := ⟨_, rfl⟩
  rw [HZ.out]
  clear HZS
  go_enter Try.func15, Try.ntmps15
  go_wp2_with fail
  obtain ⟨W, hW, k0, k1, hb0⟩ := two_alloc w (.cells #[.int .i64 a] 3) (.cells #[.int .i64 b] 3)
  rw [← hW]
  have m0 : W.cell? ⟨w.heap.size, 0, none⟩ = some (.int .i64 a) := cell_of_one k0
  have m1 : W.cell? ⟨w.heap.size + 1, 0, none⟩ = some (.int .i64 b) := cell_of_one k1
  have hsW : W.heap.size = w.heap.size + 2 := by rw [hW]; simp
  clear hW
  go_wp2_with fail
  refine (areFew_any _ _ _).mono ?_
  rintro e w1 ⟨rfl, rfl⟩
  rw [hf]
  obtain ⟨W1, hW1, k2, hb1⟩ := one_alloc W (.cells #[.int .i64 0] 3)
  have HW1 := Lib.hid hW1
  rw [hsW] at k2
  have HK0 := Lib.hid (blk_below k0 hb1); have HK1 := Lib.hid (blk_below k1 hb1); have HK2 := Lib.hid k2
  have HB1 := Lib.hid (hb0.trans (hb1.mono hb0.size))
  have m0' : W1.cell? ⟨w.heap.size, 0, none⟩ = some (.int .i64 a) := cell_of_one HK0.out
  have m1' : W1.cell? ⟨w.heap.size + 1, 0, none⟩ = some (.int .i64 b) := cell_of_one HK1.out
  rw [hW1] at m0' m1'
  clear hW1 k0 k1 k2 hb0 hb1 m0 m1
  go_wp2_with fail
  rw [← HW1.out]
  refine (HRT.out W1).mono ?_
  rintro e w2 ⟨u, rfl, hr2, hb2⟩
  have HB2 := Lib.hid (HB1.out.trans (hb2.mono HB1.out.size))
  have HJ0 := Lib.hid (blk_below HK0.out hb2); have HJ1 := Lib.hid (blk_below HK1.out hb2); have HJ2 := Lib.hid (blk_below HK2.out hb2)
  have HRS := Lib.hid (rset_any u zs w2.heap.size w2 hr2 (Nat.le_refl _) HOK.out)
  rw [HS.out] at HRS
  clear hr2 hb2 m0' m1' HK0 HK1 HK2 HW1 hsW
  go_wp2_with fail
  refine HRS.out.mono ?_
  rintro e w3 ⟨rfl, hb3⟩
  have HB3 := Lib.hid (HB2.out.trans (hb3.mono HB2.out.size))
  have HI0 := Lib.hid (blk_below HJ0.out hb3); have HI1 := Lib.hid (blk_below HJ1.out hb3); have HI2 := Lib.hid (blk_below HJ2.out hb3)
  have HEF := Lib.hid (eachF_any w.heap.size a b s 0 w3 HSL.out (by have := HBT.out; omega) HI0.out HI1.out HI2.out (lt_of_block HI2.out) w HB3.out (Nat.le_refl _))
  rw [HZ.out] at HEF
  clear hb3 HJ0 HJ1 HJ2 HI0 HI1 HI2
  go_wp2_with fail
  refine HEF.out.mono ?_
  rintro e w4 ⟨rfl, vw4, h4⟩
  have c4 : w4.cell? ⟨w.heap.size + 2, 0, none⟩ = some (.int .i64 z) := cell_of_one h4.ec
  have HB4 := Lib.hid h4.big
  clear h4
  go_wp2_with fail
  go_ret
  exact ⟨rfl, HB4.out⟩
theorem CountFaultFree_any (a b : Int) (w : World) :
    Calls Try.prog 15 #[.int .i64 a, .int .i64 b] w fun e w' => e = .returned (.int .i64 (cffI a b)) ∧ Below w.heap.size w w' := by
  cases hf : fewB a b
  · have e0 : cffI a b = -1 := by simp [cffI, hf]
    rw [e0]; clear e0
    go_enter Try.func15, Try.ntmps15
    go_wp2_with fail
    obtain ⟨W, hW, k0, k1, hb0⟩ := two_alloc w (.cells #[.int .i64 a] 3) (.cells #[.int .i64 b] 3)
    rw [← hW]
    have m0 : W.cell? ⟨w.heap.size, 0, none⟩ = some (.int .i64 a) := cell_of_one k0
    have m1 : W.cell? ⟨w.heap.size + 1, 0, none⟩ = some (.int .i64 b) := cell_of_one k1
    clear hW k0 k1
    go_wp2_with fail
    refine (areFew_any _ _ _).mono ?_
    rintro e w1 ⟨rfl, rfl⟩
    rw [hf]
    go_wp2_with fail
    go_ret
    exact ⟨rfl, hb0⟩
  · have h := hf
    unfold fewB at h
    simp only [Bool.and_eq_true, inB_iff, decide_eq_true_eq] at h
    obtain ⟨n, rfl⟩ := Int.eq_ofNat_of_zero_le (show 0 ≤ a by omega)
    obtain ⟨m, rfl⟩ := Int.eq_ofNat_of_zero_le (show 0 ≤ b by omega)
    have e0 : cffI n m = cntE (iffB n m) 61 (setZ (rectZ n m)) [] 0 := by simp [cffI, hf]
    rw [e0]
    exact CountFaultFree_yes n m (by omega) (by omega) w hf
end Go.Proofs.Ytiecphhenpapoaa

namespace Go.Proofs.Ytiecphhenpapoaa
open Go.RowKit
set_option linter.unusedVariables false

/-- The first index that is not covered. -/
def fstF (n c : Nat) : Nat → Nat → Nat
  | 0, i => i
  | d + 1, i => if decide (i < n) && c.testBit i then fstF n c d (i + 1) else i
/-- What l18Find returns; d bounds the dominoes. -/
def findZ (w h : Nat) : Nat → Nat → Nat → Int
  | 0, _, _ => 0
  | d + 1, c, l =>
    if fstF (w * h) c (w * h) 0 = w * h then (if l = 2 ^ (w + h - 2) - 1 then 1 else 0)
    else
      let k := fstF (w * h) c (w * h) 0
      let o1 := if decide (k % w + 1 < w) && !c.testBit (k + 1) then findZ w h d (c ||| 3 * 2 ^ k) (l ||| 2 ^ (k % w)) else 0
      if k / w + 1 < h then wrap64 (o1 + findZ w h d (c ||| 2 ^ k ||| 2 ^ (k + w)) (l ||| 2 ^ (w - 1 + k / w))) else o1
end Go.Proofs.Ytiecphhenpapoaa

namespace Go.Proofs.Ytiecphhenpapoaa
open Go.RowKit
set_option linter.unusedVariables false

theorem cnt_node {p : List Lk → Bool} {d s k : Nat} {hd : List Lk} {x x1 z : Int} (h0 : s ≠ 0) (hk : fstN s = k)
    (hA : (if fitB s (dOf k false) then cntE p d (minN s (dM (dOf k false))) (hd ++ [dOf k false]) x else x) = x1)
    (hB : (if fitB s (dOf k true) then cntE p d (minN s (dM (dOf k true))) (hd ++ [dOf k true]) x1 else x1) = z) : cntE p (d + 1) s hd x = z := by
  rw [cntE, if_neg h0]
  subst hk
  simp only [hA, hB]
theorem cnt_yes {p : List Lk → Bool} {d s s' : Nat} {l : Lk} {hd hd' : List Lk} {x z : Int} (hf : fitB s l = true) (hs : minN s (dM l) = s') (hh : hd ++ [l] = hd') (h : cntE p d s' hd' x = z) :
    (if fitB s l then cntE p d (minN s (dM l)) (hd ++ [l]) x else x) = z := by rw [if_pos hf, hs, hh, h]
theorem cnt_no {p : List Lk → Bool} {d s : Nat} {l : Lk} {hd : List Lk} {x : Int} (hf : fitB s l = false) :
    (if fitB s l then cntE p d (minN s (dM l)) (hd ++ [l]) x else x) = x := by rw [hf]; rfl
end Go.Proofs.Ytiecphhenpapoaa
