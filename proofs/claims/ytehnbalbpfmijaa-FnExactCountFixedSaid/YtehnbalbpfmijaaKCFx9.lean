/- What the claim's walk rests on: parts TileLaw, Faults, MovL, CopyIn. -/
import Derived.Test.YtehnbalbpfmijaaSPartKCFx
import Derived.Test.YtehnbalbpfmijaaKCFx8
import Derived.Test.YtehnbalbpfmijaaKCFx1
import Derived.Test.YtehnbalbpfmijaaKCFx5
import Derived.Laws.CopyOwn
namespace Go.Proofs.Ytehnbalbpfmijaa
open Go.RowKit
set_option linter.unusedVariables false

theorem upFrom_eq {p q : Nat → Bool} {n : Nat} (h : ∀ k, k < n → (∀ j, j < k → p j = true) → p k = q k) : upFrom p 0 n = upFrom q 0 n := by
  rw [Bool.eq_iff_iff, upFrom_iff, upFrom_iff]
  constructor
  · intro hp j _ hj
    rw [← h j hj fun i hi => hp i (Nat.zero_le _) (by omega)]
    exact hp j (Nat.zero_le _) hj
  · intro hq
    have : ∀ j, j < n → p j = true := by
      intro j
      induction j using Nat.strongRecOn with
      | _ j ih =>
        intro hj
        rw [h j hj fun i hi => ih i hi (by omega)]
        exact hq j (Nat.zero_le _) hj
    exact fun j _ hj => this j hj
theorem ab_ne {l : Lk} (h : domL l = true) : aI l ≠ bI l ∧ aI l < 64 ∧ bI l < 64 := by
  obtain ⟨x, y, d⟩ := l
  have hd := (domB_iff _ _ _).1 h
  obtain ⟨a, rfl⟩ := Int.eq_ofNat_of_zero_le hd.1.1
  obtain ⟨b, rfl⟩ := Int.eq_ofNat_of_zero_le hd.1.2
  cases d <;> simp at hd <;> simp [aI, bI, cix] <;> omega
theorem lft_bit {R : Nat} (ls : List Lk) : ∀ k, (∀ j, j < k → domL (dAt ls j) = true) → ∀ i, i < 64 → (lftTo R ls k).testBit i = (R.testBit i && !(covTo ls k).testBit i)
  | 0, _, i, _ => by simp [lftTo, covTo]
  | k + 1, h, i, hi => by
    have ih := lft_bit (R := R) ls k (fun j hj => h j (by omega)) i hi
    have hd := h k (by omega)
    have hm := dM_lt hd
    have e : 18446744073709551615 - dM (dAt ls k) = 2 ^ 64 - (dM (dAt ls k) + 1) := by omega
    rw [lftTo, covTo, if_pos hd, Nat.testBit_and, ih, e, Nat.testBit_two_pow_sub_succ hm, Nat.testBit_or]
    cases R.testBit i <;> cases (covTo ls k).testBit i <;> cases (dM (dAt ls k)).testBit i <;> simp [hi]
theorem ab_bit (a b i : Nat) : (2 ^ a ||| 2 ^ b).testBit i = (decide (a = i) || decide (b = i)) := by rw [Nat.testBit_or, Nat.testBit_two_pow, Nat.testBit_two_pow]
theorem and_ab (L a b : Nat) : (L &&& (2 ^ a ||| 2 ^ b) == 2 ^ a ||| 2 ^ b) = (L.testBit a && L.testBit b) := by
  rw [Bool.eq_iff_iff, beq_iff_eq, Bool.and_eq_true]
  constructor
  · intro h
    constructor
    · have := congrArg (fun n => n.testBit a) h
      simp only [Nat.testBit_and, ab_bit] at this
      simpa using this
    · have := congrArg (fun n => n.testBit b) h
      simp only [Nat.testBit_and, ab_bit] at this
      simpa using this
  · rintro ⟨h1, h2⟩
    apply Nat.eq_of_testBit_eq
    intro i
    rw [Nat.testBit_and, ab_bit]
    by_cases e1 : a = i
    · subst e1; simp [h1]
    · by_cases e2 : b = i
      · subst e2; simp [h2]
      · simp [e1, e2]
theorem part_eq (R : Nat) (ls : List Lk) : partB R ls = sPartB R ls := by
  unfold partB sPartB
  refine upFrom_eq fun k hk hj => ?_
  have hdj : ∀ j, j < k → domL (dAt ls j) = true := fun j hjk => by
    have := hj j hjk
    simp only [pAt, Bool.and_eq_true] at this
    exact this.1.1
  unfold pAt qAt
  cases hd : domL (dAt ls k)
  · simp
  · obtain ⟨_, h1, h2⟩ := ab_ne hd
    rw [dM_ab, and_ab, lft_bit ls k hdj _ h1, lft_bit ls k hdj _ h2]
    cases R.testBit (aI (dAt ls k)) <;> cases R.testBit (bI (dAt ls k)) <;> cases (covTo ls k).testBit (aI (dAt ls k)) <;> cases (covTo ls k).testBit (bI (dAt ls k)) <;> simp
theorem cnt_or (T a : Nat) (h : T.testBit a = false) : ∀ n, cntB (T ||| 2 ^ a) n = cntB T n + (if a < n then 1 else 0)
  | 0 => by simp [cntB]
  | n + 1 => by
    have ih := cnt_or T a h n
    rw [cntB, cntB, ih, Nat.testBit_or, Nat.testBit_two_pow]
    by_cases e : a = n
    · subst e; simp [h]
    · have : (a < n + 1) = (a < n) := by rw [eq_iff_iff]; omega
      simp only [this, e, decide_false, Bool.or_false]
      omega
theorem cnt_mono {A B : Nat} (h : ∀ i, A.testBit i = true → B.testBit i = true) : ∀ n, cntB A n ≤ cntB B n ∧ (cntB A n = cntB B n → ∀ i, i < n → A.testBit i = B.testBit i)
  | 0 => ⟨Nat.le_refl _, fun _ i hi => by omega⟩
  | n + 1 => by
    obtain ⟨h1, h2⟩ := cnt_mono h n
    have hn := h n
    rw [cntB, cntB]
    cases ha : A.testBit n <;> cases hb : B.testBit n
    · refine ⟨by simpa using h1, fun e i hi => ?_⟩
      rcases Nat.lt_succ_iff_lt_or_eq.1 hi with hi | rfl
      · exact h2 (by simpa using e) i hi
      · rw [ha, hb]
    · exact ⟨by simp; omega, fun e => by simp at e; omega⟩
    · rw [ha, hb] at hn; simp at hn
    · refine ⟨by simp; omega, fun e i hi => ?_⟩
      rcases Nat.lt_succ_iff_lt_or_eq.1 hi with hi | rfl
      · exact h2 (by simpa using e) i hi
      · rw [ha, hb]
theorem cov_facts {R : Nat} {ls : List Lk} (h : sPartB R ls = true) : ∀ k, k ≤ ls.length → cntB (covTo ls k) 64 = 2 * k ∧ ∀ i, (covTo ls k).testBit i = true → R.testBit i = true
  | 0, _ => ⟨by simp only [covTo]; decide, fun i hi => by simp [covTo] at hi⟩
  | k + 1, hk => by
    obtain ⟨h1, h2⟩ := cov_facts h k (by omega)
    have hq := (upFrom_iff _ _ _).1 h k (Nat.zero_le _) (by omega)
    unfold qAt at hq
    simp only [Bool.and_eq_true, Bool.not_eq_true'] at hq
    obtain ⟨⟨hd, _⟩, ⟨⟨r1, r2⟩, c1⟩, c2⟩ := hq
    obtain ⟨hne, l1, l2⟩ := ab_ne hd
    rw [covTo, if_pos hd, dM_ab, ← Nat.or_assoc]
    have c2' : (covTo ls k ||| 2 ^ aI (dAt ls k)).testBit (bI (dAt ls k)) = false := by rw [Nat.testBit_or, c2, Nat.testBit_two_pow]; simp [hne]
    refine ⟨?_, fun i hi => ?_⟩
    · rw [cnt_or _ _ c2', cnt_or _ _ c1, h1, if_pos l1, if_pos l2]; omega
    · rw [Nat.testBit_or, Nat.testBit_or, Nat.testBit_two_pow, Nat.testBit_two_pow] at hi
      simp only [Bool.or_eq_true, decide_eq_true_eq] at hi
      rcases hi with (hi | hi) | hi
      · exact h2 i hi
      · rw [← hi]; exact r1
      · rw [← hi]; exact r2
theorem part_len {R : Nat} {ls : List Lk} (h : sPartB R ls = true) : ls.length ≤ 32 := by
  have h1 := (cov_facts h ls.length (Nat.le_refl _)).1
  have h2 := cntB_le (covTo ls ls.length) 64
  omega
def sTileB (R : Nat) (ls : List Lk) : Bool := sPartB R ls && decide (2 * ls.length = cntB R 64)
theorem tile_eq {R : Nat} (hR : R < 18446744073709551616) (ls : List Lk) : tileB R ls = sTileB R ls := by
  unfold tileB sTileB
  rw [part_eq]
  cases h : sPartB R ls
  · rfl
  · obtain ⟨h1, h2⟩ := cov_facts h ls.length (Nat.le_refl _)
    rw [Bool.true_and, Bool.true_and, Bool.eq_iff_iff, beq_iff_eq, decide_eq_true_eq]
    constructor
    · intro e; rw [e] at h1; omega
    · intro e
      apply Nat.eq_of_testBit_eq
      intro i
      by_cases hi : i < 64
      · exact (cnt_mono h2 64).2 (by omega) i hi
      · have hc := covTo_lt ls ls.length
        rw [Nat.testBit_lt_two_pow (Nat.lt_of_lt_of_le hc (Nat.pow_le_pow_right (n := 2) (i := 64) (by omega) (by omega))), Nat.testBit_lt_two_pow (Nat.lt_of_lt_of_le hR (Nat.pow_le_pow_right (n := 2) (i := 64) (by omega) (by omega)))]

set_option maxRecDepth 100000 in
theorem specIsTiling_yes (u v : Value) (zs : List Int) (ls : List Lk) (B : Nat) (w : World) (hu : RdI w B u zs) (h : RdF elDomino w B v ls) (hB : B ≤ w.heap.size) (hok : regOkB zs = true) :
    Calls Try.prog 27 #[.agg #[u], v] w fun e w' => e = .returned (.bool (sTileB (setZ zs) ls)) ∧ Below w.heap.size w w' := by
  have HU := Lib.hid hu
  have HV := Lib.hid h
  have HOK := Lib.hid hok
  have HPL := Lib.hid (fun h => part_len (R := setZ zs) (ls := ls) h)
  have HPI := Lib.hid (fun V a b c => specIsPartial_yes u v zs ls B V a b c hok)
  have HCC := Lib.hid (fun V a c => CountCells_yes u zs B V a c hok)
  have HCL := Lib.hid (cntB_le (setZ zs) 64)
  obtain ⟨A0, c0, rfl, g10, g20, _⟩ := hu
  obtain ⟨A, c, rfl, g1, g2, _⟩ := RdT.of (E := elDomino) rfl (fun _ => rfl) h
  unfold maxLen at g2 g20
  clear h hok
  obtain ⟨W, hW, k1, hb⟩ := one_alloc w (.cells #[.slice A0 zs.length c0] 39)
  have c1 : W.cell? ⟨w.heap.size, 0, none⟩ = some (.slice A0 zs.length c0) := by rw [blk_cell k1]; rfl
  have HW := Lib.hid hW
  have HB := Lib.hid hb
  have K1 := Lib.hid k1
  clear hW k1 hb
  go_enter Try.func27, Try.ntmps27
  go_upto_region 1 with (fail)
  rw [← HW.out]
  go_wp2_with fail
  refine (HPI.out _ (HU.out.below (HB.out.mono hB)) (HV.out.below (HB.out.mono hB)) (Nat.le_trans hB HB.out.size)).mono ?_
  rintro e w3 ⟨rfl, hb3⟩
  have HB3 := Lib.hid (HB.out.trans (hb3.mono HB.out.size))
  have c3 : w3.cell? ⟨w.heap.size, 0, none⟩ = some (.slice A0 zs.length c0) := by rw [blk_cell (blk_below K1.out hb3)]; rfl
  clear hb3 c1
  cases hp : sPartB (setZ zs) ls
  · have HF : Hid (false = sTileB (setZ zs) ls) := by unfold Hid sTileB; rw [hp]; rfl
    go_wp2_with fail
    go_ret
    exact ⟨ret_bool HF.out, HB3.out⟩
  · have hl := HPL.out hp
    have HF : Hid (decide (2 * ls.length = cntB (setZ zs) 64) = sTileB (setZ zs) ls) := by unfold Hid sTileB; rw [hp]; rfl
    have hcl := HCL.out
    clear HPI HPL
    generalize cntB (setZ zs) 64 = q at *
    have e2 : IntKind.i64.wrap (2 * (ls.length : Int)) = 2 * (ls.length : Int) := IntWalk.i64_in _ (by omega)
    go_wp2_with fail
    refine (HCC.out _ (HU.out.below (HB3.out.mono hB)) (Nat.le_trans hB HB3.out.size)).mono ?_
    rintro e w4 ⟨rfl, hb4⟩
    have HB4 := Lib.hid (HB3.out.trans (hb4.mono HB3.out.size))
    have HT : Hid ((2 * (ls.length : Int) == (q : Int)) = decide (2 * ls.length = q)) := by unfold Hid; rw [Bool.eq_iff_iff, beq_iff_eq, decide_eq_true_eq]; omega
    go_wp2_with fail
    go_ret
    exact ⟨ret_bool (HT.out.trans HF.out), HB4.out⟩
end Go.Proofs.Ytehnbalbpfmijaa

namespace Go.Proofs.Ytehnbalbpfmijaa
open Go.RowKit
set_option linter.unusedVariables false

/-- Line k is not crossed by a domino. -/
def okD (down : Bool) (k : Nat) (l : Lk) : Bool := if l.2.2 == down then true else if down then l.1 != (k : Int) - 1 else l.2.1 != (k : Int) - 1
def freeTo (down : Bool) (k : Nat) (ls : List Lk) : Nat → Bool
  | 0 => true
  | i + 1 => freeTo down k ls i && okD down k (dAt ls i)
def fltTo (down : Bool) (ls : List Lk) : Nat → List Int
  | 0 => []
  | k + 1 => fltTo down ls k ++ (if freeTo down (k + 1) ls ls.length then [((k + 1 : Nat) : Int)] else [])
theorem fltTo_len (down : Bool) (ls : List Lk) : ∀ k, (fltTo down ls k).length ≤ k
  | 0 => by simp [fltTo]
  | k + 1 => by have := fltTo_len down ls k; rw [fltTo]; split <;> simp <;> omega
def fltB (a b : Int) (ls : List Lk) : Bool := inB a 1 8 && inB b 1 8 && sTileB (setZ (rectZ a.toNat b.toNat)) ls
def fltZ (a b m : Int) (down : Bool) (ls : List Lk) : List Int := if fltB a b ls then fltTo down ls (m.toNat - 1) else []

set_option maxRecDepth 100000 in
set_option maxHeartbeats 4000000 in
/-- Behind the test. -/
theorem faults_yes (a b : Nat) (v : Value) (ls : List Lk) (m : Nat) (down : Bool) (B : Nat) (w : World) (h : RdF elDomino w B v ls) (hB : B ≤ w.heap.size) (ha : 1 ≤ a ∧ a ≤ 8) (hb : 1 ≤ b ∧ b ≤ 8) (hm : 1 ≤ m ∧ m ≤ 8) (ht : sTileB (setZ (rectZ a b)) ls = true) :
    Calls Try.prog 65 #[.int .i64 (a : Int), .int .i64 (b : Int), v, .int .i64 (m : Int), .bool down] w fun e w' => ∃ u, e = .returned u ∧ OwnI w' w.heap.size u (fltTo down ls (m - 1)) ∧ Below w.heap.size w w' := by
  have HV := Lib.hid h
  obtain ⟨A, c, rfl, g1, g2, G3⟩ := RdT.of (E := elDomino) rfl (fun _ => rfl) h
  unfold maxLen at g2
  clear h
  have t1 : inB (a : Int) 1 8 = true := inB_true (by omega) (by omega)
  have t2 : inB (b : Int) 1 8 = true := inB_true (by omega) (by omega)
  have hok := rectZ_ok a b ha.2 hb.2
  have HT : Hid (tileB (setZ (rectZ a b)) ls = true) := by unfold Hid; rw [tile_eq (setZ_lt hok)]; exact ht
  have HOK := Lib.hid hok
  clear hok ht
  go_enter Try.func65, Try.ntmps65
  go_wp2_with fail
  refine (within_any _ _ _ _).mono ?_
  rintro e w' ⟨rfl, rfl⟩
  rw [t1]
  go_wp2_with fail
  refine (within_any _ _ _ _).mono ?_
  rintro e w' ⟨rfl, rfl⟩
  rw [t2]
  go_wp2_with fail
  refine (Rectangle_yes a b ha hb _).mono ?_
  rintro e w1 ⟨u1, rfl, hr1, hb1⟩
  have HR1 := Lib.hid hr1
  have HB1 := Lib.hid hb1
  clear hb1 hr1
  go_wp2_with fail
  refine (IsTiling_yes _ _ _ ls _ _ HR1.out ((HV.out.below (HB1.out.mono hB)).more (Nat.le_trans hB HB1.out.size)) (Nat.le_refl _) HOK.out).mono ?_
  rintro e w2 ⟨rfl, hb2⟩
  rw [HT.out]
  have HB2 := Lib.hid (HB1.out.trans (hb2.mono HB1.out.size))
  clear hb2
  have HA0 : Hid (Acc elInt w w.heap.size (w2.alloc (.cells #[] 3)) (.slice (some ⟨w2.heap.size, 0, none⟩) 0 0) []) := by
    have := Acc.startAt (E := elInt) HB2.out (Nat.le_refl _) HB2.out.size
    exact this
  go_wp2_with fail
  go_loopw [11, 12] (fun o i wr => ∃ (k : Nat) (u : Value), k + 1 ≤ m ∧ i = .int .i64 ((k + 1 : Nat) : Int) ∧ u = o ∧ Hid (Acc elInt w w.heap.size wr u (fltTo down ls k))) (fun _ i _ => m - (intOf i).toNat)
  case atStart => exact ⟨0, _, hm.1, rfl, rfl, HA0⟩
  case round =>
    obtain ⟨k, u, hk, rfl, rfl, HA⟩ := hrel
    obtain ⟨A1, ca, hv, q1, q2, _⟩ := HA.out.1.rd okInt
    subst hv
    unfold maxLen at q2
    have hfl := fltTo_len down ls k
    have HNX : Hid (fltTo down ls (k + 1) = fltTo down ls k ++ (if freeTo down (k + 1) ls ls.length then [((k + 1 : Nat) : Int)] else [])) := rfl
    have HZK : Hid (∀ q, q = k → fltTo down ls q = fltTo down ls k) := fun q e => by rw [e]
    generalize fltTo down ls k = zs at *
    have hk1 : IntKind.i64.wrap (((k + 1 : Nat) : Int) - 1) = (k : Int) := by rw [IntWalk.i64_in _ (by omega)]; omega
    by_cases hlt : k + 1 < m
    · have ht : decide (((k + 1 : Nat) : Int) < (m : Int)) = true := by simp only [decide_eq_true_eq]; omega
      have hk2 : IntKind.i64.wrap (((k + 1 : Nat) : Int) + 1) = ((k + 2 : Nat) : Int) := by rw [IntWalk.i64_in _ (by omega)]; omega
      have HK2 := Lib.hid hk2
      have HOD : Hid (∀ i, okD down (k + 1) (dAt ls i) = (if ld ls i == down then true else if down then lx ls i != (k : Int) else ly ls i != (k : Int))) := fun i => by
        unfold okD; rw [show (((k + 1 : Nat) : Int) - 1) = (k : Int) by omega]; rfl
      have hz8 : zs.length ≤ 8 := by omega
      obtain ⟨n1, HN1⟩ : ∃ n1 : Nat, Hid (n1 = k + 1) := ⟨_, rfl⟩
      rw [← HN1.out] at ht hk1 HNX HOD HK2 hlt hk hk2
      rw [← HN1.out]
      have hn8 : n1 ≤ 8 := by omega
      clear hk2
      go_wp2_with fail
      go_loopw [13, 40] (fun f i wr2 => ∃ (j : Nat), j ≤ ls.length ∧ i = .int .i64 j ∧ f = .bool (freeTo down n1 ls j) ∧ Hid (Acc elInt w w.heap.size wr2 (.slice A1 zs.length ca) zs)) (fun _ i _ => ls.length - (intOf i).toNat)
      case atStart => exact ⟨0, Nat.zero_le _, rfl, rfl, HA⟩
      case round =>
        obtain ⟨j, hj, rfl, rfl, HA2⟩ := hrel
        have HFR : Hid (freeTo down n1 ls (j + 1) = (freeTo down n1 ls j && okD down n1 (dAt ls j))) := rfl
        by_cases hjl : j < ls.length
        · have htj : decide ((j : Int) < (ls.length : Int)) = true := by simp only [decide_eq_true_eq]; omega
          obtain ⟨ad, rfl, hbl, hx, hy, hz⟩ := G3.out j hjl
          have hbl2 : (ad.add (j * 3)).block < w.heap.size := by rw [addBlock]; omega
          have hbw := HA2.out.2.1
          have hx' := (hbw.cell (p := ad.add (j * 3)) hbl2).trans hx
          have hy' := (hbw.cell (p := ⟨(ad.add (j * 3)).block, (ad.add (j * 3)).off + 1, none⟩) hbl2).trans hy
          have hz' := (hbw.cell (p := ⟨(ad.add (j * 3)).block, (ad.add (j * 3)).off + 2, none⟩) hbl2).trans hz
          rw [HOD.out j] at HFR
          have hj0 : (0 : Int) ≤ (j : Int) := by omega
          have hj1 : (j : Int) < (ls.length : Int) := by omega
          generalize lx ls j = x at *
          generalize ly ls j = y at *
          generalize ld ls j = d at *
          generalize freeTo down n1 ls j = f at *
          clear hx hy hz hbw
          go_upto_region 11 with (fail)
          obtain ⟨V, hV, k1, hbV⟩ := one_alloc wr (triO x y d 46)
          rw [← hV]
          have HA3 := Lib.hid (HA2.out.below hbV)
          obtain ⟨f0, f1, f2, _⟩ := OneT.of k1
          clear hV k1 hbV hx' hy' hz'
          cases f
          · have HE : Hid (freeTo down n1 ls (j + 1) = false) := HFR.out
            clear HFR
            go_wp2_with fail
            go_roundw
            case rel => exact ⟨j + 1, by omega, by go_num, by rw [HE.out], HA3⟩
            case measure => simp [intOf]; omega
          · rw [Bool.true_and] at HFR
            cases hx9 : (x != (k : Int)) <;> cases hy9 : (y != (k : Int)) <;> cases d <;> cases down
            all_goals
              have HE := HFR.out
              simp only [hx9, hy9, BEq.rfl, if_true, Bool.false_eq_true, if_false, beq_iff_eq, reduceCtorEq] at HE
              have HE := Lib.hid HE
              clear HFR HNX HOD
              go_wp2_with fail
              go_roundw
              case rel => exact ⟨j + 1, by omega, by go_num, by rw [HE.out], HA3⟩
              case measure => simp [intOf]; omega
        · have htj : decide ((j : Int) < (ls.length : Int)) = false := by simp only [decide_eq_false_iff_not]; omega
          obtain rfl : j = ls.length := by omega
          clear HFR
          cases hf : freeTo down n1 ls ls.length
          · have HE : Hid (fltTo down ls n1 = zs) := by unfold Hid; rw [HN1.out, ← HN1.out, HNX.out, hf]; simp
            go_wp2_with fail
            go_roundw
            case rel => exact ⟨n1, _, by omega, by go_num, rfl, by rw [HE.out]; exact HA2⟩
            case measure => simp [intOf]; omega
          · have HE : Hid (fltTo down ls n1 = zs ++ [(n1 : Int)]) := by unfold Hid; rw [HNX.out, hf]; simp
            go_wp2_with (at_builtin; refine wpList_push okInt rfl _ _ rfl HA2.out rfl (n1 : Int) _ rfl _ rfl (by simp) (by omega) ?_; intro u2 w7 HA7 HG7; obtain ⟨A7, c7, hu7, _⟩ := HA7.out.1.rd okInt; rw [List.length_append, List.length_singleton] at hu7; rw [hu7] at HA7; rw [hu7]; clear hu7 HG7)
            go_roundw
            case rel => exact ⟨n1, _, by omega, by go_num, rfl, by rw [HE.out]; exact HA7⟩
            case measure => simp [intOf]; omega
    · have ht : decide (((k + 1 : Nat) : Int) < (m : Int)) = false := by simp only [decide_eq_false_iff_not]; omega
      have HK : Hid (m - 1 = k) := by unfold Hid; omega
      go_wp2_with fail
      go_ret
      refine ⟨.slice A1 zs.length ca, rfl, ?_, HA.out.2.1⟩
      rw [HZK.out _ HK.out]
      exact ownF_int.1 HA.out.1

set_option maxRecDepth 100000 in
set_option maxHeartbeats 1000000 in
theorem faults_any (a b m : Int) (v : Value) (ls : List Lk) (down : Bool) (B : Nat) (w : World) (h : RdF elDomino w B v ls) (hB : B ≤ w.heap.size) (hm : 1 ≤ a ∧ a ≤ 8 → 1 ≤ b ∧ b ≤ 8 → 1 ≤ m ∧ m ≤ 8) :
    Calls Try.prog 65 #[.int .i64 a, .int .i64 b, v, .int .i64 m, .bool down] w fun e w' => ∃ u, e = .returned u ∧ OwnI w' w.heap.size u (fltZ a b m down ls) ∧ Below w.heap.size w w' := by
  cases t1 : inB a 1 8
  · have HF : Hid (fltZ a b m down ls = []) := by unfold Hid fltZ fltB; simp [t1]
    rw [HF.out]
    go_enter Try.func65, Try.ntmps65
    go_wp2_with fail
    refine (within_any _ _ _ _).mono ?_
    rintro e w' ⟨rfl, rfl⟩
    rw [t1]
    go_wp2_with fail
    go_ret
    exact ⟨_, rfl, ownF_int.1 OwnF.nil, Below.refl _ _⟩
  · cases t2 : inB b 1 8
    · have HF : Hid (fltZ a b m down ls = []) := by unfold Hid fltZ fltB; simp [t2]
      rw [HF.out]
      go_enter Try.func65, Try.ntmps65
      go_wp2_with fail
      refine (within_any _ _ _ _).mono ?_
      rintro e w' ⟨rfl, rfl⟩
      rw [t1]
      go_wp2_with fail
      refine (within_any _ _ _ _).mono ?_
      rintro e w' ⟨rfl, rfl⟩
      rw [t2]
      go_wp2_with fail
      go_ret
      exact ⟨_, rfl, ownF_int.1 OwnF.nil, Below.refl _ _⟩
    · have ha := (inB_iff _ _ _).1 t1
      have hb := (inB_iff _ _ _).1 t2
      have hm' := hm ha hb
      obtain ⟨a, rfl⟩ := Int.eq_ofNat_of_zero_le (show 0 ≤ a by omega)
      obtain ⟨b, rfl⟩ := Int.eq_ofNat_of_zero_le (show 0 ≤ b by omega)
      obtain ⟨m, rfl⟩ := Int.eq_ofNat_of_zero_le (show 0 ≤ m by omega)
      cases ht : sTileB (setZ (rectZ a b)) ls
      · have HF : Hid (fltZ a b m down ls = []) := by unfold Hid fltZ fltB; simp [ht]
        rw [HF.out]
        have hok := rectZ_ok a b (by omega) (by omega)
        have HT : Hid (tileB (setZ (rectZ a b)) ls = false) := by unfold Hid; rw [tile_eq (setZ_lt hok)]; exact ht
        have HOK := Lib.hid hok
        have HV := Lib.hid h
        clear hok ht h hm
        go_enter Try.func65, Try.ntmps65
        go_wp2_with fail
        refine (within_any _ _ _ _).mono ?_
        rintro e w' ⟨rfl, rfl⟩
        rw [t1]
        go_wp2_with fail
        refine (within_any _ _ _ _).mono ?_
        rintro e w' ⟨rfl, rfl⟩
        rw [t2]
        go_wp2_with fail
        refine (Rectangle_yes a b (by omega) (by omega) _).mono ?_
        rintro e w1 ⟨u1, rfl, hr1, hb1⟩
        have HR1 := Lib.hid hr1
        have HB1 := Lib.hid hb1
        clear hb1 hr1
        go_wp2_with fail
        refine (IsTiling_yes _ _ _ ls _ _ HR1.out ((HV.out.below (HB1.out.mono hB)).more (Nat.le_trans hB HB1.out.size)) (Nat.le_refl _) HOK.out).mono ?_
        rintro e w2 ⟨rfl, hb2⟩
        rw [HT.out]
        have HB2 := Lib.hid (HB1.out.trans (hb2.mono HB1.out.size))
        clear hb2
        go_wp2_with fail
        go_ret
        exact ⟨_, rfl, ownF_int.1 OwnF.nil, HB2.out⟩
      · have HF : Hid (fltZ a b m down ls = fltTo down ls (m - 1)) := by unfold Hid fltZ fltB; simp [t1, t2, ht]
        rw [HF.out]
        exact faults_yes a b v ls m down B w h hB (by omega) (by omega) (by omega) ht
theorem FaultsDown_any (a b : Int) (v : Value) (ls : List Lk) (B : Nat) (w : World) (h : RdF elDomino w B v ls) (hB : B ≤ w.heap.size) :
    Calls Try.prog 16 #[.int .i64 a, .int .i64 b, v] w fun e w' => ∃ u, e = .returned u ∧ OwnI w' w.heap.size u (fltZ a b a true ls) ∧ Below w.heap.size w w' := by
  have H := Lib.hid (faults_any a b a v ls true B w h hB (fun h _ => h))
  clear h
  go_enter Try.func16, Try.ntmps16
  go_wp2_with fail
  refine H.out.mono ?_
  rintro e w1 ⟨u, rfl, ho, hb⟩
  go_wp2_with fail
  go_ret
  exact ⟨_, rfl, ho, hb⟩
theorem FaultsAcross_any (a b : Int) (v : Value) (ls : List Lk) (B : Nat) (w : World) (h : RdF elDomino w B v ls) (hB : B ≤ w.heap.size) :
    Calls Try.prog 17 #[.int .i64 a, .int .i64 b, v] w fun e w' => ∃ u, e = .returned u ∧ OwnI w' w.heap.size u (fltZ a b b false ls) ∧ Below w.heap.size w w' := by
  have H := Lib.hid (faults_any a b b v ls false B w h hB (fun _ h => h))
  clear h
  go_enter Try.func17, Try.ntmps17
  go_wp2_with fail
  refine H.out.mono ?_
  rintro e w1 ⟨u, rfl, ho, hb⟩
  go_wp2_with fail
  go_ret
  exact ⟨_, rfl, ho, hb⟩
end Go.Proofs.Ytehnbalbpfmijaa

namespace Go.Proofs.Ytehnbalbpfmijaa
open Go.RowKit
set_option linter.unusedVariables false

/-- A cell, turned (t) or mirrored. -/
def mapC (t : Bool) (s x y : Int) : Int × Int := if t then (s - 1 - y, x) else (s - 1 - x, y)
def movL (t : Bool) (s : Int) (l : Lk) : Lk :=
  overL (mapC t s l.1 l.2.1).1 (mapC t s l.1 l.2.1).2 (mapC t s (sndX l.1 l.2.2) (sndY l.2.1 l.2.2)).1 (mapC t s (sndX l.1 l.2.2) (sndY l.2.1 l.2.2)).2
def movTo (t : Bool) (s : Int) (ls : List Lk) : Nat → List Lk
  | 0 => []
  | k + 1 => movTo t s ls k ++ [movL t s (dAt ls k)]
theorem movTo_len (t : Bool) (s : Int) (ls : List Lk) : ∀ k, (movTo t s ls k).length = k
  | 0 => rfl
  | k + 1 => by rw [movTo, List.length_append, movTo_len t s ls k]; rfl
/-- What MirrorTiling and TurnTiling return. -/
def movZ (t : Bool) (s : Int) (ls : List Lk) : List Lk := if fltB s s ls then sortI (movTo t s ls ls.length) ls.length else []
theorem rect_bit_tab : ((List.range 9).all fun s => (List.range 8).all fun x => (List.range 8).all fun y => (setZ (rectZ s s)).testBit (cix x y) == (decide (x < s) && decide (y < s))) = true := by decide +kernel
theorem rect_bit (s x y : Nat) (hs : s ≤ 8) (hx : x ≤ 7) (hy : y ≤ 7) : (setZ (rectZ s s)).testBit (cix x y) = (decide (x < s) && decide (y < s)) := by
  have h := rect_bit_tab
  rw [List.all_eq_true] at h
  have h := h s (by simp; omega)
  rw [List.all_eq_true] at h
  have h := h x (by simp; omega)
  rw [List.all_eq_true] at h
  have h := h y (by simp; omega)
  simpa using h
/-- A domino of a tiling of a square lies in it. -/
theorem tile_in {s : Nat} (hs : s ≤ 8) {ls : List Lk} (h : sTileB (setZ (rectZ s s)) ls = true) {k : Nat} (hk : k < ls.length) :
    domB (lx ls k) (ly ls k) (ld ls k) = true ∧ (0 ≤ lx ls k ∧ lx ls k < s) ∧ (0 ≤ ly ls k ∧ ly ls k < s) ∧ (0 ≤ sndX (lx ls k) (ld ls k) ∧ sndX (lx ls k) (ld ls k) < s) ∧ (0 ≤ sndY (ly ls k) (ld ls k) ∧ sndY (ly ls k) (ld ls k) < s) := by
  unfold sTileB sPartB at h
  rw [Bool.and_eq_true, upFrom_iff] at h
  have hq := h.1 k (Nat.zero_le _) hk
  unfold qAt at hq
  simp only [Bool.and_eq_true] at hq
  obtain ⟨⟨hd, _⟩, ⟨⟨ha, hb⟩, _⟩, _⟩ := hq
  have hd : domB (lx ls k) (ly ls k) (ld ls k) = true := hd
  refine ⟨hd, ?_⟩
  have hr := (domB_iff _ _ _).1 hd
  unfold dAt aI at ha
  unfold dAt bI at hb
  simp only at ha hb
  generalize lx ls k = x at *
  generalize ly ls k = y at *
  generalize ld ls k = d at *
  obtain ⟨⟨h1, h2⟩, h3⟩ := hr
  cases d
  · simp at h3
    rw [rect_bit s _ _ hs (by omega) (by omega)] at ha
    rw [if_neg (by simp), rect_bit s _ _ hs (by omega) (by omega)] at hb
    simp at ha hb
    have e : sndX x false = x + 1 := by unfold sndX wrap64; simp; omega
    have e2 : sndY y false = y := by unfold sndY; simp
    rw [e, e2]
    omega
  · simp at h3
    rw [rect_bit s _ _ hs (by omega) (by omega)] at ha
    rw [if_pos rfl, rect_bit s _ _ hs (by omega) (by omega)] at hb
    simp at ha hb
    have e : sndX x true = x := by unfold sndX; simp
    have e2 : sndY y true = y + 1 := by unfold sndY wrap64; simp; omega
    rw [e, e2]
    omega
theorem snd_next {x y : Int} {d : Bool} (h : domB x y d = true) : (sndX x d = x ∧ sndY y d = y + 1) ∨ (sndX x d = x + 1 ∧ sndY y d = y) := by
  have hr := (domB_iff _ _ _).1 h
  obtain ⟨⟨h1, h2⟩, h3⟩ := hr
  cases d
  · simp at h3
    exact .inr ⟨by unfold sndX wrap64; simp; omega, by unfold sndY; simp⟩
  · simp at h3
    exact .inl ⟨by unfold sndX; simp, by unfold sndY wrap64; simp; omega⟩
theorem next_mov (t : Bool) {s : Nat} (hs : s ≤ 8) {x y x2 y2 : Int} (h1 : 0 ≤ x ∧ x < s) (h2 : 0 ≤ y ∧ y < s) (h3 : 0 ≤ x2 ∧ x2 < s) (h4 : 0 ≤ y2 ∧ y2 < s) (h : (x2 = x ∧ y2 = y + 1) ∨ (x2 = x + 1 ∧ y2 = y)) :
    nextB (mapC t s x y).1 (mapC t s x y).2 (mapC t s x2 y2).1 (mapC t s x2 y2).2 := by
  unfold nextB mapC
  cases t <;> simp <;> omega
theorem tile_short {s : Nat} (hs : s ≤ 8) {ls : List Lk} (h : sTileB (setZ (rectZ s s)) ls = true) : ls.length ≤ 32 := by
  unfold sTileB at h
  rw [Bool.and_eq_true, decide_eq_true_eq] at h
  have key : ∀ R n, cntB R n ≤ n := by
    intro R n
    induction n with
    | zero => simp [cntB]
    | succ n ih => rw [cntB]; split <;> omega
  have := key (setZ (rectZ s s)) 64
  omega
end Go.Proofs.Ytehnbalbpfmijaa

namespace Go.Proofs.Ytehnbalbpfmijaa
open Go.RowKit
set_option linter.unusedVariables false

theorem run_copy_rowF {P : Program} (w : World) (dT sT ty elem : TypeId) (s g o dLen dCap : Nat) (a : Addr) (sLen sCap : Nat) (cur : Array Value) (t : TypeId) (cs : List Value)
    (hu : P.underlying dT = some (.slice elem)) (hs : (P.info? elem).map (·.size) = some s)
    (hg : w.heap[g]? = some (.cells cur t (0, 0))) (hn : cs.length = Nat.min sLen dLen * s)
    (hsrc : ∀ j v, cs[j]? = some v → w.cell? (a.add j) = some v) (hfit : o + cs.length ≤ cur.size) (h1 : ∀ v ∈ cs, v.oneCell' = true) :
    (Builtin.copy_ #[dT, sT] ty #[.slice (some ⟨g, o, none⟩) dLen dCap, .slice (some a) sLen sCap]).run P w =
      .ok (goInt (Nat.min sLen dLen)) (w.setRow g (cur.toList.take o ++ cs ++ cur.toList.drop (o + cs.length)).toArray) := by
  have hl := run_loadCells_list (P := P) w a cs hsrc
  have hst := run_storeCells_at P g o t cs 0 cur w hg (by simpa using hfit) h1
  cases hq : P.info? elem with
  | none => simp [hq] at hs
  | some i =>
    have hi : i.size = s := by simpa [hq] using hs
    simp [Builtin.copy_, run_underlying hu, Builtin.lenOf, Builtin.firstCells, sizeOf, typeInfo, hq, hi, ← hn, hl, hst]

section
variable {α : Type} {E : El α} {P : Program}
theorem El.Ok.size (hE : E.Ok P) : (P.info? E.e).map (·.size) = some E.s := by
  have := hE.info
  cases h : P.info? E.e with
  | none => simp [h] at this
  | some i => simp [h] at this; simp [this]
theorem flat_take (hE : ∀ x, (E.f x).length = E.s) (xs : List α) (k : Nat) (hk : k ≤ xs.length) : (xs.flatMap E.f).take (k * E.s) = (xs.take k).flatMap E.f := by
  have h : xs.flatMap E.f = (xs.take k).flatMap E.f ++ (xs.drop k).flatMap E.f := by rw [← List.flatMap_append, List.take_append_drop]
  have hl : ((xs.take k).flatMap E.f).length = k * E.s := by rw [flat_length hE, List.length_take, Nat.min_eq_left hk]
  rw [h, ← hl, List.take_left']
  rfl
theorem flat_drop (hE : ∀ x, (E.f x).length = E.s) (xs : List α) (k : Nat) (hk : k ≤ xs.length) : (xs.flatMap E.f).drop (k * E.s) = (xs.drop k).flatMap E.f := by
  have h : xs.flatMap E.f = (xs.take k).flatMap E.f ++ (xs.drop k).flatMap E.f := by rw [← List.flatMap_append, List.take_append_drop]
  have hl : ((xs.take k).flatMap E.f).length = k * E.s := by rw [flat_length hE, List.length_take, Nat.min_eq_left hk]
  rw [h, ← hl, List.drop_left']
  rfl
theorem OwnF.shift (hE : E.Ok P) {w : World} {lo g cap k dCap sCap : Nat} {xs : List α} {z : α} {dT sT ty : TypeId} (hu : P.underlying dT = some (.slice E.e))
    (h : OwnF E w lo (.slice (some ⟨g, 0, none⟩) (xs.length + 1) cap) (xs ++ [z])) (hk : k < xs.length) :
    ∃ w', (Builtin.copy_ #[dT, sT] ty #[.slice (some ⟨g, (k + 1) * E.s, none⟩) (xs.length - k) dCap, .slice (some ⟨g, k * E.s, none⟩) (xs.length + 1 - k) sCap]).run P w = .ok (goInt ((xs.length - k : Nat) : Int)) w' ∧
      OwnF E w' lo (.slice (some ⟨g, 0, none⟩) (xs.length + 1) cap) (xs.take (k + 1) ++ xs.drop k) ∧ w.grownBy w' (some g) := by
  have hrow : w.ownsRow lo E.e E.s (.slice (some ⟨g, 0, none⟩) (xs.length + 1) cap) (xs.length + 1) ((xs ++ [z]).flatMap E.f) := by
    have := h
    unfold OwnF at this
    rwa [List.length_append, List.length_singleton] at this
  rcases h.2 with ⟨_, h0⟩ | ⟨g', cap', cur, hv, hb, hgg, h1, h2, h3, h4⟩
  · simp at h0
  · obtain ⟨rfl, rfl⟩ : g = g' ∧ cap = cap' := by simp at hv; exact hv
    have hl := hE.len
    have hcl : ((xs.drop k).flatMap E.f).length = (xs.length - k) * E.s := by rw [flat_length hl, List.length_drop]
    have hmin : Nat.min (xs.length + 1 - k) (xs.length - k) = xs.length - k := Nat.min_eq_right (by omega)
    simp only [List.length_append, List.length_singleton] at h1 h4
    have hfit : (k + 1) * E.s + (xs.length - k) * E.s = (xs.length + 1) * E.s := by rw [← Nat.add_mul]; congr 1; omega
    have hcs : (xs.length + 1) * E.s ≤ cur.size := by rw [h3]; exact Nat.mul_le_mul_right _ h1
    have hrun := run_copy_rowF (P := P) w dT sT ty E.e E.s g ((k + 1) * E.s) (xs.length - k) dCap ⟨g, k * E.s, none⟩ (xs.length + 1 - k) sCap cur E.e ((xs.drop k).flatMap E.f) hu hE.size hgg (by rw [hmin, hcl])
      (fun j v hj => by
        have hj' : j < (xs.length - k) * E.s := by rw [← hcl]; exact (List.getElem?_eq_some_iff.1 hj).1
        have hle : k * E.s + (xs.length - k) * E.s = xs.length * E.s := by rw [← Nat.add_mul]; congr 1; omega
        have hlt : k * E.s + j < (xs.length + 1) * E.s := by rw [Nat.add_mul]; omega
        have hc := World.ownsRow.cellAt hrow (k * E.s + j) hlt
        rw [show (⟨g, k * E.s, none⟩ : Addr).add j = ⟨g, k * E.s + j, none⟩ by simp [Addr.add], hc, List.flatMap_append, List.getElem?_append_left (by rw [flat_length hl]; omega), ← List.getElem?_drop, flat_drop hl _ _ (by omega)]
        exact hj)
      (by rw [hcl, hfit]; exact hcs)
      (fun v hv => by obtain ⟨x, _, hx⟩ := List.mem_flatMap.1 hv; exact hE.one x v hx)
    rw [hmin] at hrun
    refine ⟨_, hrun, ⟨?_, .inr ⟨g, cap, _, by simp; omega, hb, setRow_heap w g _ _ _ _ hgg, by simp; omega, h2, ?_, ?_⟩⟩, ?_⟩
    · rw [flat_length hl]
    · rw [hcl, hfit, ← h3]
      simp only [List.size_toArray, List.length_append, List.length_take, List.length_drop, hcl, Array.length_toList]
      rw [Nat.min_eq_left (by omega)]
      omega
    · have ht : cur.toList.take ((k + 1) * E.s) = (xs.take (k + 1)).flatMap E.f := by
        have := congrArg (List.take ((k + 1) * E.s)) h4
        rw [List.take_take, Nat.min_eq_left (Nat.mul_le_mul_right _ (by omega)), flat_take hl _ _ (by simp; omega), List.take_append_of_le_length (by omega)] at this
        exact this
      rw [ht, ← List.flatMap_append]
      have hlen : (xs.take (k + 1) ++ xs.drop k).length = xs.length + 1 := by simp; omega
      rw [hlen]
      simp only []
      rw [List.take_append_of_le_length (by rw [flat_length hl, hlen]; exact Nat.le_refl _), List.take_of_length_le (by rw [flat_length hl, hlen]; exact Nat.le_refl _)]
    · exact ⟨rfl, rfl, rfl, by simp [World.setRow], fun j hj hne => setRow_other w g j _ (by intro e; exact hne (by rw [e]))⟩
end

theorem wpList_copyIn {α : Type} {E : El α} {P : Program} (hE : E.Ok P) {w : World} {ops : Array Oper} {rest : List Oper} {o : Oper} {a : Act} {Q : Exit → Act → World → Prop} (hgd : o.guard = none) (d s : Operand)
    (ho : o.op = .call { callee := .builtin .copy, args := #[d, s], argTypes := #[E.t, E.t] }) (g cap k m dCap sCap lo : Nat) (xs : List α) (z : α) (hm : xs.length - k = m)
    (hd : a.eval d = .slice (some ⟨g, (k + 1) * E.s, none⟩) m dCap) (hs : a.eval s = .slice (some ⟨g, k * E.s, none⟩) (xs.length + 1 - k) sCap)
    (hown : OwnF E w lo (.slice (some ⟨g, 0, none⟩) (xs.length + 1) cap) (xs ++ [z])) (hk : k < xs.length)
    (h : ∀ w', Hid (OwnF E w' lo (.slice (some ⟨g, 0, none⟩) (xs.length + 1) cap) (xs.take (k + 1) ++ xs.drop k)) → Hid (w.grownBy w' (some g)) → wpList P ops Q rest (a.put o.dst (goInt (m : Int))) w') :
    wpList P ops Q (o :: rest) a w := by
  refine wpList_plain hgd fun K hK => ?_
  obtain ⟨w', hrun, h1, h2⟩ := OwnF.shift (dT := E.t) (sT := E.t) (ty := o.type) (dCap := dCap) (sCap := sCap) hE hE.und hown hk
  rw [hm] at hrun
  unfold Oper.wp
  simp [execOp, ho, resolve, invoke, builtin, hd, hs, hrun, Result.andThen]
  exact hK _ _ (h _ h1 h2)
theorem step_copyIn {α : Type} {E : El α} {P : Program} (hE : E.Ok P) {ops : Array Oper} {o : Oper} {a : Act} {w : World} {K : Act → World → Prop} {Q : Exit → Act → World → Prop} {X : Prop} (hgd : o.guard = none) (d s : Operand)
    (ho : o.op = .call { callee := .builtin .copy, args := #[d, s], argTypes := #[E.t, E.t] }) (g cap k m dCap sCap lo : Nat) (xs : List α) (z : α) (hm : xs.length - k = m)
    (hd : a.eval d = .slice (some ⟨g, (k + 1) * E.s, none⟩) m dCap) (hs : a.eval s = .slice (some ⟨g, k * E.s, none⟩) (xs.length + 1 - k) sCap)
    (hown : OwnF E w lo (.slice (some ⟨g, 0, none⟩) (xs.length + 1) cap) (xs ++ [z])) (hk : k < xs.length)
    (h : ∀ w', Hid (OwnF E w' lo (.slice (some ⟨g, 0, none⟩) (xs.length + 1) cap) (xs.take (k + 1) ++ xs.drop k)) → Hid (w.grownBy w' (some g)) → K (a.put o.dst (goInt (m : Int))) w') :
    if Region.wanted o (yielded ops a.tmps) = true then Oper.wp P o a w K Q else X := by
  have hw : Region.wanted o (yielded ops a.tmps) = true := by simp [Region.wanted, hgd]
  rw [if_pos hw]
  obtain ⟨w', hrun, h1, h2⟩ := OwnF.shift (dT := E.t) (sT := E.t) (ty := o.type) (dCap := dCap) (sCap := sCap) hE hE.und hown hk
  rw [hm] at hrun
  unfold Oper.wp
  simp [execOp, ho, resolve, invoke, builtin, hd, hs, hrun, Result.andThen]
  exact h _ h1 h2
theorem run_copy_noneF {P : Program} (w : World) (dT sT ty elem : TypeId) (s : Nat) (d a : Option Addr) (dLen dCap sLen sCap : Nat) (hu : P.underlying dT = some (.slice elem)) (hs : (P.info? elem).map (·.size) = some s) (hn : Nat.min sLen dLen = 0) :
    (Builtin.copy_ #[dT, sT] ty #[.slice d dLen dCap, .slice a sLen sCap]).run P w = .ok (goInt 0) w := by
  cases hq : P.info? elem with
  | none => simp [hq] at hs
  | some i =>
    have hmin : min sLen dLen = 0 := hn
    cases d <;> cases a <;> simp [Builtin.copy_, run_underlying hu, Builtin.lenOf, Builtin.firstCells, sizeOf, typeInfo, hq, hmin, storeCells, loadCells, loadCellsFrom]
theorem step_copyNone {α : Type} {E : El α} {P : Program} (hE : E.Ok P) {ops : Array Oper} {o : Oper} {a : Act} {w : World} {K : Act → World → Prop} {Q : Exit → Act → World → Prop} {X : Prop} (hgd : o.guard = none) (d s : Operand)
    (ho : o.op = .call { callee := .builtin .copy, args := #[d, s], argTypes := #[E.t, E.t] }) {dp sp : Option Addr} {dLen dCap sLen sCap : Nat}
    (hd : a.eval d = .slice dp dLen dCap) (hs : a.eval s = .slice sp sLen sCap) (hn : Nat.min sLen dLen = 0) (h : K (a.put o.dst (goInt 0)) w) :
    if Region.wanted o (yielded ops a.tmps) = true then Oper.wp P o a w K Q else X := by
  have hw : Region.wanted o (yielded ops a.tmps) = true := by simp [Region.wanted, hgd]
  rw [if_pos hw]
  have hrun := run_copy_noneF (P := P) w E.t E.t o.type E.e E.s dp sp dLen dCap sLen sCap hE.und hE.size hn
  unfold Oper.wp
  simp [execOp, ho, resolve, invoke, builtin, hd, hs, hrun, Result.andThen]
  exact h
end Go.Proofs.Ytehnbalbpfmijaa
