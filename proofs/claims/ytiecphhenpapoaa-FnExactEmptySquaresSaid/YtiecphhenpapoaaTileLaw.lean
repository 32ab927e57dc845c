/- The two ways to tell a tiling answer alike. No function of the program is named here. -/
import Derived.Test.YtiecphhenpapoaaSPart
namespace Go.Proofs.Ytiecphhenpapoaa
open Go.RowKit
set_option linter.unusedVariables false

theorem upFrom_eq {p q : Nat → Bool} {n : Nat} (h : ∀ k, k < n → (∀ j, j < k → p j = true) → p k = q k) : upFrom p 0 n = upFrom q 0 n := by
  rw [Bool.eq_iff_iff, upFrom_iff, upFrom_iff]
  constructor
  · intro hp j _ hj
    rw [← h j hj fun i hi => hp i (Nat.zero_le _) (by omega)]
    exact hp j (Nat.zero_le _) hj
  · intro hq
    have : ∀ j, j < n → p j = true := by
      intro j
      induction j using Nat.strongRecOn with
      | _ j ih =>
        intro hj
        rw [h j hj fun i hi => ih i hi (by omega)]
        exact hq j (Nat.zero_le _) hj
    exact fun j _ hj => this j hj
theorem ab_ne {l : Lk} (h : domL l = true) : aI l ≠ bI l ∧ aI l < 64 ∧ bI l < 64 := by
  obtain ⟨x, y, d⟩ := l
  have hd := (domB_iff _ _ _).1 h
  obtain ⟨a, rfl⟩ := Int.eq_ofNat_of_zero_le hd.1.1
  obtain ⟨b, rfl⟩ := Int.eq_ofNat_of_zero_le hd.1.2
  cases d <;> simp at hd <;> simp [aI, bI, cix] <;> omega
theorem lft_bit {R : Nat} (ls : List Lk) : ∀ k, (∀ j, j < k → domL (dAt ls j) = true) → ∀ i, i < 64 → (lftTo R ls k).testBit i = (R.testBit i && !(covTo ls k).testBit i)
  | 0, _, i, _ => by simp [lftTo, covTo]
  | k + 1, h, i, hi => by
    have ih := lft_bit (R := R) ls k (fun j hj => h j (by omega)) i hi
    have hd := h k (by omega)
    have hm := dM_lt hd
    have e : 18446744073709551615 - dM (dAt ls k) = 2 ^ 64 - (dM (dAt ls k) + 1) := by omega
    rw [lftTo, covTo, if_pos hd, Nat.testBit_and, ih, e, Nat.testBit_two_pow_sub_succ hm, Nat.testBit_or]
    cases R.testBit i <;> cases (covTo ls k).testBit i <;> cases (dM (dAt ls k)).testBit i <;> simp [hi]
theorem ab_bit (a b i : Nat) : (2 ^ a ||| 2 ^ b).testBit i = (decide (a = i) || decide (b = i)) := by rw [Nat.testBit_or, Nat.testBit_two_pow, Nat.testBit_two_pow]
theorem and_ab (L a b : Nat) : (L &&& (2 ^ a ||| 2 ^ b) == 2 ^ a ||| 2 ^ b) = (L.testBit a && L.testBit b) := by
  rw [Bool.eq_iff_iff, beq_iff_eq, Bool.and_eq_true]
  constructor
  · intro h
    constructor
    · have := congrArg (fun n => n.testBit a) h
      simp only [Nat.testBit_and, ab_bit] at this
      simpa using this
    · have := congrArg (fun n => n.testBit b) h
      simp only [Nat.testBit_and, ab_bit] at this
      simpa using this
  · rintro ⟨h1, h2⟩
    apply Nat.eq_of_testBit_eq
    intro i
    rw [Nat.testBit_and, ab_bit]
    by_cases e1 : a = i
    · subst e1; simp [h1]
    · by_cases e2 : b = i
      · subst e2; simp [h2]
      · simp [e1, e2]
theorem part_eq (R : Nat) (ls : List Lk) : partB R ls = sPartB R ls := by
  unfold partB sPartB
  refine upFrom_eq fun k hk hj => ?_
  have hdj : ∀ j, j < k → domL (dAt ls j) = true := fun j hjk => by
    have := hj j hjk
    simp only [pAt, Bool.and_eq_true] at this
    exact this.1.1
  unfold pAt qAt
  cases hd : domL (dAt ls k)
  · simp
  · obtain ⟨_, h1, h2⟩ := ab_ne hd
    rw [dM_ab, and_ab, lft_bit ls k hdj _ h1, lft_bit ls k hdj _ h2]
    cases R.testBit (aI (dAt ls k)) <;> cases R.testBit (bI (dAt ls k)) <;> cases (covTo ls k).testBit (aI (dAt ls k)) <;> cases (covTo ls k).testBit (bI (dAt ls k)) <;> simp
theorem cnt_or (T a : Nat) (h : T.testBit a = false) : ∀ n, cntB (T ||| 2 ^ a) n = cntB T n + (if a < n then 1 else 0)
  | 0 => by simp [cntB]
  | n + 1 => by
    have ih := cnt_or T a h n
    rw [cntB, cntB, ih, Nat.testBit_or, Nat.testBit_two_pow]
    by_cases e : a = n
    · subst e; simp [h]
    · have : (a < n + 1) = (a < n) := by rw [eq_iff_iff]; omega
      simp only [this, e, decide_false, Bool.or_false]
      omega
theorem cnt_mono {A B : Nat} (h : ∀ i, A.testBit i = true → B.testBit i = true) : ∀ n, cntB A n ≤ cntB B n ∧ (cntB A n = cntB B n → ∀ i, i < n → A.testBit i = B.testBit i)
  | 0 => ⟨Nat.le_refl _, fun _ i hi => by omega⟩
  | n + 1 => by
    obtain ⟨h1, h2⟩ := cnt_mono h n
    have hn := h n
    rw [cntB, cntB]
    cases ha : A.testBit n <;> cases hb : B.testBit n
    · refine ⟨by simpa using h1, fun e i hi => ?_⟩
      rcases Nat.lt_succ_iff_lt_or_eq.1 hi with hi | rfl
      · exact h2 (by simpa using e) i hi
      · rw [ha, hb]
    · exact ⟨by simp; omega, fun e => by simp at e; omega⟩
    · rw [ha, hb] at hn; simp at hn
    · refine ⟨by simp; omega, fun e i hi => ?_⟩
      rcases Nat.lt_succ_iff_lt_or_eq.1 hi with hi | rfl
      · exact h2 (by simpa using e) i hi
      · rw [ha, hb]
theorem cov_facts {R : Nat} {ls : List Lk} (h : sPartB R ls = true) : ∀ k, k ≤ ls.length → cntB (covTo ls k) 64 = 2 * k ∧ ∀ i, (covTo ls k).testBit i = true → R.testBit i = true
  | 0, _ => ⟨by simp only [covTo]; decide, fun i hi => by simp [covTo] at hi⟩
  | k + 1, hk => by
    obtain ⟨h1, h2⟩ := cov_facts h k (by omega)
    have hq := (upFrom_iff _ _ _).1 h k (Nat.zero_le _) (by omega)
    unfold qAt at hq
    simp only [Bool.and_eq_true, Bool.not_eq_true'] at hq
    obtain ⟨⟨hd, _⟩, ⟨⟨r1, r2⟩, c1⟩, c2⟩ := hq
    obtain ⟨hne, l1, l2⟩ := ab_ne hd
    rw [covTo, if_pos hd, dM_ab, ← Nat.or_assoc]
    have c2' : (covTo ls k ||| 2 ^ aI (dAt ls k)).testBit (bI (dAt ls k)) = false := by rw [Nat.testBit_or, c2, Nat.testBit_two_pow]; simp [hne]
    refine ⟨?_, fun i hi => ?_⟩
    · rw [cnt_or _ _ c2', cnt_or _ _ c1, h1, if_pos l1, if_pos l2]; omega
    · rw [Nat.testBit_or, Nat.testBit_or, Nat.testBit_two_pow, Nat.testBit_two_pow] at hi
      simp only [Bool.or_eq_true, decide_eq_true_eq] at hi
      rcases hi with (hi | hi) | hi
      · exact h2 i hi
      · rw [← hi]; exact r1
      · rw [← hi]; exact r2
theorem part_len {R : Nat} {ls : List Lk} (h : sPartB R ls = true) : ls.length ≤ 32 := by
  have h1 := (cov_facts h ls.length (Nat.le_refl _)).1
  have h2 := cntB_le (covTo ls ls.length) 64
  omega
def sTileB (R : Nat) (ls : List Lk) : Bool := sPartB R ls && decide (2 * ls.length = cntB R 64)
theorem tile_eq {R : Nat} (hR : R < 18446744073709551616) (ls : List Lk) : tileB R ls = sTileB R ls := by
  unfold tileB sTileB
  rw [part_eq]
  cases h : sPartB R ls
  · rfl
  · obtain ⟨h1, h2⟩ := cov_facts h ls.length (Nat.le_refl _)
    rw [Bool.true_and, Bool.true_and, Bool.eq_iff_iff, beq_iff_eq, decide_eq_true_eq]
    constructor
    · intro e; rw [e] at h1; omega
    · intro e
      apply Nat.eq_of_testBit_eq
      intro i
      by_cases hi : i < 64
      · exact (cnt_mono h2 64).2 (by omega) i hi
      · have hc := covTo_lt ls ls.length
        rw [Nat.testBit_lt_two_pow (Nat.lt_of_lt_of_le hc (Nat.pow_le_pow_right (n := 2) (i := 64) (by omega) (by omega))), Nat.testBit_lt_two_pow (Nat.lt_of_lt_of_le hR (Nat.pow_le_pow_right (n := 2) (i := 64) (by omega) (by omega)))]

set_option maxRecDepth 100000 in
theorem specIsTiling_yes (u v : Value) (zs : List Int) (ls : List Lk) (B : Nat) (w : World) (hu : RdI w B u zs) (h : RdF elDomino w B v ls) (hB : B ≤ w.heap.size) (hok : regOkB zs = true) :
    Calls Try.prog 41 #[.agg #[u], v] w fun e w' => e = .returned (.bool (sTileB (setZ zs) ls)) ∧ Below w.heap.size w w' := by
  have HU := Lib.hid hu
  have HV := Lib.hid h
  have HOK := Lib.hid hok
  have HPL := Lib.hid (fun h => part_len (R := setZ zs) (ls := ls) h)
  have HPI := Lib.hid (fun V a b c => specIsPartial_yes u v zs ls B V a b c hok)
  have HCC := Lib.hid (fun V a c => CountCells_yes u zs B V a c hok)
  have HCL := Lib.hid (cntB_le (setZ zs) 64)
  obtain ⟨A0, c0, rfl, g10, g20, _⟩ := hu
  obtain ⟨A, c, rfl, g1, g2, _⟩ := RdT.of (E := elDomino) rfl (fun _ => rfl) h
  unfold maxLen at g2 g20
  clear h hok
  obtain ⟨W, hW, k1, hb⟩ := one_alloc w (.cells #[.slice A0 zs.length c0] 51)
  have c1 : W.cell? ⟨w.heap.size, 0, none⟩ = some (.slice A0 zs.length c0) := by rw [blk_cell k1]; rfl
  have HW := Lib.hid hW
  have HB := Lib.hid hb
  have K1 := Lib.hid k1
  clear hW k1 hb
  go_enter Try.func41, Try.ntmps41
  go_upto_region 1 with (fail)
  rw [← HW.out]
  go_wp2_with fail
  refine (HPI.out _ (HU.out.below (HB.out.mono hB)) (HV.out.below (HB.out.mono hB)) (Nat.le_trans hB HB.out.size)).mono ?_
  rintro e w3 ⟨rfl, hb3⟩
  have HB3 := Lib.hid (HB.out.trans (hb3.mono HB.out.size))
  have c3 : w3.cell? ⟨w.heap.size, 0, none⟩ = some (.slice A0 zs.length c0) := by rw [blk_cell (blk_below K1.out hb3)]; rfl
  clear hb3 c1
  cases hp : sPartB (setZ zs) ls
  · have HF : Hid (false = sTileB (setZ zs) ls) := by unfold Hid sTileB; rw [hp]; rfl
    go_wp2_with fail
    go_ret
    exact ⟨ret_bool HF.out, HB3.out⟩
  · have hl := HPL.out hp
    have HF : Hid (decide (2 * ls.length = cntB (setZ zs) 64) = sTileB (setZ zs) ls) := by unfold Hid sTileB; rw [hp]; rfl
    have hcl := HCL.out
    clear HPI HPL
    generalize cntB (setZ zs) 64 = q at *
    have e2 : IntKind.i64.wrap (2 * (ls.length : Int)) = 2 * (ls.length : Int) := IntWalk.i64_in _ (by omega)
    go_wp2_with fail
    refine (HCC.out _ (HU.out.below (HB3.out.mono hB)) (Nat.le_trans hB HB3.out.size)).mono ?_
    rintro e w4 ⟨rfl, hb4⟩
    have HB4 := Lib.hid (HB3.out.trans (hb4.mono HB3.out.size))
    have HT : Hid ((2 * (ls.length : Int) == (q : Int)) = decide (2 * ls.length = q)) := by unfold Hid; rw [Bool.eq_iff_iff, beq_iff_eq, decide_eq_true_eq]; omega
    go_wp2_with fail
    go_ret
    exact ⟨ret_bool (HT.out.trans HF.out), HB4.out⟩
end Go.Proofs.Ytiecphhenpapoaa
