/- The contract of the reference's l18Find. -/
import Derived.Test.YtiecphhenpapoaaEach3

namespace Go.Proofs.Ytiecphhenpapoaa
open Go.RowKit
set_option linter.unusedVariables false

theorem quietDrawnF {P : Program} {f : FuncId} {args : Array Value} {w : World} {n : Nat} {v : Value}
    (h : Calls P f args (w.drewN n) fun e w' => e = .returned v ∧ Drawn (w.drewN n) w') : Calls P f args (w.drewN n) fun e w'' => e = .returned v ∧ ∃ m, w'' = w.drewN m :=
  h.mono fun _ _ ⟨he, m, hm⟩ => ⟨he, n + m, by rw [hm, World.drewN_drewN]⟩
theorem i64_or (a b : Nat) (ha : a < 4611686018427387904) (hb : b < 4611686018427387904) : bits .or .i64 (a : Int) (b : Int) = ((a ||| b : Nat) : Int) := by
  have hlt : a ||| b < 2 ^ 62 := Nat.or_lt_two_pow (by omega) (by omega)
  have ea : ((a : Int) % ((2 ^ 64 : Nat) : Int)).toNat = a := by omega
  have eb : ((b : Int) % ((2 ^ 64 : Nat) : Int)).toNat = b := by omega
  have key : (BitVec.ofInt 64 (a : Int) ||| BitVec.ofInt 64 (b : Int)).toNat = a ||| b := by
    rw [BitVec.toNat_or, BitVec.toNat_ofInt, BitVec.toNat_ofInt, ea, eb]
  show IntKind.i64.wrap ((BitVec.ofInt 64 (a : Int) ||| BitVec.ofInt 64 (b : Int)).toNat : Nat) = _
  rw [key, IntKind.wrap_i64]
  generalize a ||| b = q at *
  simp at hlt
  omega
theorem i64_bit (T k : Nat) (hT : T < 4611686018427387904) : bits .and .i64 ((T / 2 ^ k : Nat) : Int) 1 = if T.testBit k then 1 else 0 := by
  have hle : T / 2 ^ k ≤ T := Nat.div_le_self _ _
  rw [Nat.testBit_eq_decide_div_mod_eq]
  generalize T / 2 ^ k = S at *
  have e1 : ((S : Int) % ((2 ^ 64 : Nat) : Int)).toNat = S := by omega
  have h1 : (BitVec.ofInt 64 1).toNat = 1 := by decide
  have key : (BitVec.ofInt 64 (S : Int) &&& BitVec.ofInt 64 1).toNat = S % 2 := by
    rw [BitVec.toNat_and, BitVec.toNat_ofInt, e1, h1, Nat.and_one_is_mod]
  show IntKind.i64.wrap ((BitVec.ofInt 64 (S : Int) &&& BitVec.ofInt 64 1).toNat : Nat) = _
  rw [key, IntKind.wrap_i64]
  by_cases h : S % 2 = 1
  · rw [if_pos (by simpa using h)]; omega
  · rw [if_neg (by simpa using h)]; omega
theorem findZ_bd (w h : Nat) : ∀ d c l, -9223372036854775808 ≤ findZ w h d c l ∧ findZ w h d c l ≤ 9223372036854775807
  | 0, _, _ => by simp [findZ]
  | d + 1, c, l => by
    rw [findZ]
    split
    · split <;> simp
    · have key : ∀ z : Int, -9223372036854775808 ≤ wrap64 z ∧ wrap64 z ≤ 9223372036854775807 := fun z => by unfold wrap64; omega
      simp only
      split
      · exact key _
      · split
        · exact findZ_bd w h d _ _
        · simp
theorem fstF_spec (n c : Nat) : ∀ d i, i ≤ fstF n c d i ∧ fstF n c d i ≤ i + d ∧ (∀ j, i ≤ j → j < fstF n c d i → c.testBit j = true ∧ j < n) ∧ (fstF n c d i < i + d → fstF n c d i < n → c.testBit (fstF n c d i) = false)
  | 0, i => by simp [fstF]; intro j h1 h2; omega
  | d + 1, i => by
    rw [fstF]
    cases hb : (decide (i < n) && c.testBit i)
    · rw [if_neg (by simp)]
      refine ⟨Nat.le_refl _, by omega, fun j h1 h2 => by omega, fun _ h => ?_⟩
      simpa [h] using hb
    · rw [if_pos rfl]
      obtain ⟨h1, h2, h3, h4⟩ := fstF_spec n c d (i + 1)
      simp only [Bool.and_eq_true, decide_eq_true_eq] at hb
      refine ⟨by omega, by omega, fun j g1 g2 => ?_, fun g => h4 (by omega)⟩
      by_cases e : j = i
      · subst e; exact ⟨hb.2, hb.1⟩
      · exact h3 j (by omega) g2
theorem fstF_facts (n c : Nat) : fstF n c n 0 ≤ n ∧ (∀ j, j < fstF n c n 0 → c.testBit j = true) ∧ (fstF n c n 0 < n → c.testBit (fstF n c n 0) = false) := by
  obtain ⟨_, h2, h3, h4⟩ := fstF_spec n c n 0
  exact ⟨by omega, fun j hj => (h3 j (Nat.zero_le _) hj).1, fun h => h4 (by omega) h⟩
/-- One call of l18Find. -/
def FindT (w h d c l : Nat) : Prop := ∀ W : World, Calls Try.prog 67 #[.int .i64 (w : Int), .int .i64 (h : Int), .int .i64 (c : Int), .int .i64 (l : Int)] W fun e W' => e = .returned (.int .i64 (findZ w h (d + 1) c l)) ∧ Drawn W W'
theorem i64_bit' (T k : Nat) (hT : T < 4611686018427387904) : bits .and .i64 ((T : Int) / 2 ^ k) 1 = if T.testBit k then 1 else 0 := by
  rw [← i64_bit T k hT]; simp
set_option maxRecDepth 100000 in
set_option maxHeartbeats 4000000 in
theorem find_end (w h d c l : Nat) (hw : 1 ≤ w ∧ w ≤ 6) (hh : 1 ≤ h ∧ h ≤ 6) (hn : w * h ≤ 30) (hc : c < 4611686018427387904) (hk : fstF (w * h) c (w * h) 0 = w * h) : FindT w h d c l := by
  intro W
  obtain ⟨_, f2, _⟩ := fstF_facts (w * h) c
  rw [hk] at f2
  have HZ : Hid (findZ w h (d + 1) c l = if l = 2 ^ (w + h - 2) - 1 then 1 else 0) := by unfold Hid; rw [findZ, if_pos hk]
  have HF2 := Lib.hid f2
  have hmul : (w : Int) * (h : Int) = ((w * h : Nat) : Int) := by simp
  rw [HZ.out]
  have hp : (2 ^ (w + h - 2) : Nat) ≤ 2 ^ 10 := Nat.pow_le_pow_right (by omega) (by omega)
  have hp1 : 1 ≤ (2 ^ (w + h - 2) : Nat) := Nat.one_le_two_pow
  have hex : ((w : Int) + (h : Int) - 2).toNat = w + h - 2 := by omega
  have hpc : ((2 : Int) ^ (w + h - 2)) = ((2 ^ (w + h - 2) : Nat) : Int) := by simp
  generalize w * h = n at *
  generalize (2 ^ (w + h - 2) : Nat) = q at *
  simp at hp
  clear HZ f2 hk
  go_enter Try.func67, Try.ntmps67
  go_wp2_with fail
  go_loop [10] (fun i => ∃ k : Nat, k ≤ n ∧ i = .int .i64 k) (fun i => n - (intOf i).toNat)
  case atStart => exact ⟨0, Nat.zero_le _, rfl⟩
  case round =>
    obtain ⟨k, hk, rfl⟩ := hrel
    have hk0 : (0 : Int) ≤ (k : Int) := by omega
    by_cases hlt : k < n
    · have ht : decide ((k : Int) < (n : Int)) = true := by simp only [decide_eq_true_eq]; omega
      have hba := i64_bit' c k hc
      rw [HF2.out k hlt] at hba
      have hbb : (bits .and .i64 ((c : Int) / 2 ^ k) 1 == 1) = true := by rw [hba]; rfl
      clear hba
      go_wp2_with fail
      go_round
      case rel => exact ⟨k + 1, by omega, by go_num⟩
      case measure => simp [intOf]; omega
    · obtain rfl : k = n := by omega
      have ht : decide ((k : Int) < (k : Int)) = false := by simp
      by_cases hlq : l = q - 1
      · have h1 : ((l : Int) == (q : Int) - 1) = true := by simp; omega
        go_wp2_with fail
        all_goals
          go_ret
          first
            | exact ⟨rfl, Drawn.refl _⟩
            | exact absurd hlq (by assumption)
      · have h1 : ((l : Int) == (q : Int) - 1) = false := by rw [beq_eq_false_iff_ne]; omega
        go_wp2_with fail
        all_goals
          go_ret
          first
            | exact ⟨rfl, Drawn.refl _⟩
            | exact absurd (by assumption) hlq
theorem shl_i64 (a x : Nat) (h : a * 2 ^ x < 9223372036854775808) : IntKind.i64.wrap ((a : Int) * (2 : Int) ^ x) = ((a * 2 ^ x : Nat) : Int) := by
  have e : ((a : Int) * (2 : Int) ^ x) = ((a * 2 ^ x : Nat) : Int) := by simp
  rw [e, IntKind.wrap_i64]
  generalize (a * 2 ^ x : Nat) = p at *
  omega
set_option maxRecDepth 100000 in
set_option maxHeartbeats 4000000 in
theorem find_node (w h d c l : Nat) (hw : 1 ≤ w ∧ w ≤ 6) (hh : 1 ≤ h ∧ h ≤ 6) (hn : w * h ≤ 30) (hc : c < 1125899906842624) (hl : l < 1125899906842624) (hk : fstF (w * h) c (w * h) 0 < w * h)
    (I1 : ∀ k, k = fstF (w * h) c (w * h) 0 → k % w + 1 < w → c.testBit (k + 1) = false → FindT w h d (c ||| 3 * 2 ^ k) (l ||| 2 ^ (k % w)))
    (I2 : ∀ k, k = fstF (w * h) c (w * h) 0 → k / w + 1 < h → FindT w h d (c ||| 2 ^ k ||| 2 ^ (k + w)) (l ||| 2 ^ (w - 1 + k / w))) : FindT w h (d + 1) c l := by
  intro W
  obtain ⟨_, f2, f3⟩ := fstF_facts (w * h) c
  have f3 := f3 hk
  have HZ : Hid (findZ w h (d + 1 + 1) c l = if fstF (w * h) c (w * h) 0 / w + 1 < h then wrap64 ((if decide (fstF (w * h) c (w * h) 0 % w + 1 < w) && !c.testBit (fstF (w * h) c (w * h) 0 + 1) then findZ w h (d + 1) (c ||| 3 * 2 ^ fstF (w * h) c (w * h) 0) (l ||| 2 ^ (fstF (w * h) c (w * h) 0 % w)) else 0) + findZ w h (d + 1) (c ||| 2 ^ fstF (w * h) c (w * h) 0 ||| 2 ^ (fstF (w * h) c (w * h) 0 + w)) (l ||| 2 ^ (w - 1 + fstF (w * h) c (w * h) 0 / w)))
      else (if decide (fstF (w * h) c (w * h) 0 % w + 1 < w) && !c.testBit (fstF (w * h) c (w * h) 0 + 1) then findZ w h (d + 1) (c ||| 3 * 2 ^ fstF (w * h) c (w * h) 0) (l ||| 2 ^ (fstF (w * h) c (w * h) 0 % w)) else 0)) := by
    unfold Hid; rw [findZ, if_neg (by omega)]
  generalize findZ w h (d + 1 + 1) c l = Z at *
  have HF2 := Lib.hid f2
  have I1 := I1 _ rfl
  have I2 := I2 _ rfl
  obtain ⟨m, HM⟩ : ∃ m : Nat, Hid (fstF (w * h) c (w * h) 0 = m) := ⟨_, rfl⟩
  rw [HM.out] at HF2 HZ I1 I2 f3 hk
  have hmul : (w : Int) * (h : Int) = ((w * h : Nat) : Int) := by simp
  generalize w * h = n at *
  clear f2 HM
  have hx0 : m % w < w := Nat.mod_lt _ (by omega)
  have hmod : (m : Int) % (w : Int) = ((m % w : Nat) : Int) := by simp
  have hdiv : (m : Int) / (w : Int) = ((m / w : Nat) : Int) := by simp
  have hy0 : m / w ≤ 30 := by have := Nat.div_le_self m w; omega
  generalize m % w = x at *
  generalize m / w = y at *
  have HI1 := Lib.hid I1; have HI2 := Lib.hid I2
  clear I1 I2
  have h2m : 2 ^ m ≤ 2 ^ 30 := Nat.pow_le_pow_right (by omega) (by omega)
  go_enter Try.func67, Try.ntmps67
  go_wp2_with fail
  go_loop [10] (fun i => ∃ k : Nat, k ≤ m ∧ i = .int .i64 k) (fun i => m - (intOf i).toNat)
  case atStart => exact ⟨0, Nat.zero_le _, rfl⟩
  case round =>
    obtain ⟨k, hk9, rfl⟩ := hrel
    have hk0 : (0 : Int) ≤ (k : Int) := by omega
    have ht : decide ((k : Int) < (n : Int)) = true := by simp only [decide_eq_true_eq]; omega
    have hba := i64_bit' c k (by omega)
    by_cases hlt : k < m
    · rw [HF2.out k hlt] at hba
      have hbb : (bits .and .i64 ((c : Int) / 2 ^ k) 1 == 1) = true := by rw [hba]; rfl
      clear hba
      go_wp2_with fail
      go_round
      case rel => exact ⟨k + 1, by omega, by go_num⟩
      case measure => simp [intOf]; omega
    · obtain rfl : k = m := by omega
      rw [f3] at hba
      have hbb : (bits .and .i64 ((c : Int) / 2 ^ k) 1 == 1) = false := by rw [hba]; rfl
      have hne : ((k : Int) == (n : Int)) = false := by rw [beq_eq_false_iff_ne]; omega
      clear hba
      have hbk := i64_bit' c (k + 1) (by omega)
      have hk1 : ((k : Int) + 1).toNat = k + 1 := by omega
      obtain ⟨o1, HO1⟩ : ∃ o1, Hid ((if decide (x + 1 < w) && !c.testBit (k + 1) then findZ w h (d + 1) (c ||| 3 * 2 ^ k) (l ||| 2 ^ x) else 0) = o1) := ⟨_, rfl⟩
      rw [HO1.out] at HZ
      have ho1 : -9223372036854775808 ≤ o1 ∧ o1 ≤ 9223372036854775807 := by
        rw [← HO1.out]; split
        · exact findZ_bd _ _ _ _ _
        · omega
      obtain ⟨ho1a, ho1b⟩ := ho1
      -- the numbers of the second call
      have h2k : 2 ^ (k + w) ≤ 2 ^ 36 := Nat.pow_le_pow_right (by omega) (by omega)
      have h2e : 2 ^ (w - 1 + y) ≤ 2 ^ 40 := Nat.pow_le_pow_right (by omega) (by omega)
      have hkw : ((k : Int) + (w : Int)).toNat = k + w := by omega
      have hwy : ((w : Int) - 1 + (y : Int)).toNat = w - 1 + y := by omega
      have sa := shl_i64 1 k (by omega)
      have sb := shl_i64 1 (k + w) (by omega)
      have sc := shl_i64 1 (w - 1 + y) (by omega)
      rw [Nat.one_mul, show (((1 : Nat) : Int)) = 1 from rfl, Int.one_mul] at sa sb sc
      have hor1 := i64_or c (2 ^ k) (by omega) (by omega)
      have hlt1 : c ||| 2 ^ k < 2 ^ 60 := Nat.or_lt_two_pow (by omega) (by omega)
      have hor2 := i64_or (c ||| 2 ^ k) (2 ^ (k + w)) (by omega) (by omega)
      have hor3 := i64_or l (2 ^ (w - 1 + y)) (by omega) (by omega)
      have HTWO : Hid (y + 1 < h → FindT w h d (c ||| 2 ^ k ||| 2 ^ (k + w)) (l ||| 2 ^ (w - 1 + y))) := HI2.out
      generalize (2 ^ (k + w) : Nat) = pb at *
      generalize (2 ^ (w - 1 + y) : Nat) = pc at *
      clear HI2 h2k h2e hlt1
      by_cases hx1 : x + 1 < w
      · cases hb1 : c.testBit (k + 1)
        · -- a domino to the right
          have HC1 := HI1.out hx1 hb1
          have h2x : 2 ^ x ≤ 2 ^ 6 := Nat.pow_le_pow_right (by omega) (by omega)
          have sd := shl_i64 3 k (by omega)
          have se := shl_i64 1 x (by omega)
          rw [Nat.one_mul, show (((1 : Nat) : Int)) = 1 from rfl, Int.one_mul] at se
          rw [show (((3 : Nat) : Int)) = 3 from rfl] at sd
          have hor4 := i64_or c (3 * 2 ^ k) (by omega) (by omega)
          have hor5 := i64_or l (2 ^ x) (by omega) (by omega)
          have HO2 : Hid (findZ w h (d + 1) (c ||| 3 * 2 ^ k) (l ||| 2 ^ x) = o1) := by unfold Hid; rw [← HO1.out, hb1]; simp [hx1]
          generalize c ||| 3 * 2 ^ k = c1 at *
          generalize l ||| 2 ^ x = l1 at *
          generalize (3 * 2 ^ k : Nat) = pd at *
          generalize (2 ^ x : Nat) = pe at *
          have HC1 := Lib.hid HC1
          rw [hb1] at hbk
          have hbe : (bits .and .i64 ((c : Int) / 2 ^ (k + 1)) 1 == 0) = true := by rw [hbk]; rfl
          generalize c ||| 2 ^ k = c2 at *
          generalize c2 ||| pb = c3 at *
          generalize l ||| pc = l3 at *
          generalize (2 ^ k : Nat) = pa at *
          have htx : decide ((x : Int) + 1 < (w : Int)) = true := by simp only [decide_eq_true_eq]; omega
          clear hbk HI1 HO1
          go_wp2_with fail
          go_quiet ((go_at_call 67; exact quietDrawnF ((HC1.out _).mono fun e W' q => by rw [HO2.out] at q; exact q)))
          obtain ⟨W1, hW1⟩ : ∃ W1, W1 = W.drewN nq := ⟨_, rfl⟩
          rw [← hW1]
          have HD1 : Hid (Drawn W W1) := ⟨_, hW1⟩
          clear hW1
          by_cases hy1 : y + 1 < h
          · have hty : decide ((y : Int) + 1 < (h : Int)) = true := by simp only [decide_eq_true_eq]; omega
            have HC2 := Lib.hid (HTWO.out hy1)
            have HZ2 : Hid (Z = wrap64 (o1 + findZ w h (d + 1) c3 l3)) := by unfold Hid; rw [HZ, if_pos hy1]
            have hzb := findZ_bd w h (d + 1) c3 l3
            have HCC : Hid (∀ V, Calls Try.prog 67 #[.int .i64 (w : Int), .int .i64 (h : Int), .int .i64 (c3 : Int), .int .i64 (l3 : Int)] V fun e W' => e = .returned (.int .i64 (findZ w h (d + 1) c3 l3)) ∧ Drawn V W') := HC2.out
            generalize findZ w h (d + 1) c3 l3 = z2 at *
            clear HZ HC2 HTWO hy1
            go_wp2_with fail
            go_quiet ((go_at_call 67; exact quietDrawnF (HCC.out _)))
            go_wp2_with fail
            go_ret
            exact ⟨ret_int HZ2.out.symm, (HD1.out).trans ⟨_, rfl⟩⟩
          · have hty : decide ((y : Int) + 1 < (h : Int)) = false := by simp only [decide_eq_false_iff_not]; omega
            have HZ2 : Hid (Z = o1) := by unfold Hid; rw [HZ, if_neg hy1]
            clear HZ HTWO hy1
            go_wp2_with fail
            go_ret
            exact ⟨ret_int HZ2.out.symm, HD1.out⟩
        · have hbe : (bits .and .i64 ((c : Int) / 2 ^ (k + 1)) 1 == 0) = false := by rw [hbk, hb1]; rfl
          have htx : decide ((x : Int) + 1 < (w : Int)) = true := by simp only [decide_eq_true_eq]; omega
          obtain rfl : o1 = 0 := by rw [← HO1.out, hb1]; simp
          generalize c ||| 2 ^ k = c2 at *
          generalize c2 ||| pb = c3 at *
          generalize l ||| pc = l3 at *
          generalize (2 ^ k : Nat) = pa at *
          clear hbk HI1 HO1
          by_cases hy1 : y + 1 < h
          · have hty : decide ((y : Int) + 1 < (h : Int)) = true := by simp only [decide_eq_true_eq]; omega
            have HC2 := Lib.hid (HTWO.out hy1)
            have HZ2 : Hid (Z = findZ w h (d + 1) c3 l3) := by unfold Hid; rw [HZ, if_pos hy1]; have := findZ_bd w h (d + 1) c3 l3; unfold wrap64; omega
            have hzb := findZ_bd w h (d + 1) c3 l3
            have HCC : Hid (∀ V, Calls Try.prog 67 #[.int .i64 (w : Int), .int .i64 (h : Int), .int .i64 (c3 : Int), .int .i64 (l3 : Int)] V fun e W' => e = .returned (.int .i64 (findZ w h (d + 1) c3 l3)) ∧ Drawn V W') := HC2.out
            generalize findZ w h (d + 1) c3 l3 = z2 at *
            clear HZ HC2 HTWO hy1
            go_wp2_with fail
            go_quiet ((go_at_call 67; exact quietDrawnF (HCC.out _)))
            go_wp2_with fail
            go_ret
            exact ⟨ret_int HZ2.out.symm, (Drawn.refl _).trans ⟨_, rfl⟩⟩
          · have hty : decide ((y : Int) + 1 < (h : Int)) = false := by simp only [decide_eq_false_iff_not]; omega
            have HZ2 : Hid (Z = 0) := by unfold Hid; rw [HZ, if_neg hy1]
            clear HZ HTWO hy1
            go_wp2_with fail
            go_ret
            exact ⟨ret_int HZ2.out.symm, Drawn.refl _⟩
      · have htx : decide ((x : Int) + 1 < (w : Int)) = false := by simp only [decide_eq_false_iff_not]; omega
        obtain rfl : o1 = 0 := by rw [← HO1.out]; simp [hx1]
        generalize c ||| 2 ^ k = c2 at *
        generalize c2 ||| pb = c3 at *
        generalize l ||| pc = l3 at *
        generalize (2 ^ k : Nat) = pa at *
        clear hbk HI1 HO1
        by_cases hy1 : y + 1 < h
        · have hty : decide ((y : Int) + 1 < (h : Int)) = true := by simp only [decide_eq_true_eq]; omega
          have HC2 := Lib.hid (HTWO.out hy1)
          have HZ2 : Hid (Z = findZ w h (d + 1) c3 l3) := by unfold Hid; rw [HZ, if_pos hy1]; have := findZ_bd w h (d + 1) c3 l3; unfold wrap64; omega
          have hzb := findZ_bd w h (d + 1) c3 l3
          have HCC : Hid (∀ V, Calls Try.prog 67 #[.int .i64 (w : Int), .int .i64 (h : Int), .int .i64 (c3 : Int), .int .i64 (l3 : Int)] V fun e W' => e = .returned (.int .i64 (findZ w h (d + 1) c3 l3)) ∧ Drawn V W') := HC2.out
          generalize findZ w h (d + 1) c3 l3 = z2 at *
          clear HZ HC2 HTWO hy1
          go_wp2_with fail
          go_quiet ((go_at_call 67; exact quietDrawnF (HCC.out _)))
          go_wp2_with fail
          go_ret
          exact ⟨ret_int HZ2.out.symm, (Drawn.refl _).trans ⟨_, rfl⟩⟩
        · have hty : decide ((y : Int) + 1 < (h : Int)) = false := by simp only [decide_eq_false_iff_not]; omega
          have HZ2 : Hid (Z = 0) := by unfold Hid; rw [HZ, if_neg hy1]
          clear HZ HTWO hy1
          go_wp2_with fail
          go_ret
          exact ⟨ret_int HZ2.out.symm, Drawn.refl _⟩
theorem find_any (w h : Nat) (hw : 1 ≤ w ∧ w ≤ 6) (hh : 1 ≤ h ∧ h ≤ 6) (hn : w * h ≤ 30) : ∀ (d c l : Nat), c < 2 ^ 50 → l < 2 ^ 50 → (∀ i, i + d < w * h → c.testBit i = true) → FindT w h d c l := by
  intro d
  induction d with
  | zero =>
    intro c l hc hl hi
    obtain ⟨f1, _, f3⟩ := fstF_facts (w * h) c
    refine find_end w h 0 c l hw hh hn (Nat.lt_trans hc (by decide)) ?_
    by_cases e : fstF (w * h) c (w * h) 0 < w * h
    · have := f3 e
      rw [hi _ (by omega)] at this
      simp at this
    · omega
  | succ d ih =>
    intro c l hc hl hi
    obtain ⟨f1, f2, f3⟩ := fstF_facts (w * h) c
    by_cases e : fstF (w * h) c (w * h) 0 < w * h
    · have hf := f3 e
      have hk : w * h ≤ fstF (w * h) c (w * h) 0 + (d + 1) := by
        by_cases g : fstF (w * h) c (w * h) 0 + (d + 1) < w * h
        · rw [hi _ g] at hf; simp at hf
        · omega
      have key : ∀ k i, k = fstF (w * h) c (w * h) 0 → i + d < w * h → i = k ∨ c.testBit i = true := fun k i hk' hi' => by
        by_cases g : i = k
        · exact .inl g
        · exact .inr (f2 i (by omega))
      have p2 : ∀ a, a ≤ 45 → (2 : Nat) ^ a < 2 ^ 50 := fun a ha => Nat.pow_lt_pow_right (by omega) (by omega)
      refine find_node w h d c l hw hh hn (by simpa using hc) (by simpa using hl) e (fun k hk' h1 h2 => ?_) (fun k hk' h1 => ?_)
      · have hx : k % w < w := Nat.mod_lt _ (by omega)
        refine ih _ _ (Nat.or_lt_two_pow hc ?_) (Nat.or_lt_two_pow hl (p2 _ (by omega))) (fun i hi' => ?_)
        · have : 2 ^ k ≤ 2 ^ 40 := Nat.pow_le_pow_right (by omega) (by omega)
          have e50 : (2 : Nat) ^ 50 = 1024 * 2 ^ 40 := by decide
          omega
        · rw [Nat.testBit_or]
          rcases key k i hk' hi' with rfl | g
          · rw [show 3 * 2 ^ i = 2 ^ i * 3 by omega, Nat.testBit_two_pow_mul]; simp
          · rw [g]; rfl
      · have hy : k / w ≤ 30 := by have := Nat.div_le_self k w; omega
        refine ih _ _ (Nat.or_lt_two_pow (Nat.or_lt_two_pow hc (p2 _ (by omega))) (p2 _ (by omega))) (Nat.or_lt_two_pow hl (p2 _ (by omega))) (fun i hi' => ?_)
        rw [Nat.testBit_or, Nat.testBit_or]
        rcases key k i hk' hi' with rfl | g
        · rw [Nat.testBit_two_pow_self]; simp
        · rw [g]; rfl
    · exact find_end w h (d + 1) c l hw hh hn (Nat.lt_trans hc (by decide)) (by omega)
theorem specCountFaultFree_any (a b : Int) (w : World) :
    Calls Try.prog 14 #[.int .i64 a, .int .i64 b] w fun e w' => e = .returned (.int .i64 (if fewB a b then findZ a.toNat b.toNat 31 0 0 else -1)) ∧ Below w.heap.size w w' := by
  cases hf : fewB a b
  · rw [if_neg (by simp)]
    go_enter Try.func14, Try.ntmps14
    go_wp2_with fail
    refine (l18Size_any _ _ _).mono ?_
    rintro e w1 ⟨rfl, rfl⟩
    rw [hf]
    go_wp2_with fail
    go_ret
    exact ⟨rfl, Below.refl _ _⟩
  · rw [if_pos rfl]
    have h := hf
    unfold fewB at h
    simp only [Bool.and_eq_true, inB_iff, decide_eq_true_eq] at h
    obtain ⟨n, rfl⟩ := Int.eq_ofNat_of_zero_le (show 0 ≤ a by omega)
    obtain ⟨m, rfl⟩ := Int.eq_ofNat_of_zero_le (show 0 ≤ b by omega)
    have hnm : n * m ≤ 30 := by have := h.2; rw [← Int.natCast_mul] at this; omega
    have HC := Lib.hid (find_any n m (by omega) (by omega) hnm 30 0 0 (by decide) (by decide) (fun i hi => by omega))
    simp only [Int.toNat_natCast]
    have HCC : Hid (∀ V, Calls Try.prog 67 #[.int .i64 (n : Int), .int .i64 (m : Int), .int .i64 0, .int .i64 0] V fun e W' => e = .returned (.int .i64 (findZ n m 31 0 0)) ∧ Drawn V W') := HC.out
    generalize findZ n m 31 0 0 = z at *
    clear HC
    go_enter Try.func14, Try.ntmps14
    go_wp2_with fail
    refine (l18Size_any _ _ _).mono ?_
    rintro e w1 ⟨rfl, rfl⟩
    rw [hf]
    go_wp2_with fail
    refine (HCC.out _).mono ?_
    rintro e w2 ⟨rfl, hd⟩
    go_wp2_with fail
    go_ret
    exact ⟨rfl, hd.below _⟩
end Go.Proofs.Ytiecphhenpapoaa
