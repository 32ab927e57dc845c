/- AlternatingCount of the program and of the reference: contracts, and that the two agree. -/
import Derived.Test.YtbaghclblnialaaGcd
namespace Go.Proofs.Ytbaghclblnialaa
open Go.RowKit

/-! The plain functions. -/
def factN : Nat → Nat | 0 => 1 | 1 => 1 | k + 2 => factN (k + 1) * (k + 2)
/-- One round of the program: over and under behind k rounds. -/
def altI (n : Nat) : Nat → Nat × Nat
  | 0 => (1, 1)
  | k + 1 =>
    let s := altI n k
    let a := factN (3 * k + 1)
    let b := factN (n + k)
    let p := Nat.gcd a b
    let a' := a / p
    let b' := b / p
    let q := Nat.gcd a' s.2
    let r := Nat.gcd s.1 b'
    (s.1 / r * (a' / q), s.2 / q * (b' / r))
/-- The reference: top multiplied by 1 .. m, each time reduced. -/
def topS (s : Nat × Nat) : Nat → Nat × Nat
  | 0 => s
  | i + 1 =>
    let u := topS s i
    let t := u.1 * (i + 1)
    let g := Nat.gcd t u.2
    (t / g, u.2 / g)
def botS (s : Nat × Nat) : Nat → Nat × Nat
  | 0 => s
  | i + 1 =>
    let u := botS s i
    let b := u.2 * (i + 1)
    let g := Nat.gcd u.1 b
    (u.1 / g, b / g)
def altS (n : Nat) : Nat → Nat × Nat
  | 0 => (1, 1)
  | k + 1 => botS (topS (altS n k) (3 * k + 1)) (n + k)
def okNum (x : Nat) : Bool := decide (1 ≤ x) && decide (x ≤ 1000000000)
def okPair (s : Nat × Nat) : Bool := okNum s.1 && okNum s.2
def altOk : Bool := [1, 2, 3, 4, 5].all fun n =>
  decide ((altI n n).1 / (altI n n).2 = (altS n n).1 / (altS n n).2) &&
  ((List.range (n + 1)).all fun k => okPair (altI n k) && okPair (altS n k)) &&
  ((List.range n).all fun k => okNum (factN (3 * k + 1) / Nat.gcd (factN (3 * k + 1)) (factN (n + k))) && okNum (factN (n + k) / Nat.gcd (factN (3 * k + 1)) (factN (n + k))) &&
    ((List.range (3 * k + 2)).all fun i => okPair (topS (altS n k) i)) && ((List.range (n + k + 1)).all fun i => okPair (botS (topS (altS n k) (3 * k + 1)) i)))
theorem altOk_true : altOk = true := by decide +kernel

def factOk : Bool := (List.range 15).all fun n => decide (1 ≤ factN n) && decide (factN n ≤ 100000000000)
theorem factOk_true : factOk = true := by decide +kernel
theorem fact_le (n : Nat) (h : n ≤ 14) : 1 ≤ factN n ∧ factN n ≤ 100000000000 := by
  have h1 := factOk_true
  unfold factOk at h1
  rw [List.all_eq_true] at h1
  simpa using h1 n (List.mem_range.2 (by omega))
theorem factN_succ (j : Nat) (h : 1 ≤ j) : factN (j + 1) = factN j * (j + 1) := by
  obtain ⟨i, rfl⟩ : ∃ i, j = i + 1 := ⟨j - 1, by omega⟩
  rfl

set_option maxHeartbeats 400000 in
theorem factorial_any (n : Nat) (h1 : 1 ≤ n) (h14 : n ≤ 14) (w : World) :
    Calls Try.prog 58 #[.int .i64 n] w fun e w' => e = .returned (.int .i64 (factN n)) ∧ w = w' := by
  go_enter Try.func58, Try.ntmps58
  go_wp2
  go_loop [3, 4] (fun t i => ∃ j : Nat, 1 ≤ j ∧ j ≤ n ∧ t = .int .i64 (factN j) ∧ i = .int .i64 ((j : Int) + 1)) (fun _ i => n + 1 - (intOf i).toNat)
  case atStart => exact ⟨1, by omega, h1, rfl, rfl⟩
  case round =>
    obtain ⟨j, hj1, hj, rfl, rfl⟩ := hrel
    by_cases hlt : j + 1 ≤ n
    · have HS := Lib.hid (factN_succ j hj1)
      obtain ⟨hc1, hc⟩ := fact_le j (by omega)
      have hm := (fact_le (j + 1) (by omega)).2
      rw [factN_succ j hj1] at hm
      have hb1 : 0 ≤ (factN j : Int) * ((j : Int) + 1) := Int.mul_nonneg (by omega) (by omega)
      have hb2 : (factN j : Int) * ((j : Int) + 1) ≤ 100000000000 := by
        have : ((factN j * (j + 1) : Nat) : Int) ≤ 100000000000 := by omega
        simpa [Int.natCast_mul] using this
      generalize factN j = c at *
      clear hm
      go_wp2
      go_round
      case rel => exact ⟨j + 1, by omega, by omega, by rw [HS.out]; go_num, by go_num⟩
      case measure => simp [intOf]; omega
    · obtain rfl : j = n := by omega
      go_wp2
      go_ret
      exact ⟨rfl, rfl⟩
theorem factorial_Z (m : Int) (h1 : 1 ≤ m) (h14 : m ≤ 14) (w : World) :
    Calls Try.prog 58 #[.int .i64 m] w fun e w' => e = .returned (.int .i64 (factN m.toNat)) ∧ w = w' := by
  obtain ⟨n, rfl⟩ := Int.eq_ofNat_of_zero_le (show 0 ≤ m by omega)
  exact factorial_any n (by omega) (by omega) w

theorem okNum_iff (x : Nat) : okNum x = true ↔ 1 ≤ x ∧ x ≤ 1000000000 := by simp [okNum]
theorem altOk_at (n : Nat) (h1 : 1 ≤ n) (h5 : n ≤ 5) :
    (altI n n).1 / (altI n n).2 = (altS n n).1 / (altS n n).2 ∧
    (∀ k, k ≤ n → (1 ≤ (altI n k).1 ∧ (altI n k).1 ≤ 1000000000) ∧ (1 ≤ (altI n k).2 ∧ (altI n k).2 ≤ 1000000000) ∧ (1 ≤ (altS n k).1 ∧ (altS n k).1 ≤ 1000000000) ∧ (1 ≤ (altS n k).2 ∧ (altS n k).2 ≤ 1000000000)) ∧
    (∀ k, k < n → (1 ≤ factN (3 * k + 1) / Nat.gcd (factN (3 * k + 1)) (factN (n + k)) ∧ factN (3 * k + 1) / Nat.gcd (factN (3 * k + 1)) (factN (n + k)) ≤ 1000000000) ∧
      (1 ≤ factN (n + k) / Nat.gcd (factN (3 * k + 1)) (factN (n + k)) ∧ factN (n + k) / Nat.gcd (factN (3 * k + 1)) (factN (n + k)) ≤ 1000000000) ∧
      (∀ i, i ≤ 3 * k + 1 → (1 ≤ (topS (altS n k) i).1 ∧ (topS (altS n k) i).1 ≤ 1000000000) ∧ (1 ≤ (topS (altS n k) i).2 ∧ (topS (altS n k) i).2 ≤ 1000000000)) ∧
      (∀ i, i ≤ n + k → (1 ≤ (botS (topS (altS n k) (3 * k + 1)) i).1 ∧ (botS (topS (altS n k) (3 * k + 1)) i).1 ≤ 1000000000) ∧ (1 ≤ (botS (topS (altS n k) (3 * k + 1)) i).2 ∧ (botS (topS (altS n k) (3 * k + 1)) i).2 ≤ 1000000000))) := by
  have h := altOk_true
  unfold altOk at h
  rw [List.all_eq_true] at h
  have hn := h n (by simp; omega)
  simp only [Bool.and_eq_true, decide_eq_true_eq, List.all_eq_true, List.mem_range, okPair, okNum_iff] at hn
  obtain ⟨⟨a, b⟩, c⟩ := hn
  refine ⟨a, fun k hk => ?_, fun k hk => ?_⟩
  · obtain ⟨b1, b2⟩ := b k (by omega); exact ⟨b1.1, b1.2, b2.1, b2.2⟩
  · obtain ⟨⟨⟨c1, c2⟩, c3⟩, c4⟩ := c k hk
    exact ⟨c1, c2, fun i hi => c3 i (by omega), fun i hi => c4 i (by omega)⟩

theorem toN3 (k : Nat) : (3 * (k : Int) + 1).toNat = 3 * k + 1 := by omega
theorem toN2 (n k : Nat) : ((n : Int) + (k : Int)).toNat = n + k := by omega
theorem mul_bd (x y : Nat) (h1 : x ≤ 1000000000) (h2 : y ≤ 1000000000) : 0 ≤ (x : Int) * (y : Int) ∧ (x : Int) * (y : Int) ≤ 1000000000000000000 := by
  have h : x * y ≤ 1000000000 * 1000000000 := Nat.mul_le_mul h1 h2
  have e : ((x * y : Nat) : Int) = (x : Int) * (y : Int) := Int.natCast_mul x y
  omega

set_option maxHeartbeats 1000000 in
theorem AlternatingCount_yes (n : Nat) (h1 : 1 ≤ n) (h5 : n ≤ 5) (w : World) :
    Calls Try.prog 25 #[.int .i64 n] w fun e w' => e = .returned (.int .i64 ((altI n n).1 / (altI n n).2 : Nat)) ∧ Drawn w w' := by
  obtain ⟨_, hS, hR⟩ := altOk_at n h1 h5
  have HS := Lib.hid hS; clear hS
  have HR := Lib.hid hR; clear hR
  have hin : inB (n : Int) 1 5 = true := inB_true (by omega) (by omega)
  go_enter Try.func25, Try.ntmps25
  go_wp2_with (go_at_call 52; refine (within_any _ _ _ _).mono ?_; rintro e w' ⟨rfl, rfl⟩)
  clear hin
  go_loopw [3, 4, 15] (fun o u i wr => ∃ k : Nat, k ≤ n ∧ o = .int .i64 (altI n k).1 ∧ u = .int .i64 (altI n k).2 ∧ i = .int .i64 k ∧ Drawn w wr) (fun _ _ i _ => n - (intOf i).toNat)
  case atStart => exact ⟨0, by omega, rfl, rfl, rfl, Drawn.refl _⟩
  case round =>
    obtain ⟨k, hk, rfl, rfl, rfl, hd⟩ := hrel
    obtain ⟨⟨ho1, ho2⟩, ⟨hu1, hu2⟩, _⟩ := HS.out k hk
    by_cases hlt : k < n
    · have HE : Hid (altI n (k + 1) = ((altI n k).1 / Nat.gcd (altI n k).1 (factN (n + k) / Nat.gcd (factN (3 * k + 1)) (factN (n + k))) * (factN (3 * k + 1) / Nat.gcd (factN (3 * k + 1)) (factN (n + k)) / Nat.gcd (factN (3 * k + 1) / Nat.gcd (factN (3 * k + 1)) (factN (n + k))) (altI n k).2),
          (altI n k).2 / Nat.gcd (factN (3 * k + 1) / Nat.gcd (factN (3 * k + 1)) (factN (n + k))) (altI n k).2 * (factN (n + k) / Nat.gcd (factN (3 * k + 1)) (factN (n + k)) / Nat.gcd (altI n k).1 (factN (n + k) / Nat.gcd (factN (3 * k + 1)) (factN (n + k)))))) := rfl
      obtain ⟨⟨ha1, ha2⟩, ⟨hb1, hb2⟩, _⟩ := HR.out k hlt
      obtain ⟨fa1, fa2⟩ := fact_le (3 * k + 1) (by omega)
      obtain ⟨fb1, fb2⟩ := fact_le (n + k) (by omega)
      generalize (altI n k).1 = o at *
      generalize (altI n k).2 = u at *
      go_wp2_with fail
      refine (factorial_Z _ (by omega) (by omega) _).mono ?_
      rintro e w1 ⟨rfl, rfl⟩
      rw [toN3]
      go_wp2_with fail
      refine (factorial_Z _ (by omega) (by omega) _).mono ?_
      rintro e w1 ⟨rfl, rfl⟩
      rw [toN2]
      generalize factN (3 * k + 1) = fa at *
      generalize factN (n + k) = fb at *
      go_wp2_with fail
      refine (gcd_any _ _ (by omega) (by omega) _).mono ?_
      rintro e w1 ⟨rfl, hd1⟩
      have hd2 := hd.trans hd1
      have hp : 1 ≤ Nat.gcd fa fb := Nat.gcd_pos_of_pos_left _ fa1
      generalize hgp : Nat.gcd fa fb = p at *
      clear hgp
      obtain ⟨q1, q2⟩ := quo_bd fa p
      obtain ⟨q3, q4⟩ := quo_bd fb p
      go_wp2_with fail
      go_quiet (fail)
      clear q1 q2 q3 q4
      rw [← Int.natCast_ediv fa p, ← Int.natCast_ediv fb p]
      generalize fa / p = a at *
      generalize fb / p = b at *
      go_wp2_with fail
      refine (gcd_any _ _ (by omega) (by omega) _).mono ?_
      rintro e w1 ⟨rfl, hd3⟩
      have hd4 := hd2.trans (Drawn.trans ⟨_, rfl⟩ hd3)
      have hq : 1 ≤ Nat.gcd a u := Nat.gcd_pos_of_pos_left _ ha1
      generalize Nat.gcd a u = q at *
      go_wp2_with fail
      refine (gcd_any _ _ (by omega) (by omega) _).mono ?_
      rintro e w2 ⟨rfl, hd5⟩
      have hd6 := hd4.trans hd5
      have hr : 1 ≤ Nat.gcd o b := Nat.gcd_pos_of_pos_left _ ho1
      generalize Nat.gcd o b = r at *
      obtain ⟨q1, q2⟩ := quo_bd o r
      obtain ⟨q3, q4⟩ := quo_bd a q
      obtain ⟨q5, q6⟩ := quo_bd u q
      obtain ⟨q7, q8⟩ := quo_bd b r
      have m1 := mul_bd (o / r) (a / q) (Nat.le_trans (Nat.div_le_self _ _) ho2) (Nat.le_trans (Nat.div_le_self _ _) ha2)
      have m2 := mul_bd (u / q) (b / r) (Nat.le_trans (Nat.div_le_self _ _) hu2) (Nat.le_trans (Nat.div_le_self _ _) hb2)
      simp only [Int.natCast_ediv] at m1 m2
      obtain ⟨m3, m4⟩ := m1
      obtain ⟨m5, m6⟩ := m2
      go_wp2_with fail
      go_quiet (fail)
      go_wp2_with fail
      go_roundw
      case rel => exact ⟨k + 1, by omega, by rw [HE.out]; go_num, by rw [HE.out]; go_num, by go_num, hd6.more _⟩
      case measure => simp [intOf]; omega
    · obtain rfl : k = n := by omega
      obtain ⟨q1, q2⟩ := quo_bd (altI k k).1 (altI k k).2
      go_wp2
      go_ret
      exact ⟨ret_int (by simp), hd⟩

theorem mul_bd20 (x y : Nat) (h1 : x ≤ 1000000000) (h2 : y ≤ 20) : x * y ≤ 20000000000 ∧ 0 ≤ (x : Int) * (y : Int) ∧ (x : Int) * (y : Int) ≤ 20000000000 := by
  have h : x * y ≤ 1000000000 * 20 := Nat.mul_le_mul h1 h2
  have e : ((x * y : Nat) : Int) = (x : Int) * (y : Int) := Int.natCast_mul x y
  omega
theorem topS_succ (s : Nat × Nat) (i : Nat) : topS s (i + 1) = ((topS s i).1 * (i + 1) / Nat.gcd ((topS s i).1 * (i + 1)) (topS s i).2, (topS s i).2 / Nat.gcd ((topS s i).1 * (i + 1)) (topS s i).2) := rfl
theorem botS_succ (s : Nat × Nat) (i : Nat) : botS s (i + 1) = ((botS s i).1 / Nat.gcd (botS s i).1 ((botS s i).2 * (i + 1)), (botS s i).2 * (i + 1) / Nat.gcd (botS s i).1 ((botS s i).2 * (i + 1))) := rfl

set_option maxHeartbeats 2000000 in
theorem specAlternatingCount_yes (n : Nat) (h1 : 1 ≤ n) (h5 : n ≤ 5) (w : World) :
    Calls Try.prog 24 #[.int .i64 n] w fun e w' => e = .returned (.int .i64 ((altS n n).1 / (altS n n).2 : Nat)) ∧ Drawn w w' := by
  obtain ⟨_, hS, hR⟩ := altOk_at n h1 h5
  have HS := Lib.hid hS; clear hS
  have HR := Lib.hid hR; clear hR
  have hin : inB (n : Int) 1 5 = true := inB_true (by omega) (by omega)
  go_enter Try.func24, Try.ntmps24
  go_wp2_with (go_at_call 51; refine (l01In_any _ _ _ _).mono ?_; rintro e w' ⟨rfl, rfl⟩)
  clear hin
  go_loopw [3, 4, 5] (fun o u i wr => ∃ k : Nat, k ≤ n ∧ o = .int .i64 (altS n k).1 ∧ u = .int .i64 (altS n k).2 ∧ i = .int .i64 k ∧ Drawn w wr) (fun _ _ i _ => n - (intOf i).toNat)
  case atStart => exact ⟨0, by omega, rfl, rfl, rfl, Drawn.refl _⟩
  case round =>
    obtain ⟨k, hk, rfl, rfl, rfl, hd⟩ := hrel
    obtain ⟨_, _, ⟨ho1, ho2⟩, ⟨hu1, hu2⟩⟩ := HS.out k hk
    by_cases hlt : k < n
    · have HE : Hid (altS n (k + 1) = botS (topS (altS n k) (3 * k + 1)) (n + k)) := rfl
      obtain ⟨_, _, ht, hb⟩ := HR.out k hlt
      have HT := Lib.hid ht; clear ht
      have HB := Lib.hid hb; clear hb
      generalize altS n k = s at *
      obtain ⟨wo, rfl⟩ : ∃ wo : World, wo = wr := ⟨_, rfl⟩
      go_wp2_with fail
      go_loopw [3, 4, 6] (fun o u i wr => ∃ j : Nat, j ≤ 3 * k + 1 ∧ o = .int .i64 (topS s j).1 ∧ u = .int .i64 (topS s j).2 ∧ i = .int .i64 ((j : Int) + 1) ∧ Drawn w wr) (fun _ _ i _ => 3 * k + 2 - (intOf i).toNat)
      case atStart => exact ⟨0, by omega, rfl, rfl, rfl, hd⟩
      case round =>
        obtain ⟨j, hj, rfl, rfl, rfl, hd1⟩ := hrel
        obtain ⟨⟨ta1, ta2⟩, ⟨tb1, tb2⟩⟩ := HT.out j hj
        by_cases hlj : j < 3 * k + 1
        · have HE2 := Lib.hid (topS_succ s j)
          generalize (topS s j).1 = a at *
          generalize (topS s j).2 = b at *
          obtain ⟨m0, m1, m2⟩ := mul_bd20 a (j + 1) ta2 (by omega)
          simp only [Int.natCast_add, Int.natCast_one] at m1 m2
          have hpos : 1 ≤ a * (j + 1) := Nat.mul_pos (by omega) (by omega)
          go_wp2_with fail
          rw [show (a : Int) * ((j : Int) + 1) = ((a * (j + 1) : Nat) : Int) from by rw [Int.natCast_mul]; rfl]
          refine (l15Gcd_any _ _ (by omega) (by omega) _).mono ?_
          rintro e w1 ⟨rfl, hd2⟩
          have hd3 := hd1.trans hd2
          have hg : 1 ≤ Nat.gcd (a * (j + 1)) b := Nat.gcd_pos_of_pos_left _ hpos
          clear m1 m2
          generalize a * (j + 1) = c at *
          generalize Nat.gcd c b = g at *
          obtain ⟨q1, q2⟩ := quo_bd c g
          obtain ⟨q3, q4⟩ := quo_bd b g
          go_wp2_with fail
          go_roundw
          case rel => exact ⟨j + 1, by omega, by rw [HE2.out]; go_num, by rw [HE2.out]; go_num, by go_num, hd3⟩
          case measure => simp [intOf]; omega
        · have hje : j = 3 * k + 1 := by omega
          rw [← hje] at HE HB
          clear hje
          generalize topS s j = s2 at *
          clear ta1 ta2 tb1 tb2 HT
          obtain ⟨wo2, rfl⟩ : ∃ wo2 : World, wo2 = wr := ⟨_, rfl⟩
          go_wp2_with fail
          go_loopw [3, 4, 8] (fun o u i wr => ∃ j : Nat, j ≤ n + k ∧ o = .int .i64 (botS s2 j).1 ∧ u = .int .i64 (botS s2 j).2 ∧ i = .int .i64 ((j : Int) + 1) ∧ Drawn w wr) (fun _ _ i _ => n + k + 1 - (intOf i).toNat)
          case atStart => exact ⟨0, by omega, rfl, rfl, rfl, hd1⟩
          case round =>
            obtain ⟨j, hj, rfl, rfl, rfl, hd2⟩ := hrel
            obtain ⟨⟨ta1, ta2⟩, ⟨tb1, tb2⟩⟩ := HB.out j hj
            by_cases hlj : j < n + k
            · have HE2 := Lib.hid (botS_succ s2 j)
              generalize (botS s2 j).1 = a at *
              generalize (botS s2 j).2 = b at *
              obtain ⟨m0, m1, m2⟩ := mul_bd20 b (j + 1) tb2 (by omega)
              simp only [Int.natCast_add, Int.natCast_one] at m1 m2
              have hpos : 1 ≤ b * (j + 1) := Nat.mul_pos (by omega) (by omega)
              go_wp2_with fail
              rw [show (b : Int) * ((j : Int) + 1) = ((b * (j + 1) : Nat) : Int) from by rw [Int.natCast_mul]; rfl]
              refine (l15Gcd_any _ _ (by omega) (by omega) _).mono ?_
              rintro e w1 ⟨rfl, hd3⟩
              have hd4 := hd2.trans hd3
              have hg : 1 ≤ Nat.gcd a (b * (j + 1)) := Nat.gcd_pos_of_pos_left _ ta1
              clear m1 m2
              generalize b * (j + 1) = c at *
              generalize Nat.gcd a c = g at *
              obtain ⟨q1, q2⟩ := quo_bd a g
              obtain ⟨q3, q4⟩ := quo_bd c g
              go_wp2_with fail
              go_roundw
              case rel => exact ⟨j + 1, by omega, by rw [HE2.out]; go_num, by rw [HE2.out]; go_num, by go_num, hd4⟩
              case measure => simp [intOf]; omega
            · have hje : j = n + k := by omega
              rw [← hje] at HE
              clear hje
              go_wp2_with fail
              go_roundw
              case rel => exact ⟨k + 1, by omega, by rw [HE.out], by rw [HE.out], by go_num, hd2⟩
              case measure => simp [intOf]; omega
    · obtain rfl : k = n := by omega
      obtain ⟨q1, q2⟩ := quo_bd (altS k k).1 (altS k k).2
      go_wp2
      go_ret
      exact ⟨ret_int (by simp), hd⟩

def altZ (n : Int) : Int := if inB n 1 5 then (((altI n.toNat n.toNat).1 / (altI n.toNat n.toNat).2 : Nat) : Int) else 0

theorem AlternatingCount_any (n : Int) (w : World) :
    Calls Try.prog 25 #[.int .i64 n] w fun e w' => e = .returned (.int .i64 (altZ n)) ∧ Drawn w w' := by
  unfold altZ
  cases h : inB n 1 5
  · go_enter Try.func25, Try.ntmps25
    go_wp2_with (go_at_call 52; refine (within_any _ _ _ _).mono ?_; rintro e w' ⟨rfl, rfl⟩)
    go_ret
    exact ⟨rfl, Drawn.refl _⟩
  · obtain ⟨h1, h2⟩ := (inB_iff _ _ _).1 h
    obtain ⟨m, rfl⟩ := Int.eq_ofNat_of_zero_le (show 0 ≤ n by omega)
    exact AlternatingCount_yes m (by omega) (by omega) w
theorem specAlternatingCount_any (n : Int) (w : World) :
    Calls Try.prog 24 #[.int .i64 n] w fun e w' => e = .returned (.int .i64 (altZ n)) ∧ Drawn w w' := by
  unfold altZ
  cases h : inB n 1 5
  · go_enter Try.func24, Try.ntmps24
    go_wp2_with (go_at_call 51; refine (l01In_any _ _ _ _).mono ?_; rintro e w' ⟨rfl, rfl⟩)
    go_ret
    exact ⟨rfl, Drawn.refl _⟩
  · obtain ⟨h1, h2⟩ := (inB_iff _ _ _).1 h
    obtain ⟨m, rfl⟩ := Int.eq_ofNat_of_zero_le (show 0 ≤ n by omega)
    rw [if_pos rfl, Int.toNat_natCast, (altOk_at m (by omega) (by omega)).1]
    exact specAlternatingCount_yes m (by omega) (by omega) w
end Go.Proofs.Ytbaghclblnialaa
