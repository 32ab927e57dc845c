/- Binomial coefficients: the program's product and the reference's agree up to 20; contracts of ChooseOf and l20Choose. -/
import Derived.Test.YtpejphholomenaaBasic
import Derived.IntWalk
namespace Go.Proofs.Ytpejphholomenaa
open Go.RowKit

def chI (n : Nat) : Nat → Nat | 0 => 1 | k+1 => chI n k * (n - k) / (k + 1)
def chS (n k : Nat) : Nat → Nat | 0 => 1 | i+1 => chS n k i * (n - k + (i + 1)) / (i + 1)
def chOk : Bool := (List.range 21).all fun n => (List.range 21).all fun k => !(decide (k ≤ n)) || (decide (chI n k = chS n k k) && decide (chI n k ≤ 200000) && (List.range 21).all fun i => !(decide (i ≤ k)) || decide (chS n k i ≤ 200000))
theorem chOk_true : chOk = true := by decide +kernel
theorem ch_facts (n k : Nat) (hn : n ≤ 20) (hk : k ≤ n) : chI n k = chS n k k ∧ chI n k ≤ 200000 ∧ ∀ i, i ≤ k → chS n k i ≤ 200000 := by
  have h := chOk_true
  unfold chOk at h
  rw [List.all_eq_true] at h
  have h1 := h n (List.mem_range.2 (by omega))
  rw [List.all_eq_true] at h1
  have h2 := h1 k (List.mem_range.2 (by omega))
  simp only [hk, decide_true, Bool.not_true, Bool.false_or, Bool.and_eq_true, decide_eq_true_eq, List.all_eq_true] at h2
  obtain ⟨⟨h3, h4⟩, h5⟩ := h2
  refine ⟨h3, h4, fun i hi => ?_⟩
  have h6 := h5 i (List.mem_range.2 (by omega))
  simpa [hi] using h6

def chooseZ (a b : Int) : Int := if inB a 0 20 && inB b 0 a then ((chI a.toNat b.toNat : Nat) : Int) else 0
theorem chooseZ_in (n k : Nat) (hn : n ≤ 20) (hk : k ≤ n) : chooseZ n k = chI n k := by
  have h1 : inB (n : Int) 0 20 = true := inB_true (by omega) (by omega)
  have h2 : inB (k : Int) 0 n = true := inB_true (by omega) (by omega)
  simp [chooseZ, h1, h2]
theorem chooseZ_le (a b : Int) : 0 ≤ chooseZ a b ∧ chooseZ a b ≤ 200000 := by
  unfold chooseZ
  split
  · rename_i h
    simp only [Bool.and_eq_true, inB_iff] at h
    obtain ⟨_, h5, _⟩ := ch_facts a.toNat b.toNat (by omega) (by omega)
    omega
  · omega

set_option maxHeartbeats 400000 in
theorem ChooseOf_yes (n k : Nat) (hn : n ≤ 20) (hk : k ≤ n) (w : World) :
    Calls Try.prog 73 #[.int .i64 n, .int .i64 k] w fun e w' => e = .returned (.int .i64 (chI n k)) ∧ w = w' := by
  have hb : ∀ i, i ≤ k → chI n i ≤ 200000 := fun i hi => (ch_facts n i hn (by omega)).2.1
  have HB := Lib.hid hb; clear hb
  have h1 : inB (n : Int) 0 20 = true := inB_true (by omega) (by omega)
  have h2 : inB (k : Int) 0 n = true := inB_true (by omega) (by omega)
  go_enter Try.func73, Try.ntmps73
  go_wp2_with (go_at_call 70; refine (within_any _ _ _ _).mono ?_; rintro e w' ⟨rfl, rfl⟩)
  go_loop [5, 17] (fun t i => ∃ j : Nat, j ≤ k ∧ t = .int .i64 (chI n j) ∧ i = .int .i64 (j : Int)) (fun _ i => k - (intOf i).toNat)
  case atStart => exact ⟨0, by omega, rfl, rfl⟩
  case round =>
    obtain ⟨j, hj, rfl, rfl⟩ := hrel
    have hc := HB.out j hj
    by_cases hlt : j < k
    · have HS : Hid (chI n (j + 1) = chI n j * (n - j) / (j + 1)) := rfl
      have hm : chI n j * (n - j) ≤ 200000 * 20 := Nat.mul_le_mul hc (by omega)
      have hme : ((chI n j : Int) * ((n : Int) - j)) = ((chI n j * (n - j) : Nat) : Int) := by
        rw [Int.natCast_mul]; congr 1; omega
      generalize chI n j = c at *
      generalize hx : c * (n - j) = x at *
      have hb1 : 0 ≤ (c : Int) * ((n : Int) - j) := by rw [hme]; omega
      have hb2 : (c : Int) * ((n : Int) - j) ≤ 4000000 := by rw [hme]; omega
      have HM := Lib.hid hme
      clear hme hx h1 h2
      go_wp2
      go_round
      case rel => exact ⟨j + 1, by omega, by rw [HS.out, HM.out]; go_num, by go_num⟩
      case measure => simp [intOf]; omega
    · obtain rfl : j = k := by omega
      go_wp2
      go_ret
      exact ⟨rfl, rfl⟩

theorem inB_cases (a b : Int) : (inB a 0 20 = true ∧ inB b 0 a = true) ∨ inB a 0 20 = false ∨ (inB a 0 20 = true ∧ inB b 0 a = false) := by
  cases inB a 0 20 <;> cases inB b 0 a <;> simp
theorem ChooseOf_no (a b : Int) (h : (inB a 0 20 && inB b 0 a) = false) (w : World) :
    Calls Try.prog 73 #[.int .i64 a, .int .i64 b] w fun e w' => e = .returned (.int .i64 0) ∧ w = w' := by
  rcases inB_cases a b with ⟨h1, h2⟩ | h1 | ⟨h1, h2⟩
  · simp [h1, h2] at h
  all_goals
    clear h
    go_enter Try.func73, Try.ntmps73
    go_wp2_with (go_at_call 70; refine (within_any _ _ _ _).mono ?_; rintro e w' ⟨rfl, rfl⟩)
    go_ret
    exact ⟨rfl, rfl⟩
theorem ChooseOf_any (a b : Int) (w : World) :
    Calls Try.prog 73 #[.int .i64 a, .int .i64 b] w fun e w' => e = .returned (.int .i64 (chooseZ a b)) ∧ w = w' := by
  cases h : (inB a 0 20 && inB b 0 a)
  · have e : chooseZ a b = 0 := by simp [chooseZ, h]
    rw [e]; exact ChooseOf_no a b h w
  · simp only [Bool.and_eq_true, inB_iff] at h
    obtain ⟨n, rfl⟩ := Int.eq_ofNat_of_zero_le h.1.1
    obtain ⟨k, rfl⟩ := Int.eq_ofNat_of_zero_le h.2.1
    rw [chooseZ_in n k (by omega) (by omega)]
    exact ChooseOf_yes n k (by omega) (by omega) w

end Go.Proofs.Ytpejphholomenaa
