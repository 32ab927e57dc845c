/- Sets of cells as numbers: CellOk, CellIndex, has, with of the program. -/
import Derived.Test.YtiecphhenpapoaaMem
import Derived.Test.YtiecphhenpapoaaSpot
import Derived.Laws.BitsAllLaws
import Derived.Lib.Zigzag
namespace Go.Proofs.Ytiecphhenpapoaa
open Go.RowKit

theorem CellOk_any (x y : Int) (w : World) :
    Calls Try.prog 163 #[spotV x y] w fun e w' => e = .returned (.bool (spotB 7 x y)) ∧ Below w.heap.size w w' := by
  cases h1 : inB x 0 7 <;> cases h2 : inB y 0 7
  all_goals
    go_enter Try.func163, Try.ntmps163
    go_wp2_with (go_at_call 78; refine (within_any _ _ _ _).mono ?_; rintro e w' ⟨rfl, rfl⟩)
    go_ret
    exact ⟨by simp [spotB, h1, h2], (Below.refl _ _).alloc (by simp) _⟩

/-- The number of a cell. -/
def cix (x y : Nat) : Nat := y * 8 + x
theorem CellIndex_yes (x y : Nat) (hx : x ≤ 7) (hy : y ≤ 7) (w : World) :
    Calls Try.prog 164 #[spotV x y] w fun e w' => e = .returned (.int .i64 (cix x y : Nat)) ∧ Below w.heap.size w w' := by
  have hok : spotB 7 x y = true := (spotB_iff _ _ _).2 ⟨by omega, by omega⟩
  have HE : Hid ((y : Int) * 8 + (x : Int) = ((cix x y : Nat) : Int)) := by unfold Hid cix; omega
  go_enter Try.func164, Try.ntmps164
  go_wp2_with fail
  refine (CellOk_any _ _ _).mono ?_
  rintro e w1 ⟨rfl, hb1⟩
  rw [hok]
  obtain ⟨hc, hf⟩ := bcell hb1
  go_wp2_with fail
  go_ret
  exact ⟨ret_int HE.out, ((Below.refl _ _).alloc (Nat.le_refl _) _).trans (hb1.mono (by simp))⟩

theorem shl_u64 (k : Nat) (hk : k ≤ 63) (W : World) : Sem.run Try.prog (Op.shift BinOp.shl IntKind.u64 1 IntKind.i64 (k : Int)) W = .ok (.int .u64 ((2 ^ k : Nat) : Int)) W := by
  rw [shift_shl _ _ _ _ (by omega) (by simp [IntKind.bits]; omega)]
  have h : (2 ^ k : Nat) < 2 ^ 64 := Nat.pow_lt_pow_right (by omega) (by omega)
  have e : IntKind.u64.wrap (1 * 2 ^ ((k : Int)).toNat) = ((2 ^ k : Nat) : Int) := by
    rw [Int.toNat_natCast, Int.one_mul, IntKind.wrap_u64]
    have : ((2 : Int) ^ k) = ((2 ^ k : Nat) : Int) := by simp
    rw [this]
    generalize (2 ^ k : Nat) = p at *
    omega
  rw [e]; rfl
theorem shr_u64 (T k : Nat) (hk : k ≤ 63) (W : World) : Sem.run Try.prog (Op.shift BinOp.shr IntKind.u64 (T : Int) IntKind.i64 (k : Int)) W = .ok (.int .u64 ((T / 2 ^ k : Nat) : Int)) W := by
  rw [shift_shr _ _ _ _ (by omega) (by simp [IntKind.bits]; omega)]
  have e : (T : Int) / 2 ^ ((k : Int)).toNat = ((T / 2 ^ k : Nat) : Int) := by
    rw [Int.toNat_natCast]; simp
  rw [e]; rfl
theorem shr_val (T k : Nat) (hk : k ≤ 63) : (T : Int) / 2 ^ min k 64 = ((T / 2 ^ k : Nat) : Int) := by
  rw [Nat.min_eq_left (by omega)]; simp
theorem shl_val (k : Nat) (hk : k ≤ 63) : IntKind.u64.wrap ((2 : Int) ^ min k 64) = ((2 ^ k : Nat) : Int) := by
  have h : (2 ^ k : Nat) < 18446744073709551616 := Nat.pow_lt_pow_right (a := 2) (m := k) (n := 64) (by omega) (by omega)
  have e : ((2 : Int) ^ k) = ((2 ^ k : Nat) : Int) := by simp
  rw [Nat.min_eq_left (by omega), IntKind.wrap_u64, e]
  generalize (2 ^ k : Nat) = p at *
  omega
theorem bit_and (T k : Nat) (hT : T < 18446744073709551616) : bits .and .u64 ((T / 2 ^ k : Nat) : Int) 1 = if T.testBit k then 1 else 0 := by
  have hle : T / 2 ^ k ≤ T := Nat.div_le_self _ _
  rw [Nat.testBit_eq_decide_div_mod_eq]
  generalize T / 2 ^ k = S at *
  rw [Lib.u64_and1 _ (by omega) (by omega)]
  by_cases h : S % 2 = 1
  · rw [if_pos (by simpa using h)]; omega
  · rw [if_neg (by simpa using h)]; omega

/-- A set has a cell. -/
def hasB (T x y : Nat) : Bool := T.testBit (cix x y)
set_option maxHeartbeats 400000 in
theorem has_yes (T x y : Nat) (hT : T < 18446744073709551616) (hx : x ≤ 7) (hy : y ≤ 7) (w : World) :
    Calls Try.prog 107 #[.int .u64 (T : Int), spotV x y] w fun e w' => e = .returned (.bool (hasB T x y)) ∧ Below w.heap.size w w' := by
  have hok : spotB 7 x y = true := (spotB_iff _ _ _).2 ⟨by omega, by omega⟩
  have hk : cix x y ≤ 63 := by unfold cix; omega
  have HB : Hid ((bits .and .u64 ((T : Int) / 2 ^ min (cix x y) 64) 1 == 1) = hasB T x y) := by
    unfold Hid
    rw [shr_val _ _ hk, bit_and T _ hT, hasB]
    cases T.testBit (cix x y) <;> rfl
  obtain ⟨k, HK⟩ : ∃ k, Hid (cix x y = k) := ⟨_, rfl⟩
  rw [HK.out] at HB
  clear hk
  go_enter Try.func107, Try.ntmps107
  go_wp2_with fail
  refine (CellOk_any _ _ _).mono ?_
  rintro e w1 ⟨rfl, hb1⟩
  rw [hok]
  obtain ⟨hc, hf⟩ := bcell hb1
  have hz : w.heap.size + 1 ≤ w1.heap.size := by have := hb1.size; simp at this; omega
  go_wp2_with fail
  refine (CellIndex_yes x y hx hy _).mono ?_
  rintro e w2 ⟨rfl, hb2⟩
  rw [HK.out]
  go_wp2_with fail
  go_ret
  exact ⟨ret_bool HB.out, (((Below.refl _ _).alloc (Nat.le_refl _) _).trans (hb1.mono (by simp))).trans (hb2.mono (by omega))⟩

theorem with_lt {T k : Nat} (hT : T < 18446744073709551616) (hk : k ≤ 63) : T ||| 2 ^ k < 18446744073709551616 :=
  Nat.or_lt_two_pow (n := 64) hT (Nat.pow_lt_pow_right (by omega) (by omega))
set_option maxHeartbeats 400000 in
theorem with_yes (T x y : Nat) (hT : T < 18446744073709551616) (hx : x ≤ 7) (hy : y ≤ 7) (w : World) :
    Calls Try.prog 109 #[.int .u64 (T : Int), spotV x y] w fun e w' => e = .returned (.int .u64 ((T ||| 2 ^ cix x y : Nat) : Int)) ∧ Below w.heap.size w w' := by
  have hk : cix x y ≤ 63 := by unfold cix; omega
  have hp : (2 ^ cix x y : Nat) < 18446744073709551616 := Nat.pow_lt_pow_right (a := 2) (m := cix x y) (n := 64) (by omega) (by omega)
  have HV : Hid (bits .or .u64 (T : Int) (IntKind.u64.wrap ((2 : Int) ^ min (cix x y) 64)) = ((T ||| 2 ^ cix x y : Nat) : Int)) := by
    unfold Hid
    rw [shl_val _ hk]; exact u64_or_nat T (2 ^ cix x y) hT hp
  obtain ⟨k, HK⟩ : ∃ k, Hid (cix x y = k) := ⟨_, rfl⟩
  go_enter Try.func109, Try.ntmps109
  go_wp2_with fail
  refine (CellIndex_yes x y hx hy _).mono ?_
  rintro e w2 ⟨rfl, hb2⟩
  rw [HK.out]
  rw [HK.out] at HV
  go_wp2_with fail
  go_ret
  exact ⟨congrArg (fun z => Ending.returned (.int .u64 z)) (by rw [HK.out]; exact HV.out), ((Below.refl _ _).alloc (Nat.le_refl _) _).trans (hb2.mono (by simp))⟩
end Go.Proofs.Ytiecphhenpapoaa
