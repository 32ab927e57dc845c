/- What the claim's walk rests on: parts Choose, Spot, Set, Drawn, Ints, Reg, Blk, Prof, ProfI, Count, OwnS, Append, Grown. -/
import Derived.Test.YtehnbalbpfmijaaBasic
import Derived.Test.YtehnbalbpfmijaaMem
import Derived.IntWalk
import Derived.Deep.RegionHeld3
import Derived.Deep.QuietTactic
import Derived.BigQuiet
import Derived.Laws.BitsAllLaws
import Derived.Lib.Zigzag
import Derived.Below
import Derived.Deep.Draws
import Derived.OneCell
import Derived.StillTailTactics
import Derived.Laws.EntriesVeiled
import Derived.Deep.OwnRows
import Derived.Deep.AppendLies
import Derived.Maps.AppendAt
import Derived.OwnWalk
namespace Go.Proofs.Ytehnbalbpfmijaa
open Go.RowKit

def chI (n : Nat) : Nat → Nat | 0 => 1 | k+1 => chI n k * (n - k) / (k + 1)
def chS (n k : Nat) : Nat → Nat | 0 => 1 | i+1 => chS n k i * (n - k + (i + 1)) / (i + 1)
def chOk : Bool := (List.range 21).all fun n => (List.range 21).all fun k => !(decide (k ≤ n)) || (decide (chI n k = chS n k k) && decide (chI n k ≤ 200000) && (List.range 21).all fun i => !(decide (i ≤ k)) || decide (chS n k i ≤ 200000))
theorem chOk_true : chOk = true := by decide +kernel
theorem ch_facts (n k : Nat) (hn : n ≤ 20) (hk : k ≤ n) : chI n k = chS n k k ∧ chI n k ≤ 200000 ∧ ∀ i, i ≤ k → chS n k i ≤ 200000 := by
  have h := chOk_true
  unfold chOk at h
  rw [List.all_eq_true] at h
  have h1 := h n (List.mem_range.2 (by omega))
  rw [List.all_eq_true] at h1
  have h2 := h1 k (List.mem_range.2 (by omega))
  simp only [hk, decide_true, Bool.not_true, Bool.false_or, Bool.and_eq_true, decide_eq_true_eq, List.all_eq_true] at h2
  obtain ⟨⟨h3, h4⟩, h5⟩ := h2
  refine ⟨h3, h4, fun i hi => ?_⟩
  have h6 := h5 i (List.mem_range.2 (by omega))
  simpa [hi] using h6

def chooseZ (a b : Int) : Int := if inB a 0 20 && inB b 0 a then ((chI a.toNat b.toNat : Nat) : Int) else 0
theorem chooseZ_in (n k : Nat) (hn : n ≤ 20) (hk : k ≤ n) : chooseZ n k = chI n k := by
  have h1 : inB (n : Int) 0 20 = true := inB_true (by omega) (by omega)
  have h2 : inB (k : Int) 0 n = true := inB_true (by omega) (by omega)
  simp [chooseZ, h1, h2]
theorem chooseZ_le (a b : Int) : 0 ≤ chooseZ a b ∧ chooseZ a b ≤ 200000 := by
  unfold chooseZ
  split
  · rename_i h
    simp only [Bool.and_eq_true, inB_iff] at h
    obtain ⟨_, h5, _⟩ := ch_facts a.toNat b.toNat (by omega) (by omega)
    omega
  · omega

theorem inB_cases (a b : Int) : (inB a 0 20 = true ∧ inB b 0 a = true) ∨ inB a 0 20 = false ∨ (inB a 0 20 = true ∧ inB b 0 a = false) := by
  cases inB a 0 20 <;> cases inB b 0 a <;> simp
end Go.Proofs.Ytehnbalbpfmijaa

namespace Go.Proofs.Ytehnbalbpfmijaa
open Go.RowKit

abbrev spotV (x y : Int) : Value := .agg #[.int .i64 x, .int .i64 y]
def spotB (m x y : Int) : Bool := inB x 0 m && inB y 0 m
theorem spotB_iff (m x y : Int) : spotB m x y = true ↔ (0 ≤ x ∧ x ≤ m) ∧ 0 ≤ y ∧ y ≤ m := by simp [spotB, inB_iff]

/-- Below, as facts on cells and marks that the walk uses by itself. -/
theorem bcell {W w1 : World} {B : Nat} (hb : Below B W w1) : (∀ b o, b < B → w1.cell? ⟨b, o, none⟩ = W.cell? ⟨b, o, none⟩) ∧ (∀ b o, b < B → w1.frozen? ⟨b, o, none⟩ = W.frozen? ⟨b, o, none⟩) :=
  ⟨fun b o h => hb.cell (p := ⟨b, o, none⟩) h, fun b o h => hb.frozen (p := ⟨b, o, none⟩) h⟩

def pathsZ (ax ay bx by' : Int) : Int :=
  if spotB 8 ax ay && spotB 8 bx by' && decide (ax ≤ bx) && decide (ay ≤ by') then chooseZ (bx - ax + by' - ay) (bx - ax) else 0


end Go.Proofs.Ytehnbalbpfmijaa

namespace Go.Proofs.Ytehnbalbpfmijaa
open Go.RowKit

theorem CellOk_any (x y : Int) (w : World) :
    Calls Try.prog 138 #[spotV x y] w fun e w' => e = .returned (.bool (spotB 7 x y)) ∧ Below w.heap.size w w' := by
  cases h1 : inB x 0 7 <;> cases h2 : inB y 0 7
  all_goals
    go_enter Try.func138, Try.ntmps138
    go_wp2_with (go_at_call 70; refine (within_any _ _ _ _).mono ?_; rintro e w' ⟨rfl, rfl⟩)
    go_ret
    exact ⟨by simp [spotB, h1, h2], (Below.refl _ _).alloc (by simp) _⟩

/-- The number of a cell. -/
def cix (x y : Nat) : Nat := y * 8 + x
theorem CellIndex_yes (x y : Nat) (hx : x ≤ 7) (hy : y ≤ 7) (w : World) :
    Calls Try.prog 139 #[spotV x y] w fun e w' => e = .returned (.int .i64 (cix x y : Nat)) ∧ Below w.heap.size w w' := by
  have hok : spotB 7 x y = true := (spotB_iff _ _ _).2 ⟨by omega, by omega⟩
  have HE : Hid ((y : Int) * 8 + (x : Int) = ((cix x y : Nat) : Int)) := by unfold Hid cix; omega
  go_enter Try.func139, Try.ntmps139
  go_wp2_with fail
  refine (CellOk_any _ _ _).mono ?_
  rintro e w1 ⟨rfl, hb1⟩
  rw [hok]
  obtain ⟨hc, hf⟩ := bcell hb1
  go_wp2_with fail
  go_ret
  exact ⟨ret_int HE.out, ((Below.refl _ _).alloc (Nat.le_refl _) _).trans (hb1.mono (by simp))⟩

theorem shl_u64 (k : Nat) (hk : k ≤ 63) (W : World) : Sem.run Try.prog (Op.shift BinOp.shl IntKind.u64 1 IntKind.i64 (k : Int)) W = .ok (.int .u64 ((2 ^ k : Nat) : Int)) W := by
  rw [shift_shl _ _ _ _ (by omega) (by simp [IntKind.bits]; omega)]
  have h : (2 ^ k : Nat) < 2 ^ 64 := Nat.pow_lt_pow_right (by omega) (by omega)
  have e : IntKind.u64.wrap (1 * 2 ^ ((k : Int)).toNat) = ((2 ^ k : Nat) : Int) := by
    rw [Int.toNat_natCast, Int.one_mul, IntKind.wrap_u64]
    have : ((2 : Int) ^ k) = ((2 ^ k : Nat) : Int) := by simp
    rw [this]
    generalize (2 ^ k : Nat) = p at *
    omega
  rw [e]; rfl
theorem shr_u64 (T k : Nat) (hk : k ≤ 63) (W : World) : Sem.run Try.prog (Op.shift BinOp.shr IntKind.u64 (T : Int) IntKind.i64 (k : Int)) W = .ok (.int .u64 ((T / 2 ^ k : Nat) : Int)) W := by
  rw [shift_shr _ _ _ _ (by omega) (by simp [IntKind.bits]; omega)]
  have e : (T : Int) / 2 ^ ((k : Int)).toNat = ((T / 2 ^ k : Nat) : Int) := by
    rw [Int.toNat_natCast]; simp
  rw [e]; rfl
theorem shr_val (T k : Nat) (hk : k ≤ 63) : (T : Int) / 2 ^ min k 64 = ((T / 2 ^ k : Nat) : Int) := by
  rw [Nat.min_eq_left (by omega)]; simp
theorem shl_val (k : Nat) (hk : k ≤ 63) : IntKind.u64.wrap ((2 : Int) ^ min k 64) = ((2 ^ k : Nat) : Int) := by
  have h : (2 ^ k : Nat) < 18446744073709551616 := Nat.pow_lt_pow_right (a := 2) (m := k) (n := 64) (by omega) (by omega)
  have e : ((2 : Int) ^ k) = ((2 ^ k : Nat) : Int) := by simp
  rw [Nat.min_eq_left (by omega), IntKind.wrap_u64, e]
  generalize (2 ^ k : Nat) = p at *
  omega
theorem bit_and (T k : Nat) (hT : T < 18446744073709551616) : bits .and .u64 ((T / 2 ^ k : Nat) : Int) 1 = if T.testBit k then 1 else 0 := by
  have hle : T / 2 ^ k ≤ T := Nat.div_le_self _ _
  rw [Nat.testBit_eq_decide_div_mod_eq]
  generalize T / 2 ^ k = S at *
  rw [Lib.u64_and1 _ (by omega) (by omega)]
  by_cases h : S % 2 = 1
  · rw [if_pos (by simpa using h)]; omega
  · rw [if_neg (by simpa using h)]; omega

/-- A set has a cell. -/
def hasB (T x y : Nat) : Bool := T.testBit (cix x y)
set_option maxHeartbeats 400000 in
theorem has_yes (T x y : Nat) (hT : T < 18446744073709551616) (hx : x ≤ 7) (hy : y ≤ 7) (w : World) :
    Calls Try.prog 78 #[.int .u64 (T : Int), spotV x y] w fun e w' => e = .returned (.bool (hasB T x y)) ∧ Below w.heap.size w w' := by
  have hok : spotB 7 x y = true := (spotB_iff _ _ _).2 ⟨by omega, by omega⟩
  have hk : cix x y ≤ 63 := by unfold cix; omega
  have HB : Hid ((bits .and .u64 ((T : Int) / 2 ^ min (cix x y) 64) 1 == 1) = hasB T x y) := by
    unfold Hid
    rw [shr_val _ _ hk, bit_and T _ hT, hasB]
    cases T.testBit (cix x y) <;> rfl
  obtain ⟨k, HK⟩ : ∃ k, Hid (cix x y = k) := ⟨_, rfl⟩
  rw [HK.out] at HB
  clear hk
  go_enter Try.func78, Try.ntmps78
  go_wp2_with fail
  refine (CellOk_any _ _ _).mono ?_
  rintro e w1 ⟨rfl, hb1⟩
  rw [hok]
  obtain ⟨hc, hf⟩ := bcell hb1
  have hz : w.heap.size + 1 ≤ w1.heap.size := by have := hb1.size; simp at this; omega
  go_wp2_with fail
  refine (CellIndex_yes x y hx hy _).mono ?_
  rintro e w2 ⟨rfl, hb2⟩
  rw [HK.out]
  go_wp2_with fail
  go_ret
  exact ⟨ret_bool HB.out, (((Below.refl _ _).alloc (Nat.le_refl _) _).trans (hb1.mono (by simp))).trans (hb2.mono (by omega))⟩

theorem with_lt {T k : Nat} (hT : T < 18446744073709551616) (hk : k ≤ 63) : T ||| 2 ^ k < 18446744073709551616 :=
  Nat.or_lt_two_pow (n := 64) hT (Nat.pow_lt_pow_right (by omega) (by omega))
set_option maxHeartbeats 400000 in
theorem with_yes (T x y : Nat) (hT : T < 18446744073709551616) (hx : x ≤ 7) (hy : y ≤ 7) (w : World) :
    Calls Try.prog 80 #[.int .u64 (T : Int), spotV x y] w fun e w' => e = .returned (.int .u64 ((T ||| 2 ^ cix x y : Nat) : Int)) ∧ Below w.heap.size w w' := by
  have hk : cix x y ≤ 63 := by unfold cix; omega
  have hp : (2 ^ cix x y : Nat) < 18446744073709551616 := Nat.pow_lt_pow_right (a := 2) (m := cix x y) (n := 64) (by omega) (by omega)
  have HV : Hid (bits .or .u64 (T : Int) (IntKind.u64.wrap ((2 : Int) ^ min (cix x y) 64)) = ((T ||| 2 ^ cix x y : Nat) : Int)) := by
    unfold Hid
    rw [shl_val _ hk]; exact u64_or_nat T (2 ^ cix x y) hT hp
  obtain ⟨k, HK⟩ : ∃ k, Hid (cix x y = k) := ⟨_, rfl⟩
  go_enter Try.func80, Try.ntmps80
  go_wp2_with fail
  refine (CellIndex_yes x y hx hy _).mono ?_
  rintro e w2 ⟨rfl, hb2⟩
  rw [HK.out]
  rw [HK.out] at HV
  go_wp2_with fail
  go_ret
  exact ⟨congrArg (fun z => Ending.returned (.int .u64 z)) (by rw [HK.out]; exact HV.out), ((Below.refl _ _).alloc (Nat.le_refl _) _).trans (hb2.mono (by simp))⟩
end Go.Proofs.Ytehnbalbpfmijaa

namespace Go.Proofs.Ytehnbalbpfmijaa
open Go.RowKit

def Drawn (w w' : World) : Prop := ∃ n, w' = w.drewN n
theorem Drawn.refl (w : World) : Drawn w w := ⟨0, rfl⟩
theorem Drawn.more {w w' : World} (h : Drawn w w') (n : Nat) : Drawn w (w'.drewN n) := by
  obtain ⟨m, rfl⟩ := h
  exact ⟨m + n, by rw [World.drewN_drewN]⟩
theorem Drawn.drew {w w' : World} (h : Drawn w w') : Drawn w w'.drew := h.more 1
theorem Drawn.trans {a b c : World} (h : Drawn a b) (k : Drawn b c) : Drawn a c := by
  obtain ⟨m, rfl⟩ := k; exact h.more m
theorem Drawn.below {w w' : World} (h : Drawn w w') (B : Nat) : Below B w w' := by
  obtain ⟨n, rfl⟩ := h; exact ⟨rfl, rfl, rfl, Nat.le_refl _, fun _ _ => rfl⟩

theorem quo_bd (x y : Nat) : 0 ≤ (x : Int) / (y : Int) ∧ (x : Int) / (y : Int) ≤ (x : Int) := by
  have h : x / y ≤ x := Nat.div_le_self x y
  have h0 : 0 ≤ ((x / y : Nat) : Int) := Int.natCast_nonneg _
  have h1 : ((x / y : Nat) : Int) ≤ (x : Int) := Int.ofNat_le.2 h
  rw [Int.natCast_ediv] at h0 h1
  exact ⟨h0, h1⟩

end Go.Proofs.Ytehnbalbpfmijaa

namespace Go.Proofs.Ytehnbalbpfmijaa
open Go.RowKit

/-- A new block reads as what it holds. -/
theorem rd_new (w : World) (cs : Array Value) (t : TypeId) : Rd (w.alloc (.cells cs t)) (w.heap.size + 1) (some ⟨w.heap.size, 0, none⟩) cs.toList :=
  fun _ => ⟨_, rfl, Nat.lt_succ_self _, World.news_of_block (heap_alloc_new w _)⟩

/-- All numbers from the k-th on lie in a range. -/
def allB (zs : List Int) (a b : Int) : Bool := zs.all fun z => inB z a b
theorem allB_drop (zs : List Int) (a b : Int) (k : Nat) (hk : k < zs.length) : allB (zs.drop k) a b = (inB zs[k] a b && allB (zs.drop (k + 1)) a b) := by
  unfold allB
  rw [List.drop_eq_getElem_cons hk, List.all_cons]

set_option maxHeartbeats 400000 in
theorem allWithin_any (v : Value) (zs : List Int) (a b : Int) (B : Nat) (w : World) (h : RdI w B v zs) :
    Calls Try.prog 172 #[v, .int .i64 a, .int .i64 b] w fun e w' => e = .returned (.bool (allB zs a b)) ∧ w = w' := by
  obtain ⟨A, c, rfl, h1, h2, h3⟩ := h
  unfold maxLen at h2
  generalize hr : allB zs a b = r
  have HR : Hid (allB (zs.drop 0) a b = r) := hr
  clear hr
  go_enter Try.func172, Try.ntmps172
  go_wp2
  go_loop [11] (fun i => ∃ k : Nat, k ≤ zs.length ∧ i = .int .i64 k ∧ Hid (allB (zs.drop k) a b = r)) (fun i => zs.length - (intOf i).toNat)
  case atStart => exact ⟨0, Nat.zero_le _, rfl, HR⟩
  case round =>
    obtain ⟨k, hk, rfl, HE⟩ := hrel
    by_cases hlt : k < zs.length
    · have hs := allB_drop zs a b k hlt
      obtain ⟨ad, rfl, hb, hc⟩ := h3.int hlt
      cases hi : inB zs[k] a b
      · have HF : Hid (r = false) := by unfold Hid; rw [← HE.out, hs, hi]; rfl
        clear hs
        go_wp2_with (go_at_call 70; refine (within_any _ _ _ _).mono ?_; rintro e w' ⟨rfl, rfl⟩)
        go_ret
        exact ⟨ret_bool HF.out.symm, rfl⟩
      · have HF : Hid (allB (zs.drop (k + 1)) a b = r) := by unfold Hid; rw [← HE.out, hs, hi]; rfl
        clear hs
        go_wp2_with (go_at_call 70; refine (within_any _ _ _ _).mono ?_; rintro e w' ⟨rfl, rfl⟩)
        go_round
        case rel => exact ⟨k + 1, by omega, by go_num, HF⟩
        case measure => simp [intOf]; omega
    · have HF : Hid (r = true) := by unfold Hid; rw [← HE.out, List.drop_of_length_le (by omega)]; rfl
      go_wp2
      go_ret
      exact ⟨ret_bool HF.out.symm, rfl⟩
end Go.Proofs.Ytehnbalbpfmijaa

namespace Go.Proofs.Ytehnbalbpfmijaa

/-- p holds from k up to n. -/
def upFrom (p : Nat → Bool) (k n : Nat) : Bool := (List.range' k (n - k)).all p
theorem upFrom_step (p : Nat → Bool) (k n : Nat) (h : k < n) : upFrom p k n = (p k && upFrom p (k + 1) n) := by
  unfold upFrom
  rw [show n - k = (n - (k + 1)) + 1 from by omega, List.range'_succ, List.all_cons]
theorem upFrom_end (p : Nat → Bool) (k n : Nat) (h : n ≤ k) : upFrom p k n = true := by
  unfold upFrom
  rw [show n - k = 0 from by omega]; rfl
theorem upFrom_iff (p : Nat → Bool) (k n : Nat) : upFrom p k n = true ↔ ∀ j, k ≤ j → j < n → p j = true := by
  unfold upFrom
  rw [List.all_eq_true]
  constructor
  · intro h j h1 h2; exact h j (by rw [List.mem_range'_1]; omega)
  · intro h j hj; rw [List.mem_range'_1] at hj; exact h j hj.1 (by omega)

/-- An element, a row. (Closed to simp.) -/
def el (zs : List Int) (k : Nat) : Int := zs.getD k 0
def rw' (zss : List (List Int)) (i : Nat) : List Int := zss.getD i []
theorem el_get (zs : List Int) (k : Nat) (h : k < zs.length) : el zs k = zs[k] := by simp [el, h]
theorem rw_get (zss : List (List Int)) (k : Nat) (h : k < zss.length) : rw' zss k = zss[k] := by simp [rw', h]

end Go.Proofs.Ytehnbalbpfmijaa

namespace Go.Proofs.Ytehnbalbpfmijaa
open Go.RowKit
set_option linter.unusedVariables false

def regOkB (zs : List Int) : Bool := decide (zs.length ≤ 8) && allB zs 0 255
theorem RegionOk_any (v : Value) (zs : List Int) (B : Nat) (w : World) (h : RdI w B v zs) (hB : B ≤ w.heap.size) :
    Calls Try.prog 155 #[.agg #[v]] w fun e w' => e = .returned (.bool (regOkB zs)) ∧ Below w.heap.size w w' := by
  have HU := Lib.hid h
  obtain ⟨A, c, rfl, h1, h2, _⟩ := h
  unfold maxLen at h2
  have hb0 : Below w.heap.size w (w.alloc (.cells #[.slice A zs.length c] 39)) := (Below.refl _ _).alloc (Nat.le_refl _) _
  by_cases hl : zs.length ≤ 8
  · have hl' : decide ((zs.length : Int) ≤ 8) = true := by simp; omega
    have HF : Hid (allB zs 0 255 = regOkB zs) := by unfold Hid regOkB; simp [hl]
    have HR := Lib.hid (HU.out.below (hb0.mono hB))
    go_enter Try.func155, Try.ntmps155
    go_wp2_with fail
    refine (allWithin_any _ zs 0 255 _ _ HR.out).mono ?_
    rintro e w1 ⟨rfl, rfl⟩
    go_wp2_with fail
    go_ret
    exact ⟨ret_bool HF.out, hb0⟩
  · have hl' : decide ((zs.length : Int) ≤ 8) = false := by simp; omega
    have HF : Hid (false = regOkB zs) := by unfold Hid regOkB; simp [hl]
    go_enter Try.func155, Try.ntmps155
    go_wp2_with fail
    go_ret
    exact ⟨ret_bool HF.out, hb0⟩

/-- The cells of the first k rows. -/
def setTo (zs : List Int) : Nat → Nat
  | 0 => 0
  | k + 1 => setTo zs k ||| (el zs k).toNat * 2 ^ (8 * k)
def setZ (zs : List Int) : Nat := setTo zs zs.length
theorem regOk_el {zs : List Int} (h : regOkB zs = true) {k : Nat} (hk : k < zs.length) : 0 ≤ el zs k ∧ el zs k ≤ 255 := by
  unfold regOkB allB at h
  simp only [Bool.and_eq_true, decide_eq_true_eq, List.all_eq_true, inB_iff] at h
  have := h.2 _ (List.getElem_mem hk)
  rwa [← el_get zs k hk] at this
theorem regOk_len {zs : List Int} (h : regOkB zs = true) : zs.length ≤ 8 := by
  unfold regOkB at h
  simp only [Bool.and_eq_true, decide_eq_true_eq] at h
  exact h.1
theorem row_lt {r k : Nat} (hr : r ≤ 255) (hk : k ≤ 7) : r * 2 ^ (8 * k) < 2 ^ (8 * (k + 1)) := by
  rw [show 8 * (k + 1) = 8 * k + 8 by omega, Nat.pow_add, Nat.mul_comm]
  have : 0 < 2 ^ (8 * k) := Nat.pos_of_ne_zero (by simp)
  exact Nat.mul_lt_mul_of_pos_left (by omega) this
theorem setTo_lt {zs : List Int} (h : regOkB zs = true) : ∀ k, k ≤ zs.length → setTo zs k < 2 ^ (8 * k)
  | 0, _ => by simp [setTo]
  | k + 1, hk => by
    have ih := setTo_lt h k (by omega)
    have hl := regOk_len h
    have he := regOk_el h (k := k) (by omega)
    rw [setTo]
    refine Nat.or_lt_two_pow (Nat.lt_of_lt_of_le ih (Nat.pow_le_pow_right (by omega) (by omega))) (row_lt (by omega) (by omega))
theorem setZ_lt {zs : List Int} (h : regOkB zs = true) : setZ zs < 18446744073709551616 := by
  have h1 := setTo_lt h zs.length (Nat.le_refl _)
  have h2 := regOk_len h
  exact Nat.lt_of_lt_of_le h1 (Nat.pow_le_pow_right (n := 2) (j := 64) (by omega) (by omega))

set_option maxHeartbeats 1000000 in
theorem rset_any (v : Value) (zs : List Int) (B : Nat) (w : World) (h : RdI w B v zs) (hB : B ≤ w.heap.size) (hok : regOkB zs = true) :
    Calls Try.prog 60 #[.agg #[v]] w fun e w' => e = .returned (.int .u64 (setZ zs : Nat)) ∧ Below w.heap.size w w' := by
  have HU := Lib.hid h
  have hl8 := regOk_len hok
  obtain ⟨A, c, rfl, h1, h2, _⟩ := h
  unfold maxLen at h2
  have hb0 : Below w.heap.size w (w.alloc (.cells #[.slice A zs.length c] 39)) := (Below.refl _ _).alloc (Nat.le_refl _) _
  obtain ⟨A', c', e', _, _, hR⟩ := HU.out.below (hb0.mono hB)
  simp only [Value.slice.injEq] at e'
  obtain ⟨rfl, _, rfl⟩ := e'
  have HR := Lib.hid hR
  have HB0 := Lib.hid hb0
  clear hR hb0
  go_enter Try.func60, Try.ntmps60
  go_wp2_with fail
  generalize w.alloc (.cells #[.slice A zs.length c] 39) = W at *
  go_loop [3, 9] (fun s i => ∃ k : Nat, k ≤ zs.length ∧ i = .int .i64 k ∧ s = .int .u64 (setTo zs k : Nat)) (fun _ i => zs.length - (intOf i).toNat)
  case atStart => exact ⟨0, Nat.zero_le _, rfl, rfl⟩
  case round =>
    obtain ⟨k, hk, rfl, rfl⟩ := hrel
    by_cases hlt : k < zs.length
    · obtain ⟨ad, rfl, hbl, hc⟩ := HR.out.int hlt
      rw [← el_get zs k hlt] at hc
      obtain ⟨x0, x1⟩ := regOk_el hok hlt
      obtain ⟨x, hx⟩ := Int.eq_ofNat_of_zero_le x0
      have HT : Hid (setTo zs (k + 1) = setTo zs k ||| x * 2 ^ (8 * k)) := by unfold Hid; rw [setTo, hx, Int.toNat_natCast]
      have HL1 := Lib.hid (setTo_lt hok k (by omega))
      rw [hx] at hc x0 x1
      have HX := Lib.hid hx
      clear hx
      have HV : Hid (bits .or .u64 ((setTo zs k : Nat) : Int) (IntKind.u64.wrap ((x : Int) * 2 ^ (8 * k))) = ((setTo zs (k + 1) : Nat) : Int)) := by
        unfold Hid
        have e1 : (x : Int) * 2 ^ (8 * k) = ((x * 2 ^ (8 * k) : Nat) : Int) := by simp
        have l1 := row_lt (r := x) (k := k) (by omega) (by omega)
        have l2 : (2 : Nat) ^ (8 * (k + 1)) ≤ 2 ^ 64 := Nat.pow_le_pow_right (by omega) (by omega)
        have l3 : (2 : Nat) ^ (8 * k) ≤ 2 ^ 64 := Nat.pow_le_pow_right (by omega) (by omega)
        have l4 := HL1.out
        rw [e1, HT.out, IntKind.wrap_u64]
        generalize x * 2 ^ (8 * k) = p at *
        rw [show ((p : Int)) % 18446744073709551616 = (p : Int) by omega]
        exact u64_or_nat _ _ (Nat.lt_of_lt_of_le l4 l3) (Nat.lt_of_lt_of_le l1 l2)
      clear HL1
      go_wp2_with fail
      go_round
      case rel => exact ⟨k + 1, by omega, by go_num, by rw [HV.out]⟩
      case measure => simp [intOf]; omega
    · have HK : Hid (k = zs.length) := by unfold Hid; omega
      go_wp2_with fail
      go_ret
      exact ⟨congrArg (fun n : Nat => Ending.returned (.int .u64 (n : Int))) (by rw [HK.out]; rfl), HB0.out⟩

theorem cix_bit (zs : List Int) (hok : regOkB zs = true) (x y : Nat) (hx : x ≤ 7) : ∀ k, k ≤ zs.length → (setTo zs k).testBit (cix x y) = (decide (y < k) && (el zs y).toNat.testBit x)
  | 0, _ => by simp [setTo]
  | k + 1, hk => by
    have ih := cix_bit zs hok x y hx k (by omega)
    have he := regOk_el hok (k := k) (by omega)
    rw [setTo, Nat.testBit_or, ih, Nat.testBit_mul_two_pow]
    have hbig : ∀ j, 8 ≤ j → (el zs k).toNat.testBit j = false := fun j hj => Nat.testBit_lt_two_pow (Nat.lt_of_lt_of_le (show (el zs k).toNat < 2 ^ 8 by omega) (Nat.pow_le_pow_right (by omega) hj))
    unfold cix
    rcases Nat.lt_trichotomy y k with h | h | h
    · have h1 : ¬ 8 * k ≤ y * 8 + x := by omega
      simp [h, show y < k + 1 by omega, h1]
    · subst h
      have h1 : 8 * y ≤ y * 8 + x := by omega
      have h2 : y * 8 + x - 8 * y = x := by omega
      simp [h1, h2]
    · have h1 : 8 * k ≤ y * 8 + x := by omega
      have h2 := hbig (y * 8 + x - 8 * k) (by omega)
      simp [h1, h2, show ¬ y < k by omega, show ¬ y < k + 1 by omega]
/-- A region has a cell. -/
theorem setZ_bit {zs : List Int} (hok : regOkB zs = true) (x y : Nat) (hx : x ≤ 7) : hasB (setZ zs) x y = (decide (y < zs.length) && (el zs y).toNat.testBit x) := cix_bit zs hok x y hx zs.length (Nat.le_refl _)
end Go.Proofs.Ytehnbalbpfmijaa

namespace Go.Proofs.Ytehnbalbpfmijaa
open Go.RowKit

/-- A store into a block of cells. -/
theorem blk_setCell {w : World} {b k : Nat} {cs : Array Value} {t : TypeId} {fr : Nat × Nat} (h : w.heap[b]? = some (.cells cs t fr)) (u : Value) : (w.setCell ⟨b, k, none⟩ u).heap[b]? = some (.cells (cs.setIfInBounds k u) t fr) := by
  have hlt := lt_of_block h
  have h' : w.heap[b] = .cells cs t fr := by simpa [Array.getElem?_eq_getElem hlt] using h
  show (w.heap.modify b _)[b]? = _
  rw [Array.getElem?_eq_getElem (by simpa using hlt), Array.getElem_modify_self, h']
  rfl
theorem blk_cell {w : World} {b k : Nat} {cs : Array Value} {t : TypeId} {fr : Nat × Nat} (h : w.heap[b]? = some (.cells cs t fr)) : w.cell? ⟨b, k, none⟩ = cs[k]? := by simp [World.cell?, h]
theorem blk_free {w : World} {b k : Nat} {cs : Array Value} {t : TypeId} (h : w.heap[b]? = some (.cells cs t (0, 0))) : w.frozen? ⟨b, k, none⟩ = false := by simp [World.frozen?, h]
theorem grownBy_set (w : World) (b k : Nat) (u : Value) : w.grownBy (w.setCell ⟨b, k, none⟩ u) (some b) := ⟨rfl, rfl, rfl, by simp, fun j _ hj => Below.heap_setCell _ _ _ _ (fun e => hj (by rw [e]))⟩
theorem grownBy_drewN (w : World) (n : Nat) (row : Option Nat) : w.grownBy (w.drewN n) row := ⟨rfl, rfl, rfl, Nat.le_refl _, fun _ _ _ => rfl⟩

theorem two_alloc (w : World) (o1 o2 : Obj) : ∃ W : World, W = (w.alloc o1).alloc o2 ∧ W.heap[w.heap.size]? = some o1 ∧ W.heap[w.heap.size + 1]? = some o2 ∧ Below w.heap.size w W := by
  refine ⟨_, rfl, ?_, ?_, ((Below.refl _ _).alloc (Nat.le_refl _) _).alloc (by simp) _⟩
  · rw [Below.heap_alloc _ _ _ (by simp)]; exact heap_alloc_new w o1
  · simpa using heap_alloc_new (w.alloc o1) o2
theorem one_alloc (w : World) (o1 : Obj) : ∃ W : World, W = w.alloc o1 ∧ W.heap[w.heap.size]? = some o1 ∧ Below w.heap.size w W := ⟨_, rfl, heap_alloc_new w o1, (Below.refl _ _).alloc (Nat.le_refl _) _⟩
/-- A block stays as it was. -/
theorem blk_below {w w' : World} {b : Nat} {o : Obj} (h : w.heap[b]? = some o) (hb : Below w.heap.size w w') : w'.heap[b]? = some o := (hb.block b (lt_of_block h)).trans h
theorem three_alloc (w : World) (o1 o2 o3 : Obj) : ∃ W : World, W = ((w.alloc o1).alloc o2).alloc o3 ∧ W.heap[w.heap.size]? = some o1 ∧ W.heap[w.heap.size + 1]? = some o2 ∧ W.heap[w.heap.size + 2]? = some o3 ∧ Below w.heap.size w W := by
  refine ⟨_, rfl, ?_, ?_, ?_, (((Below.refl _ _).alloc (Nat.le_refl _) _).alloc (by simp) _).alloc (by simp; omega) _⟩
  · rw [Below.heap_alloc _ _ _ (by simp; omega), Below.heap_alloc _ _ _ (by simp)]; exact heap_alloc_new w o1
  · rw [Below.heap_alloc _ _ _ (by simp)]; simpa using heap_alloc_new (w.alloc o1) o2
  · simpa using heap_alloc_new ((w.alloc o1).alloc o2) o3
theorem four_alloc (w : World) (o1 o2 o3 o4 : Obj) : ∃ W : World, W = (((w.alloc o1).alloc o2).alloc o3).alloc o4 ∧ W.heap[w.heap.size]? = some o1 ∧ W.heap[w.heap.size + 1]? = some o2 ∧ W.heap[w.heap.size + 2]? = some o3 ∧ W.heap[w.heap.size + 3]? = some o4 ∧ Below w.heap.size w W := by
  refine ⟨_, rfl, ?_, ?_, ?_, ?_, ((((Below.refl _ _).alloc (Nat.le_refl _) _).alloc (by simp) _).alloc (by simp; omega) _).alloc (by simp; omega) _⟩
  · rw [Below.heap_alloc _ _ _ (by simp; omega), Below.heap_alloc _ _ _ (by simp; omega), Below.heap_alloc _ _ _ (by simp)]; exact heap_alloc_new w o1
  · rw [Below.heap_alloc _ _ _ (by simp), Below.heap_alloc _ _ _ (by simp)]; simpa using heap_alloc_new (w.alloc o1) o2
  · rw [Below.heap_alloc _ _ _ (by simp)]; simpa using heap_alloc_new ((w.alloc o1).alloc o2) o3
  · simpa using heap_alloc_new (((w.alloc o1).alloc o2).alloc o3) o4
end Go.Proofs.Ytehnbalbpfmijaa

namespace Go.Proofs.Ytehnbalbpfmijaa
open Go.RowKit
set_option linter.unusedVariables false

/-! ### Rows -/
def rwC (zs : List Int) : Array Value := (zs.map (Value.int .i64)).toArray
theorem rwC_get (zs : List Int) (k : Nat) (h : k < zs.length) : (rwC zs)[k]? = some (.int .i64 (el zs k)) := by simp [rwC, el_get _ _ h, h]
theorem rwC_set (zs : List Int) (k : Nat) (z : Int) : (rwC zs).setIfInBounds k (.int .i64 z) = rwC (zs.set k z) := by
  apply Array.ext'
  simp [rwC, List.map_set]
theorem rep_set (n k : Nat) : (List.replicate n (0 : Int)).set k 0 = List.replicate n 0 := by
  apply List.ext_getElem
  · simp
  · intro i h1 h2; simp
theorem rep_el (n k : Nat) : el (List.replicate n (0 : Int)) k = 0 := by
  unfold el
  rw [List.getD_eq_getElem?_getD, List.getElem?_replicate]
  split <;> rfl
def zeros : List Int := List.replicate 256 0
theorem zeros_len : zeros.length = 256 := List.length_replicate
theorem zeros_set (k : Nat) : zeros.set k 0 = zeros := rep_set 256 k
theorem zeros_el (k : Nat) : el zeros k = 0 := rep_el 256 k
theorem made256 : madeCells #[.int .i64 0] 256 = rwC zeros := by kernel_rfl
/-- A row of 256 integers. -/
def Row256 (w : World) (g : Nat) (zs : List Int) : Prop := w.heap[g]? = some (.cells (rwC zs) 3 (0, 0)) ∧ zs.length = 256
theorem Row256.cell {w : World} {g : Nat} {zs : List Int} (h : Row256 w g zs) {k : Nat} (hk : k < 256) : w.cell? ⟨g, k, none⟩ = some (.int .i64 (el zs k)) := by rw [blk_cell h.1]; exact rwC_get _ _ (by rw [h.2]; exact hk)
theorem Row256.free {w : World} {g : Nat} {zs : List Int} (h : Row256 w g zs) (k : Nat) : w.frozen? ⟨g, k, none⟩ = false := blk_free h.1
theorem Row256.set {w : World} {g : Nat} {zs : List Int} (h : Row256 w g zs) (k : Nat) (z : Int) : Row256 (w.setCell ⟨g, k, none⟩ (.int .i64 z)) g (zs.set k z) := by
  refine ⟨?_, by simpa using h.2⟩
  rw [blk_setCell h.1, rwC_set]
theorem Row256.keep {w w' : World} {g : Nat} {zs : List Int} (h : Row256 w g zs) (hk : w'.heap[g]? = w.heap[g]?) : Row256 w' g zs := ⟨hk.trans h.1, h.2⟩
theorem Row256.made (w : World) : Row256 (w.alloc (.cells (madeCells #[.int .i64 0] 256) 3)) w.heap.size zeros := ⟨by rw [made256]; exact heap_alloc_new w _, zeros_len⟩

/-! ### The count -/
def putZ (nx : List Int) (j : Nat) (n : Int) : List Int := nx.set j (wrap64 (el nx j + n))
def inZ (h b r : Bool) (x : Nat) (n : Int) (k : Nat) (nx : List Int) : List Int :=
  if n = 0 then nx
  else if h then
    (if k.testBit x then putZ nx (k - 2 ^ x) n
     else if r && !k.testBit (x + 1) then putZ (if b then putZ nx (k ||| 2 ^ x) n else nx) (k ||| 2 ^ (x + 1)) n else if b then putZ nx (k ||| 2 ^ x) n else nx)
  else if k.testBit x then nx else putZ nx k n
def stepTo (h b r : Bool) (x : Nat) (zs : List Int) : Nat → List Int
  | 0 => zeros
  | k + 1 => inZ h b r x (el zs k) k (stepTo h b r x zs k)
/-- A set has a cell that may lie outside. -/
def hasC (T x y : Nat) : Bool := decide (x ≤ 7) && decide (y ≤ 7) && hasB T x y
def profTo (T : Nat) : Nat → List Int
  | 0 => zeros.set 0 1
  | i + 1 => stepTo (hasC T (i % 8) (i / 8)) (hasC T (i % 8) (i / 8 + 1)) (hasC T (i % 8 + 1) (i / 8)) (i % 8) (profTo T i) 256
def profZ (T : Nat) : Int := el (profTo T 64) 0

theorem putZ_len (nx : List Int) (j : Nat) (n : Int) : (putZ nx j n).length = nx.length := by simp [putZ]
theorem inZ_len (h b r : Bool) (x : Nat) (n : Int) (k : Nat) (nx : List Int) : (inZ h b r x n k nx).length = nx.length := by
  unfold inZ
  split
  · rfl
  · split
    · split
      · exact putZ_len _ _ _
      · split
        · rw [putZ_len]; split <;> simp [putZ_len]
        · split <;> simp [putZ_len]
    · split <;> simp [putZ_len]
theorem stepTo_len (h b r : Bool) (x : Nat) (zs : List Int) : ∀ k, (stepTo h b r x zs k).length = 256
  | 0 => zeros_len
  | k + 1 => by rw [stepTo, inZ_len]; exact stepTo_len h b r x zs k
theorem profTo_len (T : Nat) : ∀ i, (profTo T i).length = 256
  | 0 => by rw [profTo, List.length_set]; exact zeros_len
  | i + 1 => stepTo_len _ _ _ _ _ _
/-- All numbers are in range. -/
def WOk (zs : List Int) : Prop := ∀ j, wrap64 (el zs j) = el zs j
theorem wrap_wrap (a : Int) : wrap64 (wrap64 a) = wrap64 a := by unfold wrap64; omega
theorem el_set' (zs : List Int) (k : Nat) (z : Int) (j : Nat) : el (zs.set k z) j = if j = k ∧ k < zs.length then z else el zs j := by
  unfold el
  simp only [List.getD_eq_getElem?_getD, List.getElem?_set]
  by_cases e : k = j
  · subst e
    by_cases h : k < zs.length
    · simp [h]
    · simp [h]
  · simp [e, show ¬ j = k from fun h => e h.symm]
theorem WOk.put {nx : List Int} (h : WOk nx) (j : Nat) (n : Int) : WOk (putZ nx j n) := fun i => by
  unfold putZ
  rw [el_set']
  split
  · exact wrap_wrap _
  · exact h i
theorem WOk.zeros : WOk zeros := fun j => by rw [zeros_el]; simp [wrap64]
theorem WOk.in_ {h b r : Bool} {x k : Nat} {n : Int} {nx : List Int} (hn : WOk nx) : WOk (inZ h b r x n k nx) := by
  unfold inZ
  split
  · exact hn
  · split
    · split
      · exact hn.put _ _
      · split
        · refine WOk.put ?_ _ _; split
          · exact hn.put _ _
          · exact hn
        · split
          · exact hn.put _ _
          · exact hn
    · split
      · exact hn
      · exact hn.put _ _
theorem WOk.step (h b r : Bool) (x : Nat) (zs : List Int) : ∀ k, WOk (stepTo h b r x zs k)
  | 0 => WOk.zeros
  | k + 1 => (WOk.step h b r x zs k).in_
theorem WOk.prof (T : Nat) : ∀ i, WOk (profTo T i)
  | 0 => fun j => by
    rw [profTo, el_set']
    split
    · simp [wrap64]
    · rw [zeros_el]; simp [wrap64]
  | i + 1 => WOk.step _ _ _ _ _ _
/-- The program's put: where nothing stands, the number alone. -/
theorem putZ_zero {nx : List Int} {j : Nat} {n : Int} (h : el nx j = 0) (hn : wrap64 n = n) : nx.set j n = putZ nx j n := by
  unfold putZ; rw [h, Int.zero_add, hn]

/-! ### Bits -/
theorem bits_tab : ((List.range 256).all fun k => (List.range 8).all fun x =>
    ((bits .and .i64 (k : Int) ((2 ^ x : Nat) : Int) == 0) == !k.testBit x) && (!k.testBit x || bits .andNot .i64 (k : Int) ((2 ^ x : Nat) : Int) == ((k - 2 ^ x : Nat) : Int)) && (bits .or .i64 (k : Int) ((2 ^ x : Nat) : Int) == ((k ||| 2 ^ x : Nat) : Int)) &&
    (bits .and .i64 ((k : Int) / ((2 ^ x : Nat) : Int)) 1 == if k.testBit x then 1 else 0) && decide (k ||| 2 ^ x < 256)) = true := by decide +kernel
theorem bits_at (k x : Nat) (hk : k < 256) (hx : x ≤ 7) : ((bits .and .i64 (k : Int) ((2 ^ x : Nat) : Int) == 0) = !k.testBit x) ∧ (k.testBit x = true → bits .andNot .i64 (k : Int) ((2 ^ x : Nat) : Int) = ((k - 2 ^ x : Nat) : Int)) ∧
    (bits .or .i64 (k : Int) ((2 ^ x : Nat) : Int) = ((k ||| 2 ^ x : Nat) : Int)) ∧ (bits .and .i64 ((k : Int) / ((2 ^ x : Nat) : Int)) 1 = if k.testBit x then 1 else 0) ∧ k ||| 2 ^ x < 256 := by
  have h := bits_tab
  rw [List.all_eq_true] at h
  have h := h k (by simpa using hk)
  rw [List.all_eq_true] at h
  have h := h x (by simp; omega)
  simp only [Bool.and_eq_true, Bool.or_eq_true, beq_iff_eq, decide_eq_true_eq] at h
  obtain ⟨⟨⟨⟨h1, h2⟩, h3⟩, h4⟩, h5⟩ := h
  refine ⟨h1, fun ht => ?_, h3, h4, h5⟩
  rcases h2 with h2 | h2
  · rw [ht] at h2; simp at h2
  · exact h2
end Go.Proofs.Ytehnbalbpfmijaa

namespace Go.Proofs.Ytehnbalbpfmijaa
open Go.RowKit
set_option linter.unusedVariables false

/-! ### The closures -/
theorem count1_any (a b : Int) (w : World) : Calls Try.prog 174 #[.int .i64 a, .int .i64 b] w fun e w' => e = .returned (.int .i64 (wrap64 (a + b))) ∧ w = w' := by
  go_enter Try.func174, Try.ntmps174
  go_wp2_with fail
  go_ret
  exact ⟨rfl, rfl⟩
theorem count2_any (n x y : Int) (d : Bool) (w : World) : Calls Try.prog 175 #[.int .i64 n, .agg #[.int .i64 x, .int .i64 y, .bool d]] w fun e w' => e = .returned (.int .i64 (if x < 0 then 1 else n)) ∧ Below w.heap.size w w' := by
  by_cases h : x < 0
  · rw [if_pos h]
    go_enter Try.func175, Try.ntmps175
    go_wp2_with fail
    go_ret
    exact ⟨rfl, (Below.refl _ _).alloc (Nat.le_refl _) _⟩
  · rw [if_neg h]
    go_enter Try.func175, Try.ntmps175
    go_wp2_with fail
    go_ret
    exact ⟨rfl, (Below.refl _ _).alloc (Nat.le_refl _) _⟩

abbrev fn1 : Value := .func (.func 174) #[] #[]
abbrev fn2 : Value := .func (.func 175) #[] #[]
/-! ### put -/
/-- What put finds: the variable of the next row, the row, none, and add. -/
structure PutS (w : World) (pn p0 g : Nat) (nx : List Int) : Prop where
  en : w.heap[pn]? = some (.cells #[.slice (some ⟨g, 0, none⟩) 256 256] 31 (0, 0))
  e0 : w.heap[p0]? = some (.cells #[.int .i64 0] 3 (0, 0))
  ea : w.heap[p0 + 1]? = some (.cells #[fn1] 27 (0, 0))
  row : Row256 w g nx
def PutPost (w : World) (g : Nat) (nx : List Int) (e : Ending) (w' : World) : Prop := e = .returned (.tuple #[]) ∧ Row256 w' g nx ∧ w.grownBy w' (some g)
set_option maxRecDepth 100000 in
set_option maxHeartbeats 2000000 in
theorem put_any (k : Nat) (hk : k < 256) (n : Int) (hn : wrap64 n = n) (pn p0 g : Nat) (nx : List Int) (w : World) (h : PutS w pn p0 g nx) :
    Calls Try.prog 177 #[.int .i64 (k : Int), .int .i64 n, .pointer (some ⟨pn, 0, none⟩), .pointer (some ⟨p0, 0, none⟩), .pointer (some ⟨p0 + 1, 0, none⟩)] w (PutPost w g (putZ nx k n)) := by
  have c1 : w.cell? ⟨pn, 0, none⟩ = some (.slice (some ⟨g, 0, none⟩) 256 256) := cell_of_one h.en
  have c2 : w.cell? ⟨p0, 0, none⟩ = some (.int .i64 0) := cell_of_one h.e0
  have c3 : w.cell? ⟨p0 + 1, 0, none⟩ = some fn1 := cell_of_one h.ea
  have c4 := h.row.cell hk
  have c5 := h.row.free k
  have HR := Lib.hid h.row
  have hk0 : (0 : Int) ≤ (k : Int) := by omega
  have hk1 : (k : Int) < 256 := by omega
  have HN := Lib.hid hn
  clear h hn
  by_cases hz : el nx k = 0
  · have HZ := Lib.hid (putZ_zero (n := n) hz HN.out)
    rw [hz] at c4
    clear hz
    go_enter Try.func177, Try.ntmps177
    go_wp2_with fail
    go_quiet (fail)
    go_wp2_with fail
    go_end0
    rw [← HZ.out]
    exact ⟨rfl, (show Row256 ((w.drewN _).setCell ⟨g, k, none⟩ (.int .i64 n)) g (nx.set k n) from (HR.out.keep rfl).set k n), (grownBy_drewN w _ (some g)).trans (grownBy_set _ g k _)⟩
  · have t1 : (el nx k == 0) = false := by rw [beq_eq_false_iff_ne]; exact hz
    have HZ : Hid (putZ nx k n = nx.set k (wrap64 (el nx k + n))) := rfl
    generalize el nx k = q at *
    clear hz
    go_enter Try.func177, Try.ntmps177
    go_wp2_with fail
    go_quiet (fail)
    have d1 : (w.drewN nq).cell? ⟨pn, 0, none⟩ = some (.slice (some ⟨g, 0, none⟩) 256 256) := c1
    have d3 : (w.drewN nq).cell? ⟨p0 + 1, 0, none⟩ = some fn1 := c3
    have d4 : (w.drewN nq).cell? ⟨g, k, none⟩ = some (.int .i64 q) := c4
    have HDR : Hid (Row256 (w.drewN nq) g nx) := HR.out.keep rfl
    have HG1 := Lib.hid (grownBy_drewN w nq (some g))
    clear c1 c2 c3 c4 c5
    generalize w.drewN nq = W0 at *
    go_wp2_with fail
    refine wp_region_still_tail 10 (by kernel_rfl) (by kernel_rfl) ?_
    simp only [List.take_succ_cons, List.take_zero, List.drop_succ_cons, List.drop_zero]
    repeat still_step
    still_call ((count1_any q n _).mono fun _ _ ⟨he, hw⟩ => ⟨he, hw.symm⟩)
    repeat still_step
    refine wpStill_nil ?_
    change wpList _ _ _ _ _ W0.drew
    have HDR2 : Hid (Row256 W0.drew g nx) := HDR.out.keep rfl
    have HG2 : Hid (w.grownBy W0.drew (some g)) := HG1.out.trans (grownBy_drewN W0 1 _)
    have c6 : W0.drew.frozen? ⟨g, k, none⟩ = false := HDR2.out.free k
    have c7 := HDR2.out.cell hk
    clear d1 d3 d4
    generalize W0.drew = W at *
    go_wp2_with fail
    go_end0
    rw [HZ.out]
    exact ⟨rfl, HDR2.out.set k _, HG2.out.trans (grownBy_set _ g k _)⟩

/-! ### has, at any place near -/
set_option maxHeartbeats 400000 in
theorem has_any (T x y : Nat) (hT : T < 18446744073709551616) (hx : x ≤ 8) (hy : y ≤ 8) (w : World) :
    Calls Try.prog 78 #[.int .u64 (T : Int), spotV x y] w fun e w' => e = .returned (.bool (hasC T x y)) ∧ Below w.heap.size w w' := by
  by_cases h : x ≤ 7 ∧ y ≤ 7
  · have e : hasC T x y = hasB T x y := by simp [hasC, h.1, h.2]
    rw [e]
    exact has_yes T x y hT h.1 h.2 w
  · have hok : spotB 7 x y = false := by
      cases hs : spotB 7 x y
      · rfl
      · have := (spotB_iff _ _ _).1 hs; omega
    have e : hasC T x y = false := by
      unfold hasC
      by_cases h7 : x ≤ 7
      · have : ¬ y ≤ 7 := fun h9 => h ⟨h7, h9⟩
        simp [this]
      · simp [h7]
    rw [e]
    clear h e
    go_enter Try.func78, Try.ntmps78
    go_wp2_with fail
    refine (CellOk_any _ _ _).mono ?_
    rintro e w1 ⟨rfl, hb1⟩
    rw [hok]
    go_wp2_with fail
    go_ret
    exact ⟨rfl, ((Below.refl _ _).alloc (Nat.le_refl _) _).trans (hb1.mono (by simp))⟩

theorem cellAt_any (k : Nat) (hk : k ≤ 63) (w : World) :
    Calls Try.prog 137 #[.int .i64 (k : Int)] w fun e w' => e = .returned (spotV ((k % 8 : Nat) : Int) ((k / 8 : Nat) : Int)) ∧ Below w.heap.size w w' := by
  have e1 : (k : Int) % 8 = ((k % 8 : Nat) : Int) := by omega
  have e2 : (k : Int) / 8 = ((k / 8 : Nat) : Int) := by omega
  have HE1 := Lib.hid e1
  have HE2 := Lib.hid e2
  clear e1 e2
  go_enter Try.func137, Try.ntmps137
  go_wp2_with fail
  rw [HE1.out, HE2.out]
  exact bodyPost_ret (v := spotV ((k % 8 : Nat) : Int) ((k / 8 : Nat) : Int)) (by simp [results, Try.results137, go_sem]) rfl ⟨rfl, (Below.refl _ _).alloc (Nat.le_refl _) _⟩

/-! ### The state of the walk -/
structure PF (w wr : World) (p5 gn p12 gx pn x y : Nat) (zs nx : List Int) : Prop where
  e5 : wr.heap[p5]? = some (.cells #[.int .i64 0] 3 (0, 0))
  e6 : wr.heap[p5 + 1]? = some (.cells #[fn1] 27 (0, 0))
  rn : Row256 wr gn zs
  ec : wr.heap[p12]? = some (.cells #[.int .i64 (x : Int), .int .i64 (y : Int)] 44 (0, 0))
  en : wr.heap[pn]? = some (.cells #[.slice (some ⟨gx, 0, none⟩) 256 256] 31 (0, 0))
  rx : Row256 wr gx nx
  big : Below w.heap.size w wr
  l5 : w.heap.size ≤ p5
  n5 : gx ≠ p5 ∧ gx ≠ p5 + 1
  nn : gx ≠ gn
  nc : gx ≠ p12
  np : gx ≠ pn
  lx : w.heap.size ≤ gx
section
variable {w wr w1 : World} {p5 gn p12 gx pn x y : Nat} {zs nx nx' : List Int}
theorem PF.below (h : PF w wr p5 gn p12 gx pn x y zs nx) (hb : Below wr.heap.size wr w1) : PF w w1 p5 gn p12 gx pn x y zs nx :=
  ⟨blk_below h.e5 hb, blk_below h.e6 hb, h.rn.keep (hb.block _ (lt_of_block h.rn.1)), blk_below h.ec hb, blk_below h.en hb, h.rx.keep (hb.block _ (lt_of_block h.rx.1)), h.big.trans (hb.mono h.big.size), h.l5, h.n5, h.nn, h.nc, h.np, h.lx⟩
theorem PF.put (h : PF w wr p5 gn p12 gx pn x y zs nx) (hr : Row256 w1 gx nx') (hg : wr.grownBy w1 (some gx)) : PF w w1 p5 gn p12 gx pn x y zs nx' := by
  have hk : ∀ k, k < wr.heap.size → gx ≠ k → w1.heap[k]? = wr.heap[k]? := fun k h1 h2 => hg.block k h1 (fun e => h2 (Option.some.inj e).symm)
  exact ⟨(hk _ (lt_of_block h.e5) h.n5.1).trans h.e5, (hk _ (lt_of_block h.e6) h.n5.2).trans h.e6, h.rn.keep (hk _ (lt_of_block h.rn.1) h.nn), (hk _ (lt_of_block h.ec) h.nc).trans h.ec, (hk _ (lt_of_block h.en) h.np).trans h.en, hr,
    h.big.grown hg h.big.size (fun k hk => by obtain rfl := Option.some.inj hk; exact h.lx), h.l5, h.n5, h.nn, h.nc, h.np, h.lx⟩
theorem PF.puts (h : PF w wr p5 gn p12 gx pn x y zs nx) : PutS wr pn p5 gx nx := ⟨h.en, h.e5, h.e6, h.rx⟩
theorem PF.cells (h : PF w wr p5 gn p12 gx pn x y zs nx) : wr.cell? ⟨p5, 0, none⟩ = some (.int .i64 0) ∧ wr.cell? ⟨p12, 0, none⟩ = some (.int .i64 (x : Int)) ∧ wr.cell? ⟨p12, 1, none⟩ = some (.int .i64 (y : Int)) ∧ wr.cell? ⟨pn, 0, none⟩ = some (.slice (some ⟨gx, 0, none⟩) 256 256) :=
  ⟨cell_of_one h.e5, by rw [blk_cell h.ec]; rfl, by rw [blk_cell h.ec]; rfl, cell_of_one h.en⟩
end
end Go.Proofs.Ytehnbalbpfmijaa

namespace Go.Proofs.Ytehnbalbpfmijaa
open Go.RowKit
set_option linter.unusedVariables false

theorem shl_p (x : Nat) (hx : x ≤ 7) : wrap64 ((2 : Int) ^ x) = ((2 ^ x : Nat) : Int) := by
  have h : (2 ^ x : Nat) ≤ 2 ^ 7 := Nat.pow_le_pow_right (by omega) hx
  have e : ((2 : Int) ^ x) = ((2 ^ x : Nat) : Int) := by simp
  rw [e]
  generalize (2 ^ x : Nat) = p at *
  simp at h
  unfold wrap64
  omega

structure PB (w wr : World) (p5 gn : Nat) (zs : List Int) : Prop where
  e5 : wr.heap[p5]? = some (.cells #[.int .i64 0] 3 (0, 0))
  e6 : wr.heap[p5 + 1]? = some (.cells #[fn1] 27 (0, 0))
  rn : Row256 wr gn zs
  big : Below w.heap.size w wr
  l5 : w.heap.size ≤ p5
  ln : p5 + 1 < gn
section
variable {w wr w1 : World} {p5 gn : Nat} {zs : List Int}
theorem PB.below (h : PB w wr p5 gn zs) (hb : Below wr.heap.size wr w1) : PB w w1 p5 gn zs :=
  ⟨blk_below h.e5 hb, blk_below h.e6 hb, h.rn.keep (hb.block _ (lt_of_block h.rn.1)), h.big.trans (hb.mono h.big.size), h.l5, h.ln⟩
theorem PB.set (h : PB w wr p5 gn zs) (k : Nat) (z : Int) : PB w (wr.setCell ⟨gn, k, none⟩ (.int .i64 z)) p5 gn (zs.set k z) := by
  have hl := h.ln
  have hl5 := h.l5
  have hk : ∀ j, j ≠ gn → (wr.setCell ⟨gn, k, none⟩ (.int .i64 z)).heap[j]? = wr.heap[j]? := fun j hj => Below.heap_setCell _ _ _ _ hj
  exact ⟨(hk _ (by omega)).trans h.e5, (hk _ (by omega)).trans h.e6, h.rn.set k z, h.big.setCell (by show w.heap.size ≤ gn; omega) _, h.l5, h.ln⟩
theorem PB.drew (h : PB w wr p5 gn zs) : PB w wr.drew p5 gn zs := h.below (Below.refl _ _).drew
end

set_option maxRecDepth 100000 in
set_option maxHeartbeats 8000000 in
theorem profile_any (T : Nat) (hT : T < 18446744073709551616) (w : World) :
    Calls Try.prog 173 #[.int .u64 (T : Int), .int .i64 0, fn1, fn2] w fun e w' => e = .returned (.int .i64 (profZ T)) ∧ Below w.heap.size w w' := by
  obtain ⟨pf, HPF⟩ : ∃ pf : Nat → List Int, Hid (pf = profTo T) := ⟨_, rfl⟩
  obtain ⟨z0, HZ0⟩ : ∃ z : List Int, Hid (z = zeros) := ⟨_, rfl⟩
  have HPS : Hid (∀ i, pf (i + 1) = stepTo (hasC T (i % 8) (i / 8)) (hasC T (i % 8) (i / 8 + 1)) (hasC T (i % 8 + 1) (i / 8)) (i % 8) (pf i) 256) := by rw [HPF.out]; exact fun i => rfl
  have HPW : Hid (∀ i, WOk (pf i)) := by rw [HPF.out]; exact WOk.prof T
  have HP00 : Hid (pf 0 = z0.set 0 1) := by rw [HPF.out, HZ0.out]; rfl
  have HFZ : Hid (∀ r, pf 64 = r → profZ T = el r 0) := by rw [HPF.out]; exact fun r h => by rw [← h]; rfl
  have HST0 : Hid (∀ (h b r : Bool) (x : Nat) (zs : List Int), stepTo h b r x zs 0 = z0) := by rw [HZ0.out]; exact fun _ _ _ _ _ => rfl
  have HZL : Hid (z0.length = 256) := by rw [HZ0.out]; exact zeros_len
  have HZS0 : Hid (∀ k, z0.set k 0 = z0) := by rw [HZ0.out]; exact zeros_set
  obtain ⟨res, HRES⟩ : ∃ r, Hid (profZ T = r) := ⟨_, rfl⟩
  rw [HRES.out] at HFZ ⊢
  have hmk : ∀ w : World, (Instr.makeSlice 31 (.int .i64 256) (.int .i64 256)).run Try.prog w = .ok (.slice (some ⟨w.heap.size, 0, none⟩) 256 256) (w.alloc (.cells (madeCells #[.int .i64 0] 256) 3)) := fun _ => by kernel_rfl
  have hmf : ∀ (fn : Fn) (first cap : Array Value) (w : World), (Instr.makeFunc fn first cap).run Try.prog w = .ok (.func fn first cap) w := fun _ _ _ _ => rfl
  rw [made256, ← HZ0.out] at hmk
  clear HPF HZ0 HRES
  go_enter Try.func173, Try.ntmps173
  go_wp2_with fail
  obtain ⟨W, hW, k0, k1, k2, hb0⟩ := three_alloc w (.cells #[.int .i64 0] 3) (.cells #[fn1] 27) (.cells (rwC z0) 3)
  rw [← hW]
  have HP0 : Hid (PB w W w.heap.size (w.heap.size + 2) z0) := ⟨k0, k1, ⟨k2, HZL.out⟩, hb0, Nat.le_refl _, by omega⟩
  clear hW k0 k1 k2 hb0
  go_loopw [22] (fun s wr => ∃ k : Nat, k ≤ 256 ∧ s = .int .i64 k ∧ Hid (PB w wr w.heap.size (w.heap.size + 2) z0)) (fun s _ => 256 - (intOf s).toNat)
  case atStart => exact ⟨0, Nat.zero_le _, rfl, HP0⟩
  case round =>
    obtain ⟨k, hk, rfl, HP⟩ := hrel
    have c5 : wr.cell? ⟨w.heap.size, 0, none⟩ = some (.int .i64 0) := cell_of_one HP.out.e5
    by_cases hlt : k < 256
    · have ht : decide ((k : Int) < 256) = true := by simp only [decide_eq_true_eq]; omega
      have hk0 : (0 : Int) ≤ (k : Int) := by omega
      have hk1 : (k : Int) < 256 := by omega
      have cr : wr.cell? ⟨w.heap.size + 1 + 1, k, none⟩ = _ := HP.out.rn.cell hlt
      have fr : wr.frozen? ⟨w.heap.size + 1 + 1, k, none⟩ = false := HP.out.rn.free k
      have HP2 := Lib.hid (HP.out.set k 0)
      rw [HZS0.out] at HP2
      go_wp2_with fail
      go_roundw
      case rel => exact ⟨k + 1, by omega, by go_num, HP2⟩
      case measure => simp [intOf]; omega
    · have ht : decide ((k : Int) < 256) = false := by simp only [decide_eq_false_iff_not]; omega
      have HP1 : Hid (PB w wr w.heap.size (w.heap.size + 2) z0) := HP
      clear hk hlt
      go_wp2_with fail
      refine (count2_any _ _ _ _ _).mono ?_
      rintro e w2 ⟨rfl, hb2⟩
      have HP2 := Lib.hid (HP1.out.below hb2)
      have fr2 : w2.frozen? ⟨w.heap.size + 1 + 1, 0, none⟩ = false := HP2.out.rn.free 0
      have cr2 : w2.cell? ⟨w.heap.size + 1 + 1, 0, none⟩ = _ := HP2.out.rn.cell (k := 0) (by omega)
      have HP3 : Hid (PB w (w2.setCell ⟨w.heap.size + 2, 0, none⟩ (.int .i64 1)) w.heap.size (w.heap.size + 2) (pf 0)) := by rw [HP00.out]; exact HP2.out.set 0 1
      clear c5 hb2 HP HP1
      go_wp2_with fail
      go_loopw [9, 36] (fun v s wr => ∃ (i gn : Nat), i ≤ 64 ∧ s = .int .i64 i ∧ v = .slice (some ⟨gn, 0, none⟩) 256 256 ∧ Hid (PB w wr w.heap.size gn (pf i))) (fun _ s _ => 64 - (intOf s).toNat)
      case atStart => exact ⟨0, _, Nat.zero_le _, rfl, rfl, HP3⟩
      case round =>
        obtain ⟨i, gn, hi, rfl, rfl, HQ⟩ := hrel
        by_cases hli : i < 64
        · have hti : decide ((i : Int) < 64) = true := by simp only [decide_eq_true_eq]; omega
          have HS := Lib.hid (HPS.out i)
          have HWO := Lib.hid (HPW.out i)
          have hx7 : i % 8 ≤ 7 := by omega
          have hy7 : i / 8 ≤ 7 := by omega
          go_wp2_with fail
          refine (cellAt_any i (by omega) _).mono ?_
          rintro e w1 ⟨rfl, hb1⟩
          have HQ1 := Lib.hid (HQ.out.below hb1)
          obtain ⟨zs, HZS⟩ : ∃ zs, Hid (pf i = zs) := ⟨_, rfl⟩
          obtain ⟨zs2, HZS2⟩ : ∃ zs, Hid (pf (i + 1) = zs) := ⟨_, rfl⟩
          rw [HZS.out] at HQ1 HS HWO
          rw [HZS2.out] at HS
          generalize i % 8 = x at *
          generalize i / 8 = y at *
          clear hb1 HQ
          go_wp2_with fail
          obtain ⟨W2, hW2, q0, q1, q2, hb2⟩ := three_alloc w1 (.cells #[.int .i64 (x : Int), .int .i64 (y : Int)] 44) (.cells (rwC z0) 3) (.cells #[.slice (some ⟨w1.heap.size + 1, 0, none⟩) 256 256] 31)
          rw [← hW2]
          have HF0 : Hid (PF w W2 w.heap.size gn w1.heap.size (w1.heap.size + 1) (w1.heap.size + 2) x y zs z0) := by
            have h := HQ1.out.below hb2
            have l1 := lt_of_block HQ1.out.e6
            have l2 := lt_of_block HQ1.out.rn.1
            have l3 := HQ1.out.big.size
            exact ⟨h.e5, h.e6, h.rn, q0, q2, ⟨q1, HZL.out⟩, h.big, Nat.le_refl _, by omega, by omega, by omega, by omega, by omega⟩
          clear hW2 q0 q1 q2 hb2 HQ1
          generalize w1.heap.size = n1 at *
          go_loopw [44] (fun s wr => ∃ k : Nat, k ≤ 256 ∧ s = .int .i64 k ∧ Hid (PF w wr w.heap.size gn n1 (n1 + 1) (n1 + 2) x y zs z0)) (fun s _ => 256 - (intOf s).toNat)
          case atStart => exact ⟨0, Nat.zero_le _, rfl, HF0⟩
          case round =>
            obtain ⟨k, hk, rfl, HF⟩ := hrel
            obtain ⟨f1, f2, f3, f4⟩ := HF.out.cells
            by_cases hlt : k < 256
            · have ht : decide ((k : Int) < 256) = true := by simp only [decide_eq_true_eq]; omega
              have hk0 : (0 : Int) ≤ (k : Int) := by omega
              have hk1 : (k : Int) < 256 := by omega
              have cr := HF.out.rx.cell hlt
              have fr := HF.out.rx.free k
              have HF2 := Lib.hid (HF.out.put (HF.out.rx.set k 0) (grownBy_set _ _ _ _))
              rw [HZS0.out] at HF2
              go_wp2_with fail
              go_roundw
              case rel => exact ⟨k + 1, by omega, by go_num, HF2⟩
              case measure => simp [intOf]; omega
            · have ht : decide ((k : Int) < 256) = false := by simp only [decide_eq_false_iff_not]; omega
              clear hk hlt
              obtain ⟨wb, HWB⟩ : ∃ wb, Hid (wb = wr) := ⟨_, rfl⟩
              obtain ⟨h, HH⟩ : ∃ h, Hid (hasC T x y = h) := ⟨_, rfl⟩
              obtain ⟨b, HB⟩ : ∃ h, Hid (hasC T x (y + 1) = h) := ⟨_, rfl⟩
              obtain ⟨r, HR⟩ : ∃ h, Hid (hasC T (x + 1) y = h) := ⟨_, rfl⟩
              have HR7 : Hid (r = true → x < 7) := fun e => by have h9 := HR.out; rw [e] at h9; unfold hasC at h9; simp only [Bool.and_eq_true, decide_eq_true_eq] at h9; omega
              rw [HH.out, HB.out, HR.out] at HS
              obtain ⟨st, HST⟩ : ∃ st : Nat → List Int, Hid (st = stepTo h b r x zs) := ⟨_, rfl⟩
              have HSIN : Hid (∀ k, st (k + 1) = inZ h b r x (el zs k) k (st k)) := by rw [HST.out]; exact fun k => rfl
              have HF3 : Hid (PF w wb w.heap.size gn n1 (n1 + 1) (n1 + 2) x y zs (st 0)) := by rw [HWB.out, HST.out, HST0.out]; exact HF.out
              rw [← HST.out] at HS
              clear HST
              have HP := Lib.hid (shl_p x hx7)
              obtain ⟨p, HPP⟩ : ∃ p : Nat, Hid ((2 : Nat) ^ x = p) := ⟨_, rfl⟩
              rw [HPP.out] at HP
              have HBT := Lib.hid (fun (k : Nat) (hk : k < 256) => bits_at k x hk hx7)
              rw [HPP.out] at HBT
              go_wp2_with fail
              rw [← HWB.out, HP.out]
              clear HF f1 f2 f3 f4 HP
              go_loopw [58] (fun s wr => ∃ k : Nat, k ≤ 256 ∧ s = .int .i64 k ∧ Hid (PF w wr w.heap.size gn n1 (n1 + 1) (n1 + 2) x y zs (st k))) (fun s _ => 256 - (intOf s).toNat)
              case atStart => exact ⟨0, Nat.zero_le _, rfl, HF3⟩
              case round =>
                obtain ⟨k, hk, rfl, HF4⟩ := hrel
                obtain ⟨f1, f2, f3, f4⟩ := HF4.out.cells
                by_cases hlt : k < 256
                · have ht : decide ((k : Int) < 256) = true := by simp only [decide_eq_true_eq]; omega
                  have hk0 : (0 : Int) ≤ (k : Int) := by omega
                  have hk1 : (k : Int) < 256 := by omega
                  have cr := HF4.out.rn.cell hlt
                  have HN := Lib.hid (HWO.out k)
                  have HIN := Lib.hid (HSIN.out k)
                  obtain ⟨b1, b2, b3, b4, b5⟩ := HBT.out k hlt
                  have HB2 := Lib.hid b2; have HB3 := Lib.hid b3; have HB5 := Lib.hid b5
                  clear b2 b3 b4 b5
                  generalize st k = nx at *
                  generalize el zs k = n at *
                  by_cases hn0 : n = 0
                  · have t0 : (n == 0) = true := by simp [hn0]
                    have HF5 : Hid (PF w wr w.heap.size gn n1 (n1 + 1) (n1 + 2) x y zs (st (k + 1))) := by rw [HIN.out, inZ, if_pos hn0]; exact HF4.out
                    clear hn0 b1
                    go_wp2_with fail
                    go_roundw
                    case rel => exact ⟨k + 1, by omega, by go_num, HF5⟩
                    case measure => simp [intOf]; omega
                  · have t0 : (n == 0) = false := by rw [beq_eq_false_iff_ne]; exact hn0
                    cases h
                    · cases hb : k.testBit x
                      · rw [hb] at b1
                        have b1' : (bits .and .i64 (k : Int) (p : Int) == 0) = true := b1
                        have HX : Hid (st (k + 1) = putZ nx k n) := by unfold Hid; rw [HIN.out, inZ, if_neg hn0]; simp [hb]
                        clear b1 hn0
                        go_wp2_with fail
                        refine (has_any T x y hT (by omega) (by omega) _).mono ?_
                        rintro e w5 ⟨rfl, hb5⟩
                        rw [HH.out]
                        have HF5 := Lib.hid (HF4.out.below hb5)
                        clear f1 f2 f3 f4 hb5
                        obtain ⟨f1, f2, f3, f4⟩ := HF5.out.cells
                        go_wp2_with fail
                        refine (put_any k hlt n HN.out _ _ _ _ _ HF5.out.puts).mono ?_
                        rintro e w6 ⟨rfl, hr6, hg6⟩
                        have HF6 := Lib.hid (HF5.out.put hr6 hg6)
                        clear f1 f2 f3 f4 hr6 hg6
                        obtain ⟨f1, f2, f3, f4⟩ := HF6.out.cells
                        have HF7 : Hid (PF w w6 w.heap.size gn n1 (n1 + 1) (n1 + 2) x y zs (st (k + 1))) := by rw [HX.out]; exact HF6.out
                        go_wp2_with fail
                        go_roundw
                        case rel => exact ⟨k + 1, by omega, by go_num, HF7⟩
                        case measure => simp [intOf]; omega
                      · rw [hb] at b1
                        have b1' : (bits .and .i64 (k : Int) (p : Int) == 0) = false := b1
                        have HX : Hid (st (k + 1) = nx) := by unfold Hid; rw [HIN.out, inZ, if_neg hn0]; simp [hb]
                        clear b1 hn0
                        go_wp2_with fail
                        refine (has_any T x y hT (by omega) (by omega) _).mono ?_
                        rintro e w5 ⟨rfl, hb5⟩
                        rw [HH.out]
                        have HF5 := Lib.hid (HF4.out.below hb5)
                        clear f1 f2 f3 f4 hb5
                        obtain ⟨f1, f2, f3, f4⟩ := HF5.out.cells
                        go_wp2_with fail
                        refine (has_any T x y hT (by omega) (by omega) _).mono ?_
                        rintro e w6 ⟨rfl, hb6⟩
                        rw [HH.out]
                        have HF6 := Lib.hid (HF5.out.below hb6)
                        clear f1 f2 f3 f4 hb6
                        obtain ⟨f1, f2, f3, f4⟩ := HF6.out.cells
                        go_wp2_with fail
                        refine (has_any T x y hT (by omega) (by omega) _).mono ?_
                        rintro e w7 ⟨rfl, hb7⟩
                        rw [HH.out]
                        have HF7 := Lib.hid (HF6.out.below hb7)
                        clear f1 f2 f3 f4 hb7
                        obtain ⟨f1, f2, f3, f4⟩ := HF7.out.cells
                        have HF8 : Hid (PF w w7 w.heap.size gn n1 (n1 + 1) (n1 + 2) x y zs (st (k + 1))) := by rw [HX.out]; exact HF7.out
                        go_wp2_with fail
                        go_roundw
                        case rel => exact ⟨k + 1, by omega, by go_num, HF8⟩
                        case measure => simp [intOf]; omega
                    · cases hb : k.testBit x
                      · rw [hb] at b1
                        have b1' : (bits .and .i64 (k : Int) (p : Int) == 0) = true := b1
                        have b2' : (bits .and .i64 (k : Int) (p : Int) != 0) = false := by unfold bne; rw [b1']; rfl
                        clear b1
                        go_wp2_with fail
                        refine (has_any T x y hT (by omega) (by omega) _).mono ?_
                        rintro e w5 ⟨rfl, hb5⟩
                        rw [HH.out]
                        have HF5 := Lib.hid (HF4.out.below hb5)
                        clear f1 f2 f3 f4 hb5
                        obtain ⟨f1, f2, f3, f4⟩ := HF5.out.cells
                        go_wp2_with fail
                        refine (has_any T x y hT (by omega) (by omega) _).mono ?_
                        rintro e w6 ⟨rfl, hb6⟩
                        rw [HH.out]
                        have HF6 := Lib.hid (HF5.out.below hb6)
                        clear f1 f2 f3 f4 hb6
                        obtain ⟨f1, f2, f3, f4⟩ := HF6.out.cells
                        go_wp2_with fail
                        refine (has_any T x y hT (by omega) (by omega) _).mono ?_
                        rintro e w7 ⟨rfl, hb7⟩
                        rw [HH.out]
                        have HF7 := Lib.hid (HF6.out.below hb7)
                        clear f1 f2 f3 f4 hb7
                        obtain ⟨f1, f2, f3, f4⟩ := HF7.out.cells
                        have HX : Hid (st (k + 1) = if r && !k.testBit (x + 1) then putZ (if b then putZ nx (k ||| p) n else nx) (k ||| 2 ^ (x + 1)) n else if b then putZ nx (k ||| p) n else nx) := by unfold Hid; rw [HIN.out, inZ, if_neg hn0]; simp only [hb, if_true, HPP.out]; rfl
                        have HY1 : Hid ((y : Int) + 1 = ((y + 1 : Nat) : Int)) := by unfold Hid; omega
                        have HX1 : Hid ((x : Int) + 1 = ((x + 1 : Nat) : Int)) := by unfold Hid; omega
                        clear hn0
                        go_wp2_with fail
                        rw [HY1.out]
                        refine (has_any T x (y + 1) hT (by omega) (by omega) _).mono ?_
                        rintro e w8 ⟨rfl, hb8⟩
                        rw [HB.out]
                        have HF8 := Lib.hid (HF7.out.below hb8)
                        clear f1 f2 f3 f4 hb8
                        obtain ⟨f1, f2, f3, f4⟩ := HF8.out.cells
                        have HTAIL : True := trivial
                        cases b
                        · skip
                          have HX2 : Hid (st (k + 1) = if r && !k.testBit (x + 1) then putZ nx (k ||| 2 ^ (x + 1)) n else nx) := HX.out
                          clear HX
                          go_wp2_with fail
                          rw [HX1.out]
                          refine (has_any T (x + 1) y hT (by omega) (by omega) _).mono ?_
                          rintro e w9 ⟨rfl, hb9⟩
                          rw [HR.out]
                          have HF9 := Lib.hid (HF8.out.below hb9)
                          clear f1 f2 f3 f4 hb9
                          obtain ⟨f1, f2, f3, f4⟩ := HF9.out.cells
                          cases r
                          · have HE : Hid (PF w w9 w.heap.size gn n1 (n1 + 1) (n1 + 2) x y zs (st (k + 1))) := by rw [HX2.out]; exact HF9.out
                            go_wp2_with fail
                            go_roundw
                            case rel => exact ⟨k + 1, by omega, by go_num, HE⟩
                            case measure => simp [intOf]; omega
                          · have hx6 := HR7.out rfl
                            have hp1 : 1 ≤ p := by rw [← HPP.out]; exact Nat.one_le_two_pow
                            have hp2 : p ≤ 64 := by rw [← HPP.out]; exact Nat.pow_le_pow_right (n := 2) (by omega) (show x ≤ 6 by omega)
                            obtain ⟨q1, _, q3, _, q5⟩ := bits_at k (x + 1) hlt (by omega)
                            rw [show ((2 ^ (x + 1) : Nat) : Int) = (p : Int) * 2 by rw [← HPP.out, Nat.pow_succ]; simp] at q1 q3
                            have HQ3 := Lib.hid q3
                            have HQ5 := Lib.hid q5
                            clear q3 q5
                            cases hb2 : k.testBit (x + 1)
                            · rw [hb2] at q1 HX2
                              have q1' : (bits .and .i64 (k : Int) ((p : Int) * 2) == 0) = true := q1
                              clear q1
                              go_wp2_with fail
                              refine (count2_any _ _ _ _ _).mono ?_
                              rintro e w10 ⟨rfl, hb10⟩
                              rw [if_neg (show ¬ (x : Int) < 0 by omega)]
                              have HF10 := Lib.hid (HF9.out.below hb10)
                              clear f1 f2 f3 f4 hb10
                              obtain ⟨f1, f2, f3, f4⟩ := HF10.out.cells
                              go_wp2_with fail
                              rw [HQ3.out]
                              refine (put_any (k ||| 2 ^ (x + 1)) HQ5.out n HN.out _ _ _ _ _ HF10.out.puts).mono ?_
                              rintro e w11 ⟨rfl, hr11, hg11⟩
                              have HF11 := Lib.hid (HF10.out.put hr11 hg11)
                              clear f1 f2 f3 f4 hr11 hg11
                              obtain ⟨f1, f2, f3, f4⟩ := HF11.out.cells
                              have HE : Hid (PF w w11 w.heap.size gn n1 (n1 + 1) (n1 + 2) x y zs (st (k + 1))) := by rw [HX2.out]; exact HF11.out
                              go_wp2_with fail
                              go_roundw
                              case rel => exact ⟨k + 1, by omega, by go_num, HE⟩
                              case measure => simp [intOf]; omega
                            · rw [hb2] at q1 HX2
                              have q1' : (bits .and .i64 (k : Int) ((p : Int) * 2) == 0) = false := q1
                              clear q1
                              have HE : Hid (PF w w9 w.heap.size gn n1 (n1 + 1) (n1 + 2) x y zs (st (k + 1))) := by rw [HX2.out]; exact HF9.out
                              go_wp2_with fail
                              go_roundw
                              case rel => exact ⟨k + 1, by omega, by go_num, HE⟩
                              case measure => simp [intOf]; omega
                        · skip
                          go_wp2_with fail
                          refine (count2_any _ _ _ _ _).mono ?_
                          rintro e w9 ⟨rfl, hb9⟩
                          rw [if_neg (show ¬ (x : Int) < 0 by omega)]
                          have HF9 := Lib.hid (HF8.out.below hb9)
                          clear f1 f2 f3 f4 hb9
                          obtain ⟨f1, f2, f3, f4⟩ := HF9.out.cells
                          go_wp2_with fail
                          rw [HB3.out]
                          refine (put_any (k ||| p) HB5.out n HN.out _ _ _ _ _ HF9.out.puts).mono ?_
                          rintro e w10 ⟨rfl, hr10, hg10⟩
                          have HF10 := Lib.hid (HF9.out.put hr10 hg10)
                          clear f1 f2 f3 f4 hr10 hg10
                          obtain ⟨f1, f2, f3, f4⟩ := HF10.out.cells
                          have HX2 : Hid (st (k + 1) = if r && !k.testBit (x + 1) then putZ (putZ nx (k ||| p) n) (k ||| 2 ^ (x + 1)) n else (putZ nx (k ||| p) n)) := HX.out
                          clear HX
                          go_wp2_with fail
                          rw [HX1.out]
                          refine (has_any T (x + 1) y hT (by omega) (by omega) _).mono ?_
                          rintro e w11 ⟨rfl, hb11⟩
                          rw [HR.out]
                          have HF11 := Lib.hid (HF10.out.below hb11)
                          clear f1 f2 f3 f4 hb11
                          obtain ⟨f1, f2, f3, f4⟩ := HF11.out.cells
                          cases r
                          · have HE : Hid (PF w w11 w.heap.size gn n1 (n1 + 1) (n1 + 2) x y zs (st (k + 1))) := by rw [HX2.out]; exact HF11.out
                            go_wp2_with fail
                            go_roundw
                            case rel => exact ⟨k + 1, by omega, by go_num, HE⟩
                            case measure => simp [intOf]; omega
                          · have hx6 := HR7.out rfl
                            have hp1 : 1 ≤ p := by rw [← HPP.out]; exact Nat.one_le_two_pow
                            have hp2 : p ≤ 64 := by rw [← HPP.out]; exact Nat.pow_le_pow_right (n := 2) (by omega) (show x ≤ 6 by omega)
                            obtain ⟨q1, _, q3, _, q5⟩ := bits_at k (x + 1) hlt (by omega)
                            rw [show ((2 ^ (x + 1) : Nat) : Int) = (p : Int) * 2 by rw [← HPP.out, Nat.pow_succ]; simp] at q1 q3
                            have HQ3 := Lib.hid q3
                            have HQ5 := Lib.hid q5
                            clear q3 q5
                            cases hb2 : k.testBit (x + 1)
                            · rw [hb2] at q1 HX2
                              have q1' : (bits .and .i64 (k : Int) ((p : Int) * 2) == 0) = true := q1
                              clear q1
                              go_wp2_with fail
                              refine (count2_any _ _ _ _ _).mono ?_
                              rintro e w12 ⟨rfl, hb12⟩
                              rw [if_neg (show ¬ (x : Int) < 0 by omega)]
                              have HF12 := Lib.hid (HF11.out.below hb12)
                              clear f1 f2 f3 f4 hb12
                              obtain ⟨f1, f2, f3, f4⟩ := HF12.out.cells
                              go_wp2_with fail
                              rw [HQ3.out]
                              refine (put_any (k ||| 2 ^ (x + 1)) HQ5.out n HN.out _ _ _ _ _ HF12.out.puts).mono ?_
                              rintro e w13 ⟨rfl, hr13, hg13⟩
                              have HF13 := Lib.hid (HF12.out.put hr13 hg13)
                              clear f1 f2 f3 f4 hr13 hg13
                              obtain ⟨f1, f2, f3, f4⟩ := HF13.out.cells
                              have HE : Hid (PF w w13 w.heap.size gn n1 (n1 + 1) (n1 + 2) x y zs (st (k + 1))) := by rw [HX2.out]; exact HF13.out
                              go_wp2_with fail
                              go_roundw
                              case rel => exact ⟨k + 1, by omega, by go_num, HE⟩
                              case measure => simp [intOf]; omega
                            · rw [hb2] at q1 HX2
                              have q1' : (bits .and .i64 (k : Int) ((p : Int) * 2) == 0) = false := q1
                              clear q1
                              have HE : Hid (PF w w11 w.heap.size gn n1 (n1 + 1) (n1 + 2) x y zs (st (k + 1))) := by rw [HX2.out]; exact HF11.out
                              go_wp2_with fail
                              go_roundw
                              case rel => exact ⟨k + 1, by omega, by go_num, HE⟩
                              case measure => simp [intOf]; omega
                      · rw [hb] at b1
                        have b1' : (bits .and .i64 (k : Int) (p : Int) == 0) = false := b1
                        have b2' : (bits .and .i64 (k : Int) (p : Int) != 0) = true := by unfold bne; rw [b1']; rfl
                        have HAN := Lib.hid (HB2.out hb)
                        have HX : Hid (st (k + 1) = putZ nx (k - p) n) := by unfold Hid; rw [HIN.out, inZ, if_neg hn0]; simp [hb, HPP.out]
                        clear b1 hn0
                        go_wp2_with fail
                        refine (has_any T x y hT (by omega) (by omega) _).mono ?_
                        rintro e w5 ⟨rfl, hb5⟩
                        rw [HH.out]
                        have HF5 := Lib.hid (HF4.out.below hb5)
                        clear f1 f2 f3 f4 hb5
                        obtain ⟨f1, f2, f3, f4⟩ := HF5.out.cells
                        go_wp2_with fail
                        refine (has_any T x y hT (by omega) (by omega) _).mono ?_
                        rintro e w6 ⟨rfl, hb6⟩
                        rw [HH.out]
                        have HF6 := Lib.hid (HF5.out.below hb6)
                        clear f1 f2 f3 f4 hb6
                        obtain ⟨f1, f2, f3, f4⟩ := HF6.out.cells
                        go_wp2_with fail
                        rw [HAN.out]
                        refine (put_any (k - p) (by omega) n HN.out _ _ _ _ _ HF6.out.puts).mono ?_
                        rintro e w7 ⟨rfl, hr7, hg7⟩
                        have HF7 := Lib.hid (HF6.out.put hr7 hg7)
                        have HF8 : Hid (PF w w7 w.heap.size gn n1 (n1 + 1) (n1 + 2) x y zs (st (k + 1))) := by rw [HX.out]; exact HF7.out
                        clear f1 f2 f3 f4 hr7 hg7
                        obtain ⟨f1, f2, f3, f4⟩ := HF7.out.cells
                        go_wp2_with fail
                        go_roundw
                        case rel => exact ⟨k + 1, by omega, by go_num, HF8⟩
                        case measure => simp [intOf]; omega
                · have ht : decide ((k : Int) < 256) = false := by simp only [decide_eq_false_iff_not]; omega
                  obtain rfl : k = 256 := by omega
                  rw [← HS.out] at HF4
                  have HFN : Hid (PB w wr w.heap.size (n1 + 1) (pf (i + 1))) := by
                    have h := HF4.out
                    rw [HZS2.out]
                    exact ⟨h.e5, h.e6, h.rx, h.big, h.l5, by have := h.lx; have := h.n5; have := h.l5; omega⟩
                  go_wp2_with fail
                  go_roundw
                  case rel => exact ⟨i + 1, _, by omega, by go_num, rfl, HFN⟩
                  case measure => simp [intOf]; omega
        · have hti : decide ((i : Int) < 64) = false := by simp only [decide_eq_false_iff_not]; omega
          obtain rfl : i = 64 := by omega
          have cq := HQ.out.rn.cell (k := 0) (by omega)
          have HF : Hid (el (pf 64) 0 = res) := (HFZ.out _ rfl).symm
          go_wp2_with fail
          go_ret
          exact ⟨ret_int HF.out, HQ.out.big⟩
end Go.Proofs.Ytehnbalbpfmijaa

namespace Go.Proofs.Ytehnbalbpfmijaa
open Go.RowKit
set_option linter.unusedVariables false

theorem count_any (T : Nat) (hT : T < 18446744073709551616) (w : World) :
    Calls Try.prog 156 #[.int .u64 (T : Int)] w fun e w' => e = .returned (.int .i64 (profZ T)) ∧ Below w.heap.size w w' := by
  obtain ⟨res, HRES⟩ : ∃ r, Hid (profZ T = r) := ⟨_, rfl⟩
  have HP := Lib.hid (profile_any T hT w)
  rw [HRES.out] at HP ⊢
  go_enter Try.func156, Try.ntmps156
  go_wp2_with fail
  refine HP.out.mono ?_
  rintro e w1 ⟨rfl, hb1⟩
  go_wp2_with fail
  go_ret
  exact ⟨rfl, hb1⟩
/-- What CountTilings returns. -/
def cntZ9 (zs : List Int) : Int := if regOkB zs then profZ (setZ zs) else 0
theorem CountTilings_any (v : Value) (zs : List Int) (B : Nat) (w : World) (h : RdI w B v zs) (hB : B ≤ w.heap.size) :
    Calls Try.prog 119 #[.agg #[v]] w fun e w' => e = .returned (.int .i64 (cntZ9 zs)) ∧ Below w.heap.size w w' := by
  have hb0 : Below w.heap.size w (w.alloc (.cells #[v] 39)) := (Below.refl _ _).alloc (Nat.le_refl _) _
  have HR := Lib.hid (h.below (hb0.mono hB))
  have hn := heap_alloc_new w (.cells #[v] 39)
  have hc : (w.alloc (.cells #[v] 39)).cell? ⟨w.heap.size, 0, none⟩ = some v := by rw [blk_cell hn]; rfl
  have hB2 : B ≤ (w.alloc (.cells #[v] 39)).heap.size := Nat.le_trans hB hb0.size
  have HB2 := Lib.hid hB2
  have HB0 := Lib.hid hb0
  obtain ⟨A, c, rfl, _, g2, _⟩ := id h
  unfold maxLen at g2
  cases hok : regOkB zs
  · have e0 : cntZ9 zs = 0 := by simp [cntZ9, hok]
    rw [e0]
    clear e0 hn hB2 hb0 h
    go_enter Try.func119, Try.ntmps119
    go_wp2_with fail
    generalize w.alloc (.cells #[.slice A zs.length c] 39) = W at *
    refine (RegionOk_any _ zs B W HR.out HB2.out).mono ?_
    rintro e w1 ⟨rfl, hb1⟩
    rw [hok]
    go_wp2_with fail
    go_ret
    exact ⟨rfl, HB0.out.trans (hb1.mono HB0.out.size)⟩
  · obtain ⟨res, HRES⟩ : ∃ r, Hid (cntZ9 zs = r) := ⟨_, rfl⟩
    have HE : Hid (profZ (setZ zs) = res) := by unfold Hid; rw [← HRES.out]; simp [cntZ9, hok]
    rw [HRES.out]
    have HL := Lib.hid (setZ_lt hok)
    clear HRES hn hB2 hb0 h
    go_enter Try.func119, Try.ntmps119
    go_wp2_with fail
    generalize w.alloc (.cells #[.slice A zs.length c] 39) = W at *
    refine (RegionOk_any _ zs B W HR.out HB2.out).mono ?_
    rintro e w1 ⟨rfl, hb1⟩
    rw [hok]
    have hc1 : w1.cell? ⟨w.heap.size, 0, none⟩ = some (.slice A zs.length c) := (hb1.cell (p := ⟨w.heap.size, 0, none⟩) (by
      by_cases hlt : w.heap.size < W.heap.size
      · exact hlt
      · rw [World.cell?, Array.getElem?_eq_none (by simpa using hlt)] at hc; simp at hc)).trans hc
    have HB1 := Lib.hid (HB0.out.trans (hb1.mono HB0.out.size))
    have HR1 := Lib.hid (HR.out.below (hb1.mono HB2.out))
    have HB21 := Lib.hid (Nat.le_trans HB2.out hb1.size)
    clear hc hb1
    go_wp2_with fail
    refine (rset_any _ zs B w1 HR1.out HB21.out hok).mono ?_
    rintro e w2 ⟨rfl, hb2⟩
    have HB3 := Lib.hid (HB1.out.trans (hb2.mono HB1.out.size))
    clear hc1 hb2
    have HC := Lib.hid (count_any (setZ zs) HL.out w2)
    rw [HE.out] at HC
    go_wp2_with fail
    refine HC.out.mono ?_
    rintro e w3 ⟨rfl, hb3⟩
    go_wp2_with fail
    go_ret
    exact ⟨rfl, HB3.out.trans (hb3.mono HB3.out.size)⟩
end Go.Proofs.Ytehnbalbpfmijaa

namespace Go.Proofs.Ytehnbalbpfmijaa
open Go.RowKit

theorem infoInt : (Try.prog.info? 3).map (fun i => (i.zero, i.size, i.bytes)) = some (some (.int .i64 0), 1, 8) := by kernel_rfl

/-- v owns a row of integers in a block from lo on. -/
def OwnI (w : World) (lo : Nat) (v : Value) (zs : List Int) : Prop := w.ownsRow lo 3 1 v zs.length (zs.map (Value.int .i64))
theorem OwnI.rd {w : World} {lo : Nat} {v : Value} {zs : List Int} (h : OwnI w lo v zs) : RdI w w.heap.size v zs := by
  rcases h.2 with ⟨rfl, h0⟩ | ⟨g, cap, cur, rfl, hb, hh, hn, hm, hs, ht⟩
  · have : zs = [] := List.eq_nil_of_length_eq_zero h0
    subst this
    exact ⟨none, 0, rfl, Nat.le_refl _, Nat.zero_le _, Rd.nil⟩
  · refine ⟨some ⟨g, 0, none⟩, cap, rfl, hn, hm, fun _ => ⟨_, rfl, (World.ownsRow.lt h g rfl).2, World.ownsRow.cells h rfl⟩⟩
theorem OwnI.lt {w : World} {lo : Nat} {v : Value} {zs : List Int} (h : OwnI w lo v zs) : ∀ k, v.ownBlock = some k → lo ≤ k ∧ k < w.heap.size := World.ownsRow.lt h
theorem OwnI.below {w w' : World} {lo : Nat} {v : Value} {zs : List Int} (h : OwnI w lo v zs) (hb : Below w.heap.size w w') : OwnI w' lo v zs := by
  refine World.ownsRow.kept h (row := none) ⟨hb.os, hb.tape, hb.output, hb.size, fun k hk _ => hb.block k hk⟩ ?_
  cases v.ownBlock
  · exact .inl rfl
  · exact .inr (by simp)
theorem OwnI.of_row {w : World} {lo g : Nat} {zs : List Int} (hg : lo ≤ g) (hl : zs.length ≤ 9223372036854775807) (h : w.rowIs g 3 zs.length (fun j => .int .i64 (zs.getD j 0))) : OwnI w lo (.slice (some ⟨g, 0, none⟩) zs.length zs.length) zs := by
  obtain ⟨c, hb, hs, hc⟩ := h
  refine ⟨by simp, .inr ⟨g, zs.length, c, rfl, hg, hb, Nat.le_refl _, by unfold maxLen; omega, by omega, ?_⟩⟩
  rw [List.take_of_length_le (by simp; omega)]
  apply List.ext_getElem?
  intro j
  by_cases hj : j < zs.length
  · rw [Array.getElem?_toList, hc j hj]; simp [hj]
  · rw [List.getElem?_eq_none (by simp; omega), List.getElem?_eq_none (by simp; omega)]

/-- A new row of integers comes back, nothing else has turned. -/
def RetOwnI (w : World) (zs : List Int) (e : Ending) (w' : World) : Prop := ∃ v, e = .returned v ∧ OwnI w' w.heap.size v zs ∧ Below w.heap.size w w'

end Go.Proofs.Ytehnbalbpfmijaa

namespace Go.Proofs.Ytehnbalbpfmijaa
open Go.RowKit

section
variable {P : Program} (w : World)
theorem run_append_nilsrc (base : Nat) (t ty e : TypeId) (i : TypeInfo) (size : Nat) (ht : P.underlying t = some (.slice e)) (hi : P.info? e = some i) (v : Value) (n : Nat) (xs : List Value)
    (hown : w.ownsRow base e size v n xs) (c : Nat) : (Builtin.append_ #[t, t] ty #[v, .slice none 0 c]).run P w = .ok v w := by
  rcases hown.2 with ⟨rfl, _⟩ | ⟨g, cap, cur, rfl, _, _, hnc, _⟩
  · simp [Builtin.append_, run_underlying ht, sizeOf, typeInfo, hi, Builtin.lenOf, Builtin.firstCells]
  · simp [Builtin.append_, run_underlying ht, sizeOf, typeInfo, hi, Builtin.lenOf, Builtin.firstCells, hnc, storeCells]

theorem run_append_src (base : Nat) (t ty e : TypeId) (i : TypeInfo) (z : Value) (bytes : Nat) (ht : P.underlying t = some (.slice e)) (hi : P.info? e = some i) (hz : i.zero = some z)
    (hsize : i.size = 1) (hby : i.bytes = bytes) (hzs : z.cells.size = 1) (v : Value) (n : Nat) (xs : List Value) (hown : w.ownsRow base e 1 v n xs)
    (B : Nat) (A : Option Addr) (c : Nat) (news : List Value) (hr : Rd w B A news) (h1 : ∀ u ∈ news, u.oneCell' = true)
    (h63 : n + news.length ≤ maxLen) (hbytes : (n + news.length) * bytes ≤ 140737488355328) (hbase : base ≤ w.heap.size) :
    ∃ v' w', (Builtin.append_ #[t, t] ty #[v, .slice A news.length c]).run P w = .ok v' w' ∧ w'.ownsRow base e 1 v' (n + news.length) (xs ++ news) ∧ w.grownBy w' v.ownBlock ∧
      (v'.ownBlock = v.ownBlock ∨ v'.ownBlock = some w.heap.size) := by
  have hgo : ∀ ad, (∀ j u, news[j]? = some u → w.cell? (ad.add j) = some u) → ∃ v' w', (Builtin.append_ #[t, t] ty #[v, .slice (some ad) news.length c]).run P w = .ok v' w' ∧ w'.ownsRow base e 1 v' (n + news.length) (xs ++ news) ∧
      w.grownBy w' v.ownBlock ∧ (v'.ownBlock = v.ownBlock ∨ v'.ownBlock = some w.heap.size) := fun ad hcells => by
    obtain ⟨v', w', hrun, h2, h3, _, h5⟩ := run_append_own_at (P := P) w base t ty e i z 1 bytes ht hi hz hsize hby hzs (by omega) v n xs hown ad news.length c news (by omega) hcells h1 h63 hbytes hbase
    exact ⟨v', w', hrun, h2, h3, h5⟩
  cases hn : news with
  | nil =>
    subst hn
    cases A with
    | none => exact ⟨v, w, run_append_nilsrc w base t ty e i 1 ht hi v n xs hown c, by simpa using hown, World.grownBy.refl w _, .inl rfl⟩
    | some ad => exact hgo ad (fun j u hu => by simp at hu)
  | cons y ys =>
    rw [← hn]
    obtain ⟨ad, rfl, _, hc⟩ := hr (by rw [hn]; simp)
    exact hgo ad hc

theorem wpList_append_src {ops : Array Oper} {rest : List Oper} {o : Oper} {a : Act} {Q : Exit → Act → World → Prop} (hgd : o.guard = none) (s x : Operand) (t : TypeId)
    (ho : o.op = .call { callee := .builtin .append, args := #[s, x], argTypes := #[t, t] })
    (base : Nat) (e : TypeId) (i : TypeInfo) (z : Value) (bytes : Nat) (ht : P.underlying t = some (.slice e)) (hi : P.info? e = some i) (hz : i.zero = some z)
    (hsize : i.size = 1) (hby : i.bytes = bytes) (hzs : z.cells.size = 1) (v : Value) (n : Nat) (xs : List Value) (hs : a.eval s = v) (hown : w.ownsRow base e 1 v n xs)
    (B : Nat) (A : Option Addr) (c m : Nat) (news : List Value) (hx : a.eval x = .slice A m c) (hm : m = news.length) (hr : Rd w B A news) (h1 : ∀ u ∈ news, u.oneCell' = true)
    (h63 : n + news.length ≤ maxLen) (hbytes : (n + news.length) * bytes ≤ 140737488355328) (hbase : base ≤ w.heap.size)
    (h : ∀ v' w', w'.ownsRow base e 1 v' (n + news.length) (xs ++ news) → w.grownBy w' v.ownBlock → (v'.ownBlock = v.ownBlock ∨ v'.ownBlock = some w.heap.size) → wpList P ops Q rest (a.put o.dst v') w') :
    wpList P ops Q (o :: rest) a w := by
  subst hm
  refine wpList_plain hgd fun K hK => ?_
  obtain ⟨v', w', hrun, h2, h3, h4⟩ := run_append_src (P := P) w base t o.type e i z bytes ht hi hz hsize hby hzs v n xs hown B A c news hr h1 h63 hbytes hbase
  unfold Oper.wp execOp
  simp only [ho, resolve, invoke, builtin, Sem.run_bind, Sem.run_pure, Result.andThen_ok, List.map_toArray, List.map_cons, List.map_nil, hs, hx, hrun]
  exact hK _ _ (h v' w' h2 h3 h4)
end

/-- A row of integers grows by one, by many. -/
theorem OwnI.one {w' : World} {lo n : Nat} {v' : Value} {zs : List Int} {z : Int} (hn : n = zs.length + 1) (h : w'.ownsRow lo 3 1 v' n (zs.map (Value.int .i64) ++ [.int .i64 z])) : OwnI w' lo v' (zs ++ [z]) := by
  subst hn
  unfold OwnI
  rw [List.length_append, List.map_append]
  exact h
theorem OwnI.many {w' : World} {lo n : Nat} {v' : Value} {zs ys : List Int} (hn : n = zs.length + ys.length) (h : w'.ownsRow lo 3 1 v' n (zs.map (Value.int .i64) ++ ys.map (Value.int .i64))) : OwnI w' lo v' (zs ++ ys) := by
  subst hn
  unfold OwnI
  rw [List.length_append, List.map_append]
  exact h
theorem oneInts (ys : List Int) : ∀ u ∈ ys.map (Value.int .i64), u.oneCell' = true := by
  intro u hu
  obtain ⟨z, _, rfl⟩ := List.mem_map.1 hu
  rfl

set_option maxHeartbeats 1000000 in
theorem copyOf_any (v : Value) (zs : List Int) (B : Nat) (w : World) (h : RdI w B v zs) (hB : B ≤ w.heap.size) (hl : zs.length ≤ 1099511627776) :
    Calls Try.prog 160 #[v] w (RetOwnI w zs) := by
  obtain ⟨i0, hi0, hz0, hz1, hz2⟩ := info_parts infoInt
  obtain ⟨A, c, rfl, h1, h2, h3⟩ := h
  unfold maxLen at h2
  have H3 := Lib.hid h3; clear h3
  go_enter Try.func160, Try.ntmps160
  have hown0 := World.ownsRow_lit (base := w.heap.size) (e := 3) (size := 1) w #[] 0 (Nat.le_refl _) (by simp [maxLen]) (by simp)
  have H0 := Lib.hid hown0; clear hown0
  have hb0 : Below w.heap.size w (w.alloc (.cells #[] 3)) := (Below.refl _ _).alloc (Nat.le_refl _) _
  have HB0 := Lib.hid hb0; clear hb0
  go_wp2_with (at_builtin; refine wpList_append_src _ rfl (.tmp 3) (.tmp 4) _ rfl w.heap.size 3 i0 _ 8 Try.underlying31 hi0 hz0 hz1 hz2 rfl (.slice (some ⟨w.heap.size, 0, none⟩) 0 0) 0 [] rfl H0.out B A c zs.length (zs.map (Value.int .i64)) rfl (by simp) (H3.out.below (HB0.out.mono hB)) (oneInts zs) (by simp [maxLen]; omega) (by simp; omega) (by simp) ?_; intro v1 w1 hown1 hg1 hat1)
  go_ret
  refine ⟨v1, rfl, OwnI.many (zs := []) (by simp) hown1, HB0.out.grown hg1 (by simp) (fun k hk => by simp [Value.ownBlock] at hk; omega)⟩
end Go.Proofs.Ytehnbalbpfmijaa

namespace Go.Proofs.Ytehnbalbpfmijaa
open Go.RowKit

theorem OwnI.grown {w w' : World} {lo : Nat} {v : Value} {zs : List Int} {row : Option Nat} (h : OwnI w lo v zs) (hg : w.grownBy w' row) (hne : ∀ k, v.ownBlock = some k → some k = row → False) : OwnI w' lo v zs :=
  World.ownsRow.kept h hg (by
    cases e : v.ownBlock
    · exact .inl rfl
    · exact .inr (fun e2 => hne _ e e2))
theorem rowIs_below {w w' : World} {b : Nat} {t : TypeId} {n : Nat} {f : Nat → Value} (h : w.rowIs b t n f) (hb : Below w.heap.size w w') : w'.rowIs b t n f := h.of_block (hb.block _ h.lt)
theorem rowIs_grown {w w' : World} {b : Nat} {t : TypeId} {n : Nat} {f : Nat → Value} {row : Option Nat} (h : w.rowIs b t n f) (hg : w.grownBy w' row) (hne : some b ≠ row) : w'.rowIs b t n f := h.of_block (hg.block _ h.lt hne)
end Go.Proofs.Ytehnbalbpfmijaa
