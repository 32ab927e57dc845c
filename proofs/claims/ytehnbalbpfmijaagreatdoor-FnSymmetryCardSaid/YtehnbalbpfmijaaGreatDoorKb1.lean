/- What the claim's walk rests on: parts Choose, Spot, Set, Drawn, Ints, Reg, OwnS, Append, Grown, Flat, IntS, Tri, Blk, Dom, TriDomino, Covered. -/
import Derived.Test.YtehnbalbpfmijaaGreatDoorBasic
import Derived.Test.YtehnbalbpfmijaaGreatDoorMem
import Derived.IntWalk
import Derived.Deep.RegionHeld3
import Derived.Deep.QuietTactic
import Derived.BigQuiet
import Derived.Laws.BitsAllLaws
import Derived.Lib.Zigzag
import Derived.Below
import Derived.Deep.Draws
import Derived.Deep.OwnRows
import Derived.Deep.AppendLies
import Derived.Maps.AppendAt
import Derived.OwnWalk
import Derived.Laws.MakeOwn
import Derived.OneCell
import Derived.StillTailTactics
import Derived.Deep.RegionLaw
namespace Go.Proofs.YtehnbalbpfmijaaGreatDoor
open Go.RowKit

def chI (n : Nat) : Nat → Nat | 0 => 1 | k+1 => chI n k * (n - k) / (k + 1)
def chS (n k : Nat) : Nat → Nat | 0 => 1 | i+1 => chS n k i * (n - k + (i + 1)) / (i + 1)
def chOk : Bool := (List.range 21).all fun n => (List.range 21).all fun k => !(decide (k ≤ n)) || (decide (chI n k = chS n k k) && decide (chI n k ≤ 200000) && (List.range 21).all fun i => !(decide (i ≤ k)) || decide (chS n k i ≤ 200000))
theorem chOk_true : chOk = true := by decide +kernel
theorem ch_facts (n k : Nat) (hn : n ≤ 20) (hk : k ≤ n) : chI n k = chS n k k ∧ chI n k ≤ 200000 ∧ ∀ i, i ≤ k → chS n k i ≤ 200000 := by
  have h := chOk_true
  unfold chOk at h
  rw [List.all_eq_true] at h
  have h1 := h n (List.mem_range.2 (by omega))
  rw [List.all_eq_true] at h1
  have h2 := h1 k (List.mem_range.2 (by omega))
  simp only [hk, decide_true, Bool.not_true, Bool.false_or, Bool.and_eq_true, decide_eq_true_eq, List.all_eq_true] at h2
  obtain ⟨⟨h3, h4⟩, h5⟩ := h2
  refine ⟨h3, h4, fun i hi => ?_⟩
  have h6 := h5 i (List.mem_range.2 (by omega))
  simpa [hi] using h6

def chooseZ (a b : Int) : Int := if inB a 0 20 && inB b 0 a then ((chI a.toNat b.toNat : Nat) : Int) else 0
theorem chooseZ_in (n k : Nat) (hn : n ≤ 20) (hk : k ≤ n) : chooseZ n k = chI n k := by
  have h1 : inB (n : Int) 0 20 = true := inB_true (by omega) (by omega)
  have h2 : inB (k : Int) 0 n = true := inB_true (by omega) (by omega)
  simp [chooseZ, h1, h2]
theorem chooseZ_le (a b : Int) : 0 ≤ chooseZ a b ∧ chooseZ a b ≤ 200000 := by
  unfold chooseZ
  split
  · rename_i h
    simp only [Bool.and_eq_true, inB_iff] at h
    obtain ⟨_, h5, _⟩ := ch_facts a.toNat b.toNat (by omega) (by omega)
    omega
  · omega

theorem inB_cases (a b : Int) : (inB a 0 20 = true ∧ inB b 0 a = true) ∨ inB a 0 20 = false ∨ (inB a 0 20 = true ∧ inB b 0 a = false) := by
  cases inB a 0 20 <;> cases inB b 0 a <;> simp
end Go.Proofs.YtehnbalbpfmijaaGreatDoor

namespace Go.Proofs.YtehnbalbpfmijaaGreatDoor
open Go.RowKit

abbrev spotV (x y : Int) : Value := .agg #[.int .i64 x, .int .i64 y]
def spotB (m x y : Int) : Bool := inB x 0 m && inB y 0 m
theorem spotB_iff (m x y : Int) : spotB m x y = true ↔ (0 ≤ x ∧ x ≤ m) ∧ 0 ≤ y ∧ y ≤ m := by simp [spotB, inB_iff]

/-- Below, as facts on cells and marks that the walk uses by itself. -/
theorem bcell {W w1 : World} {B : Nat} (hb : Below B W w1) : (∀ b o, b < B → w1.cell? ⟨b, o, none⟩ = W.cell? ⟨b, o, none⟩) ∧ (∀ b o, b < B → w1.frozen? ⟨b, o, none⟩ = W.frozen? ⟨b, o, none⟩) :=
  ⟨fun b o h => hb.cell (p := ⟨b, o, none⟩) h, fun b o h => hb.frozen (p := ⟨b, o, none⟩) h⟩

def pathsZ (ax ay bx by' : Int) : Int :=
  if spotB 8 ax ay && spotB 8 bx by' && decide (ax ≤ bx) && decide (ay ≤ by') then chooseZ (bx - ax + by' - ay) (bx - ax) else 0


end Go.Proofs.YtehnbalbpfmijaaGreatDoor

namespace Go.Proofs.YtehnbalbpfmijaaGreatDoor
open Go.RowKit

theorem CellOk_any (x y : Int) (w : World) :
    Calls Tryz.prog 73 #[spotV x y] w fun e w' => e = .returned (.bool (spotB 7 x y)) ∧ Below w.heap.size w w' := by
  cases h1 : inB x 0 7 <;> cases h2 : inB y 0 7
  all_goals
    go_enter Tryz.func73, Tryz.ntmps73
    go_wp2_with (go_at_call 20; refine (within_any _ _ _ _).mono ?_; rintro e w' ⟨rfl, rfl⟩)
    go_ret
    exact ⟨by simp [spotB, h1, h2], (Below.refl _ _).alloc (by simp) _⟩

/-- The number of a cell. -/
def cix (x y : Nat) : Nat := y * 8 + x
theorem CellIndex_yes (x y : Nat) (hx : x ≤ 7) (hy : y ≤ 7) (w : World) :
    Calls Tryz.prog 82 #[spotV x y] w fun e w' => e = .returned (.int .i64 (cix x y : Nat)) ∧ Below w.heap.size w w' := by
  have hok : spotB 7 x y = true := (spotB_iff _ _ _).2 ⟨by omega, by omega⟩
  have HE : Hid ((y : Int) * 8 + (x : Int) = ((cix x y : Nat) : Int)) := by unfold Hid cix; omega
  go_enter Tryz.func82, Tryz.ntmps82
  go_wp2_with fail
  refine (CellOk_any _ _ _).mono ?_
  rintro e w1 ⟨rfl, hb1⟩
  rw [hok]
  obtain ⟨hc, hf⟩ := bcell hb1
  go_wp2_with fail
  go_ret
  exact ⟨ret_int HE.out, ((Below.refl _ _).alloc (Nat.le_refl _) _).trans (hb1.mono (by simp))⟩

theorem shl_u64 (k : Nat) (hk : k ≤ 63) (W : World) : Sem.run Tryz.prog (Op.shift BinOp.shl IntKind.u64 1 IntKind.i64 (k : Int)) W = .ok (.int .u64 ((2 ^ k : Nat) : Int)) W := by
  rw [shift_shl _ _ _ _ (by omega) (by simp [IntKind.bits]; omega)]
  have h : (2 ^ k : Nat) < 2 ^ 64 := Nat.pow_lt_pow_right (by omega) (by omega)
  have e : IntKind.u64.wrap (1 * 2 ^ ((k : Int)).toNat) = ((2 ^ k : Nat) : Int) := by
    rw [Int.toNat_natCast, Int.one_mul, IntKind.wrap_u64]
    have : ((2 : Int) ^ k) = ((2 ^ k : Nat) : Int) := by simp
    rw [this]
    generalize (2 ^ k : Nat) = p at *
    omega
  rw [e]; rfl
theorem shr_u64 (T k : Nat) (hk : k ≤ 63) (W : World) : Sem.run Tryz.prog (Op.shift BinOp.shr IntKind.u64 (T : Int) IntKind.i64 (k : Int)) W = .ok (.int .u64 ((T / 2 ^ k : Nat) : Int)) W := by
  rw [shift_shr _ _ _ _ (by omega) (by simp [IntKind.bits]; omega)]
  have e : (T : Int) / 2 ^ ((k : Int)).toNat = ((T / 2 ^ k : Nat) : Int) := by
    rw [Int.toNat_natCast]; simp
  rw [e]; rfl
theorem shr_val (T k : Nat) (hk : k ≤ 63) : (T : Int) / 2 ^ min k 64 = ((T / 2 ^ k : Nat) : Int) := by
  rw [Nat.min_eq_left (by omega)]; simp
theorem shl_val (k : Nat) (hk : k ≤ 63) : IntKind.u64.wrap ((2 : Int) ^ min k 64) = ((2 ^ k : Nat) : Int) := by
  have h : (2 ^ k : Nat) < 18446744073709551616 := Nat.pow_lt_pow_right (a := 2) (m := k) (n := 64) (by omega) (by omega)
  have e : ((2 : Int) ^ k) = ((2 ^ k : Nat) : Int) := by simp
  rw [Nat.min_eq_left (by omega), IntKind.wrap_u64, e]
  generalize (2 ^ k : Nat) = p at *
  omega
theorem bit_and (T k : Nat) (hT : T < 18446744073709551616) : bits .and .u64 ((T / 2 ^ k : Nat) : Int) 1 = if T.testBit k then 1 else 0 := by
  have hle : T / 2 ^ k ≤ T := Nat.div_le_self _ _
  rw [Nat.testBit_eq_decide_div_mod_eq]
  generalize T / 2 ^ k = S at *
  rw [Lib.u64_and1 _ (by omega) (by omega)]
  by_cases h : S % 2 = 1
  · rw [if_pos (by simpa using h)]; omega
  · rw [if_neg (by simpa using h)]; omega

/-- A set has a cell. -/
def hasB (T x y : Nat) : Bool := T.testBit (cix x y)
set_option maxHeartbeats 400000 in
theorem has_yes (T x y : Nat) (hT : T < 18446744073709551616) (hx : x ≤ 7) (hy : y ≤ 7) (w : World) :
    Calls Tryz.prog 93 #[.int .u64 (T : Int), spotV x y] w fun e w' => e = .returned (.bool (hasB T x y)) ∧ Below w.heap.size w w' := by
  have hok : spotB 7 x y = true := (spotB_iff _ _ _).2 ⟨by omega, by omega⟩
  have hk : cix x y ≤ 63 := by unfold cix; omega
  have HB : Hid ((bits .and .u64 ((T : Int) / 2 ^ min (cix x y) 64) 1 == 1) = hasB T x y) := by
    unfold Hid
    rw [shr_val _ _ hk, bit_and T _ hT, hasB]
    cases T.testBit (cix x y) <;> rfl
  obtain ⟨k, HK⟩ : ∃ k, Hid (cix x y = k) := ⟨_, rfl⟩
  rw [HK.out] at HB
  clear hk
  go_enter Tryz.func93, Tryz.ntmps93
  go_wp2_with fail
  refine (CellOk_any _ _ _).mono ?_
  rintro e w1 ⟨rfl, hb1⟩
  rw [hok]
  obtain ⟨hc, hf⟩ := bcell hb1
  have hz : w.heap.size + 1 ≤ w1.heap.size := by have := hb1.size; simp at this; omega
  go_wp2_with fail
  refine (CellIndex_yes x y hx hy _).mono ?_
  rintro e w2 ⟨rfl, hb2⟩
  rw [HK.out]
  go_wp2_with fail
  go_ret
  exact ⟨ret_bool HB.out, (((Below.refl _ _).alloc (Nat.le_refl _) _).trans (hb1.mono (by simp))).trans (hb2.mono (by omega))⟩

theorem with_lt {T k : Nat} (hT : T < 18446744073709551616) (hk : k ≤ 63) : T ||| 2 ^ k < 18446744073709551616 :=
  Nat.or_lt_two_pow (n := 64) hT (Nat.pow_lt_pow_right (by omega) (by omega))
set_option maxHeartbeats 400000 in
theorem with_yes (T x y : Nat) (hT : T < 18446744073709551616) (hx : x ≤ 7) (hy : y ≤ 7) (w : World) :
    Calls Tryz.prog 88 #[.int .u64 (T : Int), spotV x y] w fun e w' => e = .returned (.int .u64 ((T ||| 2 ^ cix x y : Nat) : Int)) ∧ Below w.heap.size w w' := by
  have hk : cix x y ≤ 63 := by unfold cix; omega
  have hp : (2 ^ cix x y : Nat) < 18446744073709551616 := Nat.pow_lt_pow_right (a := 2) (m := cix x y) (n := 64) (by omega) (by omega)
  have HV : Hid (bits .or .u64 (T : Int) (IntKind.u64.wrap ((2 : Int) ^ min (cix x y) 64)) = ((T ||| 2 ^ cix x y : Nat) : Int)) := by
    unfold Hid
    rw [shl_val _ hk]; exact u64_or_nat T (2 ^ cix x y) hT hp
  obtain ⟨k, HK⟩ : ∃ k, Hid (cix x y = k) := ⟨_, rfl⟩
  go_enter Tryz.func88, Tryz.ntmps88
  go_wp2_with fail
  refine (CellIndex_yes x y hx hy _).mono ?_
  rintro e w2 ⟨rfl, hb2⟩
  rw [HK.out]
  rw [HK.out] at HV
  go_wp2_with fail
  go_ret
  exact ⟨congrArg (fun z => Ending.returned (.int .u64 z)) (by rw [HK.out]; exact HV.out), ((Below.refl _ _).alloc (Nat.le_refl _) _).trans (hb2.mono (by simp))⟩
end Go.Proofs.YtehnbalbpfmijaaGreatDoor

namespace Go.Proofs.YtehnbalbpfmijaaGreatDoor
open Go.RowKit

def Drawn (w w' : World) : Prop := ∃ n, w' = w.drewN n
theorem Drawn.refl (w : World) : Drawn w w := ⟨0, rfl⟩
theorem Drawn.more {w w' : World} (h : Drawn w w') (n : Nat) : Drawn w (w'.drewN n) := by
  obtain ⟨m, rfl⟩ := h
  exact ⟨m + n, by rw [World.drewN_drewN]⟩
theorem Drawn.drew {w w' : World} (h : Drawn w w') : Drawn w w'.drew := h.more 1
theorem Drawn.trans {a b c : World} (h : Drawn a b) (k : Drawn b c) : Drawn a c := by
  obtain ⟨m, rfl⟩ := k; exact h.more m
theorem Drawn.below {w w' : World} (h : Drawn w w') (B : Nat) : Below B w w' := by
  obtain ⟨n, rfl⟩ := h; exact ⟨rfl, rfl, rfl, Nat.le_refl _, fun _ _ => rfl⟩

theorem quo_bd (x y : Nat) : 0 ≤ (x : Int) / (y : Int) ∧ (x : Int) / (y : Int) ≤ (x : Int) := by
  have h : x / y ≤ x := Nat.div_le_self x y
  have h0 : 0 ≤ ((x / y : Nat) : Int) := Int.natCast_nonneg _
  have h1 : ((x / y : Nat) : Int) ≤ (x : Int) := Int.ofNat_le.2 h
  rw [Int.natCast_ediv] at h0 h1
  exact ⟨h0, h1⟩

end Go.Proofs.YtehnbalbpfmijaaGreatDoor

namespace Go.Proofs.YtehnbalbpfmijaaGreatDoor
open Go.RowKit

/-- A new block reads as what it holds. -/
theorem rd_new (w : World) (cs : Array Value) (t : TypeId) : Rd (w.alloc (.cells cs t)) (w.heap.size + 1) (some ⟨w.heap.size, 0, none⟩) cs.toList :=
  fun _ => ⟨_, rfl, Nat.lt_succ_self _, World.news_of_block (heap_alloc_new w _)⟩

/-- All numbers from the k-th on lie in a range. -/
def allB (zs : List Int) (a b : Int) : Bool := zs.all fun z => inB z a b
theorem allB_drop (zs : List Int) (a b : Int) (k : Nat) (hk : k < zs.length) : allB (zs.drop k) a b = (inB zs[k] a b && allB (zs.drop (k + 1)) a b) := by
  unfold allB
  rw [List.drop_eq_getElem_cons hk, List.all_cons]

set_option maxHeartbeats 400000 in
theorem allWithin_any (v : Value) (zs : List Int) (a b : Int) (B : Nat) (w : World) (h : RdI w B v zs) :
    Calls Tryz.prog 83 #[v, .int .i64 a, .int .i64 b] w fun e w' => e = .returned (.bool (allB zs a b)) ∧ w = w' := by
  obtain ⟨A, c, rfl, h1, h2, h3⟩ := h
  unfold maxLen at h2
  generalize hr : allB zs a b = r
  have HR : Hid (allB (zs.drop 0) a b = r) := hr
  clear hr
  go_enter Tryz.func83, Tryz.ntmps83
  go_wp2
  go_loop [11] (fun i => ∃ k : Nat, k ≤ zs.length ∧ i = .int .i64 k ∧ Hid (allB (zs.drop k) a b = r)) (fun i => zs.length - (intOf i).toNat)
  case atStart => exact ⟨0, Nat.zero_le _, rfl, HR⟩
  case round =>
    obtain ⟨k, hk, rfl, HE⟩ := hrel
    by_cases hlt : k < zs.length
    · have hs := allB_drop zs a b k hlt
      obtain ⟨ad, rfl, hb, hc⟩ := h3.int hlt
      cases hi : inB zs[k] a b
      · have HF : Hid (r = false) := by unfold Hid; rw [← HE.out, hs, hi]; rfl
        clear hs
        go_wp2_with (go_at_call 20; refine (within_any _ _ _ _).mono ?_; rintro e w' ⟨rfl, rfl⟩)
        go_ret
        exact ⟨ret_bool HF.out.symm, rfl⟩
      · have HF : Hid (allB (zs.drop (k + 1)) a b = r) := by unfold Hid; rw [← HE.out, hs, hi]; rfl
        clear hs
        go_wp2_with (go_at_call 20; refine (within_any _ _ _ _).mono ?_; rintro e w' ⟨rfl, rfl⟩)
        go_round
        case rel => exact ⟨k + 1, by omega, by go_num, HF⟩
        case measure => simp [intOf]; omega
    · have HF : Hid (r = true) := by unfold Hid; rw [← HE.out, List.drop_of_length_le (by omega)]; rfl
      go_wp2
      go_ret
      exact ⟨ret_bool HF.out.symm, rfl⟩
end Go.Proofs.YtehnbalbpfmijaaGreatDoor

namespace Go.Proofs.YtehnbalbpfmijaaGreatDoor

/-- p holds from k up to n. -/
def upFrom (p : Nat → Bool) (k n : Nat) : Bool := (List.range' k (n - k)).all p
theorem upFrom_step (p : Nat → Bool) (k n : Nat) (h : k < n) : upFrom p k n = (p k && upFrom p (k + 1) n) := by
  unfold upFrom
  rw [show n - k = (n - (k + 1)) + 1 from by omega, List.range'_succ, List.all_cons]
theorem upFrom_end (p : Nat → Bool) (k n : Nat) (h : n ≤ k) : upFrom p k n = true := by
  unfold upFrom
  rw [show n - k = 0 from by omega]; rfl
theorem upFrom_iff (p : Nat → Bool) (k n : Nat) : upFrom p k n = true ↔ ∀ j, k ≤ j → j < n → p j = true := by
  unfold upFrom
  rw [List.all_eq_true]
  constructor
  · intro h j h1 h2; exact h j (by rw [List.mem_range'_1]; omega)
  · intro h j hj; rw [List.mem_range'_1] at hj; exact h j hj.1 (by omega)

/-- An element, a row. (Closed to simp.) -/
def el (zs : List Int) (k : Nat) : Int := zs.getD k 0
def rw' (zss : List (List Int)) (i : Nat) : List Int := zss.getD i []
theorem el_get (zs : List Int) (k : Nat) (h : k < zs.length) : el zs k = zs[k] := by simp [el, h]
theorem rw_get (zss : List (List Int)) (k : Nat) (h : k < zss.length) : rw' zss k = zss[k] := by simp [rw', h]

end Go.Proofs.YtehnbalbpfmijaaGreatDoor

namespace Go.Proofs.YtehnbalbpfmijaaGreatDoor
open Go.RowKit
set_option linter.unusedVariables false

def regOkB (zs : List Int) : Bool := decide (zs.length ≤ 8) && allB zs 0 255
theorem RegionOk_any (v : Value) (zs : List Int) (B : Nat) (w : World) (h : RdI w B v zs) (hB : B ≤ w.heap.size) :
    Calls Tryz.prog 67 #[.agg #[v]] w fun e w' => e = .returned (.bool (regOkB zs)) ∧ Below w.heap.size w w' := by
  have HU := Lib.hid h
  obtain ⟨A, c, rfl, h1, h2, _⟩ := h
  unfold maxLen at h2
  have hb0 : Below w.heap.size w (w.alloc (.cells #[.slice A zs.length c] 35)) := (Below.refl _ _).alloc (Nat.le_refl _) _
  by_cases hl : zs.length ≤ 8
  · have hl' : decide ((zs.length : Int) ≤ 8) = true := by simp; omega
    have HF : Hid (allB zs 0 255 = regOkB zs) := by unfold Hid regOkB; simp [hl]
    have HR := Lib.hid (HU.out.below (hb0.mono hB))
    go_enter Tryz.func67, Tryz.ntmps67
    go_wp2_with fail
    refine (allWithin_any _ zs 0 255 _ _ HR.out).mono ?_
    rintro e w1 ⟨rfl, rfl⟩
    go_wp2_with fail
    go_ret
    exact ⟨ret_bool HF.out, hb0⟩
  · have hl' : decide ((zs.length : Int) ≤ 8) = false := by simp; omega
    have HF : Hid (false = regOkB zs) := by unfold Hid regOkB; simp [hl]
    go_enter Tryz.func67, Tryz.ntmps67
    go_wp2_with fail
    go_ret
    exact ⟨ret_bool HF.out, hb0⟩

/-- The cells of the first k rows. -/
def setTo (zs : List Int) : Nat → Nat
  | 0 => 0
  | k + 1 => setTo zs k ||| (el zs k).toNat * 2 ^ (8 * k)
def setZ (zs : List Int) : Nat := setTo zs zs.length
theorem regOk_el {zs : List Int} (h : regOkB zs = true) {k : Nat} (hk : k < zs.length) : 0 ≤ el zs k ∧ el zs k ≤ 255 := by
  unfold regOkB allB at h
  simp only [Bool.and_eq_true, decide_eq_true_eq, List.all_eq_true, inB_iff] at h
  have := h.2 _ (List.getElem_mem hk)
  rwa [← el_get zs k hk] at this
theorem regOk_len {zs : List Int} (h : regOkB zs = true) : zs.length ≤ 8 := by
  unfold regOkB at h
  simp only [Bool.and_eq_true, decide_eq_true_eq] at h
  exact h.1
theorem row_lt {r k : Nat} (hr : r ≤ 255) (hk : k ≤ 7) : r * 2 ^ (8 * k) < 2 ^ (8 * (k + 1)) := by
  rw [show 8 * (k + 1) = 8 * k + 8 by omega, Nat.pow_add, Nat.mul_comm]
  have : 0 < 2 ^ (8 * k) := Nat.pos_of_ne_zero (by simp)
  exact Nat.mul_lt_mul_of_pos_left (by omega) this
theorem setTo_lt {zs : List Int} (h : regOkB zs = true) : ∀ k, k ≤ zs.length → setTo zs k < 2 ^ (8 * k)
  | 0, _ => by simp [setTo]
  | k + 1, hk => by
    have ih := setTo_lt h k (by omega)
    have hl := regOk_len h
    have he := regOk_el h (k := k) (by omega)
    rw [setTo]
    refine Nat.or_lt_two_pow (Nat.lt_of_lt_of_le ih (Nat.pow_le_pow_right (by omega) (by omega))) (row_lt (by omega) (by omega))
theorem setZ_lt {zs : List Int} (h : regOkB zs = true) : setZ zs < 18446744073709551616 := by
  have h1 := setTo_lt h zs.length (Nat.le_refl _)
  have h2 := regOk_len h
  exact Nat.lt_of_lt_of_le h1 (Nat.pow_le_pow_right (n := 2) (j := 64) (by omega) (by omega))

set_option maxHeartbeats 1000000 in
theorem rset_any (v : Value) (zs : List Int) (B : Nat) (w : World) (h : RdI w B v zs) (hB : B ≤ w.heap.size) (hok : regOkB zs = true) :
    Calls Tryz.prog 39 #[.agg #[v]] w fun e w' => e = .returned (.int .u64 (setZ zs : Nat)) ∧ Below w.heap.size w w' := by
  have HU := Lib.hid h
  have hl8 := regOk_len hok
  obtain ⟨A, c, rfl, h1, h2, _⟩ := h
  unfold maxLen at h2
  have hb0 : Below w.heap.size w (w.alloc (.cells #[.slice A zs.length c] 35)) := (Below.refl _ _).alloc (Nat.le_refl _) _
  obtain ⟨A', c', e', _, _, hR⟩ := HU.out.below (hb0.mono hB)
  simp only [Value.slice.injEq] at e'
  obtain ⟨rfl, _, rfl⟩ := e'
  have HR := Lib.hid hR
  have HB0 := Lib.hid hb0
  clear hR hb0
  go_enter Tryz.func39, Tryz.ntmps39
  go_wp2_with fail
  generalize w.alloc (.cells #[.slice A zs.length c] 35) = W at *
  go_loop [3, 9] (fun s i => ∃ k : Nat, k ≤ zs.length ∧ i = .int .i64 k ∧ s = .int .u64 (setTo zs k : Nat)) (fun _ i => zs.length - (intOf i).toNat)
  case atStart => exact ⟨0, Nat.zero_le _, rfl, rfl⟩
  case round =>
    obtain ⟨k, hk, rfl, rfl⟩ := hrel
    by_cases hlt : k < zs.length
    · obtain ⟨ad, rfl, hbl, hc⟩ := HR.out.int hlt
      rw [← el_get zs k hlt] at hc
      obtain ⟨x0, x1⟩ := regOk_el hok hlt
      obtain ⟨x, hx⟩ := Int.eq_ofNat_of_zero_le x0
      have HT : Hid (setTo zs (k + 1) = setTo zs k ||| x * 2 ^ (8 * k)) := by unfold Hid; rw [setTo, hx, Int.toNat_natCast]
      have HL1 := Lib.hid (setTo_lt hok k (by omega))
      rw [hx] at hc x0 x1
      have HX := Lib.hid hx
      clear hx
      have HV : Hid (bits .or .u64 ((setTo zs k : Nat) : Int) (IntKind.u64.wrap ((x : Int) * 2 ^ (8 * k))) = ((setTo zs (k + 1) : Nat) : Int)) := by
        unfold Hid
        have e1 : (x : Int) * 2 ^ (8 * k) = ((x * 2 ^ (8 * k) : Nat) : Int) := by simp
        have l1 := row_lt (r := x) (k := k) (by omega) (by omega)
        have l2 : (2 : Nat) ^ (8 * (k + 1)) ≤ 2 ^ 64 := Nat.pow_le_pow_right (by omega) (by omega)
        have l3 : (2 : Nat) ^ (8 * k) ≤ 2 ^ 64 := Nat.pow_le_pow_right (by omega) (by omega)
        have l4 := HL1.out
        rw [e1, HT.out, IntKind.wrap_u64]
        generalize x * 2 ^ (8 * k) = p at *
        rw [show ((p : Int)) % 18446744073709551616 = (p : Int) by omega]
        exact u64_or_nat _ _ (Nat.lt_of_lt_of_le l4 l3) (Nat.lt_of_lt_of_le l1 l2)
      clear HL1
      go_wp2_with fail
      go_round
      case rel => exact ⟨k + 1, by omega, by go_num, by rw [HV.out]⟩
      case measure => simp [intOf]; omega
    · have HK : Hid (k = zs.length) := by unfold Hid; omega
      go_wp2_with fail
      go_ret
      exact ⟨congrArg (fun n : Nat => Ending.returned (.int .u64 (n : Int))) (by rw [HK.out]; rfl), HB0.out⟩

theorem cix_bit (zs : List Int) (hok : regOkB zs = true) (x y : Nat) (hx : x ≤ 7) : ∀ k, k ≤ zs.length → (setTo zs k).testBit (cix x y) = (decide (y < k) && (el zs y).toNat.testBit x)
  | 0, _ => by simp [setTo]
  | k + 1, hk => by
    have ih := cix_bit zs hok x y hx k (by omega)
    have he := regOk_el hok (k := k) (by omega)
    rw [setTo, Nat.testBit_or, ih, Nat.testBit_mul_two_pow]
    have hbig : ∀ j, 8 ≤ j → (el zs k).toNat.testBit j = false := fun j hj => Nat.testBit_lt_two_pow (Nat.lt_of_lt_of_le (show (el zs k).toNat < 2 ^ 8 by omega) (Nat.pow_le_pow_right (by omega) hj))
    unfold cix
    rcases Nat.lt_trichotomy y k with h | h | h
    · have h1 : ¬ 8 * k ≤ y * 8 + x := by omega
      simp [h, show y < k + 1 by omega, h1]
    · subst h
      have h1 : 8 * y ≤ y * 8 + x := by omega
      have h2 : y * 8 + x - 8 * y = x := by omega
      simp [h1, h2]
    · have h1 : 8 * k ≤ y * 8 + x := by omega
      have h2 := hbig (y * 8 + x - 8 * k) (by omega)
      simp [h1, h2, show ¬ y < k by omega, show ¬ y < k + 1 by omega]
/-- A region has a cell. -/
theorem setZ_bit {zs : List Int} (hok : regOkB zs = true) (x y : Nat) (hx : x ≤ 7) : hasB (setZ zs) x y = (decide (y < zs.length) && (el zs y).toNat.testBit x) := cix_bit zs hok x y hx zs.length (Nat.le_refl _)
end Go.Proofs.YtehnbalbpfmijaaGreatDoor

namespace Go.Proofs.YtehnbalbpfmijaaGreatDoor
open Go.RowKit

theorem infoInt : (Tryz.prog.info? 3).map (fun i => (i.zero, i.size, i.bytes)) = some (some (.int .i64 0), 1, 8) := by kernel_rfl

/-- v owns a row of integers in a block from lo on. -/
def OwnI (w : World) (lo : Nat) (v : Value) (zs : List Int) : Prop := w.ownsRow lo 3 1 v zs.length (zs.map (Value.int .i64))
theorem OwnI.rd {w : World} {lo : Nat} {v : Value} {zs : List Int} (h : OwnI w lo v zs) : RdI w w.heap.size v zs := by
  rcases h.2 with ⟨rfl, h0⟩ | ⟨g, cap, cur, rfl, hb, hh, hn, hm, hs, ht⟩
  · have : zs = [] := List.eq_nil_of_length_eq_zero h0
    subst this
    exact ⟨none, 0, rfl, Nat.le_refl _, Nat.zero_le _, Rd.nil⟩
  · refine ⟨some ⟨g, 0, none⟩, cap, rfl, hn, hm, fun _ => ⟨_, rfl, (World.ownsRow.lt h g rfl).2, World.ownsRow.cells h rfl⟩⟩
theorem OwnI.lt {w : World} {lo : Nat} {v : Value} {zs : List Int} (h : OwnI w lo v zs) : ∀ k, v.ownBlock = some k → lo ≤ k ∧ k < w.heap.size := World.ownsRow.lt h
theorem OwnI.below {w w' : World} {lo : Nat} {v : Value} {zs : List Int} (h : OwnI w lo v zs) (hb : Below w.heap.size w w') : OwnI w' lo v zs := by
  refine World.ownsRow.kept h (row := none) ⟨hb.os, hb.tape, hb.output, hb.size, fun k hk _ => hb.block k hk⟩ ?_
  cases v.ownBlock
  · exact .inl rfl
  · exact .inr (by simp)
theorem OwnI.of_row {w : World} {lo g : Nat} {zs : List Int} (hg : lo ≤ g) (hl : zs.length ≤ 9223372036854775807) (h : w.rowIs g 3 zs.length (fun j => .int .i64 (zs.getD j 0))) : OwnI w lo (.slice (some ⟨g, 0, none⟩) zs.length zs.length) zs := by
  obtain ⟨c, hb, hs, hc⟩ := h
  refine ⟨by simp, .inr ⟨g, zs.length, c, rfl, hg, hb, Nat.le_refl _, by unfold maxLen; omega, by omega, ?_⟩⟩
  rw [List.take_of_length_le (by simp; omega)]
  apply List.ext_getElem?
  intro j
  by_cases hj : j < zs.length
  · rw [Array.getElem?_toList, hc j hj]; simp [hj]
  · rw [List.getElem?_eq_none (by simp; omega), List.getElem?_eq_none (by simp; omega)]

/-- A new row of integers comes back, nothing else has turned. -/
def RetOwnI (w : World) (zs : List Int) (e : Ending) (w' : World) : Prop := ∃ v, e = .returned v ∧ OwnI w' w.heap.size v zs ∧ Below w.heap.size w w'

end Go.Proofs.YtehnbalbpfmijaaGreatDoor

namespace Go.Proofs.YtehnbalbpfmijaaGreatDoor
open Go.RowKit

section
variable {P : Program} (w : World)
theorem run_append_nilsrc (base : Nat) (t ty e : TypeId) (i : TypeInfo) (size : Nat) (ht : P.underlying t = some (.slice e)) (hi : P.info? e = some i) (v : Value) (n : Nat) (xs : List Value)
    (hown : w.ownsRow base e size v n xs) (c : Nat) : (Builtin.append_ #[t, t] ty #[v, .slice none 0 c]).run P w = .ok v w := by
  rcases hown.2 with ⟨rfl, _⟩ | ⟨g, cap, cur, rfl, _, _, hnc, _⟩
  · simp [Builtin.append_, run_underlying ht, sizeOf, typeInfo, hi, Builtin.lenOf, Builtin.firstCells]
  · simp [Builtin.append_, run_underlying ht, sizeOf, typeInfo, hi, Builtin.lenOf, Builtin.firstCells, hnc, storeCells]

theorem run_append_src (base : Nat) (t ty e : TypeId) (i : TypeInfo) (z : Value) (bytes : Nat) (ht : P.underlying t = some (.slice e)) (hi : P.info? e = some i) (hz : i.zero = some z)
    (hsize : i.size = 1) (hby : i.bytes = bytes) (hzs : z.cells.size = 1) (v : Value) (n : Nat) (xs : List Value) (hown : w.ownsRow base e 1 v n xs)
    (B : Nat) (A : Option Addr) (c : Nat) (news : List Value) (hr : Rd w B A news) (h1 : ∀ u ∈ news, u.oneCell' = true)
    (h63 : n + news.length ≤ maxLen) (hbytes : (n + news.length) * bytes ≤ 140737488355328) (hbase : base ≤ w.heap.size) :
    ∃ v' w', (Builtin.append_ #[t, t] ty #[v, .slice A news.length c]).run P w = .ok v' w' ∧ w'.ownsRow base e 1 v' (n + news.length) (xs ++ news) ∧ w.grownBy w' v.ownBlock ∧
      (v'.ownBlock = v.ownBlock ∨ v'.ownBlock = some w.heap.size) := by
  have hgo : ∀ ad, (∀ j u, news[j]? = some u → w.cell? (ad.add j) = some u) → ∃ v' w', (Builtin.append_ #[t, t] ty #[v, .slice (some ad) news.length c]).run P w = .ok v' w' ∧ w'.ownsRow base e 1 v' (n + news.length) (xs ++ news) ∧
      w.grownBy w' v.ownBlock ∧ (v'.ownBlock = v.ownBlock ∨ v'.ownBlock = some w.heap.size) := fun ad hcells => by
    obtain ⟨v', w', hrun, h2, h3, _, h5⟩ := run_append_own_at (P := P) w base t ty e i z 1 bytes ht hi hz hsize hby hzs (by omega) v n xs hown ad news.length c news (by omega) hcells h1 h63 hbytes hbase
    exact ⟨v', w', hrun, h2, h3, h5⟩
  cases hn : news with
  | nil =>
    subst hn
    cases A with
    | none => exact ⟨v, w, run_append_nilsrc w base t ty e i 1 ht hi v n xs hown c, by simpa using hown, World.grownBy.refl w _, .inl rfl⟩
    | some ad => exact hgo ad (fun j u hu => by simp at hu)
  | cons y ys =>
    rw [← hn]
    obtain ⟨ad, rfl, _, hc⟩ := hr (by rw [hn]; simp)
    exact hgo ad hc

theorem wpList_append_src {ops : Array Oper} {rest : List Oper} {o : Oper} {a : Act} {Q : Exit → Act → World → Prop} (hgd : o.guard = none) (s x : Operand) (t : TypeId)
    (ho : o.op = .call { callee := .builtin .append, args := #[s, x], argTypes := #[t, t] })
    (base : Nat) (e : TypeId) (i : TypeInfo) (z : Value) (bytes : Nat) (ht : P.underlying t = some (.slice e)) (hi : P.info? e = some i) (hz : i.zero = some z)
    (hsize : i.size = 1) (hby : i.bytes = bytes) (hzs : z.cells.size = 1) (v : Value) (n : Nat) (xs : List Value) (hs : a.eval s = v) (hown : w.ownsRow base e 1 v n xs)
    (B : Nat) (A : Option Addr) (c m : Nat) (news : List Value) (hx : a.eval x = .slice A m c) (hm : m = news.length) (hr : Rd w B A news) (h1 : ∀ u ∈ news, u.oneCell' = true)
    (h63 : n + news.length ≤ maxLen) (hbytes : (n + news.length) * bytes ≤ 140737488355328) (hbase : base ≤ w.heap.size)
    (h : ∀ v' w', w'.ownsRow base e 1 v' (n + news.length) (xs ++ news) → w.grownBy w' v.ownBlock → (v'.ownBlock = v.ownBlock ∨ v'.ownBlock = some w.heap.size) → wpList P ops Q rest (a.put o.dst v') w') :
    wpList P ops Q (o :: rest) a w := by
  subst hm
  refine wpList_plain hgd fun K hK => ?_
  obtain ⟨v', w', hrun, h2, h3, h4⟩ := run_append_src (P := P) w base t o.type e i z bytes ht hi hz hsize hby hzs v n xs hown B A c news hr h1 h63 hbytes hbase
  unfold Oper.wp execOp
  simp only [ho, resolve, invoke, builtin, Sem.run_bind, Sem.run_pure, Result.andThen_ok, List.map_toArray, List.map_cons, List.map_nil, hs, hx, hrun]
  exact hK _ _ (h v' w' h2 h3 h4)
end

/-- A row of integers grows by one, by many. -/
theorem OwnI.one {w' : World} {lo n : Nat} {v' : Value} {zs : List Int} {z : Int} (hn : n = zs.length + 1) (h : w'.ownsRow lo 3 1 v' n (zs.map (Value.int .i64) ++ [.int .i64 z])) : OwnI w' lo v' (zs ++ [z]) := by
  subst hn
  unfold OwnI
  rw [List.length_append, List.map_append]
  exact h
theorem OwnI.many {w' : World} {lo n : Nat} {v' : Value} {zs ys : List Int} (hn : n = zs.length + ys.length) (h : w'.ownsRow lo 3 1 v' n (zs.map (Value.int .i64) ++ ys.map (Value.int .i64))) : OwnI w' lo v' (zs ++ ys) := by
  subst hn
  unfold OwnI
  rw [List.length_append, List.map_append]
  exact h
theorem oneInts (ys : List Int) : ∀ u ∈ ys.map (Value.int .i64), u.oneCell' = true := by
  intro u hu
  obtain ⟨z, _, rfl⟩ := List.mem_map.1 hu
  rfl

end Go.Proofs.YtehnbalbpfmijaaGreatDoor

namespace Go.Proofs.YtehnbalbpfmijaaGreatDoor
open Go.RowKit

theorem OwnI.grown {w w' : World} {lo : Nat} {v : Value} {zs : List Int} {row : Option Nat} (h : OwnI w lo v zs) (hg : w.grownBy w' row) (hne : ∀ k, v.ownBlock = some k → some k = row → False) : OwnI w' lo v zs :=
  World.ownsRow.kept h hg (by
    cases e : v.ownBlock
    · exact .inl rfl
    · exact .inr (fun e2 => hne _ e e2))
theorem rowIs_below {w w' : World} {b : Nat} {t : TypeId} {n : Nat} {f : Nat → Value} (h : w.rowIs b t n f) (hb : Below w.heap.size w w') : w'.rowIs b t n f := h.of_block (hb.block _ h.lt)
theorem rowIs_grown {w w' : World} {b : Nat} {t : TypeId} {n : Nat} {f : Nat → Value} {row : Option Nat} (h : w.rowIs b t n f) (hg : w.grownBy w' row) (hne : some b ≠ row) : w'.rowIs b t n f := h.of_block (hg.block _ h.lt hne)
end Go.Proofs.YtehnbalbpfmijaaGreatDoor

namespace Go.Proofs.YtehnbalbpfmijaaGreatDoor
open Go.RowKit

/-- A kind of element: its type, the slice's type, cells, bytes, zero, and the cells of one. -/
structure El (α : Type) where
  e : TypeId
  t : TypeId
  s : Nat
  b : Nat
  z : Value
  f : α → List Value
structure El.Ok {α : Type} (E : El α) (P : Program) : Prop where
  und : P.underlying E.t = some (.slice E.e)
  info : (P.info? E.e).map (fun i => (i.zero, i.size, i.bytes)) = some (some E.z, E.s, E.b)
  zs : E.z.cells.size = E.s
  pos : 0 < E.s
  few : E.b ≤ 1024
  len : ∀ x, (E.f x).length = E.s
  one : ∀ x, ∀ u ∈ E.f x, u.oneCell' = true

section
variable {α : Type} {E : El α} {P : Program}
theorem flat_length (h : ∀ x, (E.f x).length = E.s) : ∀ xs : List α, (xs.flatMap E.f).length = xs.length * E.s
  | [] => by simp
  | x :: xs => by rw [List.flatMap_cons, List.length_append, flat_length h xs, h, List.length_cons, Nat.succ_mul]; omega
theorem flat_get (h : ∀ x, (E.f x).length = E.s) : ∀ (xs : List α) (j i : Nat) (x : α), xs[j]? = some x → i < E.s → (xs.flatMap E.f)[j * E.s + i]? = (E.f x)[i]?
  | [], j, i, x, hx, _ => by simp at hx
  | y :: ys, 0, i, x, hx, hi => by
    simp only [List.getElem?_cons_zero, Option.some.injEq] at hx
    subst hx
    rw [List.flatMap_cons, Nat.zero_mul, Nat.zero_add, List.getElem?_append_left (by rw [h]; exact hi)]
  | y :: ys, j + 1, i, x, hx, hi => by
    rw [List.getElem?_cons_succ] at hx
    rw [List.flatMap_cons, List.getElem?_append_right (by rw [h, Nat.succ_mul]; omega), h, show (j + 1) * E.s + i - E.s = j * E.s + i by rw [Nat.succ_mul]; omega]
    exact flat_get h ys j i x hx hi
theorem flat_set (h : ∀ x, (E.f x).length = E.s) : ∀ (xs : List α) (j i : Nat) (x x' : α) (u : Value), xs[j]? = some x → i < E.s → E.f x' = (E.f x).set i u → (xs.set j x').flatMap E.f = (xs.flatMap E.f).set (j * E.s + i) u
  | [], j, i, x, x', u, hx, _, _ => by simp at hx
  | y :: ys, 0, i, x, x', u, hx, hi, he => by
    simp only [List.getElem?_cons_zero, Option.some.injEq] at hx
    subst hx
    rw [List.set_cons_zero, List.flatMap_cons, List.flatMap_cons, he, Nat.zero_mul, Nat.zero_add, List.set_append_left _ _ (by rw [h]; exact hi)]
  | y :: ys, j + 1, i, x, x', u, hx, hi, he => by
    rw [List.getElem?_cons_succ] at hx
    rw [List.set_cons_succ, List.flatMap_cons, List.flatMap_cons, List.set_append_right _ _ (by rw [h, Nat.succ_mul]; omega), h, show (j + 1) * E.s + i - E.s = j * E.s + i by rw [Nat.succ_mul]; omega,
      flat_set h ys j i x x' u hx hi he]

/-- v reads as the elements xs, below block B. -/
def RdF (E : El α) (w : World) (B : Nat) (v : Value) (xs : List α) : Prop :=
  ∃ A c, v = .slice A xs.length c ∧ xs.length ≤ c ∧ c ≤ maxLen ∧ ∀ j x, xs[j]? = some x → ∃ ad, A = some ad ∧ ad.block < B ∧ ∀ i u, (E.f x)[i]? = some u → w.cell? (ad.add (j * E.s + i)) = some u
theorem RdF.keep {w w' : World} {B : Nat} {v : Value} {xs : List α} (h : RdF E w B v xs) (hk : ∀ p : Addr, p.block < B → w'.cell? p = w.cell? p) : RdF E w' B v xs := by
  obtain ⟨A, c, e, h1, h2, h3⟩ := h
  refine ⟨A, c, e, h1, h2, fun j x hx => ?_⟩
  obtain ⟨ad, e2, hb, hc⟩ := h3 j x hx
  exact ⟨ad, e2, hb, fun i u hu => (hk _ (by rw [addBlock]; exact hb)).trans (hc i u hu)⟩
theorem RdF.below {w w' : World} {B : Nat} {v : Value} {xs : List α} (h : RdF E w B v xs) (hb : Below B w w') : RdF E w' B v xs := h.keep fun _ hp => hb.cell hp
theorem RdF.more {w : World} {B B' : Nat} {v : Value} {xs : List α} (h : RdF E w B v xs) (hB : B ≤ B') : RdF E w B' v xs := by
  obtain ⟨A, c, e, h1, h2, h3⟩ := h
  refine ⟨A, c, e, h1, h2, fun j x hx => ?_⟩
  obtain ⟨ad, e2, hb, hc⟩ := h3 j x hx
  exact ⟨ad, e2, by omega, hc⟩

/-- v owns a row of the elements xs in a block from lo on. -/
def OwnF (E : El α) (w : World) (lo : Nat) (v : Value) (xs : List α) : Prop := w.ownsRow lo E.e E.s v xs.length (xs.flatMap E.f)
section
variable {w w' : World} {lo lo' : Nat} {v : Value} {xs : List α}
theorem OwnF.lt (h : OwnF E w lo v xs) : ∀ k, v.ownBlock = some k → lo ≤ k ∧ k < w.heap.size := World.ownsRow.lt h
theorem OwnF.kept {row : Option Nat} (h : OwnF E w lo v xs) (hg : w.grownBy w' row) (hne : ∀ k, v.ownBlock = some k → some k = row → False) : OwnF E w' lo v xs :=
  World.ownsRow.kept h hg (by
    cases e : v.ownBlock
    · exact .inl rfl
    · exact .inr (fun e2 => hne _ e e2))
theorem OwnF.below (h : OwnF E w lo v xs) (hb : Below w.heap.size w w') : OwnF E w' lo v xs :=
  h.kept (row := none) ⟨hb.os, hb.tape, hb.output, hb.size, fun k hk _ => hb.block k hk⟩ fun _ _ e => by simp at e
theorem OwnF.mono (h : OwnF E w lo v xs) (hl : lo' ≤ lo) : OwnF E w lo' v xs := by
  refine ⟨h.1, ?_⟩
  rcases h.2 with h2 | ⟨g, cap, cur, e, hb, r⟩
  · exact .inl h2
  · exact .inr ⟨g, cap, cur, e, by omega, r⟩
theorem OwnF.rd (hE : E.Ok P) (h : OwnF E w lo v xs) : RdF E w w.heap.size v xs := by
  rcases h.2 with ⟨rfl, h0⟩ | ⟨g, cap, cur, rfl, hb, hh, hn, hm, hs, ht⟩
  · have : xs = [] := List.eq_nil_of_length_eq_zero h0
    subst this
    exact ⟨none, 0, rfl, Nat.le_refl _, Nat.zero_le _, fun j x hx => by simp at hx⟩
  · refine ⟨some ⟨g, 0, none⟩, cap, rfl, hn, hm, fun j x hx => ⟨_, rfl, (World.ownsRow.lt h g rfl).2, fun i u hu => ?_⟩⟩
    refine World.ownsRow.cells h rfl _ _ ?_
    have hi : i < E.s := by have := (List.getElem?_eq_some_iff.1 hu).1; rw [hE.len] at this; exact this
    rw [flat_get hE.len xs j i x hx hi]; exact hu
theorem OwnF.nil : OwnF E w lo (.slice none 0 0) ([] : List α) := by simpa [OwnF] using World.ownsRow_nil w lo E.e E.s
theorem OwnF.empty (hlo : lo ≤ w.heap.size) : OwnF E (w.alloc (.cells #[] E.e)) lo (.slice (some ⟨w.heap.size, 0, none⟩) 0 0) ([] : List α) := by
  simpa [OwnF] using World.ownsRow_lit (base := lo) (e := E.e) (size := E.s) w #[] 0 hlo (by simp [maxLen]) (by simp)
/-- One cell of one element is written. -/
theorem OwnF.store (hE : E.Ok P) {g cap : Nat} {x x' : α} {j i : Nat} {u : Value} (h : OwnF E w lo (.slice (some ⟨g, 0, none⟩) xs.length cap) xs) (hx : xs[j]? = some x) (hi : i < E.s) (he : E.f x' = (E.f x).set i u) :
    OwnF E (w.setCell ⟨g, j * E.s + i, none⟩ u) lo (.slice (some ⟨g, 0, none⟩) (xs.set j x').length cap) (xs.set j x') ∧ w.grownBy (w.setCell ⟨g, j * E.s + i, none⟩ u) (some g) ∧ lo ≤ g := by
  obtain ⟨h1, h2⟩ := World.ownsRow.stored h (j * E.s + i) u
  refine ⟨?_, h2, (World.ownsRow.lt h g rfl).1⟩
  unfold OwnF
  rw [flat_set hE.len xs j i x x' u hx hi he, List.length_set]
  exact h1
end

/-- A slice of the call's own that grows: w is the world at the call, wr the world now. -/
def Acc (E : El α) (w : World) (lo : Nat) (wr : World) (v : Value) (xs : List α) : Prop := OwnF E wr lo v xs ∧ Below w.heap.size w wr ∧ w.heap.size ≤ lo ∧ lo ≤ wr.heap.size
theorem Acc.nil (w : World) : Acc E w w.heap.size w (.slice none 0 0) ([] : List α) := ⟨OwnF.nil, Below.refl _ _, Nat.le_refl _, Nat.le_refl _⟩
theorem Acc.start (w : World) : Acc E w w.heap.size (w.alloc (.cells #[] E.e)) (.slice (some ⟨w.heap.size, 0, none⟩) 0 0) ([] : List α) :=
  ⟨OwnF.empty (Nat.le_refl _), (Below.refl _ _).alloc (Nat.le_refl _) _, Nat.le_refl _, by simp⟩
theorem Acc.startAt {w wr : World} {lo : Nat} (hb : Below w.heap.size w wr) (h1 : w.heap.size ≤ lo) (h2 : lo ≤ wr.heap.size) : Acc E w lo (wr.alloc (.cells #[] E.e)) (.slice (some ⟨wr.heap.size, 0, none⟩) 0 0) ([] : List α) :=
  ⟨OwnF.empty h2, hb.alloc hb.size _, h1, by simp; omega⟩
theorem Acc.below {w wr w1 : World} {lo : Nat} {v : Value} {xs : List α} (h : Acc E w lo wr v xs) (hb : Below wr.heap.size wr w1) : Acc E w lo w1 v xs :=
  ⟨h.1.below hb, h.2.1.trans (hb.mono h.2.1.size), h.2.2.1, Nat.le_trans h.2.2.2 hb.size⟩
/-- How a growing slice of the call's own leaves the rest: only its own row, in the block it had, may have been written. -/
def Grew (wr w1 : World) (v v' : Value) : Prop := wr.grownBy w1 v.ownBlock ∧ ∃ g, v'.ownBlock = some g ∧ (v.ownBlock = some g ∨ wr.heap.size ≤ g) ∧ g < w1.heap.size

theorem wpList_pushes (hE : E.Ok P) {ops : Array Oper} {rest : List Oper} {o : Oper} {a : Act} {Q : Exit → Act → World → Prop} (hgd : o.guard = none) (s x : Operand)
    (ho : o.op = .call { callee := .builtin .append, args := #[s, x], argTypes := #[E.t, E.t] }) {w wr : World} {lo : Nat} {v : Value} {xs : List α} (H : Acc E w lo wr v xs) (hs : a.eval s = v)
    (ys : List α) (m : Nat) (hm : m = ys.length) (hpos : 0 < m) (cs : Array Value) (hcs : cs.toList = ys.flatMap E.f) (h0 : Nat) (hx : a.eval x = .slice (some ⟨h0, 0, none⟩) m m) (hh : wr.heap.size = h0) (hl : xs.length + m ≤ 1073741824)
    (h : ∀ v' w', Hid (Acc E w lo w' v' (xs ++ ys)) → Hid (Grew wr w' v v') → wpList P ops Q rest (a.put o.dst v') w') :
    wpList P ops Q (o :: rest) a (wr.alloc (.cells cs E.e)) := by
  subst hm hh
  obtain ⟨i, hi, hzz⟩ := Option.map_eq_some_iff.1 hE.info
  simp only [Prod.mk.injEq] at hzz
  obtain ⟨hz, hsz, hby⟩ := hzz
  obtain ⟨h1, h2, h3, h4⟩ := H
  have hal := (Below.refl wr.heap.size wr).alloc (Nat.le_refl _) (.cells cs E.e)
  have hown := h1.below hal
  refine wpList_append_lies (P := P) _ hgd s x E.t ho lo E.e i E.z E.s E.b hE.und hi hz hsz hby hE.zs hE.pos v xs.length (xs.flatMap E.f) hs hown ⟨wr.heap.size, 0, none⟩ ys.length ys.length (ys.flatMap E.f) hx
    (flat_length hE.len ys) (by rw [← hcs]; exact World.news_of_block (heap_alloc_new wr _)) (fun u hu => ?_) hpos (by unfold maxLen; omega) ?_ (by simp; omega) (wr.heap.size + 1) (by simp) ?_
  · obtain ⟨y, _, hy⟩ := List.mem_flatMap.1 hu
    exact hE.one y u hy
  · have h5 := hE.few
    have : (xs.length + ys.length) * E.b ≤ 1073741824 * 1024 := Nat.mul_le_mul hl h5
    omega
  · intro g cap w' hown' hg hat hlt
    have hg2 : wr.grownBy w' v.ownBlock := ⟨hg.os, hg.tape, hg.output, Nat.le_trans (by simp) hg.size, fun k hk hne => (hg.block k (by simp; omega) hne).trans (Below.heap_alloc _ _ _ hk)⟩
    refine h (.slice (some ⟨g, 0, none⟩) (xs.length + ys.length) cap) w' ⟨?_, ?_, h3, ?_⟩ ⟨hg2, g, rfl, ?_, hlt⟩
    · unfold OwnF; rw [List.length_append, List.flatMap_append]; exact hown'
    · exact h2.grown hg2 h2.size fun k hk => by have := (h1.lt k hk).1; omega
    · have := hg2.size; omega
    · rcases hat with hat | hat
      · exact .inl hat
      · exact .inr (by omega)
theorem step_pushes (hE : E.Ok P) {ops : Array Oper} {o : Oper} {a : Act} {K : Act → World → Prop} {Q : Exit → Act → World → Prop} {X : Prop} (hgd : o.guard = none) (s x : Operand)
    (ho : o.op = .call { callee := .builtin .append, args := #[s, x], argTypes := #[E.t, E.t] }) {w wr : World} {lo : Nat} {v : Value} {xs : List α} (H : Acc E w lo wr v xs) (hs : a.eval s = v)
    (ys : List α) (m : Nat) (hm : m = ys.length) (hpos : 0 < m) (cs : Array Value) (hcs : cs.toList = ys.flatMap E.f) (h0 : Nat) (hx : a.eval x = .slice (some ⟨h0, 0, none⟩) m m) (hh : wr.heap.size = h0) (hl : xs.length + m ≤ 1073741824)
    (h : ∀ v' w', Hid (Acc E w lo w' v' (xs ++ ys)) → Hid (Grew wr w' v v') → K (a.put o.dst v') w') :
    if Region.wanted o (yielded ops a.tmps) = true then Oper.wp P o a (wr.alloc (.cells cs E.e)) K Q else X := by
  subst hm hh
  obtain ⟨i, hi, hzz⟩ := Option.map_eq_some_iff.1 hE.info
  simp only [Prod.mk.injEq] at hzz
  obtain ⟨hz, hsz, hby⟩ := hzz
  obtain ⟨h1, h2, h3, h4⟩ := H
  have hal := (Below.refl wr.heap.size wr).alloc (Nat.le_refl _) (.cells cs E.e)
  have hown := h1.below hal
  refine step_append_lies (P := P) _ hgd s x E.t ho lo E.e i E.z E.s E.b hE.und hi hz hsz hby hE.zs hE.pos v xs.length (xs.flatMap E.f) hs hown ⟨wr.heap.size, 0, none⟩ ys.length ys.length (ys.flatMap E.f) hx
    (flat_length hE.len ys) (by rw [← hcs]; exact World.news_of_block (heap_alloc_new wr _)) (fun u hu => ?_) hpos (by unfold maxLen; omega) ?_ (by simp; omega) (wr.heap.size + 1) (by simp) ?_
  · obtain ⟨y, _, hy⟩ := List.mem_flatMap.1 hu
    exact hE.one y u hy
  · have h5 := hE.few
    have : (xs.length + ys.length) * E.b ≤ 1073741824 * 1024 := Nat.mul_le_mul hl h5
    omega
  · intro g cap w' hown' hg hat hlt
    have hg2 : wr.grownBy w' v.ownBlock := ⟨hg.os, hg.tape, hg.output, Nat.le_trans (by simp) hg.size, fun k hk hne => (hg.block k (by simp; omega) hne).trans (Below.heap_alloc _ _ _ hk)⟩
    refine h (.slice (some ⟨g, 0, none⟩) (xs.length + ys.length) cap) w' ⟨?_, ?_, h3, ?_⟩ ⟨hg2, g, rfl, ?_, hlt⟩
    · unfold OwnF; rw [List.length_append, List.flatMap_append]; exact hown'
    · exact h2.grown hg2 h2.size fun k hk => by have := (h1.lt k hk).1; omega
    · have := hg2.size; omega
    · rcases hat with hat | hat
      · exact .inl hat
      · exact .inr (by omega)
theorem step_push (hE : E.Ok P) {ops : Array Oper} {o : Oper} {a : Act} {K : Act → World → Prop} {Q : Exit → Act → World → Prop} {X : Prop} (hgd : o.guard = none) (s x : Operand)
    (ho : o.op = .call { callee := .builtin .append, args := #[s, x], argTypes := #[E.t, E.t] }) {w wr : World} {lo : Nat} {v : Value} {xs : List α} (H : Acc E w lo wr v xs) (hs : a.eval s = v)
    (y : α) (cs : Array Value) (hcs : cs.toList = E.f y) (h0 : Nat) (hx : a.eval x = .slice (some ⟨h0, 0, none⟩) 1 1) (hh : wr.heap.size = h0) (hl : xs.length + 1 ≤ 1073741824)
    (h : ∀ v' w', Hid (Acc E w lo w' v' (xs ++ [y])) → Hid (Grew wr w' v v') → K (a.put o.dst v') w') :
    if Region.wanted o (yielded ops a.tmps) = true then Oper.wp P o a (wr.alloc (.cells cs E.e)) K Q else X :=
  step_pushes hE hgd s x ho H hs [y] 1 rfl (Nat.lt_succ_self _) cs (by rw [hcs]; simp) h0 hx hh hl h
theorem wpList_push (hE : E.Ok P) {ops : Array Oper} {rest : List Oper} {o : Oper} {a : Act} {Q : Exit → Act → World → Prop} (hgd : o.guard = none) (s x : Operand)
    (ho : o.op = .call { callee := .builtin .append, args := #[s, x], argTypes := #[E.t, E.t] }) {w wr : World} {lo : Nat} {v : Value} {xs : List α} (H : Acc E w lo wr v xs) (hs : a.eval s = v)
    (y : α) (cs : Array Value) (hcs : cs.toList = E.f y) (h0 : Nat) (hx : a.eval x = .slice (some ⟨h0, 0, none⟩) 1 1) (hh : wr.heap.size = h0) (hl : xs.length + 1 ≤ 1073741824)
    (h : ∀ v' w', Hid (Acc E w lo w' v' (xs ++ [y])) → Hid (Grew wr w' v v') → wpList P ops Q rest (a.put o.dst v') w') :
    wpList P ops Q (o :: rest) a (wr.alloc (.cells cs E.e)) :=
  wpList_pushes hE hgd s x ho H hs [y] 1 rfl (Nat.lt_succ_self _) cs (by rw [hcs]; simp) h0 hx hh hl h
/-- append of a whole slice. -/
theorem wpList_pushSrc (hE : E.Ok P) (hs1 : E.s = 1) {ops : Array Oper} {rest : List Oper} {o : Oper} {a : Act} {Q : Exit → Act → World → Prop} (hgd : o.guard = none) (s x : Operand)
    (ho : o.op = .call { callee := .builtin .append, args := #[s, x], argTypes := #[E.t, E.t] }) {w wr : World} {lo : Nat} {v : Value} {xs : List α} (H : Acc E w lo wr v xs) (hs : a.eval s = v)
    (ys : List α) (B : Nat) (A : Option Addr) (m c : Nat) (hr : Rd wr B A (ys.flatMap E.f)) (hx : a.eval x = .slice A m c) (hm : m = ys.length) (hl : xs.length + ys.length ≤ 1073741824)
    (h : ∀ v' w', Hid (Acc E w lo w' v' (xs ++ ys)) → Hid (wr.grownBy w' v.ownBlock ∧ (v'.ownBlock = v.ownBlock ∨ v'.ownBlock = some wr.heap.size)) → wpList P ops Q rest (a.put o.dst v') w') :
    wpList P ops Q (o :: rest) a wr := by
  obtain ⟨i, hi, hzz⟩ := Option.map_eq_some_iff.1 hE.info
  simp only [Prod.mk.injEq] at hzz
  obtain ⟨hz, hsz, hby⟩ := hzz
  obtain ⟨h1, h2, h3, h4⟩ := H
  have hown : wr.ownsRow lo E.e 1 v xs.length (xs.flatMap E.f) := by have := h1; unfold OwnF at this; rwa [hs1] at this
  have hly : (ys.flatMap E.f).length = ys.length := by rw [flat_length hE.len, hs1, Nat.mul_one]
  refine wpList_append_src wr hgd s x E.t ho lo E.e i E.z E.b hE.und hi hz (by rw [hsz, hs1]) hby (by rw [hE.zs, hs1]) v xs.length (xs.flatMap E.f) hs hown B A c m (ys.flatMap E.f) hx (by rw [hly, hm]) hr (fun u hu => ?_) (by unfold maxLen; omega) ?_ h4 ?_
  · obtain ⟨y, _, hy⟩ := List.mem_flatMap.1 hu
    exact hE.one y u hy
  · rw [hly]
    have h5 := hE.few
    have : (xs.length + ys.length) * E.b ≤ 1073741824 * 1024 := Nat.mul_le_mul hl h5
    omega
  · intro v' w' hown' hg hat
    refine h v' w' ⟨?_, h2.grown hg h2.size fun k hk => by have := (h1.lt k hk).1; omega, h3, by have := hg.size; omega⟩ ⟨hg, hat⟩
    unfold OwnF
    rw [List.length_append, List.flatMap_append, hs1, ← hly]
    exact hown'
end

/-- Integers, rows of one cell each (whatever their values). -/
def elInt : El Int := ⟨3, 33, 1, 8, .int .i64 0, fun z => [.int .i64 z]⟩
theorem okInt : elInt.Ok Tryz.prog := ⟨Tryz.underlying33, infoInt, rfl, by decide, by decide, fun _ => rfl, fun x u hu => by simp [elInt] at hu; subst hu; rfl⟩
theorem ownF_int {w : World} {lo : Nat} {v : Value} {zs : List Int} : OwnF elInt w lo v zs ↔ OwnI w lo v zs := by
  unfold OwnF OwnI
  have : zs.flatMap elInt.f = zs.map (Value.int .i64) := by
    induction zs with
    | nil => rfl
    | cons z zs ih => rw [List.flatMap_cons, ih]; rfl
  rw [this]; exact Iff.rfl
end Go.Proofs.YtehnbalbpfmijaaGreatDoor

namespace Go.Proofs.YtehnbalbpfmijaaGreatDoor
open Go.RowKit

def szZ (n left : Int) : Int := if left - n < 0 then -1 else left - n

theorem beq_drop (xs ys : List Int) (k : Nat) (h1 : k < xs.length) (h2 : k < ys.length) : (xs.drop k == ys.drop k) = (xs[k] == ys[k] && xs.drop (k + 1) == ys.drop (k + 1)) := by
  rw [List.drop_eq_getElem_cons h1, List.drop_eq_getElem_cons h2]; rfl
theorem beq_len (xs ys : List Int) (h : xs.length ≠ ys.length) : (xs == ys) = false := by
  rw [beq_eq_false_iff_ne]; rintro rfl; exact h rfl

end Go.Proofs.YtehnbalbpfmijaaGreatDoor

namespace Go.Proofs.YtehnbalbpfmijaaGreatDoor
open Go.RowKit

abbrev Lk := Int × Int × Bool
abbrev triV (x y : Int) (d : Bool) : Value := .agg #[.int .i64 x, .int .i64 y, .bool d]
def triC (l : Lk) : List Value := [.int .i64 l.1, .int .i64 l.2.1, .bool l.2.2]
theorem triC_one : ∀ (x : Lk), ∀ u ∈ triC x, u.oneCell' = true := fun x u hu => by simp [triC] at hu; rcases hu with rfl | rfl | rfl <;> rfl
def elDomino : El Lk := ⟨51, 24, 3, 24, .agg #[.int .i64 0, .int .i64 0, .bool false], triC⟩
theorem okDomino : elDomino.Ok Tryz.prog := ⟨Tryz.underlying24, by kernel_rfl, rfl, by decide, by decide, fun _ => rfl, triC_one⟩

def lx (ls : List Lk) (j : Nat) : Int := (ls.getD j (0, 0, false)).1
def ly (ls : List Lk) (j : Nat) : Int := (ls.getD j (0, 0, false)).2.1
def ld (ls : List Lk) (j : Nat) : Bool := (ls.getD j (0, 0, false)).2.2
theorem lk_get (ls : List Lk) (j : Nat) (h : j < ls.length) : ls[j]? = some (lx ls j, ly ls j, ld ls j) := by simp [lx, ly, ld, h]

/-- Three cells one behind the other. -/
def Three (w : World) (p : Addr) (x y : Int) (d : Bool) : Prop :=
  w.cell? p = some (.int .i64 x) ∧ w.cell? ⟨p.block, p.off + 1, none⟩ = some (.int .i64 y) ∧ w.cell? ⟨p.block, p.off + 2, none⟩ = some (.bool d)
theorem addTwo (a : Addr) : (⟨a.block, a.off + 2, none⟩ : Addr) = a.add 2 := by simp [Addr.add]
theorem addOne' (a : Addr) : (⟨a.block, a.off + 1, none⟩ : Addr) = a.add 1 := by simp [Addr.add]
theorem RdT.of {E : El Lk} {w : World} {B : Nat} {v : Value} {ls : List Lk} (hs : E.s = 3) (hf : ∀ l, E.f l = triC l) (h : RdF E w B v ls) :
    ∃ A c, v = .slice A ls.length c ∧ ls.length ≤ c ∧ c ≤ maxLen ∧ Hid (∀ j, j < ls.length → ∃ ad, A = some ad ∧ ad.block < B ∧ w.cell? (ad.add (j * 3)) = some (.int .i64 (lx ls j)) ∧
      w.cell? ⟨(ad.add (j * 3)).block, (ad.add (j * 3)).off + 1, none⟩ = some (.int .i64 (ly ls j)) ∧ w.cell? ⟨(ad.add (j * 3)).block, (ad.add (j * 3)).off + 2, none⟩ = some (.bool (ld ls j))) := by
  obtain ⟨A, c, e, h1, h2, h3⟩ := h
  refine ⟨A, c, e, h1, h2, fun j hj => ?_⟩
  obtain ⟨ad, e2, hb, hc⟩ := h3 j _ (lk_get ls j hj)
  rw [hf, hs] at hc
  refine ⟨ad, e2, hb, hc 0 _ rfl, ?_, ?_⟩
  · rw [addOne', addAdd]; exact hc 1 _ rfl
  · rw [addTwo, addAdd]; exact hc 2 _ rfl

/-- Two structs side by side. -/
def Six (w : World) (p q : Addr) (x y : Int) (d : Bool) : Prop :=
  w.cell? p = some (.int .i64 x) ∧ w.cell? ⟨p.block, p.off + 1, none⟩ = some (.int .i64 y) ∧ w.cell? ⟨p.block, p.off + 2, none⟩ = some (.bool d) ∧
  w.cell? q = some (.int .i64 x) ∧ w.cell? ⟨q.block, q.off + 1, none⟩ = some (.int .i64 y) ∧ w.cell? ⟨q.block, q.off + 2, none⟩ = some (.bool d)
theorem Six.below {w w1 : World} {p q : Addr} {x y : Int} {d : Bool} {B : Nat} (hb : Below B w w1) (hp : p.block < B) (hq : q.block < B) (h : Six w p q x y d) : Six w1 p q x y d :=
  ⟨(hb.cell hp).trans h.1, (hb.cell (p := ⟨p.block, p.off + 1, none⟩) hp).trans h.2.1, (hb.cell (p := ⟨p.block, p.off + 2, none⟩) hp).trans h.2.2.1,
    (hb.cell hq).trans h.2.2.2.1, (hb.cell (p := ⟨q.block, q.off + 1, none⟩) hq).trans h.2.2.2.2.1, (hb.cell (p := ⟨q.block, q.off + 2, none⟩) hq).trans h.2.2.2.2.2⟩
/-- The same, in one chain, with what the loop keeps beside. -/
abbrev SixS (w w' : World) (p q : Addr) (x y : Int) (d : Bool) : Prop :=
  w'.cell? p = some (.int .i64 x) ∧ w'.cell? ⟨p.block, p.off + 1, none⟩ = some (.int .i64 y) ∧ w'.cell? ⟨p.block, p.off + 2, none⟩ = some (.bool d) ∧
  w'.cell? q = some (.int .i64 x) ∧ w'.cell? ⟨q.block, q.off + 1, none⟩ = some (.int .i64 y) ∧ w'.cell? ⟨q.block, q.off + 2, none⟩ = some (.bool d) ∧ w.heap.size ≤ w'.heap.size ∧ Below w.heap.size w w'
theorem SixS.mk' {w w' : World} {p q : Addr} {x y : Int} {d : Bool} (h : Six w' p q x y d) (h2 : w.heap.size ≤ w'.heap.size) (h3 : Below w.heap.size w w') : SixS w w' p q x y d :=
  ⟨h.1, h.2.1, h.2.2.1, h.2.2.2.1, h.2.2.2.2.1, h.2.2.2.2.2, h2, h3⟩
theorem keepSix0 {w wr : World} {p q : Addr} {x y : Int} {d : Bool} (hb : Below w.heap.size w wr) (hp : p.block < w.heap.size) (hq : q.block < w.heap.size) (h : Six w p q x y d) : SixS w wr p q x y d := SixS.mk' (h.below hb hp hq) hb.size hb
theorem keepSix {w W0 w1 : World} {p q : Addr} {x y : Int} {d : Bool} (hb : Below W0.heap.size W0 w1) (hp : p.block < w.heap.size) (hq : q.block < w.heap.size) (h : SixS w W0 p q x y d) : SixS w w1 p q x y d := by
  obtain ⟨h1, h2, h3, h4, h5, h6, h7, h8⟩ := h
  exact SixS.mk' (Six.below hb (by omega) (by omega) ⟨h1, h2, h3, h4, h5, h6⟩) (Nat.le_trans h7 hb.size) (h8.trans (hb.mono h7))
theorem drewSix {w W0 : World} {p q : Addr} {x y : Int} {d : Bool} (h : SixS w W0 p q x y d) : SixS w W0.drew p q x y d := by
  obtain ⟨h1, h2, h3, h4, h5, h6, h7, h8⟩ := h
  exact ⟨h1, h2, h3, h4, h5, h6, h7, h8.drew⟩

/-! ### The marks -/
def triMk (k : Int) (i : Nat) : Lk := (k + 3 * (i : Int), k + 3 * (i : Int) + 1, (k + 3 * (i : Int) + 1 + 1) % 3 == 0)
def triIota (k : Int) (n : Nat) : List Lk := (List.range n).map (triMk k)
theorem triIota_length (k : Int) (n : Nat) : (triIota k n).length = n := by simp [triIota]
theorem triIota_x (k : Int) (n j : Nat) (h : j < n) : lx (triIota k n) j = k + 3 * (j : Int) := by simp [lx, triIota, h, triMk]
theorem triIota_y (k : Int) (n j : Nat) (h : j < n) : ly (triIota k n) j = k + 3 * (j : Int) + 1 := by simp [ly, triIota, h, triMk]
theorem triIota_d (k : Int) (n j : Nat) (h : j < n) : ld (triIota k n) j = ((k + 3 * (j : Int) + 1 + 1) % 3 == 0) := by simp [ld, triIota, h, triMk]
def triTo (ls : List Lk) (k : Int) (j : Nat) : List Lk := (List.range ls.length).map fun (i : Nat) => if i < j then triMk k i else ls.getD i (0, 0, false)
theorem triTo_length (ls : List Lk) (k : Int) (j : Nat) : (triTo ls k j).length = ls.length := by simp [triTo]
theorem triTo_zero (ls : List Lk) (k : Int) : triTo ls k 0 = ls := by
  apply List.ext_getElem
  · exact triTo_length _ _ _
  · intro i h1 h2; simp [triTo, h2]
theorem triTo_all (ls : List Lk) (k : Int) : triTo ls k ls.length = triIota k ls.length := by
  unfold triTo triIota
  apply List.map_congr_left
  intro i hi
  rw [if_pos (by simpa using hi)]
theorem triTo_set (ls : List Lk) (k : Int) (j : Nat) (_h : j < ls.length) : (triTo ls k j).set j (k + 3 * (j : Int), k + 3 * (j : Int) + 1, (k + 3 * (j : Int) + 1 + 1) % 3 == 0) = triTo ls k (j + 1) := by
  apply List.ext_getElem
  · simp [triTo]
  · intro i h1 h2
    rw [List.getElem_set]
    by_cases e : j = i
    · subst e; simp [triTo, triMk]
    · by_cases e2 : i < j
      · simp [triTo, e, e2, show i < j + 1 by omega]
      · simp [triTo, e, e2, show ¬ i < j + 1 by omega]

/-- One struct is written, field by field. -/
theorem triStore {P : Program} {E : El Lk} (hE : E.Ok P) (hs : E.s = 3) (hf : ∀ l, E.f l = triC l) {w : World} {lo g cap : Nat} {ls : List Lk} (h : OwnF E w lo (.slice (some ⟨g, 0, none⟩) ls.length cap) ls) {j : Nat} (hj : j < ls.length) :
    w.cell? ⟨g, j * 3, none⟩ = some (.int .i64 (lx ls j)) ∧ w.cell? ⟨g, j * 3 + 1, none⟩ = some (.int .i64 (ly ls j)) ∧ w.cell? ⟨g, j * 3 + 2, none⟩ = some (.bool (ld ls j)) ∧ (∀ o, w.frozen? ⟨g, o, none⟩ = false) ∧
      ∀ (a b : Int) (d : Bool), OwnF E (((w.setCell ⟨g, j * 3, none⟩ (.int .i64 a)).setCell ⟨g, j * 3 + 1, none⟩ (.int .i64 b)).setCell ⟨g, j * 3 + 2, none⟩ (.bool d)) lo (.slice (some ⟨g, 0, none⟩) (ls.set j (a, b, d)).length cap) (ls.set j (a, b, d)) ∧
        w.grownBy (((w.setCell ⟨g, j * 3, none⟩ (.int .i64 a)).setCell ⟨g, j * 3 + 1, none⟩ (.int .i64 b)).setCell ⟨g, j * 3 + 2, none⟩ (.bool d)) (some g) := by
  have hc : ∀ i u, (triC (lx ls j, ly ls j, ld ls j))[i]? = some u → w.cell? ⟨g, j * 3 + i, none⟩ = some u := fun i u hu => by
    have hi : i < 3 := (List.getElem?_eq_some_iff.1 hu).1
    have := World.ownsRow.cellAt h (j * 3 + i) (by rw [hs]; omega)
    rw [this, ← hs, flat_get hE.len ls j i _ (lk_get ls j hj) (by omega), hf]; exact hu
  refine ⟨hc 0 _ rfl, hc 1 _ rfl, hc 2 _ rfl, World.ownsRow.frozenAt h, fun a b d => ?_⟩
  obtain ⟨s1, t1, _⟩ := OwnF.store hE (x' := (a, ly ls j, ld ls j)) (u := .int .i64 a) h (lk_get ls j hj) (i := 0) (by omega) (by rw [hf, hf]; rfl)
  obtain ⟨s2, t2, _⟩ := OwnF.store hE (x' := (a, b, ld ls j)) (x := (a, ly ls j, ld ls j)) (u := .int .i64 b) s1 (j := j) (by simp [hj]) (i := 1) (by omega) (by rw [hf, hf]; rfl)
  obtain ⟨s3, t3, _⟩ := OwnF.store hE (x' := (a, b, d)) (x := (a, b, ld ls j)) (u := .bool d) s2 (j := j) (by simp [hj]) (i := 2) (by omega) (by rw [hf, hf]; rfl)
  rw [hs] at s3 t1 t2 t3
  simp only [List.set_set, Nat.add_zero] at s3 t1 t2 t3
  exact ⟨s3, (t1.trans t2).trans t3⟩
end Go.Proofs.YtehnbalbpfmijaaGreatDoor

namespace Go.Proofs.YtehnbalbpfmijaaGreatDoor
open Go.RowKit

/-- A store into a block of cells. -/
theorem blk_setCell {w : World} {b k : Nat} {cs : Array Value} {t : TypeId} {fr : Nat × Nat} (h : w.heap[b]? = some (.cells cs t fr)) (u : Value) : (w.setCell ⟨b, k, none⟩ u).heap[b]? = some (.cells (cs.setIfInBounds k u) t fr) := by
  have hlt := lt_of_block h
  have h' : w.heap[b] = .cells cs t fr := by simpa [Array.getElem?_eq_getElem hlt] using h
  show (w.heap.modify b _)[b]? = _
  rw [Array.getElem?_eq_getElem (by simpa using hlt), Array.getElem_modify_self, h']
  rfl
theorem blk_cell {w : World} {b k : Nat} {cs : Array Value} {t : TypeId} {fr : Nat × Nat} (h : w.heap[b]? = some (.cells cs t fr)) : w.cell? ⟨b, k, none⟩ = cs[k]? := by simp [World.cell?, h]
theorem blk_free {w : World} {b k : Nat} {cs : Array Value} {t : TypeId} (h : w.heap[b]? = some (.cells cs t (0, 0))) : w.frozen? ⟨b, k, none⟩ = false := by simp [World.frozen?, h]
theorem grownBy_set (w : World) (b k : Nat) (u : Value) : w.grownBy (w.setCell ⟨b, k, none⟩ u) (some b) := ⟨rfl, rfl, rfl, by simp, fun j _ hj => Below.heap_setCell _ _ _ _ (fun e => hj (by rw [e]))⟩
theorem grownBy_drewN (w : World) (n : Nat) (row : Option Nat) : w.grownBy (w.drewN n) row := ⟨rfl, rfl, rfl, Nat.le_refl _, fun _ _ _ => rfl⟩

theorem two_alloc (w : World) (o1 o2 : Obj) : ∃ W : World, W = (w.alloc o1).alloc o2 ∧ W.heap[w.heap.size]? = some o1 ∧ W.heap[w.heap.size + 1]? = some o2 ∧ Below w.heap.size w W := by
  refine ⟨_, rfl, ?_, ?_, ((Below.refl _ _).alloc (Nat.le_refl _) _).alloc (by simp) _⟩
  · rw [Below.heap_alloc _ _ _ (by simp)]; exact heap_alloc_new w o1
  · simpa using heap_alloc_new (w.alloc o1) o2
theorem one_alloc (w : World) (o1 : Obj) : ∃ W : World, W = w.alloc o1 ∧ W.heap[w.heap.size]? = some o1 ∧ Below w.heap.size w W := ⟨_, rfl, heap_alloc_new w o1, (Below.refl _ _).alloc (Nat.le_refl _) _⟩
/-- A block stays as it was. -/
theorem blk_below {w w' : World} {b : Nat} {o : Obj} (h : w.heap[b]? = some o) (hb : Below w.heap.size w w') : w'.heap[b]? = some o := (hb.block b (lt_of_block h)).trans h
theorem three_alloc (w : World) (o1 o2 o3 : Obj) : ∃ W : World, W = ((w.alloc o1).alloc o2).alloc o3 ∧ W.heap[w.heap.size]? = some o1 ∧ W.heap[w.heap.size + 1]? = some o2 ∧ W.heap[w.heap.size + 2]? = some o3 ∧ Below w.heap.size w W := by
  refine ⟨_, rfl, ?_, ?_, ?_, (((Below.refl _ _).alloc (Nat.le_refl _) _).alloc (by simp) _).alloc (by simp; omega) _⟩
  · rw [Below.heap_alloc _ _ _ (by simp; omega), Below.heap_alloc _ _ _ (by simp)]; exact heap_alloc_new w o1
  · rw [Below.heap_alloc _ _ _ (by simp)]; simpa using heap_alloc_new (w.alloc o1) o2
  · simpa using heap_alloc_new ((w.alloc o1).alloc o2) o3
theorem four_alloc (w : World) (o1 o2 o3 o4 : Obj) : ∃ W : World, W = (((w.alloc o1).alloc o2).alloc o3).alloc o4 ∧ W.heap[w.heap.size]? = some o1 ∧ W.heap[w.heap.size + 1]? = some o2 ∧ W.heap[w.heap.size + 2]? = some o3 ∧ W.heap[w.heap.size + 3]? = some o4 ∧ Below w.heap.size w W := by
  refine ⟨_, rfl, ?_, ?_, ?_, ?_, ((((Below.refl _ _).alloc (Nat.le_refl _) _).alloc (by simp) _).alloc (by simp; omega) _).alloc (by simp; omega) _⟩
  · rw [Below.heap_alloc _ _ _ (by simp; omega), Below.heap_alloc _ _ _ (by simp; omega), Below.heap_alloc _ _ _ (by simp)]; exact heap_alloc_new w o1
  · rw [Below.heap_alloc _ _ _ (by simp), Below.heap_alloc _ _ _ (by simp)]; simpa using heap_alloc_new (w.alloc o1) o2
  · rw [Below.heap_alloc _ _ _ (by simp)]; simpa using heap_alloc_new ((w.alloc o1).alloc o2) o3
  · simpa using heap_alloc_new (((w.alloc o1).alloc o2).alloc o3) o4
end Go.Proofs.YtehnbalbpfmijaaGreatDoor

namespace Go.Proofs.YtehnbalbpfmijaaGreatDoor
open Go.RowKit
set_option linter.unusedVariables false

/-- The second cell of a domino. -/
def sndX (x : Int) (d : Bool) : Int := if d then x else wrap64 (x + 1)
def sndY (y : Int) (d : Bool) : Int := if d then wrap64 (y + 1) else y
def domB (x y : Int) (d : Bool) : Bool := spotB 7 x y && spotB 7 (sndX x d) (sndY y d)

set_option maxHeartbeats 1000000 in
/-- Two result variables of two cells each are written, in either order. -/
theorem two_stores {w V : World} {a b : Nat} {p q r t : Value} {ty : TypeId} {p' q' r' t' : Value} (K1 : V.heap[a]? = some (.cells #[p', q'] ty (0, 0))) (K2 : V.heap[b]? = some (.cells #[r', t'] ty (0, 0))) (hab : a ≠ b) (ha : w.heap.size ≤ a) (hb : w.heap.size ≤ b) (HB : Below w.heap.size w V) :
    ∀ X, X = (((V.setCell ⟨a, 0, none⟩ p).setCell ⟨a, 1, none⟩ q).setCell ⟨b, 0, none⟩ r).setCell ⟨b, 1, none⟩ t → X.cell? ⟨a, 0, none⟩ = some p ∧ X.cell? ⟨a, 1, none⟩ = some q ∧ X.cell? ⟨b, 0, none⟩ = some r ∧ X.cell? ⟨b, 1, none⟩ = some t ∧ Below w.heap.size w X := by
  rintro X rfl
  have h1 := blk_setCell (k := 1) (blk_setCell (k := 0) K1 p) q
  have h1' : ((((V.setCell ⟨a, 0, none⟩ p).setCell ⟨a, 1, none⟩ q).setCell ⟨b, 0, none⟩ r).setCell ⟨b, 1, none⟩ t).heap[a]? = some (.cells ((#[p', q'].setIfInBounds 0 p).setIfInBounds 1 q) ty (0, 0)) :=
    (Below.heap_setCell _ _ _ _ (by simpa using hab)).trans ((Below.heap_setCell _ _ _ _ (by simpa using hab)).trans h1)
  have h2 : ((V.setCell ⟨a, 0, none⟩ p).setCell ⟨a, 1, none⟩ q).heap[b]? = some (.cells #[r', t'] ty (0, 0)) :=
    (Below.heap_setCell _ _ _ _ (by simpa using Ne.symm hab)).trans ((Below.heap_setCell _ _ _ _ (by simpa using Ne.symm hab)).trans K2)
  have h2' := blk_setCell (k := 1) (blk_setCell (k := 0) h2 r) t
  exact ⟨by rw [blk_cell h1']; rfl, by rw [blk_cell h1']; rfl, by rw [blk_cell h2']; rfl, by rw [blk_cell h2']; rfl, (((HB.setCell ha _).setCell ha _).setCell hb _).setCell hb _⟩

set_option maxRecDepth 100000 in
set_option maxHeartbeats 4000000 in
theorem ends_any (x y : Int) (d : Bool) (w : World) :
    Calls Tryz.prog 35 #[triV x y d] w fun e w' => e = .returned (.tuple #[spotV x y, spotV (sndX x d) (sndY y d)]) ∧ Below w.heap.size w w' := by
  cases d
  · go_enter Tryz.func35, Tryz.ntmps35
    go_wp2_with fail
    obtain ⟨W, hW, k0, k1, k2, hb⟩ := three_alloc w (.cells #[.int .i64 x, .int .i64 y, .bool false] 51) (.cells #[.int .i64 0, .int .i64 0] 44) (.cells #[.int .i64 0, .int .i64 0] 44)
    rw [← hW]
    have c0 : W.drew.cell? ⟨w.heap.size, 0, none⟩ = some (.int .i64 x) := by show W.cell? _ = _; rw [blk_cell k0]; rfl
    have c1 : W.drew.cell? ⟨w.heap.size, 1, none⟩ = some (.int .i64 y) := by show W.cell? _ = _; rw [blk_cell k0]; rfl
    have d0 : W.cell? ⟨w.heap.size + 1, 0, none⟩ = some (.int .i64 0) := by rw [blk_cell k1]; rfl
    have d1 : W.cell? ⟨w.heap.size + 1, 1, none⟩ = some (.int .i64 0) := by rw [blk_cell k1]; rfl
    have d2 : W.cell? ⟨w.heap.size + 1 + 1, 0, none⟩ = some (.int .i64 0) := by rw [blk_cell k2]; rfl
    have d3 : W.cell? ⟨w.heap.size + 1 + 1, 1, none⟩ = some (.int .i64 0) := by rw [blk_cell k2]; rfl
    have f0 : ∀ o, W.frozen? ⟨w.heap.size + 1, o, none⟩ = false := fun o => blk_free k1
    have f2 : ∀ o, W.frozen? ⟨w.heap.size + 1 + 1, o, none⟩ = false := fun o => blk_free k2
    have g0 : W.cell? ⟨w.heap.size, 0, none⟩ = some (.int .i64 x) := by rw [blk_cell k0]; rfl
    have g1 : W.cell? ⟨w.heap.size, 1, none⟩ = some (.int .i64 y) := by rw [blk_cell k0]; rfl
    have T1 := Lib.hid (two_stores (w := w) (V := W.drew) (p := .int .i64 x) (q := .int .i64 y) (r := .int .i64 (sndX x false)) (t := .int .i64 (y)) k1 k2 (by omega) (by omega) (by omega) hb.drew)
    have hw1 : IntKind.i64.wrap (x + 1) = sndX x false := by rw [IntWalk.i64_left]; rfl
    clear hW k0 k1 k2 hb
    go_region_held3 (fun w' => w'.cell? ⟨w.heap.size, 0, none⟩ = some (.int .i64 x) ∧ w'.cell? ⟨w.heap.size, 1, none⟩ = some (.int .i64 y))
      (first
        | exact ⟨c0, c1⟩
        | (refine ⟨?_, ?_⟩ <;> go_simp))
      (first
        | fail)
    go_wp2_with fail
    generalize hX : ((((W.setCell ⟨w.heap.size + 1, 0, none⟩ (.int .i64 x)).setCell ⟨w.heap.size + 1, 1, none⟩ (.int .i64 y)).setCell ⟨w.heap.size + 1 + 1, 0, none⟩ (.int .i64 (sndX x false))).setCell ⟨w.heap.size + 1 + 1, 1, none⟩ (.int .i64 (y))).drew = X
    obtain ⟨r0, r1, r2, r3, r4⟩ := T1.out X hX.symm
    refine bodyPost_ret (v := .tuple #[spotV x y, spotV (sndX x false) (y)]) (by simp [results, Tryz.results35, go_sem, r0, r1, r2, r3]) rfl ⟨rfl, r4⟩
  · go_enter Tryz.func35, Tryz.ntmps35
    go_wp2_with fail
    obtain ⟨W, hW, k0, k1, k2, hb⟩ := three_alloc w (.cells #[.int .i64 x, .int .i64 y, .bool true] 51) (.cells #[.int .i64 0, .int .i64 0] 44) (.cells #[.int .i64 0, .int .i64 0] 44)
    rw [← hW]
    have c0 : W.drew.cell? ⟨w.heap.size, 0, none⟩ = some (.int .i64 x) := by show W.cell? _ = _; rw [blk_cell k0]; rfl
    have c1 : W.drew.cell? ⟨w.heap.size, 1, none⟩ = some (.int .i64 y) := by show W.cell? _ = _; rw [blk_cell k0]; rfl
    have d0 : W.cell? ⟨w.heap.size + 1, 0, none⟩ = some (.int .i64 0) := by rw [blk_cell k1]; rfl
    have d1 : W.cell? ⟨w.heap.size + 1, 1, none⟩ = some (.int .i64 0) := by rw [blk_cell k1]; rfl
    have d2 : W.cell? ⟨w.heap.size + 1 + 1, 0, none⟩ = some (.int .i64 0) := by rw [blk_cell k2]; rfl
    have d3 : W.cell? ⟨w.heap.size + 1 + 1, 1, none⟩ = some (.int .i64 0) := by rw [blk_cell k2]; rfl
    have f0 : ∀ o, W.frozen? ⟨w.heap.size + 1, o, none⟩ = false := fun o => blk_free k1
    have f2 : ∀ o, W.frozen? ⟨w.heap.size + 1 + 1, o, none⟩ = false := fun o => blk_free k2
    have g0 : W.cell? ⟨w.heap.size, 0, none⟩ = some (.int .i64 x) := by rw [blk_cell k0]; rfl
    have g1 : W.cell? ⟨w.heap.size, 1, none⟩ = some (.int .i64 y) := by rw [blk_cell k0]; rfl
    have T1 := Lib.hid (two_stores (w := w) (V := W.drew) (p := .int .i64 x) (q := .int .i64 y) (r := .int .i64 (x)) (t := .int .i64 (sndY y true)) k1 k2 (by omega) (by omega) (by omega) hb.drew)
    have hw1 : IntKind.i64.wrap (y + 1) = sndY y true := by rw [IntWalk.i64_left]; rfl
    clear hW k0 k1 k2 hb
    go_region_held3 (fun w' => w'.cell? ⟨w.heap.size, 0, none⟩ = some (.int .i64 x) ∧ w'.cell? ⟨w.heap.size, 1, none⟩ = some (.int .i64 y))
      (first
        | exact ⟨c0, c1⟩
        | (refine ⟨?_, ?_⟩ <;> go_simp))
      (first
        | fail)
    go_wp2_with fail
    generalize hX : ((((W.setCell ⟨w.heap.size + 1, 0, none⟩ (.int .i64 x)).setCell ⟨w.heap.size + 1, 1, none⟩ (.int .i64 y)).setCell ⟨w.heap.size + 1 + 1, 0, none⟩ (.int .i64 (x))).setCell ⟨w.heap.size + 1 + 1, 1, none⟩ (.int .i64 (sndY y true))).drew = X
    obtain ⟨r0, r1, r2, r3, r4⟩ := T1.out X hX.symm
    refine bodyPost_ret (v := .tuple #[spotV x y, spotV (x) (sndY y true)]) (by simp [results, Tryz.results35, go_sem, r0, r1, r2, r3]) rfl ⟨rfl, r4⟩
end Go.Proofs.YtehnbalbpfmijaaGreatDoor

namespace Go.Proofs.YtehnbalbpfmijaaGreatDoor
open Go.RowKit
set_option linter.unusedVariables false

/-- The number of a domino in the order. -/
def domM (x y : Nat) (d : Bool) : Nat := 2 ^ cix x y ||| (if d then 2 ^ cix x (y + 1) else 2 ^ cix (x + 1) y)
theorem domB_iff (x y : Int) (d : Bool) : domB x y d = true ↔ (0 ≤ x ∧ 0 ≤ y) ∧ if d then x ≤ 7 ∧ y ≤ 6 else x ≤ 6 ∧ y ≤ 7 := by
  unfold domB sndX sndY
  simp only [Bool.and_eq_true, spotB_iff]
  cases d
  · simp only [Bool.false_eq_true, if_false]
    constructor
    · rintro ⟨⟨⟨a, b⟩, c, e⟩, ⟨f, g⟩, h, i⟩
      have : wrap64 (x + 1) = x + 1 := IntWalk.wrap64_in _ (by omega)
      omega
    · rintro ⟨⟨a, b⟩, c, e⟩
      have : wrap64 (x + 1) = x + 1 := IntWalk.wrap64_in _ (by omega)
      omega
  · simp only [if_true]
    constructor
    · rintro ⟨⟨⟨a, b⟩, c, e⟩, ⟨f, g⟩, h, i⟩
      have : wrap64 (y + 1) = y + 1 := IntWalk.wrap64_in _ (by omega)
      omega
    · rintro ⟨⟨a, b⟩, c, e⟩
      have : wrap64 (y + 1) = y + 1 := IntWalk.wrap64_in _ (by omega)
      omega

set_option maxRecDepth 100000 in
set_option maxHeartbeats 2000000 in
theorem DominoOk_any (x y : Int) (d : Bool) (w : World) :
    Calls Tryz.prog 53 #[triV x y d] w fun e w' => e = .returned (.bool (domB x y d)) ∧ Below w.heap.size w w' := by
  have HF : Hid ((spotB 7 x y && spotB 7 (sndX x d) (sndY y d)) = domB x y d) := rfl
  generalize domB x y d = r at *
  have HB0 : Hid (Below w.heap.size w (w.alloc (.cells #[.int .i64 x, .int .i64 y, .bool d] 51))) := (Below.refl _ _).alloc (Nat.le_refl _) _
  generalize hx2 : sndX x d = x2 at *
  generalize hy2 : sndY y d = y2 at *
  have HX2 := Lib.hid hx2; have HY2 := Lib.hid hy2
  clear hx2 hy2
  cases c1 : spotB 7 x y
  all_goals cases c2 : spotB 7 x2 y2
  all_goals
    rw [c1, c2] at HF
    go_enter Tryz.func53, Tryz.ntmps53
    go_wp2_with fail
    refine (ends_any x y d _).mono ?_
    rintro e w1 ⟨rfl, hb1⟩
    rw [HX2.out, HY2.out]
    have HB1 := Lib.hid (HB0.out.trans (hb1.mono HB0.out.size))
    clear hb1
    go_wp2_with fail
    obtain ⟨W, hW, k1, k2, hb2⟩ := two_alloc w1 (.cells #[.int .i64 x, .int .i64 y] 44) (.cells #[.int .i64 x2, .int .i64 y2] 44)
    rw [← hW]
    have HB2 := Lib.hid (HB1.out.trans (hb2.mono HB1.out.size))
    have K2 := Lib.hid k2
    clear hW hb2 k1 k2
    refine (CellOk_any _ _ _).mono ?_
    rintro e w3 ⟨rfl, hb3⟩
    rw [c1]
    have k3 := blk_below K2.out hb3
    have HB3 := Lib.hid (HB2.out.trans (hb3.mono HB2.out.size))
    have e2 : w3.cell? ⟨w1.heap.size + 1, 0, none⟩ = some (.int .i64 x2) := by rw [blk_cell k3]; rfl
    have e3 : w3.cell? ⟨w1.heap.size + 1, 1, none⟩ = some (.int .i64 y2) := by rw [blk_cell k3]; rfl
    clear k3 hb3
    go_wp2_with fail
    first
      | (go_ret; exact ⟨ret_bool HF.out, HB3.out⟩)
      | (refine (CellOk_any _ _ _).mono ?_
         rintro e w4 ⟨rfl, hb4⟩
         rw [c2]
         go_wp2_with fail
         go_ret
         exact ⟨ret_bool HF.out, HB3.out.trans (hb4.mono HB3.out.size)⟩)

/-- Two cells of two numbers each, in a world that grows. -/
abbrev TwoC (W w' : World) (a b : Nat) (x y x2 y2 : Int) : Prop := w'.cell? ⟨a, 0, none⟩ = some (.int .i64 x) ∧ w'.cell? ⟨a, 1, none⟩ = some (.int .i64 y) ∧ w'.cell? ⟨b, 0, none⟩ = some (.int .i64 x2) ∧ w'.cell? ⟨b, 1, none⟩ = some (.int .i64 y2) ∧ W.heap.size ≤ w'.heap.size ∧ Below W.heap.size W w'
theorem TwoC.keep {W W0 w1 : World} {a b : Nat} {x y x2 y2 : Int} (hb : Below W0.heap.size W0 w1) (ha : a < W.heap.size) (hbb : b < W.heap.size) (h : TwoC W W0 a b x y x2 y2) : TwoC W w1 a b x y x2 y2 := by
  obtain ⟨h1, h2, h3, h4, h5, h6⟩ := h
  exact ⟨(hb.cell (by simp; omega)).trans h1, (hb.cell (by simp; omega)).trans h2, (hb.cell (by simp; omega)).trans h3, (hb.cell (by simp; omega)).trans h4, Nat.le_trans h5 hb.size, h6.trans (hb.mono h5)⟩
theorem TwoC.drew {W W0 : World} {a b : Nat} {x y x2 y2 : Int} (h : TwoC W W0 a b x y x2 y2) : TwoC W W0.drew a b x y x2 y2 := ⟨h.1, h.2.1, h.2.2.1, h.2.2.2.1, h.2.2.2.2.1, h.2.2.2.2.2.drew⟩
theorem orU (a b : Nat) (ha : a < 18446744073709551616) (hb : b < 18446744073709551616) : a ||| b < 18446744073709551616 := Nat.or_lt_two_pow (n := 64) ha hb
theorem domM_lt (x y : Nat) (d : Bool) (h : domB x y d = true) : domM x y d < 18446744073709551616 := by
  have hd := (domB_iff _ _ _).1 h
  have hp : ∀ k, k ≤ 63 → 2 ^ k < 18446744073709551616 := fun k hk => Nat.pow_lt_pow_right (a := 2) (m := k) (n := 64) (by omega) (by omega)
  unfold domM
  refine orU _ _ (hp _ (by unfold cix; cases d <;> simp at hd <;> omega)) ?_
  cases d
  · simp at hd ⊢; exact hp _ (by unfold cix; omega)
  · simp at hd ⊢; exact hp _ (by unfold cix; omega)
set_option maxRecDepth 100000 in
set_option maxHeartbeats 2000000 in
theorem dset_any (x y : Nat) (d : Bool) (w : World) (h : domB x y d = true) :
    Calls Tryz.prog 71 #[triV x y d] w fun e w' => e = .returned (.int .u64 (domM x y d : Nat)) ∧ Below w.heap.size w w' := by
  have hd := (domB_iff _ _ _).1 h
  obtain ⟨x2, y2, hx2, hy2, b1, b2, b3, b4, HM⟩ : ∃ x2 y2 : Nat, sndX x d = (x2 : Int) ∧ sndY y d = (y2 : Int) ∧ x ≤ 7 ∧ y ≤ 7 ∧ x2 ≤ 7 ∧ y2 ≤ 7 ∧ Hid ((0 ||| 2 ^ cix x y) ||| 2 ^ cix x2 y2 = domM x y d) := by
    cases d
    · simp at hd
      refine ⟨x + 1, y, ?_, rfl, by omega, by omega, by omega, by omega, ?_⟩
      · have : wrap64 ((x : Int) + 1) = (x : Int) + 1 := IntWalk.wrap64_in _ (by omega)
        simp [sndX, this]
      · unfold Hid domM; simp
    · simp at hd
      refine ⟨x, y + 1, rfl, ?_, by omega, by omega, by omega, by omega, ?_⟩
      · have : wrap64 ((y : Int) + 1) = (y : Int) + 1 := IntWalk.wrap64_in _ (by omega)
        simp [sndY, this]
      · unfold Hid domM; simp
  have HX2 := Lib.hid hx2; have HY2 := Lib.hid hy2
  have hk : cix x y ≤ 63 := by unfold cix; omega
  have hT : 0 ||| 2 ^ cix x y < 18446744073709551616 := with_lt (by omega) hk
  have HB0 : Hid (Below w.heap.size w (w.alloc (.cells #[.int .i64 (x : Int), .int .i64 (y : Int), .bool d] 51))) := (Below.refl _ _).alloc (Nat.le_refl _) _
  clear hx2 hy2 hd h
  go_enter Tryz.func71, Tryz.ntmps71
  go_wp2_with fail
  refine (ends_any x y d _).mono ?_
  rintro e w1 ⟨rfl, hb1⟩
  rw [HX2.out, HY2.out]
  have HB1 := Lib.hid (HB0.out.trans (hb1.mono HB0.out.size))
  clear hb1
  go_wp2_with fail
  obtain ⟨W, hW, k1, k2, hb2⟩ := two_alloc w1 (.cells #[.int .i64 (x : Int), .int .i64 (y : Int)] 44) (.cells #[.int .i64 (x2 : Int), .int .i64 (y2 : Int)] 44)
  rw [← hW]
  have HB2 := Lib.hid (HB1.out.trans (hb2.mono HB1.out.size))
  have HS : Hid (TwoC W W w1.heap.size (w1.heap.size + 1) x y x2 y2) :=
    ⟨by rw [blk_cell k1]; rfl, by rw [blk_cell k1]; rfl, by rw [blk_cell k2]; rfl, by rw [blk_cell k2]; rfl, Nat.le_refl _, Below.refl _ _⟩
  have L1 := Lib.hid (lt_of_block k1)
  have L2 := Lib.hid (lt_of_block k2)
  clear hW hb2 k1 k2
  obtain ⟨T1, HT1⟩ : ∃ T1 : Nat, Hid ((0 ||| 2 ^ cix x y : Nat) = T1) := ⟨_, rfl⟩
  rw [HT1.out] at HM hT
  have hC1 : Hid (∀ V, Calls Tryz.prog 88 #[.int .u64 0, spotV x y] V fun e w' => e = .returned (.int .u64 (T1 : Int)) ∧ Below V.heap.size V w') := fun V => by
    have h1 := with_yes 0 x y (by omega) b1 b2 V
    rw [HT1.out] at h1
    exact h1
  have hC2 : Hid (∀ V, Calls Tryz.prog 88 #[.int .u64 (T1 : Int), spotV x2 y2] V fun e w' => e = .returned (.int .u64 (domM x y d : Nat)) ∧ Below V.heap.size V w') := fun V => by
    have h1 := with_yes T1 x2 y2 hT b3 b4 V
    rw [HM.out] at h1
    exact h1
  go_region_held3 (fun w' => TwoC W w' w1.heap.size (w1.heap.size + 1) x y x2 y2)
      (first
        | exact HS.out.drew
        | exact TwoC.keep hb4 L1.out L2.out (by assumption))
      (first
        | (go_at_call 88; (with_reducible refine (hC1.out _).mono ?_); rintro e w4 ⟨rfl, hb4⟩)
        | (go_at_call 88; (with_reducible refine (hC2.out _).mono ?_); rintro e w4 ⟨rfl, hb4⟩))
  have HB4 := Lib.hid (HB2.out.trans ((show TwoC W w4 w1.heap.size (w1.heap.size + 1) x y x2 y2 from by assumption).2.2.2.2.2.mono HB2.out.size))
  go_wp2_with fail
  go_ret
  exact ⟨rfl, HB4.out⟩

/-- The number of a domino in the order. -/
def domO (x y : Nat) (d : Bool) : Nat := 2 * cix x y + if d then 1 else 0
set_option maxRecDepth 100000 in
set_option maxHeartbeats 2000000 in
theorem order_any (x y : Nat) (d : Bool) (w : World) (h : domB x y d = true) :
    Calls Tryz.prog 66 #[triV x y d] w fun e w' => e = .returned (.int .i64 (domO x y d : Nat)) ∧ Below w.heap.size w w' := by
  have hd := (domB_iff _ _ _).1 h
  have b1 : x ≤ 7 := by cases d <;> simp at hd <;> omega
  have b2 : y ≤ 7 := by cases d <;> simp at hd <;> omega
  have hk : cix x y ≤ 63 := by unfold cix; omega
  have HM : Hid (2 * ((cix x y : Nat) : Int) + (if d then 1 else 0) = ((domO x y d : Nat) : Int)) := by unfold Hid domO; cases d <;> simp
  obtain ⟨k, HK⟩ : ∃ k, Hid (cix x y = k) := ⟨_, rfl⟩
  rw [HK.out] at hk HM
  clear hd h
  obtain ⟨W, hW, k1, hb⟩ := one_alloc w (.cells #[.int .i64 (x : Int), .int .i64 (y : Int), .bool d] 51)
  have HBW := Lib.hid hb
  have HK1 := Lib.hid k1
  have HWW := Lib.hid hW
  clear hW k1 hb
  go_enter Tryz.func66, Tryz.ntmps66
  go_wp2_with fail
  rw [← HWW.out]
  refine (CellIndex_yes x y b1 b2 _).mono ?_
  rintro e w1 ⟨rfl, hb1⟩
  rw [HK.out]
  have k2 := blk_below HK1.out hb1
  have HB := Lib.hid (HBW.out.trans (hb1.mono HBW.out.size))
  have e1 : w1.cell? ⟨w.heap.size, 2, none⟩ = some (.bool d) := by rw [blk_cell k2]; rfl
  clear k2 hb1
  cases d
  all_goals
    go_wp2_with fail
    go_ret
    exact ⟨ret_int (by have := HM.out; simp at this; omega), HB.out⟩
end Go.Proofs.YtehnbalbpfmijaaGreatDoor

namespace Go.Proofs.YtehnbalbpfmijaaGreatDoor
open Go.RowKit
set_option linter.unusedVariables false

/-- A domino is ahead of another one. -/
def domLt (a b : Lk) : Bool := domB a.1 a.2.1 a.2.2 && domB b.1 b.2.1 b.2.2 && decide (domO a.1.toNat a.2.1.toNat a.2.2 < domO b.1.toNat b.2.1.toNat b.2.2)
theorem order_Z (x y : Int) (d : Bool) (w : World) (h : domB x y d = true) :
    Calls Tryz.prog 66 #[triV x y d] w fun e w' => e = .returned (.int .i64 (domO x.toNat y.toNat d : Nat)) ∧ Below w.heap.size w w' := by
  have hd := (domB_iff _ _ _).1 h
  obtain ⟨a, rfl⟩ := Int.eq_ofNat_of_zero_le hd.1.1
  obtain ⟨b, rfl⟩ := Int.eq_ofNat_of_zero_le hd.1.2
  exact order_any a b d w h
abbrev triO (x y : Int) (d : Bool) (t : TypeId) : Obj := .cells #[.int .i64 x, .int .i64 y, .bool d] t
/-- Two structs of three fields, in a world that grows. -/
abbrev TwoT (W w' : World) (a b : Nat) (p q : Lk) : Prop :=
  w'.cell? ⟨a, 0, none⟩ = some (.int .i64 p.1) ∧ w'.cell? ⟨a, 1, none⟩ = some (.int .i64 p.2.1) ∧ w'.cell? ⟨a, 2, none⟩ = some (.bool p.2.2) ∧
  w'.cell? ⟨b, 0, none⟩ = some (.int .i64 q.1) ∧ w'.cell? ⟨b, 1, none⟩ = some (.int .i64 q.2.1) ∧ w'.cell? ⟨b, 2, none⟩ = some (.bool q.2.2) ∧ W.heap.size ≤ w'.heap.size ∧ Below W.heap.size W w'
theorem TwoT.keep {W W0 w1 : World} {a b : Nat} {p q : Lk} (hb : Below W0.heap.size W0 w1) (ha : a < W.heap.size) (hbb : b < W.heap.size) (h : TwoT W W0 a b p q) : TwoT W w1 a b p q := by
  obtain ⟨h1, h2, h3, h4, h5, h6, h7, h8⟩ := h
  exact ⟨(hb.cell (by simp; omega)).trans h1, (hb.cell (by simp; omega)).trans h2, (hb.cell (by simp; omega)).trans h3, (hb.cell (by simp; omega)).trans h4, (hb.cell (by simp; omega)).trans h5, (hb.cell (by simp; omega)).trans h6, Nat.le_trans h7 hb.size, h8.trans (hb.mono h7)⟩
theorem TwoT.drew {W W0 : World} {a b : Nat} {p q : Lk} (h : TwoT W W0 a b p q) : TwoT W W0.drew a b p q := ⟨h.1, h.2.1, h.2.2.1, h.2.2.2.1, h.2.2.2.2.1, h.2.2.2.2.2.1, h.2.2.2.2.2.2.1, h.2.2.2.2.2.2.2.drew⟩
theorem TwoT.of {w W : World} {a b : Nat} {p q : Lk} {t t' : TypeId} (k1 : W.heap[a]? = some (triO p.1 p.2.1 p.2.2 t)) (k2 : W.heap[b]? = some (triO q.1 q.2.1 q.2.2 t')) : TwoT W W a b p q :=
  ⟨by rw [blk_cell k1]; rfl, by rw [blk_cell k1]; rfl, by rw [blk_cell k1]; rfl, by rw [blk_cell k2]; rfl, by rw [blk_cell k2]; rfl, by rw [blk_cell k2]; rfl, Nat.le_refl _, Below.refl _ _⟩

set_option maxRecDepth 100000 in
set_option maxHeartbeats 4000000 in
theorem Before_any (x y : Int) (d : Bool) (x' y' : Int) (d' : Bool) (w : World) :
    Calls Tryz.prog 80 #[triV x y d, triV x' y' d'] w fun e w' => e = .returned (.bool (domLt (x, y, d) (x', y', d'))) ∧ Below w.heap.size w w' := by
  obtain ⟨W, hW, k1, k2, hb⟩ := two_alloc w (triO x y d 51) (triO x' y' d' 51)
  have HW := Lib.hid hW
  have HB := Lib.hid hb
  have HS := Lib.hid (TwoT.of (w := w) (p := (x, y, d)) (q := (x', y', d')) k1 k2)
  have L1 := Lib.hid (lt_of_block k1)
  have L2 := Lib.hid (lt_of_block k2)
  clear hW k1 k2 hb
  cases h1 : domB x y d
  · have HF : Hid (false = domLt (x, y, d) (x', y', d')) := by unfold Hid domLt; simp [h1]
    generalize domLt (x, y, d) (x', y', d') = r at *
    have H1 := Lib.hid h1; clear h1
    go_enter Tryz.func80, Tryz.ntmps80
    go_wp2_with fail
    rw [← HW.out]
    obtain ⟨f1, f2, f3, f4, f5, f6, _, _⟩ := HS.out
    go_region_law (first
      | (go_simp; go_at_call 53; refine (DominoOk_any _ _ _ _).mono ?_; rintro e w1 ⟨rfl, hb1⟩; rw [H1.out]))
    all_goals
      go_wp2_with fail
      go_ret
      exact ⟨ret_bool HF.out, HB.out.trans ((Below.refl _ W).drew.trans (hb1.mono (Nat.le_refl _)) |>.mono HB.out.size)⟩
  · have H1 := Lib.hid h1
    cases h2 : domB x' y' d'
    · have HF : Hid (false = domLt (x, y, d) (x', y', d')) := by unfold Hid domLt; simp [h2]
      generalize domLt (x, y, d) (x', y', d') = r at *
      have H2 := Lib.hid h2; clear h1 h2
      go_enter Tryz.func80, Tryz.ntmps80
      go_wp2_with fail
      rw [← HW.out]
      obtain ⟨f1, f2, f3, f4, f5, f6, _, _⟩ := HS.out
      have HT0 := Lib.hid HS.out.drew
      go_region_law (first
        | (go_simp; go_at_call 53; (with_reducible refine (DominoOk_any x y d _).mono ?_); rintro e w1 ⟨rfl, hb1⟩; rw [H1.out]; have HT1 := Lib.hid (TwoT.keep hb1 L1.out L2.out HT0.out); obtain ⟨g1, g2, g3, g4, g5, g6, _, _⟩ := HT1.out)
        | (go_simp; go_at_call 53; (with_reducible refine (DominoOk_any x' y' d' _).mono ?_); rintro e w2 ⟨rfl, hb2⟩; rw [H2.out]; have HT2 := Lib.hid (TwoT.keep hb2 L1.out L2.out HT1.out)))
      all_goals
        go_wp2_with fail
        go_ret
        exact ⟨ret_bool HF.out, HB.out.trans (HT2.out.2.2.2.2.2.2.2.mono HB.out.size)⟩
    · have HF : Hid (decide (domO x.toNat y.toNat d < domO x'.toNat y'.toNat d') = domLt (x, y, d) (x', y', d')) := by unfold Hid domLt; simp [h1, h2]
      have H2 := Lib.hid h2
      have hC1 := Lib.hid fun V => order_Z x y d V h1
      have hC2 := Lib.hid fun V => order_Z x' y' d' V h2
      generalize domLt (x, y, d) (x', y', d') = r at *
      generalize domO x.toNat y.toNat d = n1 at *
      generalize domO x'.toNat y'.toNat d' = n2 at *
      clear h1 h2
      go_enter Tryz.func80, Tryz.ntmps80
      go_wp2_with fail
      rw [← HW.out]
      go_region_held3 (fun w' => TwoT W w' w.heap.size (w.heap.size + 1) (x, y, d) (x', y', d'))
        (first
          | exact HS.out.drew
          | exact TwoT.keep hb1 L1.out L2.out (by assumption))
        (first
          | (go_at_call 53; (with_reducible refine (DominoOk_any x y d _).mono ?_); rintro e w1 ⟨rfl, hb1⟩; rw [H1.out])
          | (go_at_call 53; (with_reducible refine (DominoOk_any x' y' d' _).mono ?_); rintro e w1 ⟨rfl, hb1⟩; rw [H2.out])
          | (go_at_call 66; (with_reducible refine (hC1.out _).mono ?_); rintro e w1 ⟨rfl, hb1⟩)
          | (go_at_call 66; (with_reducible refine (hC2.out _).mono ?_); rintro e w1 ⟨rfl, hb1⟩))
      have HB4 := Lib.hid (HB.out.trans ((show TwoT W w1 w.heap.size (w.heap.size + 1) (x, y, d) (x', y', d') from by assumption).2.2.2.2.2.2.2.mono HB.out.size))
      go_wp2_with fail
      go_ret
      exact ⟨ret_bool HF.out, HB4.out⟩
end Go.Proofs.YtehnbalbpfmijaaGreatDoor

namespace Go.Proofs.YtehnbalbpfmijaaGreatDoor
open Go.RowKit

def MarkDominoPost (w : World) (lo : Nat) (v : Value) (n : Nat) (k : Int) (e : Ending) (w' : World) : Prop :=
  e = .returned (.int .i64 (k + 3 * (n : Int))) ∧ OwnF elDomino w' lo v (triIota k n) ∧ w.grownBy w' v.ownBlock

end Go.Proofs.YtehnbalbpfmijaaGreatDoor

namespace Go.Proofs.YtehnbalbpfmijaaGreatDoor
open Go.RowKit
set_option linter.unusedVariables false

/-- Domino j of a list, and its cells. -/
def dAt (ls : List Lk) (j : Nat) : Lk := (lx ls j, ly ls j, ld ls j)
def domL (l : Lk) : Bool := domB l.1 l.2.1 l.2.2
def dM (l : Lk) : Nat := domM l.1.toNat l.2.1.toNat l.2.2
def covTo (ls : List Lk) : Nat → Nat
  | 0 => 0
  | k + 1 => if domL (dAt ls k) then covTo ls k ||| dM (dAt ls k) else covTo ls k
theorem dset_Z (x y : Int) (d : Bool) (w : World) (h : domB x y d = true) :
    Calls Tryz.prog 71 #[triV x y d] w fun e w' => e = .returned (.int .u64 (dM (x, y, d) : Nat)) ∧ Below w.heap.size w w' := by
  have hd := (domB_iff _ _ _).1 h
  obtain ⟨a, rfl⟩ := Int.eq_ofNat_of_zero_le hd.1.1
  obtain ⟨b, rfl⟩ := Int.eq_ofNat_of_zero_le hd.1.2
  exact dset_any a b d w h
theorem dM_lt {l : Lk} (h : domL l = true) : dM l < 18446744073709551616 := by
  obtain ⟨x, y, d⟩ := l
  have hd := (domB_iff _ _ _).1 h
  obtain ⟨a, rfl⟩ := Int.eq_ofNat_of_zero_le hd.1.1
  obtain ⟨b, rfl⟩ := Int.eq_ofNat_of_zero_le hd.1.2
  exact domM_lt a b d h
theorem covTo_lt (ls : List Lk) : ∀ k, covTo ls k < 18446744073709551616
  | 0 => by simp [covTo]
  | k + 1 => by
    rw [covTo]
    split
    · rename_i h; exact orU _ _ (covTo_lt ls k) (dM_lt h)
    · exact covTo_lt ls k
/-- One struct of three fields, in a world that grows. -/
abbrev OneT (W w' : World) (a : Nat) (x y : Int) (d : Bool) : Prop := w'.cell? ⟨a, 0, none⟩ = some (.int .i64 x) ∧ w'.cell? ⟨a, 1, none⟩ = some (.int .i64 y) ∧ w'.cell? ⟨a, 2, none⟩ = some (.bool d) ∧ W.heap.size ≤ w'.heap.size ∧ Below W.heap.size W w'
theorem OneT.keep {W W0 w1 : World} {a : Nat} {x y : Int} {d : Bool} (hb : Below W0.heap.size W0 w1) (ha : a < W.heap.size) (h : OneT W W0 a x y d) : OneT W w1 a x y d := by
  obtain ⟨h1, h2, h3, h7, h8⟩ := h
  exact ⟨(hb.cell (by simp; omega)).trans h1, (hb.cell (by simp; omega)).trans h2, (hb.cell (by simp; omega)).trans h3, Nat.le_trans h7 hb.size, h8.trans (hb.mono h7)⟩
theorem OneT.drew {W W0 : World} {a : Nat} {x y : Int} {d : Bool} (h : OneT W W0 a x y d) : OneT W W0.drew a x y d := ⟨h.1, h.2.1, h.2.2.1, h.2.2.2.1, h.2.2.2.2.drew⟩
theorem OneT.of {W : World} {a : Nat} {x y : Int} {d : Bool} {t : TypeId} (k1 : W.heap[a]? = some (triO x y d t)) : OneT W W a x y d :=
  ⟨by rw [blk_cell k1]; rfl, by rw [blk_cell k1]; rfl, by rw [blk_cell k1]; rfl, Nat.le_refl _, Below.refl _ _⟩

set_option maxRecDepth 100000 in
set_option maxHeartbeats 4000000 in
theorem covered_any (v : Value) (ls : List Lk) (B : Nat) (w : World) (h : RdF elDomino w B v ls) (hB : B ≤ w.heap.size) :
    Calls Tryz.prog 64 #[v] w fun e w' => e = .returned (.int .u64 (covTo ls ls.length : Nat)) ∧ Below w.heap.size w w' := by
  obtain ⟨A, c, rfl, g1, g2, G3⟩ := RdT.of (E := elDomino) rfl (fun _ => rfl) h
  unfold maxLen at g2
  clear h
  go_enter Tryz.func64, Tryz.ntmps64
  go_wp2_with fail
  go_loopw [3, 8] (fun s i wr => ∃ k : Nat, k ≤ ls.length ∧ i = .int .i64 k ∧ s = .int .u64 (covTo ls k : Nat) ∧ Hid (Below w.heap.size w wr)) (fun _ i _ => ls.length - (intOf i).toNat)
  case atStart => exact ⟨0, Nat.zero_le _, rfl, rfl, Below.refl _ _⟩
  case round =>
    obtain ⟨k, hk, rfl, rfl, HB⟩ := hrel
    by_cases hlt : k < ls.length
    · obtain ⟨ad, rfl, hbl, hx, hy, hz⟩ := G3.out k hlt
      have hbl2 : (ad.add (k * 3)).block < w.heap.size := by rw [addBlock]; omega
      have hx' := (HB.out.cell (p := ad.add (k * 3)) hbl2).trans hx
      have hy' := (HB.out.cell (p := ⟨(ad.add (k * 3)).block, (ad.add (k * 3)).off + 1, none⟩) hbl2).trans hy
      have hz' := (HB.out.cell (p := ⟨(ad.add (k * 3)).block, (ad.add (k * 3)).off + 2, none⟩) hbl2).trans hz
      have HT : Hid (covTo ls (k + 1) = if domB (lx ls k) (ly ls k) (ld ls k) then covTo ls k ||| dM (lx ls k, ly ls k, ld ls k) else covTo ls k) := rfl
      have HCL := Lib.hid (covTo_lt ls k)
      have HDL := Lib.hid (fun h => dM_lt (l := (lx ls k, ly ls k, ld ls k)) h)
      have HDS := Lib.hid (fun V h => dset_Z (lx ls k) (ly ls k) (ld ls k) V h)
      generalize lx ls k = x at *
      generalize ly ls k = y at *
      generalize ld ls k = d at *
      clear hx hy hz
      go_wp2_with fail
      obtain ⟨W, hW, k1, hbW⟩ := one_alloc wr (triO x y d 51)
      rw [← hW]
      have hT0 := OneT.of k1
      have HT0 := Lib.hid hT0
      have L1 := Lib.hid (lt_of_block k1)
      have HBW := Lib.hid (HB.out.trans (hbW.mono HB.out.size))
      clear hW k1 hbW hx' hy' hz' hT0
      refine (DominoOk_any x y d _).mono ?_
      rintro e w1 ⟨rfl, hb1⟩
      have hT1 := OneT.keep hb1 L1.out HT0.out
      have HB1 := Lib.hid (HBW.out.trans (hb1.mono HBW.out.size))
      obtain ⟨f1, f2, f3, _, _⟩ := hT1
      clear hb1
      cases hd : domB x y d
      · have HE : Hid (covTo ls (k + 1) = covTo ls k) := by unfold Hid; rw [HT.out, hd]; rfl
        clear HT
        go_wp2_with fail
        go_roundw
        case rel => exact ⟨k + 1, by omega, by go_num, by rw [HE.out], HB1⟩
        case measure => simp [intOf]; omega
      · have HE : Hid (covTo ls (k + 1) = covTo ls k ||| dM (x, y, d)) := by unfold Hid; rw [HT.out, hd]; rfl
        have HD1 := Lib.hid hd
        have HO := Lib.hid (u64_or_nat _ _ HCL.out (HDL.out hd))
        clear HT hd
        go_wp2_with fail
        refine (HDS.out _ HD1.out).mono ?_
        rintro e w2 ⟨rfl, hb2⟩
        have HB2 := Lib.hid (HB1.out.trans (hb2.mono HB1.out.size))
        go_wp2_with fail
        go_roundw
        case rel => exact ⟨k + 1, by omega, by go_num, by rw [HE.out, HO.out], HB2⟩
        case measure => simp [intOf]; omega
    · have HK : Hid (k = ls.length) := by unfold Hid; omega
      go_wp2_with fail
      go_ret
      exact ⟨congrArg (fun n : Nat => Ending.returned (.int .u64 (covTo ls n : Int))) HK.out, HB.out⟩
end Go.Proofs.YtehnbalbpfmijaaGreatDoor
