/- What the claim's walk rests on: parts Drawn, Ints, Box, IntS, OwnS, IntSS, Grown, Append, Aft, Flat. -/
import Derived.Test.YtehnbalbpfmijaaBasic
import Derived.Test.YtehnbalbpfmijaaMem
import Derived.IntWalk
import Derived.Below
import Derived.Deep.QuietTactic
import Derived.BigQuiet
import Derived.Deep.Draws
import Derived.Laws.MakeOwn
import Derived.Deep.OwnRows
import Derived.Deep.AppendLies
import Derived.Maps.AppendAt
import Derived.OwnWalk
import Derived.Laws.AppendOwn
namespace Go.Proofs.Ytehnbalbpfmijaa
open Go.RowKit

def Drawn (w w' : World) : Prop := ∃ n, w' = w.drewN n
theorem Drawn.refl (w : World) : Drawn w w := ⟨0, rfl⟩
theorem Drawn.more {w w' : World} (h : Drawn w w') (n : Nat) : Drawn w (w'.drewN n) := by
  obtain ⟨m, rfl⟩ := h
  exact ⟨m + n, by rw [World.drewN_drewN]⟩
theorem Drawn.drew {w w' : World} (h : Drawn w w') : Drawn w w'.drew := h.more 1
theorem Drawn.trans {a b c : World} (h : Drawn a b) (k : Drawn b c) : Drawn a c := by
  obtain ⟨m, rfl⟩ := k; exact h.more m
theorem Drawn.below {w w' : World} (h : Drawn w w') (B : Nat) : Below B w w' := by
  obtain ⟨n, rfl⟩ := h; exact ⟨rfl, rfl, rfl, Nat.le_refl _, fun _ _ => rfl⟩

theorem quo_bd (x y : Nat) : 0 ≤ (x : Int) / (y : Int) ∧ (x : Int) / (y : Int) ≤ (x : Int) := by
  have h : x / y ≤ x := Nat.div_le_self x y
  have h0 : 0 ≤ ((x / y : Nat) : Int) := Int.natCast_nonneg _
  have h1 : ((x / y : Nat) : Int) ≤ (x : Int) := Int.ofNat_le.2 h
  rw [Int.natCast_ediv] at h0 h1
  exact ⟨h0, h1⟩

end Go.Proofs.Ytehnbalbpfmijaa

namespace Go.Proofs.Ytehnbalbpfmijaa
open Go.RowKit

/-- A new block reads as what it holds. -/
theorem rd_new (w : World) (cs : Array Value) (t : TypeId) : Rd (w.alloc (.cells cs t)) (w.heap.size + 1) (some ⟨w.heap.size, 0, none⟩) cs.toList :=
  fun _ => ⟨_, rfl, Nat.lt_succ_self _, World.news_of_block (heap_alloc_new w _)⟩

/-- All numbers from the k-th on lie in a range. -/
def allB (zs : List Int) (a b : Int) : Bool := zs.all fun z => inB z a b
theorem allB_drop (zs : List Int) (a b : Int) (k : Nat) (hk : k < zs.length) : allB (zs.drop k) a b = (inB zs[k] a b && allB (zs.drop (k + 1)) a b) := by
  unfold allB
  rw [List.drop_eq_getElem_cons hk, List.all_cons]

set_option maxHeartbeats 400000 in
theorem allWithin_any (v : Value) (zs : List Int) (a b : Int) (B : Nat) (w : World) (h : RdI w B v zs) :
    Calls Try.prog 172 #[v, .int .i64 a, .int .i64 b] w fun e w' => e = .returned (.bool (allB zs a b)) ∧ w = w' := by
  obtain ⟨A, c, rfl, h1, h2, h3⟩ := h
  unfold maxLen at h2
  generalize hr : allB zs a b = r
  have HR : Hid (allB (zs.drop 0) a b = r) := hr
  clear hr
  go_enter Try.func172, Try.ntmps172
  go_wp2
  go_loop [11] (fun i => ∃ k : Nat, k ≤ zs.length ∧ i = .int .i64 k ∧ Hid (allB (zs.drop k) a b = r)) (fun i => zs.length - (intOf i).toNat)
  case atStart => exact ⟨0, Nat.zero_le _, rfl, HR⟩
  case round =>
    obtain ⟨k, hk, rfl, HE⟩ := hrel
    by_cases hlt : k < zs.length
    · have hs := allB_drop zs a b k hlt
      obtain ⟨ad, rfl, hb, hc⟩ := h3.int hlt
      cases hi : inB zs[k] a b
      · have HF : Hid (r = false) := by unfold Hid; rw [← HE.out, hs, hi]; rfl
        clear hs
        go_wp2_with (go_at_call 70; refine (within_any _ _ _ _).mono ?_; rintro e w' ⟨rfl, rfl⟩)
        go_ret
        exact ⟨ret_bool HF.out.symm, rfl⟩
      · have HF : Hid (allB (zs.drop (k + 1)) a b = r) := by unfold Hid; rw [← HE.out, hs, hi]; rfl
        clear hs
        go_wp2_with (go_at_call 70; refine (within_any _ _ _ _).mono ?_; rintro e w' ⟨rfl, rfl⟩)
        go_round
        case rel => exact ⟨k + 1, by omega, by go_num, HF⟩
        case measure => simp [intOf]; omega
    · have HF : Hid (r = true) := by unfold Hid; rw [← HE.out, List.drop_of_length_le (by omega)]; rfl
      go_wp2
      go_ret
      exact ⟨ret_bool HF.out.symm, rfl⟩
end Go.Proofs.Ytehnbalbpfmijaa

namespace Go.Proofs.Ytehnbalbpfmijaa

/-- p holds from k up to n. -/
def upFrom (p : Nat → Bool) (k n : Nat) : Bool := (List.range' k (n - k)).all p
theorem upFrom_step (p : Nat → Bool) (k n : Nat) (h : k < n) : upFrom p k n = (p k && upFrom p (k + 1) n) := by
  unfold upFrom
  rw [show n - k = (n - (k + 1)) + 1 from by omega, List.range'_succ, List.all_cons]
theorem upFrom_end (p : Nat → Bool) (k n : Nat) (h : n ≤ k) : upFrom p k n = true := by
  unfold upFrom
  rw [show n - k = 0 from by omega]; rfl
theorem upFrom_iff (p : Nat → Bool) (k n : Nat) : upFrom p k n = true ↔ ∀ j, k ≤ j → j < n → p j = true := by
  unfold upFrom
  rw [List.all_eq_true]
  constructor
  · intro h j h1 h2; exact h j (by rw [List.mem_range'_1]; omega)
  · intro h j hj; rw [List.mem_range'_1] at hj; exact h j hj.1 (by omega)

/-- An element, a row. (Closed to simp.) -/
def el (zs : List Int) (k : Nat) : Int := zs.getD k 0
def rw' (zss : List (List Int)) (i : Nat) : List Int := zss.getD i []
theorem el_get (zs : List Int) (k : Nat) (h : k < zs.length) : el zs k = zs[k] := by simp [el, h]
theorem rw_get (zss : List (List Int)) (k : Nat) (h : k < zss.length) : rw' zss k = zss[k] := by simp [rw', h]

end Go.Proofs.Ytehnbalbpfmijaa

namespace Go.Proofs.Ytehnbalbpfmijaa
open Go.RowKit

def boxB (a b c : Int) : Bool := inB a 1 3 && inB b 1 3 && inB c 1 3
theorem boxB_iff (a b c : Int) : boxB a b c = true ↔ (1 ≤ a ∧ a ≤ 3) ∧ (1 ≤ b ∧ b ≤ 3) ∧ 1 ≤ c ∧ c ≤ 3 := by
  simp [boxB, inB_iff, and_assoc]

end Go.Proofs.Ytehnbalbpfmijaa

namespace Go.Proofs.Ytehnbalbpfmijaa

def fallB (zs : List Int) (k : Nat) : Bool := decide (0 < k) && decide (el zs (k - 1) < el zs k)
def overB (up zs : List Int) (i k : Nat) : Bool := decide (0 < i) && decide (el up k < el zs k)
/-- One row of a heap as the program looks at it. -/
def hrowB (b c : Int) (up zs : List Int) (i : Nat) : Bool :=
  decide ((zs.length : Int) = b) && allB zs 0 c && upFrom (fun k => !(fallB zs k || overB up zs i k)) 0 zs.length
def heapB (a b c : Int) (zss : List (List Int)) : Bool :=
  boxB a b c && decide ((zss.length : Int) = a) && upFrom (fun i => hrowB b c (rw' zss (i - 1)) (rw' zss i) i) 0 zss.length
/-- A row as the reference looks at it. -/
def rowB (b c : Int) (zs : List Int) : Bool :=
  upFrom (fun k => inB (el zs k) 0 c && !fallB zs k) 0 zs.length && (inB b 1 3 && inB c 1 3 && decide ((zs.length : Int) = b))
/-- The rows of paths that do not touch. -/
def apartB (b c : Int) (up low : List Int) : Bool := rowB b c up && rowB b c low && upFrom (fun k => !decide (el up k < el low k)) 0 b.toNat

theorem allB_up (zs : List Int) (a b : Int) : allB zs a b = true ↔ ∀ j, j < zs.length → inB (el zs j) a b = true := by
  unfold allB
  rw [List.all_eq_true]
  constructor
  · intro h j hj; rw [el_get zs j hj]; exact h _ (List.getElem_mem hj)
  · intro h z hz
    obtain ⟨j, hj, rfl⟩ := List.getElem_of_mem hz
    rw [← el_get zs j hj]; exact h j hj
theorem fallB_iff (zs : List Int) (k : Nat) : fallB zs k = false ↔ (0 < k → el zs k ≤ el zs (k - 1)) := by
  rw [fallB, Bool.and_eq_false_iff, decide_eq_false_iff_not, decide_eq_false_iff_not]; omega
theorem overB_iff (up zs : List Int) (i k : Nat) : overB up zs i k = false ↔ (0 < i → el zs k ≤ el up k) := by
  rw [overB, Bool.and_eq_false_iff, decide_eq_false_iff_not, decide_eq_false_iff_not]; omega
theorem hrowB_iff (b c : Int) (up zs : List Int) (i : Nat) : hrowB b c up zs i = true ↔
    (zs.length : Int) = b ∧ (∀ j, j < zs.length → 0 ≤ el zs j ∧ el zs j ≤ c) ∧ ∀ j, j < zs.length → (0 < j → el zs j ≤ el zs (j - 1)) ∧ (0 < i → el zs j ≤ el up j) := by
  simp only [hrowB, Bool.and_eq_true, decide_eq_true_eq, allB_up, inB_iff, upFrom_iff, Bool.not_eq_true', Bool.or_eq_false_iff, fallB_iff, overB_iff, Nat.zero_le, true_implies, and_assoc]
theorem rowB_iff (b c : Int) (zs : List Int) : rowB b c zs = true ↔
    (∀ j, j < zs.length → (0 ≤ el zs j ∧ el zs j ≤ c) ∧ (0 < j → el zs j ≤ el zs (j - 1))) ∧ (1 ≤ b ∧ b ≤ 3) ∧ (1 ≤ c ∧ c ≤ 3) ∧ (zs.length : Int) = b := by
  simp only [rowB, Bool.and_eq_true, decide_eq_true_eq, inB_iff, upFrom_iff, Bool.not_eq_true', fallB_iff, Nat.zero_le, true_implies, and_assoc]
theorem apartB_iff (b c : Int) (up low : List Int) : apartB b c up low = true ↔ rowB b c up = true ∧ rowB b c low = true ∧ ∀ j, j < b.toNat → el low j ≤ el up j := by
  simp only [apartB, Bool.and_eq_true, upFrom_iff, Bool.not_eq_true', decide_eq_false_iff_not, Int.not_lt, Nat.zero_le, true_implies, and_assoc]
theorem heapB_iff (a b c : Int) (zss : List (List Int)) : heapB a b c zss = true ↔
    ((1 ≤ a ∧ a ≤ 3) ∧ (1 ≤ b ∧ b ≤ 3) ∧ 1 ≤ c ∧ c ≤ 3) ∧ (zss.length : Int) = a ∧ ∀ i, i < zss.length → hrowB b c (rw' zss (i - 1)) (rw' zss i) i = true := by
  simp only [heapB, Bool.and_eq_true, boxB_iff, decide_eq_true_eq, upFrom_iff, Nat.zero_le, true_implies, and_assoc]
theorem apart_heap (b c : Int) (up low : List Int) : heapB 2 b c [up, low] = apartB b c up low := by
  rw [Bool.eq_iff_iff, heapB_iff, apartB_iff, rowB_iff, rowB_iff]
  constructor
  · rintro ⟨⟨_, hb, hc⟩, _, h⟩
    obtain ⟨l0, a0, f0⟩ := (hrowB_iff _ _ _ _ _).1 (h 0 (by simp))
    obtain ⟨l1, a1, f1⟩ := (hrowB_iff _ _ _ _ _).1 (h 1 (by simp))
    change (up.length : Int) = b at l0
    change (low.length : Int) = b at l1
    refine ⟨⟨fun j hj => ⟨a0 j hj, (f0 j hj).1⟩, hb, hc, l0⟩, ⟨fun j hj => ⟨a1 j hj, (f1 j hj).1⟩, hb, hc, l1⟩, fun j hj => (f1 j (show j < low.length by omega)).2 (by omega)⟩
  · rintro ⟨⟨p0, hb, hc, l0⟩, ⟨p1, _, _, l1⟩, hj⟩
    refine ⟨⟨by omega, hb, hc⟩, rfl, fun i hi => ?_⟩
    rw [hrowB_iff]
    match i, hi with
    | 0, _ => exact ⟨l0, fun j h => (p0 j h).1, fun j h => ⟨(p0 j h).2, fun h' => absurd h' (Nat.lt_irrefl 0)⟩⟩
    | 1, _ => exact ⟨l1, fun j h => (p1 j h).1, fun j h => ⟨(p1 j h).2, fun _ => hj j (by have h2 : j < low.length := h; omega)⟩⟩
    | n + 2, hi => exact absurd hi (by simp)
theorem one_heap (b c : Int) (zs : List Int) : heapB 1 b c [zs] = rowB b c zs := by
  rw [Bool.eq_iff_iff, heapB_iff, rowB_iff]
  constructor
  · rintro ⟨⟨_, hb, hc⟩, _, h⟩
    obtain ⟨l0, a0, f0⟩ := (hrowB_iff _ _ _ _ _).1 (h 0 (by simp))
    exact ⟨fun j hj => ⟨a0 j hj, (f0 j hj).1⟩, hb, hc, l0⟩
  · rintro ⟨p0, hb, hc, l0⟩
    refine ⟨⟨by omega, hb, hc⟩, rfl, fun i hi => ?_⟩
    rw [hrowB_iff]
    match i, hi with
    | 0, _ => exact ⟨l0, fun j h => (p0 j h).1, fun j h => ⟨(p0 j h).2, fun h' => absurd h' (Nat.lt_irrefl 0)⟩⟩
    | n + 1, hi => exact absurd hi (by simp)
theorem seven : ∀ b1 b2 b3 b4 : Bool, (b1 = true ∧ b2 = true) ∨ (b1 = false ∧ b3 = false) ∨ (b1 = false ∧ b3 = true ∧ b4 = true) ∨ (b1 = false ∧ b3 = true ∧ b4 = false) ∨
    (b1 = true ∧ b2 = false ∧ b3 = false) ∨ (b1 = true ∧ b2 = false ∧ b3 = true ∧ b4 = true) ∨ (b1 = true ∧ b2 = false ∧ b3 = true ∧ b4 = false) := by decide
end Go.Proofs.Ytehnbalbpfmijaa

namespace Go.Proofs.Ytehnbalbpfmijaa
open Go.RowKit

theorem Rd.el {w : World} {B : Nat} {A : Option Addr} {zs : List Int} (h : Rd w B A (zs.map (Value.int .i64))) {k : Nat} (hk : k < zs.length) :
    ∃ ad, A = some ad ∧ ad.block < B ∧ w.cell? (ad.add k) = some (.int .i64 (el zs k)) := by
  rw [el_get zs k hk]; exact h.int hk

/-- v is a slice of slices that reads as zss. -/
def RdII (w : World) (B : Nat) (v : Value) (zss : List (List Int)) : Prop :=
  ∃ A c vs, v = .slice A zss.length c ∧ zss.length ≤ c ∧ c ≤ maxLen ∧ vs.length = zss.length ∧ Rd w B A vs ∧ ∀ i u, vs[i]? = some u → RdI w B u (rw' zss i)
theorem RdII.below {w w' : World} {B : Nat} {v : Value} {zss : List (List Int)} (h : RdII w B v zss) (hb : Below B w w') : RdII w' B v zss := by
  obtain ⟨A, c, vs, e, h1, h2, h3, h4, h5⟩ := h
  exact ⟨A, c, vs, e, h1, h2, h3, h4.below hb, fun i u hu => (h5 i u hu).below hb⟩
theorem RdII.more {w : World} {B B' : Nat} {v : Value} {zss : List (List Int)} (h : RdII w B v zss) (hb : B ≤ B') : RdII w B' v zss := by
  obtain ⟨A, c, vs, e, h1, h2, h3, h4, h5⟩ := h
  exact ⟨A, c, vs, e, h1, h2, h3, h4.more hb, fun i u hu => (h5 i u hu).more hb⟩
/-- The row at an index. -/
def RowAt (w : World) (B : Nat) (A : Option Addr) (zss : List (List Int)) : Prop :=
  ∀ i, i < zss.length → ∃ ad u, A = some ad ∧ ad.block < B ∧ w.cell? (ad.add i) = some u ∧ RdI w B u (rw' zss i)
theorem RdII.open_ {w : World} {B : Nat} {v : Value} {zss : List (List Int)} (h : RdII w B v zss) : ∃ A c, v = .slice A zss.length c ∧ zss.length ≤ c ∧ c ≤ maxLen ∧ RowAt w B A zss := by
  obtain ⟨A, c, vs, e, h1, h2, h3, h4, h5⟩ := h
  refine ⟨A, c, e, h1, h2, fun i hi => ?_⟩
  obtain ⟨ad, ha, hb, hc⟩ := h4.at (k := i) (by omega)
  exact ⟨ad, vs[i]'(by omega), ha, hb, hc, h5 i _ (List.getElem?_eq_getElem (by omega))⟩

end Go.Proofs.Ytehnbalbpfmijaa

namespace Go.Proofs.Ytehnbalbpfmijaa
open Go.RowKit

def szZ (n left : Int) : Int := if left - n < 0 then -1 else left - n

theorem beq_drop (xs ys : List Int) (k : Nat) (h1 : k < xs.length) (h2 : k < ys.length) : (xs.drop k == ys.drop k) = (xs[k] == ys[k] && xs.drop (k + 1) == ys.drop (k + 1)) := by
  rw [List.drop_eq_getElem_cons h1, List.drop_eq_getElem_cons h2]; rfl
theorem beq_len (xs ys : List Int) (h : xs.length ≠ ys.length) : (xs == ys) = false := by
  rw [beq_eq_false_iff_ne]; rintro rfl; exact h rfl

end Go.Proofs.Ytehnbalbpfmijaa

namespace Go.Proofs.Ytehnbalbpfmijaa
open Go.RowKit

theorem infoInt : (Try.prog.info? 3).map (fun i => (i.zero, i.size, i.bytes)) = some (some (.int .i64 0), 1, 8) := by kernel_rfl

/-- v owns a row of integers in a block from lo on. -/
def OwnI (w : World) (lo : Nat) (v : Value) (zs : List Int) : Prop := w.ownsRow lo 3 1 v zs.length (zs.map (Value.int .i64))
theorem OwnI.rd {w : World} {lo : Nat} {v : Value} {zs : List Int} (h : OwnI w lo v zs) : RdI w w.heap.size v zs := by
  rcases h.2 with ⟨rfl, h0⟩ | ⟨g, cap, cur, rfl, hb, hh, hn, hm, hs, ht⟩
  · have : zs = [] := List.eq_nil_of_length_eq_zero h0
    subst this
    exact ⟨none, 0, rfl, Nat.le_refl _, Nat.zero_le _, Rd.nil⟩
  · refine ⟨some ⟨g, 0, none⟩, cap, rfl, hn, hm, fun _ => ⟨_, rfl, (World.ownsRow.lt h g rfl).2, World.ownsRow.cells h rfl⟩⟩
theorem OwnI.lt {w : World} {lo : Nat} {v : Value} {zs : List Int} (h : OwnI w lo v zs) : ∀ k, v.ownBlock = some k → lo ≤ k ∧ k < w.heap.size := World.ownsRow.lt h
theorem OwnI.below {w w' : World} {lo : Nat} {v : Value} {zs : List Int} (h : OwnI w lo v zs) (hb : Below w.heap.size w w') : OwnI w' lo v zs := by
  refine World.ownsRow.kept h (row := none) ⟨hb.os, hb.tape, hb.output, hb.size, fun k hk _ => hb.block k hk⟩ ?_
  cases v.ownBlock
  · exact .inl rfl
  · exact .inr (by simp)
theorem OwnI.of_row {w : World} {lo g : Nat} {zs : List Int} (hg : lo ≤ g) (hl : zs.length ≤ 9223372036854775807) (h : w.rowIs g 3 zs.length (fun j => .int .i64 (zs.getD j 0))) : OwnI w lo (.slice (some ⟨g, 0, none⟩) zs.length zs.length) zs := by
  obtain ⟨c, hb, hs, hc⟩ := h
  refine ⟨by simp, .inr ⟨g, zs.length, c, rfl, hg, hb, Nat.le_refl _, by unfold maxLen; omega, by omega, ?_⟩⟩
  rw [List.take_of_length_le (by simp; omega)]
  apply List.ext_getElem?
  intro j
  by_cases hj : j < zs.length
  · rw [Array.getElem?_toList, hc j hj]; simp [hj]
  · rw [List.getElem?_eq_none (by simp; omega), List.getElem?_eq_none (by simp; omega)]

/-- A new row of integers comes back, nothing else has turned. -/
def RetOwnI (w : World) (zs : List Int) (e : Ending) (w' : World) : Prop := ∃ v, e = .returned v ∧ OwnI w' w.heap.size v zs ∧ Below w.heap.size w w'

end Go.Proofs.Ytehnbalbpfmijaa

namespace Go.Proofs.Ytehnbalbpfmijaa
open Go.RowKit

theorem infoRow : (Try.prog.info? 31).map (fun i => (i.zero, i.size, i.bytes)) = some (some (.slice none 0 0), 1, 24) := by kernel_rfl

/-! ### Sizes -/
def szRows : List (List Int) → Int → Int
  | [], l => l
  | z :: t, l => if l - (z.length : Int) < 0 then -1 else szRows t (l - z.length)
def szSS (zss : List (List Int)) (left : Int) : Int := if left - (zss.length : Int) < 0 then -1 else szRows zss (left - zss.length)
theorem szRows_bd : ∀ (zss : List (List Int)) (l : Int), 0 ≤ l → 0 ≤ szRows zss l → ∀ z, z ∈ zss → (z.length : Int) ≤ l
  | [], _, _, _, _, hz => by cases hz
  | z :: t, l, _, h, y, hy => by
    unfold szRows at h
    split at h
    · omega
    · rcases List.mem_cons.1 hy with rfl | hy
      · omega
      · have := szRows_bd t _ (by omega) h y hy; omega
theorem szSS_bd (zss : List (List Int)) (left : Int) (_hl : 0 ≤ left) (h : 0 ≤ szSS zss left) : (zss.length : Int) ≤ left ∧ ∀ i, i < zss.length → ((rw' zss i).length : Int) ≤ left := by
  unfold szSS at h
  split at h
  · omega
  · refine ⟨by omega, fun i hi => ?_⟩
    have := szRows_bd zss _ (by omega) h (rw' zss i) (by rw [rw_get zss i hi]; exact List.getElem_mem hi)
    omega
theorem szRows_drop (zss : List (List Int)) (k : Nat) (l : Int) (hk : k < zss.length) : szRows (zss.drop k) l = if l - ((rw' zss k).length : Int) < 0 then -1 else szRows (zss.drop (k + 1)) (l - (rw' zss k).length) := by
  rw [List.drop_eq_getElem_cons hk, szRows, rw_get zss k hk]

/-! ### A slice of slices of the call's own -/
def OwnII (w : World) (lo : Nat) (v : Value) (zss : List (List Int)) : Prop :=
  ∃ vs, w.ownsRow lo 31 1 v zss.length vs ∧ (∀ i u, vs[i]? = some u → OwnI w lo u (rw' zss i)) ∧
    (∀ (i j : Nat) (u u' : Value) (a b : Nat), i < j → vs[i]? = some u → vs[j]? = some u' → u.ownBlock = some a → u'.ownBlock = some b → a < b)
theorem OwnII.rd {w : World} {lo : Nat} {v : Value} {zss : List (List Int)} (h : OwnII w lo v zss) : RdII w w.heap.size v zss := by
  obtain ⟨vs, h1, h2, _⟩ := h
  have hl : vs.length = zss.length := by have := h1.1; omega
  rcases h1.2 with ⟨rfl, h0⟩ | ⟨g, cap, cur, rfl, hb, hh, hn, hm, hs, ht⟩
  · have e : zss = [] := List.eq_nil_of_length_eq_zero h0
    subst e
    have e2 : vs = [] := List.eq_nil_of_length_eq_zero hl
    subst e2
    exact ⟨none, 0, [], rfl, Nat.le_refl _, Nat.zero_le _, rfl, Rd.nil, fun i u hu => by simp at hu⟩
  · exact ⟨some ⟨g, 0, none⟩, cap, vs, rfl, hn, hm, hl, fun _ => ⟨_, rfl, (World.ownsRow.lt h1 g rfl).2, World.ownsRow.cells h1 rfl⟩, fun i u hu => (h2 i u hu).rd⟩
theorem ownsRow_below {w w' : World} {lo : Nat} {e : TypeId} {size n : Nat} {v : Value} {xs : List Value} (h : w.ownsRow lo e size v n xs) (hb : Below w.heap.size w w') : w'.ownsRow lo e size v n xs := by
  refine World.ownsRow.kept h (row := none) ⟨hb.os, hb.tape, hb.output, hb.size, fun k hk _ => hb.block k hk⟩ ?_
  cases v.ownBlock
  · exact .inl rfl
  · exact .inr (by simp)
theorem OwnII.below {w w' : World} {lo : Nat} {v : Value} {zss : List (List Int)} (h : OwnII w lo v zss) (hb : Below w.heap.size w w') : OwnII w' lo v zss := by
  obtain ⟨vs, h1, h2, h3⟩ := h
  exact ⟨vs, ownsRow_below h1 hb, fun i u hu => (h2 i u hu).below hb, h3⟩
def RetOwnII (w : World) (zss : List (List Int)) (e : Ending) (w' : World) : Prop := ∃ v, e = .returned v ∧ OwnII w' w.heap.size v zss ∧ Below w.heap.size w w'

/-- Behind k rounds of toIntSS. -/
def SSrel (w wr : World) (zss : List (List Int)) (k : Nat) : Prop :=
  ∃ f : Nat → Value, wr.rowIs w.heap.size 31 zss.length (fun j => if j < k then f j else .slice none 0 0) ∧ (∀ j, j < k → OwnI wr (w.heap.size + 1) (f j) (rw' zss j)) ∧
    (∀ i j a b, i < j → j < k → (f i).ownBlock = some a → (f j).ownBlock = some b → a < b) ∧ Below w.heap.size w wr ∧ w.heap.size + 1 ≤ wr.heap.size
theorem SS_start (w : World) (zss : List (List Int)) : SSrel w (w.alloc (.cells (madeCells #[.slice none 0 0] zss.length) 31)) zss 0 :=
  ⟨fun _ => .slice none 0 0, (World.rowIs_made w _ _ _).congr fun i _ => by simp, fun j hj => absurd hj (by omega), fun i j a b _ hj => absurd hj (by omega), (Below.refl _ _).alloc (Nat.le_refl _) _, by simp⟩
theorem OwnI.setCell {w : World} {lo : Nat} {v : Value} {zs : List Int} (h : OwnI w lo v zs) {p : Addr} (hp : p.block < lo) (u : Value) : OwnI (w.setCell p u) lo v zs := ownsRow_setCell_below h hp u
theorem OwnI.mono {w : World} {lo lo' : Nat} {v : Value} {zs : List Int} (h : OwnI w lo v zs) (hl : lo' ≤ lo) : OwnI w lo' v zs := by
  refine ⟨h.1, ?_⟩
  rcases h.2 with h2 | ⟨g, cap, cur, e, hb, r⟩
  · exact .inl h2
  · exact .inr ⟨g, cap, cur, e, by omega, r⟩
theorem SS_step {w wr w1 : World} {zss : List (List Int)} {k : Nat} {v : Value} (h : SSrel w wr zss k) (hk : k < zss.length) (hv : OwnI w1 wr.heap.size v (rw' zss k)) (hb : Below wr.heap.size wr w1) :
    SSrel w (w1.setCell ⟨w.heap.size, k, none⟩ v) zss (k + 1) := by
  obtain ⟨f, h1, h2, h3, h4, h5⟩ := h
  have hsz := hb.size
  refine ⟨fun j => if j = k then v else f j, ((h1.of_block (hb.block _ (by omega))).set k v).congr fun j hj => ?_, fun j hj => ?_, fun i j a b hij hj ha hb' => ?_, (h4.trans (hb.mono (by omega))).setCell (Nat.le_refl _) _, by simp; omega⟩
  · by_cases e : j = k
    · subst e; simp
    · by_cases e2 : j < k
      · simp [e, e2, show j < k + 1 by omega]
      · simp [e, e2, show ¬ j < k + 1 by omega]
  · by_cases e : j = k
    · subst e; simp only [if_true]; exact (hv.mono (by omega)).setCell (Nat.lt_succ_self _) _
    · simp only [if_neg e]; exact ((h2 j (by omega)).below hb).setCell (Nat.lt_succ_self _) _
  · have hi : i ≠ k := by omega
    simp only [if_neg hi] at ha
    by_cases e : j = k
    · simp only [if_pos e] at hb'
      have l1 := ((h2 i (by omega)).lt a ha).2
      have l2 := (hv.lt b hb').1
      omega
    · simp only [if_neg e] at hb'
      exact h3 i j a b hij (by omega) ha hb'
theorem SS_end {w wr : World} {zss : List (List Int)} (hl : zss.length ≤ 9223372036854775807) (h : SSrel w wr zss zss.length) : OwnII wr w.heap.size (.slice (some ⟨w.heap.size, 0, none⟩) zss.length zss.length) zss := by
  obtain ⟨f, h1, h2, h3, h4, h5⟩ := h
  obtain ⟨c, hb, hs, hc⟩ := h1
  have hget : ∀ j, j < zss.length → c[j]? = some (f j) := fun j hj => by rw [hc j hj]; simp [hj]
  refine ⟨c.toList, ⟨by simp [hs], .inr ⟨w.heap.size, zss.length, c, rfl, Nat.le_refl _, hb, Nat.le_refl _, by unfold maxLen; omega, by omega, List.take_of_length_le (by simp; omega)⟩⟩, fun i u hu => ?_, fun i j u u' a b hij hu hu' ha hb' => ?_⟩
  · have hi : i < zss.length := by
      have := (List.getElem?_eq_some_iff.1 hu).1; simpa [hs] using this
    rw [Array.getElem?_toList, hget i hi] at hu
    obtain rfl := Option.some.inj hu
    exact (h2 i hi).mono (by omega)
  · have hj : j < zss.length := by
      have := (List.getElem?_eq_some_iff.1 hu').1; simpa [hs] using this
    rw [Array.getElem?_toList, hget i (by omega)] at hu
    rw [Array.getElem?_toList, hget j hj] at hu'
    obtain rfl := Option.some.inj hu
    obtain rfl := Option.some.inj hu'
    exact h3 i j a b hij hj ha hb'

end Go.Proofs.Ytehnbalbpfmijaa

namespace Go.Proofs.Ytehnbalbpfmijaa
open Go.RowKit

theorem OwnI.grown {w w' : World} {lo : Nat} {v : Value} {zs : List Int} {row : Option Nat} (h : OwnI w lo v zs) (hg : w.grownBy w' row) (hne : ∀ k, v.ownBlock = some k → some k = row → False) : OwnI w' lo v zs :=
  World.ownsRow.kept h hg (by
    cases e : v.ownBlock
    · exact .inl rfl
    · exact .inr (fun e2 => hne _ e e2))
theorem rowIs_below {w w' : World} {b : Nat} {t : TypeId} {n : Nat} {f : Nat → Value} (h : w.rowIs b t n f) (hb : Below w.heap.size w w') : w'.rowIs b t n f := h.of_block (hb.block _ h.lt)
theorem rowIs_grown {w w' : World} {b : Nat} {t : TypeId} {n : Nat} {f : Nat → Value} {row : Option Nat} (h : w.rowIs b t n f) (hg : w.grownBy w' row) (hne : some b ≠ row) : w'.rowIs b t n f := h.of_block (hg.block _ h.lt hne)
end Go.Proofs.Ytehnbalbpfmijaa

namespace Go.Proofs.Ytehnbalbpfmijaa
open Go.RowKit

section
variable {P : Program} (w : World)
theorem run_append_nilsrc (base : Nat) (t ty e : TypeId) (i : TypeInfo) (size : Nat) (ht : P.underlying t = some (.slice e)) (hi : P.info? e = some i) (v : Value) (n : Nat) (xs : List Value)
    (hown : w.ownsRow base e size v n xs) (c : Nat) : (Builtin.append_ #[t, t] ty #[v, .slice none 0 c]).run P w = .ok v w := by
  rcases hown.2 with ⟨rfl, _⟩ | ⟨g, cap, cur, rfl, _, _, hnc, _⟩
  · simp [Builtin.append_, run_underlying ht, sizeOf, typeInfo, hi, Builtin.lenOf, Builtin.firstCells]
  · simp [Builtin.append_, run_underlying ht, sizeOf, typeInfo, hi, Builtin.lenOf, Builtin.firstCells, hnc, storeCells]

theorem run_append_src (base : Nat) (t ty e : TypeId) (i : TypeInfo) (z : Value) (bytes : Nat) (ht : P.underlying t = some (.slice e)) (hi : P.info? e = some i) (hz : i.zero = some z)
    (hsize : i.size = 1) (hby : i.bytes = bytes) (hzs : z.cells.size = 1) (v : Value) (n : Nat) (xs : List Value) (hown : w.ownsRow base e 1 v n xs)
    (B : Nat) (A : Option Addr) (c : Nat) (news : List Value) (hr : Rd w B A news) (h1 : ∀ u ∈ news, u.oneCell' = true)
    (h63 : n + news.length ≤ maxLen) (hbytes : (n + news.length) * bytes ≤ 140737488355328) (hbase : base ≤ w.heap.size) :
    ∃ v' w', (Builtin.append_ #[t, t] ty #[v, .slice A news.length c]).run P w = .ok v' w' ∧ w'.ownsRow base e 1 v' (n + news.length) (xs ++ news) ∧ w.grownBy w' v.ownBlock ∧
      (v'.ownBlock = v.ownBlock ∨ v'.ownBlock = some w.heap.size) := by
  have hgo : ∀ ad, (∀ j u, news[j]? = some u → w.cell? (ad.add j) = some u) → ∃ v' w', (Builtin.append_ #[t, t] ty #[v, .slice (some ad) news.length c]).run P w = .ok v' w' ∧ w'.ownsRow base e 1 v' (n + news.length) (xs ++ news) ∧
      w.grownBy w' v.ownBlock ∧ (v'.ownBlock = v.ownBlock ∨ v'.ownBlock = some w.heap.size) := fun ad hcells => by
    obtain ⟨v', w', hrun, h2, h3, _, h5⟩ := run_append_own_at (P := P) w base t ty e i z 1 bytes ht hi hz hsize hby hzs (by omega) v n xs hown ad news.length c news (by omega) hcells h1 h63 hbytes hbase
    exact ⟨v', w', hrun, h2, h3, h5⟩
  cases hn : news with
  | nil =>
    subst hn
    cases A with
    | none => exact ⟨v, w, run_append_nilsrc w base t ty e i 1 ht hi v n xs hown c, by simpa using hown, World.grownBy.refl w _, .inl rfl⟩
    | some ad => exact hgo ad (fun j u hu => by simp at hu)
  | cons y ys =>
    rw [← hn]
    obtain ⟨ad, rfl, _, hc⟩ := hr (by rw [hn]; simp)
    exact hgo ad hc

theorem wpList_append_src {ops : Array Oper} {rest : List Oper} {o : Oper} {a : Act} {Q : Exit → Act → World → Prop} (hgd : o.guard = none) (s x : Operand) (t : TypeId)
    (ho : o.op = .call { callee := .builtin .append, args := #[s, x], argTypes := #[t, t] })
    (base : Nat) (e : TypeId) (i : TypeInfo) (z : Value) (bytes : Nat) (ht : P.underlying t = some (.slice e)) (hi : P.info? e = some i) (hz : i.zero = some z)
    (hsize : i.size = 1) (hby : i.bytes = bytes) (hzs : z.cells.size = 1) (v : Value) (n : Nat) (xs : List Value) (hs : a.eval s = v) (hown : w.ownsRow base e 1 v n xs)
    (B : Nat) (A : Option Addr) (c m : Nat) (news : List Value) (hx : a.eval x = .slice A m c) (hm : m = news.length) (hr : Rd w B A news) (h1 : ∀ u ∈ news, u.oneCell' = true)
    (h63 : n + news.length ≤ maxLen) (hbytes : (n + news.length) * bytes ≤ 140737488355328) (hbase : base ≤ w.heap.size)
    (h : ∀ v' w', w'.ownsRow base e 1 v' (n + news.length) (xs ++ news) → w.grownBy w' v.ownBlock → (v'.ownBlock = v.ownBlock ∨ v'.ownBlock = some w.heap.size) → wpList P ops Q rest (a.put o.dst v') w') :
    wpList P ops Q (o :: rest) a w := by
  subst hm
  refine wpList_plain hgd fun K hK => ?_
  obtain ⟨v', w', hrun, h2, h3, h4⟩ := run_append_src (P := P) w base t o.type e i z bytes ht hi hz hsize hby hzs v n xs hown B A c news hr h1 h63 hbytes hbase
  unfold Oper.wp execOp
  simp only [ho, resolve, invoke, builtin, Sem.run_bind, Sem.run_pure, Result.andThen_ok, List.map_toArray, List.map_cons, List.map_nil, hs, hx, hrun]
  exact hK _ _ (h v' w' h2 h3 h4)
end

/-- A row of integers grows by one, by many. -/
theorem OwnI.one {w' : World} {lo n : Nat} {v' : Value} {zs : List Int} {z : Int} (hn : n = zs.length + 1) (h : w'.ownsRow lo 3 1 v' n (zs.map (Value.int .i64) ++ [.int .i64 z])) : OwnI w' lo v' (zs ++ [z]) := by
  subst hn
  unfold OwnI
  rw [List.length_append, List.map_append]
  exact h
theorem OwnI.many {w' : World} {lo n : Nat} {v' : Value} {zs ys : List Int} (hn : n = zs.length + ys.length) (h : w'.ownsRow lo 3 1 v' n (zs.map (Value.int .i64) ++ ys.map (Value.int .i64))) : OwnI w' lo v' (zs ++ ys) := by
  subst hn
  unfold OwnI
  rw [List.length_append, List.map_append]
  exact h
theorem oneInts (ys : List Int) : ∀ u ∈ ys.map (Value.int .i64), u.oneCell' = true := by
  intro u hu
  obtain ⟨z, _, rfl⟩ := List.mem_map.1 hu
  rfl

set_option maxHeartbeats 1000000 in
theorem copyOf_any (v : Value) (zs : List Int) (B : Nat) (w : World) (h : RdI w B v zs) (hB : B ≤ w.heap.size) (hl : zs.length ≤ 1099511627776) :
    Calls Try.prog 160 #[v] w (RetOwnI w zs) := by
  obtain ⟨i0, hi0, hz0, hz1, hz2⟩ := info_parts infoInt
  obtain ⟨A, c, rfl, h1, h2, h3⟩ := h
  unfold maxLen at h2
  have H3 := Lib.hid h3; clear h3
  go_enter Try.func160, Try.ntmps160
  have hown0 := World.ownsRow_lit (base := w.heap.size) (e := 3) (size := 1) w #[] 0 (Nat.le_refl _) (by simp [maxLen]) (by simp)
  have H0 := Lib.hid hown0; clear hown0
  have hb0 : Below w.heap.size w (w.alloc (.cells #[] 3)) := (Below.refl _ _).alloc (Nat.le_refl _) _
  have HB0 := Lib.hid hb0; clear hb0
  go_wp2_with (at_builtin; refine wpList_append_src _ rfl (.tmp 3) (.tmp 4) _ rfl w.heap.size 3 i0 _ 8 Try.underlying31 hi0 hz0 hz1 hz2 rfl (.slice (some ⟨w.heap.size, 0, none⟩) 0 0) 0 [] rfl H0.out B A c zs.length (zs.map (Value.int .i64)) rfl (by simp) (H3.out.below (HB0.out.mono hB)) (oneInts zs) (by simp [maxLen]; omega) (by simp; omega) (by simp) ?_; intro v1 w1 hown1 hg1 hat1)
  go_ret
  refine ⟨v1, rfl, OwnI.many (zs := []) (by simp) hown1, HB0.out.grown hg1 (by simp) (fun k hk => by simp [Value.ownBlock] at hk; omega)⟩
end Go.Proofs.Ytehnbalbpfmijaa

namespace Go.Proofs.Ytehnbalbpfmijaa
open Go.RowKit

structure Aft (lo hi : Nat) (w w' : World) : Prop where
  os : w'.os = w.os
  tape : w'.tape = w.tape
  output : w'.output = w.output
  size : w.heap.size ≤ w'.heap.size
  block : ∀ k, k < w.heap.size → (k < lo ∨ hi ≤ k) → w'.heap[k]? = w.heap[k]?
theorem Aft.refl (lo hi : Nat) (w : World) : Aft lo hi w w := ⟨rfl, rfl, rfl, Nat.le_refl _, fun _ _ _ => rfl⟩
theorem Aft.trans {lo hi : Nat} {a b c : World} (h : Aft lo hi a b) (k : Aft lo hi b c) : Aft lo hi a c :=
  ⟨k.os.trans h.os, k.tape.trans h.tape, k.output.trans h.output, Nat.le_trans h.size k.size, fun i hi hh => (k.block i (Nat.lt_of_lt_of_le hi h.size) hh).trans (h.block i hi hh)⟩
theorem Aft.below {lo hi : Nat} {w w' : World} (h : Aft lo hi w w') (hl : lo ≤ w.heap.size) : Below lo w w' :=
  ⟨h.os, h.tape, h.output, h.size, fun k hk => h.block k (Nat.lt_of_lt_of_le hk hl) (.inl hk)⟩
theorem Aft.ofBelow {lo hi : Nat} {w w' : World} (h : Below w.heap.size w w') : Aft lo hi w w' := ⟨h.os, h.tape, h.output, h.size, fun k hk _ => h.block k hk⟩
theorem Aft.ofGrown {lo hi : Nat} {w w' : World} {row : Option Nat} (h : w.grownBy w' row) (hr : ∀ k, row = some k → lo ≤ k ∧ k < hi) : Aft lo hi w w' :=
  ⟨h.os, h.tape, h.output, h.size, fun k hk hh => h.block k hk fun e => by have := hr k e.symm; omega⟩
theorem Aft.more {lo hi lo' hi' : Nat} {w w' : World} (h : Aft lo hi w w') (h1 : lo' ≤ lo) (h2 : hi ≤ hi') : Aft lo' hi' w w' := ⟨h.os, h.tape, h.output, h.size, fun k hk hh => h.block k hk (by omega)⟩
/-- What lies apart from the interval: the same blocks, as a growth of no row. -/
theorem Aft.row {lo hi : Nat} {w w' : World} {base : Nat} {e : TypeId} {size n : Nat} {v : Value} {xs : List Value} (h : Aft lo hi w w') (ho : w.ownsRow base e size v n xs) (ha : ∀ k, v.ownBlock = some k → k < lo ∨ hi ≤ k) : w'.ownsRow base e size v n xs := by
  refine ⟨ho.1, ?_⟩
  rcases ho.2 with hn | ⟨g, cap, cur, rfl, hb, hgg, rest⟩
  · exact .inl hn
  · refine .inr ⟨g, cap, cur, rfl, hb, ?_, rest⟩
    rw [h.block g (Array.getElem?_eq_some_iff.1 hgg).1 (ha g rfl)]
    exact hgg
end Go.Proofs.Ytehnbalbpfmijaa

namespace Go.Proofs.Ytehnbalbpfmijaa
open Go.RowKit

/-- A kind of element: its type, the slice's type, cells, bytes, zero, and the cells of one. -/
structure El (α : Type) where
  e : TypeId
  t : TypeId
  s : Nat
  b : Nat
  z : Value
  f : α → List Value
structure El.Ok {α : Type} (E : El α) (P : Program) : Prop where
  und : P.underlying E.t = some (.slice E.e)
  info : (P.info? E.e).map (fun i => (i.zero, i.size, i.bytes)) = some (some E.z, E.s, E.b)
  zs : E.z.cells.size = E.s
  pos : 0 < E.s
  few : E.b ≤ 1024
  len : ∀ x, (E.f x).length = E.s
  one : ∀ x, ∀ u ∈ E.f x, u.oneCell' = true

section
variable {α : Type} {E : El α} {P : Program}
theorem flat_length (h : ∀ x, (E.f x).length = E.s) : ∀ xs : List α, (xs.flatMap E.f).length = xs.length * E.s
  | [] => by simp
  | x :: xs => by rw [List.flatMap_cons, List.length_append, flat_length h xs, h, List.length_cons, Nat.succ_mul]; omega
theorem flat_get (h : ∀ x, (E.f x).length = E.s) : ∀ (xs : List α) (j i : Nat) (x : α), xs[j]? = some x → i < E.s → (xs.flatMap E.f)[j * E.s + i]? = (E.f x)[i]?
  | [], j, i, x, hx, _ => by simp at hx
  | y :: ys, 0, i, x, hx, hi => by
    simp only [List.getElem?_cons_zero, Option.some.injEq] at hx
    subst hx
    rw [List.flatMap_cons, Nat.zero_mul, Nat.zero_add, List.getElem?_append_left (by rw [h]; exact hi)]
  | y :: ys, j + 1, i, x, hx, hi => by
    rw [List.getElem?_cons_succ] at hx
    rw [List.flatMap_cons, List.getElem?_append_right (by rw [h, Nat.succ_mul]; omega), h, show (j + 1) * E.s + i - E.s = j * E.s + i by rw [Nat.succ_mul]; omega]
    exact flat_get h ys j i x hx hi
theorem flat_set (h : ∀ x, (E.f x).length = E.s) : ∀ (xs : List α) (j i : Nat) (x x' : α) (u : Value), xs[j]? = some x → i < E.s → E.f x' = (E.f x).set i u → (xs.set j x').flatMap E.f = (xs.flatMap E.f).set (j * E.s + i) u
  | [], j, i, x, x', u, hx, _, _ => by simp at hx
  | y :: ys, 0, i, x, x', u, hx, hi, he => by
    simp only [List.getElem?_cons_zero, Option.some.injEq] at hx
    subst hx
    rw [List.set_cons_zero, List.flatMap_cons, List.flatMap_cons, he, Nat.zero_mul, Nat.zero_add, List.set_append_left _ _ (by rw [h]; exact hi)]
  | y :: ys, j + 1, i, x, x', u, hx, hi, he => by
    rw [List.getElem?_cons_succ] at hx
    rw [List.set_cons_succ, List.flatMap_cons, List.flatMap_cons, List.set_append_right _ _ (by rw [h, Nat.succ_mul]; omega), h, show (j + 1) * E.s + i - E.s = j * E.s + i by rw [Nat.succ_mul]; omega,
      flat_set h ys j i x x' u hx hi he]

/-- v reads as the elements xs, below block B. -/
def RdF (E : El α) (w : World) (B : Nat) (v : Value) (xs : List α) : Prop :=
  ∃ A c, v = .slice A xs.length c ∧ xs.length ≤ c ∧ c ≤ maxLen ∧ ∀ j x, xs[j]? = some x → ∃ ad, A = some ad ∧ ad.block < B ∧ ∀ i u, (E.f x)[i]? = some u → w.cell? (ad.add (j * E.s + i)) = some u
theorem RdF.keep {w w' : World} {B : Nat} {v : Value} {xs : List α} (h : RdF E w B v xs) (hk : ∀ p : Addr, p.block < B → w'.cell? p = w.cell? p) : RdF E w' B v xs := by
  obtain ⟨A, c, e, h1, h2, h3⟩ := h
  refine ⟨A, c, e, h1, h2, fun j x hx => ?_⟩
  obtain ⟨ad, e2, hb, hc⟩ := h3 j x hx
  exact ⟨ad, e2, hb, fun i u hu => (hk _ (by rw [addBlock]; exact hb)).trans (hc i u hu)⟩
theorem RdF.below {w w' : World} {B : Nat} {v : Value} {xs : List α} (h : RdF E w B v xs) (hb : Below B w w') : RdF E w' B v xs := h.keep fun _ hp => hb.cell hp
theorem RdF.more {w : World} {B B' : Nat} {v : Value} {xs : List α} (h : RdF E w B v xs) (hB : B ≤ B') : RdF E w B' v xs := by
  obtain ⟨A, c, e, h1, h2, h3⟩ := h
  refine ⟨A, c, e, h1, h2, fun j x hx => ?_⟩
  obtain ⟨ad, e2, hb, hc⟩ := h3 j x hx
  exact ⟨ad, e2, by omega, hc⟩

/-- v owns a row of the elements xs in a block from lo on. -/
def OwnF (E : El α) (w : World) (lo : Nat) (v : Value) (xs : List α) : Prop := w.ownsRow lo E.e E.s v xs.length (xs.flatMap E.f)
section
variable {w w' : World} {lo lo' : Nat} {v : Value} {xs : List α}
theorem OwnF.lt (h : OwnF E w lo v xs) : ∀ k, v.ownBlock = some k → lo ≤ k ∧ k < w.heap.size := World.ownsRow.lt h
theorem OwnF.kept {row : Option Nat} (h : OwnF E w lo v xs) (hg : w.grownBy w' row) (hne : ∀ k, v.ownBlock = some k → some k = row → False) : OwnF E w' lo v xs :=
  World.ownsRow.kept h hg (by
    cases e : v.ownBlock
    · exact .inl rfl
    · exact .inr (fun e2 => hne _ e e2))
theorem OwnF.below (h : OwnF E w lo v xs) (hb : Below w.heap.size w w') : OwnF E w' lo v xs :=
  h.kept (row := none) ⟨hb.os, hb.tape, hb.output, hb.size, fun k hk _ => hb.block k hk⟩ fun _ _ e => by simp at e
theorem OwnF.mono (h : OwnF E w lo v xs) (hl : lo' ≤ lo) : OwnF E w lo' v xs := by
  refine ⟨h.1, ?_⟩
  rcases h.2 with h2 | ⟨g, cap, cur, e, hb, r⟩
  · exact .inl h2
  · exact .inr ⟨g, cap, cur, e, by omega, r⟩
theorem OwnF.rd (hE : E.Ok P) (h : OwnF E w lo v xs) : RdF E w w.heap.size v xs := by
  rcases h.2 with ⟨rfl, h0⟩ | ⟨g, cap, cur, rfl, hb, hh, hn, hm, hs, ht⟩
  · have : xs = [] := List.eq_nil_of_length_eq_zero h0
    subst this
    exact ⟨none, 0, rfl, Nat.le_refl _, Nat.zero_le _, fun j x hx => by simp at hx⟩
  · refine ⟨some ⟨g, 0, none⟩, cap, rfl, hn, hm, fun j x hx => ⟨_, rfl, (World.ownsRow.lt h g rfl).2, fun i u hu => ?_⟩⟩
    refine World.ownsRow.cells h rfl _ _ ?_
    have hi : i < E.s := by have := (List.getElem?_eq_some_iff.1 hu).1; rw [hE.len] at this; exact this
    rw [flat_get hE.len xs j i x hx hi]; exact hu
theorem OwnF.nil : OwnF E w lo (.slice none 0 0) ([] : List α) := by simpa [OwnF] using World.ownsRow_nil w lo E.e E.s
theorem OwnF.empty (hlo : lo ≤ w.heap.size) : OwnF E (w.alloc (.cells #[] E.e)) lo (.slice (some ⟨w.heap.size, 0, none⟩) 0 0) ([] : List α) := by
  simpa [OwnF] using World.ownsRow_lit (base := lo) (e := E.e) (size := E.s) w #[] 0 hlo (by simp [maxLen]) (by simp)
/-- One cell of one element is written. -/
theorem OwnF.store (hE : E.Ok P) {g cap : Nat} {x x' : α} {j i : Nat} {u : Value} (h : OwnF E w lo (.slice (some ⟨g, 0, none⟩) xs.length cap) xs) (hx : xs[j]? = some x) (hi : i < E.s) (he : E.f x' = (E.f x).set i u) :
    OwnF E (w.setCell ⟨g, j * E.s + i, none⟩ u) lo (.slice (some ⟨g, 0, none⟩) (xs.set j x').length cap) (xs.set j x') ∧ w.grownBy (w.setCell ⟨g, j * E.s + i, none⟩ u) (some g) ∧ lo ≤ g := by
  obtain ⟨h1, h2⟩ := World.ownsRow.stored h (j * E.s + i) u
  refine ⟨?_, h2, (World.ownsRow.lt h g rfl).1⟩
  unfold OwnF
  rw [flat_set hE.len xs j i x x' u hx hi he, List.length_set]
  exact h1
end

/-- A slice of the call's own that grows: w is the world at the call, wr the world now. -/
def Acc (E : El α) (w : World) (lo : Nat) (wr : World) (v : Value) (xs : List α) : Prop := OwnF E wr lo v xs ∧ Below w.heap.size w wr ∧ w.heap.size ≤ lo ∧ lo ≤ wr.heap.size
theorem Acc.nil (w : World) : Acc E w w.heap.size w (.slice none 0 0) ([] : List α) := ⟨OwnF.nil, Below.refl _ _, Nat.le_refl _, Nat.le_refl _⟩
theorem Acc.start (w : World) : Acc E w w.heap.size (w.alloc (.cells #[] E.e)) (.slice (some ⟨w.heap.size, 0, none⟩) 0 0) ([] : List α) :=
  ⟨OwnF.empty (Nat.le_refl _), (Below.refl _ _).alloc (Nat.le_refl _) _, Nat.le_refl _, by simp⟩
theorem Acc.startAt {w wr : World} {lo : Nat} (hb : Below w.heap.size w wr) (h1 : w.heap.size ≤ lo) (h2 : lo ≤ wr.heap.size) : Acc E w lo (wr.alloc (.cells #[] E.e)) (.slice (some ⟨wr.heap.size, 0, none⟩) 0 0) ([] : List α) :=
  ⟨OwnF.empty h2, hb.alloc hb.size _, h1, by simp; omega⟩
theorem Acc.below {w wr w1 : World} {lo : Nat} {v : Value} {xs : List α} (h : Acc E w lo wr v xs) (hb : Below wr.heap.size wr w1) : Acc E w lo w1 v xs :=
  ⟨h.1.below hb, h.2.1.trans (hb.mono h.2.1.size), h.2.2.1, Nat.le_trans h.2.2.2 hb.size⟩
/-- How a growing slice of the call's own leaves the rest: only its own row, in the block it had, may have been written. -/
def Grew (wr w1 : World) (v v' : Value) : Prop := wr.grownBy w1 v.ownBlock ∧ ∃ g, v'.ownBlock = some g ∧ (v.ownBlock = some g ∨ wr.heap.size ≤ g) ∧ g < w1.heap.size

theorem wpList_pushes (hE : E.Ok P) {ops : Array Oper} {rest : List Oper} {o : Oper} {a : Act} {Q : Exit → Act → World → Prop} (hgd : o.guard = none) (s x : Operand)
    (ho : o.op = .call { callee := .builtin .append, args := #[s, x], argTypes := #[E.t, E.t] }) {w wr : World} {lo : Nat} {v : Value} {xs : List α} (H : Acc E w lo wr v xs) (hs : a.eval s = v)
    (ys : List α) (m : Nat) (hm : m = ys.length) (hpos : 0 < m) (cs : Array Value) (hcs : cs.toList = ys.flatMap E.f) (h0 : Nat) (hx : a.eval x = .slice (some ⟨h0, 0, none⟩) m m) (hh : wr.heap.size = h0) (hl : xs.length + m ≤ 1073741824)
    (h : ∀ v' w', Hid (Acc E w lo w' v' (xs ++ ys)) → Hid (Grew wr w' v v') → wpList P ops Q rest (a.put o.dst v') w') :
    wpList P ops Q (o :: rest) a (wr.alloc (.cells cs E.e)) := by
  subst hm hh
  obtain ⟨i, hi, hzz⟩ := Option.map_eq_some_iff.1 hE.info
  simp only [Prod.mk.injEq] at hzz
  obtain ⟨hz, hsz, hby⟩ := hzz
  obtain ⟨h1, h2, h3, h4⟩ := H
  have hal := (Below.refl wr.heap.size wr).alloc (Nat.le_refl _) (.cells cs E.e)
  have hown := h1.below hal
  refine wpList_append_lies (P := P) _ hgd s x E.t ho lo E.e i E.z E.s E.b hE.und hi hz hsz hby hE.zs hE.pos v xs.length (xs.flatMap E.f) hs hown ⟨wr.heap.size, 0, none⟩ ys.length ys.length (ys.flatMap E.f) hx
    (flat_length hE.len ys) (by rw [← hcs]; exact World.news_of_block (heap_alloc_new wr _)) (fun u hu => ?_) hpos (by unfold maxLen; omega) ?_ (by simp; omega) (wr.heap.size + 1) (by simp) ?_
  · obtain ⟨y, _, hy⟩ := List.mem_flatMap.1 hu
    exact hE.one y u hy
  · have h5 := hE.few
    have : (xs.length + ys.length) * E.b ≤ 1073741824 * 1024 := Nat.mul_le_mul hl h5
    omega
  · intro g cap w' hown' hg hat hlt
    have hg2 : wr.grownBy w' v.ownBlock := ⟨hg.os, hg.tape, hg.output, Nat.le_trans (by simp) hg.size, fun k hk hne => (hg.block k (by simp; omega) hne).trans (Below.heap_alloc _ _ _ hk)⟩
    refine h (.slice (some ⟨g, 0, none⟩) (xs.length + ys.length) cap) w' ⟨?_, ?_, h3, ?_⟩ ⟨hg2, g, rfl, ?_, hlt⟩
    · unfold OwnF; rw [List.length_append, List.flatMap_append]; exact hown'
    · exact h2.grown hg2 h2.size fun k hk => by have := (h1.lt k hk).1; omega
    · have := hg2.size; omega
    · rcases hat with hat | hat
      · exact .inl hat
      · exact .inr (by omega)
theorem step_pushes (hE : E.Ok P) {ops : Array Oper} {o : Oper} {a : Act} {K : Act → World → Prop} {Q : Exit → Act → World → Prop} {X : Prop} (hgd : o.guard = none) (s x : Operand)
    (ho : o.op = .call { callee := .builtin .append, args := #[s, x], argTypes := #[E.t, E.t] }) {w wr : World} {lo : Nat} {v : Value} {xs : List α} (H : Acc E w lo wr v xs) (hs : a.eval s = v)
    (ys : List α) (m : Nat) (hm : m = ys.length) (hpos : 0 < m) (cs : Array Value) (hcs : cs.toList = ys.flatMap E.f) (h0 : Nat) (hx : a.eval x = .slice (some ⟨h0, 0, none⟩) m m) (hh : wr.heap.size = h0) (hl : xs.length + m ≤ 1073741824)
    (h : ∀ v' w', Hid (Acc E w lo w' v' (xs ++ ys)) → Hid (Grew wr w' v v') → K (a.put o.dst v') w') :
    if Region.wanted o (yielded ops a.tmps) = true then Oper.wp P o a (wr.alloc (.cells cs E.e)) K Q else X := by
  subst hm hh
  obtain ⟨i, hi, hzz⟩ := Option.map_eq_some_iff.1 hE.info
  simp only [Prod.mk.injEq] at hzz
  obtain ⟨hz, hsz, hby⟩ := hzz
  obtain ⟨h1, h2, h3, h4⟩ := H
  have hal := (Below.refl wr.heap.size wr).alloc (Nat.le_refl _) (.cells cs E.e)
  have hown := h1.below hal
  refine step_append_lies (P := P) _ hgd s x E.t ho lo E.e i E.z E.s E.b hE.und hi hz hsz hby hE.zs hE.pos v xs.length (xs.flatMap E.f) hs hown ⟨wr.heap.size, 0, none⟩ ys.length ys.length (ys.flatMap E.f) hx
    (flat_length hE.len ys) (by rw [← hcs]; exact World.news_of_block (heap_alloc_new wr _)) (fun u hu => ?_) hpos (by unfold maxLen; omega) ?_ (by simp; omega) (wr.heap.size + 1) (by simp) ?_
  · obtain ⟨y, _, hy⟩ := List.mem_flatMap.1 hu
    exact hE.one y u hy
  · have h5 := hE.few
    have : (xs.length + ys.length) * E.b ≤ 1073741824 * 1024 := Nat.mul_le_mul hl h5
    omega
  · intro g cap w' hown' hg hat hlt
    have hg2 : wr.grownBy w' v.ownBlock := ⟨hg.os, hg.tape, hg.output, Nat.le_trans (by simp) hg.size, fun k hk hne => (hg.block k (by simp; omega) hne).trans (Below.heap_alloc _ _ _ hk)⟩
    refine h (.slice (some ⟨g, 0, none⟩) (xs.length + ys.length) cap) w' ⟨?_, ?_, h3, ?_⟩ ⟨hg2, g, rfl, ?_, hlt⟩
    · unfold OwnF; rw [List.length_append, List.flatMap_append]; exact hown'
    · exact h2.grown hg2 h2.size fun k hk => by have := (h1.lt k hk).1; omega
    · have := hg2.size; omega
    · rcases hat with hat | hat
      · exact .inl hat
      · exact .inr (by omega)
theorem step_push (hE : E.Ok P) {ops : Array Oper} {o : Oper} {a : Act} {K : Act → World → Prop} {Q : Exit → Act → World → Prop} {X : Prop} (hgd : o.guard = none) (s x : Operand)
    (ho : o.op = .call { callee := .builtin .append, args := #[s, x], argTypes := #[E.t, E.t] }) {w wr : World} {lo : Nat} {v : Value} {xs : List α} (H : Acc E w lo wr v xs) (hs : a.eval s = v)
    (y : α) (cs : Array Value) (hcs : cs.toList = E.f y) (h0 : Nat) (hx : a.eval x = .slice (some ⟨h0, 0, none⟩) 1 1) (hh : wr.heap.size = h0) (hl : xs.length + 1 ≤ 1073741824)
    (h : ∀ v' w', Hid (Acc E w lo w' v' (xs ++ [y])) → Hid (Grew wr w' v v') → K (a.put o.dst v') w') :
    if Region.wanted o (yielded ops a.tmps) = true then Oper.wp P o a (wr.alloc (.cells cs E.e)) K Q else X :=
  step_pushes hE hgd s x ho H hs [y] 1 rfl (Nat.lt_succ_self _) cs (by rw [hcs]; simp) h0 hx hh hl h
theorem wpList_push (hE : E.Ok P) {ops : Array Oper} {rest : List Oper} {o : Oper} {a : Act} {Q : Exit → Act → World → Prop} (hgd : o.guard = none) (s x : Operand)
    (ho : o.op = .call { callee := .builtin .append, args := #[s, x], argTypes := #[E.t, E.t] }) {w wr : World} {lo : Nat} {v : Value} {xs : List α} (H : Acc E w lo wr v xs) (hs : a.eval s = v)
    (y : α) (cs : Array Value) (hcs : cs.toList = E.f y) (h0 : Nat) (hx : a.eval x = .slice (some ⟨h0, 0, none⟩) 1 1) (hh : wr.heap.size = h0) (hl : xs.length + 1 ≤ 1073741824)
    (h : ∀ v' w', Hid (Acc E w lo w' v' (xs ++ [y])) → Hid (Grew wr w' v v') → wpList P ops Q rest (a.put o.dst v') w') :
    wpList P ops Q (o :: rest) a (wr.alloc (.cells cs E.e)) :=
  wpList_pushes hE hgd s x ho H hs [y] 1 rfl (Nat.lt_succ_self _) cs (by rw [hcs]; simp) h0 hx hh hl h
/-- append of a whole slice. -/
theorem wpList_pushSrc (hE : E.Ok P) (hs1 : E.s = 1) {ops : Array Oper} {rest : List Oper} {o : Oper} {a : Act} {Q : Exit → Act → World → Prop} (hgd : o.guard = none) (s x : Operand)
    (ho : o.op = .call { callee := .builtin .append, args := #[s, x], argTypes := #[E.t, E.t] }) {w wr : World} {lo : Nat} {v : Value} {xs : List α} (H : Acc E w lo wr v xs) (hs : a.eval s = v)
    (ys : List α) (B : Nat) (A : Option Addr) (m c : Nat) (hr : Rd wr B A (ys.flatMap E.f)) (hx : a.eval x = .slice A m c) (hm : m = ys.length) (hl : xs.length + ys.length ≤ 1073741824)
    (h : ∀ v' w', Hid (Acc E w lo w' v' (xs ++ ys)) → Hid (wr.grownBy w' v.ownBlock ∧ (v'.ownBlock = v.ownBlock ∨ v'.ownBlock = some wr.heap.size)) → wpList P ops Q rest (a.put o.dst v') w') :
    wpList P ops Q (o :: rest) a wr := by
  obtain ⟨i, hi, hzz⟩ := Option.map_eq_some_iff.1 hE.info
  simp only [Prod.mk.injEq] at hzz
  obtain ⟨hz, hsz, hby⟩ := hzz
  obtain ⟨h1, h2, h3, h4⟩ := H
  have hown : wr.ownsRow lo E.e 1 v xs.length (xs.flatMap E.f) := by have := h1; unfold OwnF at this; rwa [hs1] at this
  have hly : (ys.flatMap E.f).length = ys.length := by rw [flat_length hE.len, hs1, Nat.mul_one]
  refine wpList_append_src wr hgd s x E.t ho lo E.e i E.z E.b hE.und hi hz (by rw [hsz, hs1]) hby (by rw [hE.zs, hs1]) v xs.length (xs.flatMap E.f) hs hown B A c m (ys.flatMap E.f) hx (by rw [hly, hm]) hr (fun u hu => ?_) (by unfold maxLen; omega) ?_ h4 ?_
  · obtain ⟨y, _, hy⟩ := List.mem_flatMap.1 hu
    exact hE.one y u hy
  · rw [hly]
    have h5 := hE.few
    have : (xs.length + ys.length) * E.b ≤ 1073741824 * 1024 := Nat.mul_le_mul hl h5
    omega
  · intro v' w' hown' hg hat
    refine h v' w' ⟨?_, h2.grown hg h2.size fun k hk => by have := (h1.lt k hk).1; omega, h3, by have := hg.size; omega⟩ ⟨hg, hat⟩
    unfold OwnF
    rw [List.length_append, List.flatMap_append, hs1, ← hly]
    exact hown'
end

/-- Integers, rows of one cell each (whatever their values). -/
def elInt : El Int := ⟨3, 31, 1, 8, .int .i64 0, fun z => [.int .i64 z]⟩
theorem okInt : elInt.Ok Try.prog := ⟨Try.underlying31, infoInt, rfl, by decide, by decide, fun _ => rfl, fun x u hu => by simp [elInt] at hu; subst hu; rfl⟩
theorem ownF_int {w : World} {lo : Nat} {v : Value} {zs : List Int} : OwnF elInt w lo v zs ↔ OwnI w lo v zs := by
  unfold OwnF OwnI
  have : zs.flatMap elInt.f = zs.map (Value.int .i64) := by
    induction zs with
    | nil => rfl
    | cons z zs ih => rw [List.flatMap_cons, ih]; rfl
  rw [this]; exact Iff.rfl
end Go.Proofs.Ytehnbalbpfmijaa
