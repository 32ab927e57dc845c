/- What the claim's walk rests on: parts Links, Posts, LkIx, Cells, Uncov. -/
import Derived.Test.YtehnbalbpfmijaaKFlt1
import Derived.Test.YtehnbalbpfmijaaKFlt2
import Derived.Test.YtehnbalbpfmijaaKFlt5
import Derived.Test.YtehnbalbpfmijaaKFlt9
namespace Go.Proofs.Ytehnbalbpfmijaa
open Go.RowKit

/-! ### The plain functions -/
def lkAt (w h x y : Int) : List Lk := (if x + 1 < w then [(x, y, false)] else []) ++ (if y + 1 < h then [(x, y, true)] else [])
def lkRow (w h y : Int) : Nat → List Lk | 0 => [] | x + 1 => lkRow w h y x ++ lkAt w h x y
def lkAll (w h : Int) : Nat → List Lk | 0 => [] | y + 1 => lkAll w h y ++ lkRow w h y w.toNat
def lkFlat (w h : Nat) : Nat → List Lk | 0 => [] | k + 1 => lkFlat w h k ++ lkAt w h ((k % w : Nat) : Int) ((k / w : Nat) : Int)
def linksZ (w h : Int) : List Lk := if gridB w h then lkAll w h h.toNat else []
theorem gridB_iff (x y : Int) : gridB x y = true ↔ (1 ≤ x ∧ x ≤ 4) ∧ 1 ≤ y ∧ y ≤ 4 := by simp [gridB, inB_iff]
theorem all2 {a b : Nat} {p : Nat → Nat → Bool} (h : ((List.range a).all fun x => (List.range b).all fun y => p x y) = true) (x y : Nat) (hx : x < a) (hy : y < b) : p x y = true := by
  rw [List.all_eq_true] at h
  have := h x (by simpa using hx)
  rw [List.all_eq_true] at this
  exact this y (by simpa using hy)
theorem lk_tab : ((List.range 5).all fun w => (List.range 5).all fun h => w == 0 || h == 0 || lkFlat w h (w * h) == lkAll w h h) = true := by decide +kernel
theorem lk_same (w : Nat) (h1 : w ≤ 4) (h : Nat) (h2 : h ≤ 4) (h3 : 1 ≤ w) (h4 : 1 ≤ h) : lkFlat w h (w * h) = lkAll w h h := by
  have := all2 lk_tab w h (by omega) (by omega)
  simp only [Bool.or_eq_true, beq_iff_eq] at this
  rcases this with (e | e) | e
  · omega
  · omega
  · exact e
theorem lkAt_len (w h x y : Int) : (lkAt w h x y).length ≤ 2 := by unfold lkAt; split <;> split <;> simp
theorem lkRow_len (w h y : Int) : ∀ x, (lkRow w h y x).length ≤ 2 * x
  | 0 => by simp [lkRow]
  | x + 1 => by have := lkRow_len w h y x; have := lkAt_len w h x y; simp [lkRow]; omega
theorem linksZ_len (w h : Int) : (linksZ w h).length ≤ 32 := by
  unfold linksZ
  split
  · rename_i hg
    obtain ⟨⟨a1, a2⟩, a3, a4⟩ := (gridB_iff _ _).1 hg
    have : ∀ n : Nat, (lkAll w h n).length ≤ 8 * n := fun n => by
      induction n with
      | zero => simp [lkAll]
      | succ n ih => have := lkRow_len w h n w.toNat; simp [lkAll]; omega
    have := this h.toNat
    omega
  · simp

def RetLinks (w : World) (ls : List Lk) (e : Ending) (w' : World) : Prop := ∃ v, e = .returned v ∧ OwnF elLink w' w.heap.size v ls ∧ Below w.heap.size w w'

set_option maxHeartbeats 4000000 in
theorem LinksOf_yes (n m : Nat) (w : World) (hg : gridB n m = true) :
    Calls Try.prog 111 #[.int .i64 n, .int .i64 m] w (RetLinks w (lkAll n m m)) := by
  obtain ⟨⟨hn1, hn2⟩, hm1, hm2⟩ := (gridB_iff _ _).1 hg
  have HA0 : Hid (Acc elLink w w.heap.size (w.alloc (.cells #[] 68)) (.slice (some ⟨w.heap.size, 0, none⟩) 0 0) []) := Acc.start w
  go_enter Try.func111, Try.ntmps111
  go_wp2_with fail
  refine (GridOk_any _ _ _).mono ?_
  rintro e w1 ⟨rfl, rfl⟩
  rw [hg]
  go_wp2_with fail
  go_loopw [5, 14] (fun o s wr => ∃ (y : Nat) (v : Value) (xs : List Lk), y ≤ m ∧ s = .int .i64 y ∧ o = v ∧ Hid (Acc elLink w w.heap.size wr v xs) ∧ Hid (xs = lkAll n m y) ∧ xs.length ≤ 8 * y) (fun _ s _ => m - (intOf s).toNat)
  case atStart => exact ⟨0, _, [], Nat.zero_le _, rfl, rfl, HA0, rfl, Nat.le_refl _⟩
  case round =>
    obtain ⟨y, v0, xs0, hy, rfl, rfl, HA, HX, hxl⟩ := hrel
    by_cases hlt : y < m
    · have hty : decide ((y : Int) < (m : Int)) = true := by simp only [decide_eq_true_eq]; omega
      have hy1 : (0 : Int) ≤ (y : Int) := by omega
      have hy2 : (y : Int) < 4 := by omega
      go_wp2_with fail
      go_loopw [5, 18] (fun o s wr => ∃ (x : Nat) (v : Value) (xs : List Lk), x ≤ n ∧ s = .int .i64 x ∧ o = v ∧ Hid (Acc elLink w w.heap.size wr v xs) ∧ Hid (xs = xs0 ++ lkRow n m y x) ∧ xs.length ≤ 8 * y + 2 * x) (fun _ s _ => n - (intOf s).toNat)
      case atStart => exact ⟨0, _, xs0, Nat.zero_le _, rfl, rfl, HA, by simp [Hid, lkRow], by omega⟩
      case round =>
        obtain ⟨x, v1, xs1, hx, rfl, rfl, HA1, HX1, hxl1⟩ := hrel
        by_cases hlx : x < n
        · have htx : decide ((x : Int) < (n : Int)) = true := by simp only [decide_eq_true_eq]; omega
          have hx1 : (0 : Int) ≤ (x : Int) := by omega
          have hx2 : (x : Int) < 4 := by omega
          have HS : Hid (xs0 ++ lkRow n m y (x + 1) = xs1 ++ lkAt n m x y) := by unfold Hid; rw [HX1.out, lkRow, List.append_assoc]
          by_cases c1 : (x : Int) + 1 < (n : Int) <;> by_cases c2 : (y : Int) + 1 < (m : Int)
          · have HL : Hid (lkAt n m x y = [((x : Int), (y : Int), false)] ++ [((x : Int), (y : Int), true)]) := by unfold Hid lkAt; rw [if_pos c1, if_pos c2]
            go_wp2_with (at_builtin; first
              | (refine wpList_push okLink rfl _ _ rfl HA1.out rfl ((x : Int), (y : Int), false) _ rfl _ rfl (by simp) (by omega) ?_; intro u2 w2 HA2 HG2)
              | (refine wpList_push okLink rfl _ _ rfl HA2.out rfl ((x : Int), (y : Int), true) _ rfl _ rfl (by simp) (by simp; omega) ?_; intro u3 w3 HA3 HG3))
            go_roundw
            case rel => exact ⟨x + 1, _, _, by omega, by go_num, rfl, HA3, by (unfold Hid; rw [HS.out, HL.out, List.append_assoc]), by simp; omega⟩
            case measure => simp [intOf]; omega
          · have HL : Hid (lkAt n m x y = [((x : Int), (y : Int), false)]) := by unfold Hid lkAt; rw [if_pos c1, if_neg c2]; rfl
            go_wp2_with (at_builtin; refine wpList_push okLink rfl _ _ rfl HA1.out rfl ((x : Int), (y : Int), false) _ rfl _ rfl (by simp) (by omega) ?_; intro u2 w2 HA2 HG2)
            go_roundw
            case rel => exact ⟨x + 1, _, _, by omega, by go_num, rfl, HA2, by (unfold Hid; rw [HS.out, HL.out]), by simp; omega⟩
            case measure => simp [intOf]; omega
          · have HL : Hid (lkAt n m x y = [((x : Int), (y : Int), true)]) := by unfold Hid lkAt; rw [if_neg c1, if_pos c2]; rfl
            go_wp2_with (at_builtin; refine wpList_push okLink rfl _ _ rfl HA1.out rfl ((x : Int), (y : Int), true) _ rfl _ rfl (by simp) (by omega) ?_; intro u2 w2 HA2 HG2)
            go_roundw
            case rel => exact ⟨x + 1, _, _, by omega, by go_num, rfl, HA2, by (unfold Hid; rw [HS.out, HL.out]), by simp; omega⟩
            case measure => simp [intOf]; omega
          · have HL : Hid (lkAt n m x y = []) := by unfold Hid lkAt; rw [if_neg c1, if_neg c2]; rfl
            go_wp2_with fail
            go_roundw
            case rel => exact ⟨x + 1, _, _, by omega, by go_num, rfl, HA1, by (unfold Hid; rw [HS.out, HL.out, List.append_nil]), by omega⟩
            case measure => simp [intOf]; omega
        · have HK : Hid (xs1 = lkAll n m (y + 1)) := by unfold Hid; rw [HX1.out, HX.out, lkAll, show x = ((n : Int)).toNat by omega]
          go_wp2_with fail
          go_roundw
          case rel => exact ⟨y + 1, _, _, by omega, by go_num, rfl, HA1, HK, by omega⟩
          case measure => simp [intOf]; omega
    · have HK : Hid (xs0 = lkAll n m m) := by unfold Hid; rw [HX.out, show y = m by omega]
      go_wp2_with fail
      go_ret
      exact ⟨_, rfl, by rw [← HK.out]; exact HA.out.1, HA.out.2.1⟩

theorem LinksOf_any (a b : Int) (w : World) :
    Calls Try.prog 111 #[.int .i64 a, .int .i64 b] w (RetLinks w (linksZ a b)) := by
  cases hg : gridB a b
  · have e0 : linksZ a b = [] := by simp [linksZ, hg]
    rw [e0]; clear e0
    go_enter Try.func111, Try.ntmps111
    go_wp2_with fail
    refine (GridOk_any _ _ _).mono ?_
    rintro e w1 ⟨rfl, rfl⟩
    rw [hg]
    go_wp2_with fail
    go_ret
    exact ⟨_, rfl, OwnF.nil, Below.refl _ _⟩
  · have hb := (gridB_iff _ _).1 hg
    obtain ⟨n, rfl⟩ := Int.eq_ofNat_of_zero_le (show 0 ≤ a by omega)
    obtain ⟨m, rfl⟩ := Int.eq_ofNat_of_zero_le (show 0 ≤ b by omega)
    have e0 : linksZ n m = lkAll n m m := by simp [linksZ, hg]
    rw [e0]
    exact LinksOf_yes n m w hg

set_option maxHeartbeats 4000000 in
theorem specLinksOf_yes (n m : Nat) (w : World) (hg : gridB n m = true) :
    Calls Try.prog 107 #[.int .i64 n, .int .i64 m] w (RetLinks w (lkAll n m m)) := by
  obtain ⟨⟨hn1, hn2⟩, hm1, hm2⟩ := (gridB_iff _ _).1 hg
  have HA0 : Hid (Acc elLink w w.heap.size (w.alloc (.cells #[] 68)) (.slice (some ⟨w.heap.size, 0, none⟩) 0 0) []) := Acc.start w
  have hnm : n * m ≤ 16 := Nat.mul_le_mul (show n ≤ 4 by omega) (show m ≤ 4 by omega)
  have HNM : Hid (lkFlat n m (n * m) = lkAll n m m) := lk_same n (by omega) m (by omega) (by omega) (by omega)
  generalize hN : n * m = N at *
  have HN : Hid (((n : Int) * (m : Int)) = (N : Int)) := by unfold Hid; rw [← hN, Int.natCast_mul]
  have HN2 := Lib.hid hN
  clear hN
  go_enter Try.func107, Try.ntmps107
  go_wp2_with fail
  go_loopw [5, 6] (fun o s wr => ∃ (k : Nat) (v : Value) (xs : List Lk), k ≤ N ∧ s = .int .i64 k ∧ o = v ∧ Hid (Acc elLink w w.heap.size wr v xs) ∧ Hid (xs = lkFlat n m k) ∧ xs.length ≤ 2 * k) (fun _ s _ => N - (intOf s).toNat)
  case atStart => exact ⟨0, _, [], Nat.zero_le _, rfl, rfl, HA0, rfl, Nat.le_refl _⟩
  case round =>
    obtain ⟨k, v0, xs0, hk, rfl, rfl, HA, HX, hxl⟩ := hrel
    have hw : IntKind.i64.wrap ((n : Int) * (m : Int)) = (N : Int) := by rw [HN.out]; exact IntWalk.i64_in _ (by omega)
    have hk1 : (0 : Int) ≤ (k : Int) := by omega
    by_cases hlt : k < N
    · have htk : decide ((k : Int) < (N : Int)) = true := by simp only [decide_eq_true_eq]; omega
      have hq : k / n < m := (Nat.div_lt_iff_lt_mul (by omega)).2 (by have := HN2.out; rw [Nat.mul_comm] at this; omega)
      have hr : k % n < n := Nat.mod_lt _ (by omega)
      generalize hQ : k / n = q at *
      generalize hR : k % n = r at *
      have hq1 : (k : Int) / (n : Int) = (q : Int) := by rw [← hQ, Int.natCast_ediv]
      have hr1 : (k : Int) % (n : Int) = (r : Int) := by rw [← hR, Int.natCast_emod]
      have HS : Hid (lkFlat n m (k + 1) = xs0 ++ lkAt n m r q) := by unfold Hid; rw [HX.out, lkFlat, hQ, hR]
      clear hQ hR
      by_cases c1 : (r : Int) + 1 < (n : Int) <;> by_cases c2 : (q : Int) + 1 < (m : Int)
      · have HL : Hid (lkAt n m r q = [((r : Int), (q : Int), false)] ++ [((r : Int), (q : Int), true)]) := by unfold Hid lkAt; rw [if_pos c1, if_pos c2]
        go_wp2_with (first
          | (go_at_call 105; refine (specGridOk_any _ _ _).mono ?_; rintro e w1 ⟨rfl, rfl⟩; rw [hg])
          | (at_builtin; refine wpList_push okLink rfl _ _ rfl HA.out rfl ((r : Int), (q : Int), false) _ rfl _ rfl (by simp) (by omega) ?_; intro u2 w2 HA2 HG2)
          | (at_builtin; refine wpList_push okLink rfl _ _ rfl HA2.out rfl ((r : Int), (q : Int), true) _ rfl _ rfl (by simp) (by simp; omega) ?_; intro u3 w3 HA3 HG3))
        go_roundw
        case rel => exact ⟨k + 1, _, _, by omega, by go_num, rfl, HA3, by (unfold Hid; rw [HS.out, HL.out, List.append_assoc]), by simp; omega⟩
        case measure => simp [intOf]; omega
      · have HL : Hid (lkAt n m r q = [((r : Int), (q : Int), false)]) := by unfold Hid lkAt; rw [if_pos c1, if_neg c2]; rfl
        go_wp2_with (first
          | (go_at_call 105; refine (specGridOk_any _ _ _).mono ?_; rintro e w1 ⟨rfl, rfl⟩; rw [hg])
          | (at_builtin; refine wpList_push okLink rfl _ _ rfl HA.out rfl ((r : Int), (q : Int), false) _ rfl _ rfl (by simp) (by omega) ?_; intro u2 w2 HA2 HG2))
        go_roundw
        case rel => exact ⟨k + 1, _, _, by omega, by go_num, rfl, HA2, by (unfold Hid; rw [HS.out, HL.out]), by simp; omega⟩
        case measure => simp [intOf]; omega
      · have HL : Hid (lkAt n m r q = [((r : Int), (q : Int), true)]) := by unfold Hid lkAt; rw [if_neg c1, if_pos c2]; rfl
        go_wp2_with (first
          | (go_at_call 105; refine (specGridOk_any _ _ _).mono ?_; rintro e w1 ⟨rfl, rfl⟩; rw [hg])
          | (at_builtin; refine wpList_push okLink rfl _ _ rfl HA.out rfl ((r : Int), (q : Int), true) _ rfl _ rfl (by simp) (by omega) ?_; intro u2 w2 HA2 HG2))
        go_roundw
        case rel => exact ⟨k + 1, _, _, by omega, by go_num, rfl, HA2, by (unfold Hid; rw [HS.out, HL.out]), by simp; omega⟩
        case measure => simp [intOf]; omega
      · have HL : Hid (lkAt n m r q = []) := by unfold Hid lkAt; rw [if_neg c1, if_neg c2]; rfl
        go_wp2_with (go_at_call 105; refine (specGridOk_any _ _ _).mono ?_; rintro e w1 ⟨rfl, rfl⟩; rw [hg])
        go_roundw
        case rel => exact ⟨k + 1, _, _, by omega, by go_num, rfl, HA, by (unfold Hid; rw [HS.out, HL.out, List.append_nil]), by omega⟩
        case measure => simp [intOf]; omega
    · have HK : Hid (xs0 = lkAll n m m) := by unfold Hid; rw [HX.out, show k = N by omega]; exact HNM.out
      go_wp2_with (go_at_call 105; refine (specGridOk_any _ _ _).mono ?_; rintro e w1 ⟨rfl, rfl⟩; rw [hg])
      go_ret
      exact ⟨_, rfl, by rw [← HK.out]; exact HA.out.1, HA.out.2.1⟩

theorem specLinksOf_any (a b : Int) (w : World) :
    Calls Try.prog 107 #[.int .i64 a, .int .i64 b] w (RetLinks w (linksZ a b)) := by
  cases hg : gridB a b
  · have e0 : linksZ a b = [] := by simp [linksZ, hg]
    rw [e0]; clear e0
    have HA0 : Hid (Acc elLink w w.heap.size (w.alloc (.cells #[] 68)) (.slice (some ⟨w.heap.size, 0, none⟩) 0 0) []) := Acc.start w
    go_enter Try.func107, Try.ntmps107
    go_wp2_with fail
    go_loopw [5, 6] (fun o s wr => o = .slice (some ⟨w.heap.size, 0, none⟩) 0 0 ∧ s = .int .i64 0 ∧ wr = w.alloc (.cells #[] 68)) (fun _ _ _ => 0)
    case atStart => exact ⟨rfl, rfl, rfl⟩
    case round =>
      obtain ⟨rfl, rfl, rfl⟩ := hrel
      go_wp2_with (go_at_call 105; refine (specGridOk_any _ _ _).mono ?_; rintro e w1 ⟨rfl, rfl⟩; rw [hg])
      go_ret
      exact ⟨_, rfl, HA0.out.1, HA0.out.2.1⟩
  · have hb := (gridB_iff _ _).1 hg
    obtain ⟨n, rfl⟩ := Int.eq_ofNat_of_zero_le (show 0 ≤ a by omega)
    obtain ⟨m, rfl⟩ := Int.eq_ofNat_of_zero_le (show 0 ≤ b by omega)
    have e0 : linksZ n m = lkAll n m m := by simp [linksZ, hg]
    rw [e0]
    exact specLinksOf_yes n m w hg
end Go.Proofs.Ytehnbalbpfmijaa

namespace Go.Proofs.Ytehnbalbpfmijaa
open Go.RowKit

def postA (wd : Int) (l : Lk) : Int := l.2.1 * wd + l.1
def postB (wd : Int) (l : Lk) : Int := if l.2.2 then postA wd l + wd else postA wd l + 1
theorem mul_bdP {a b A B : Int} (h1 : 0 ≤ a) (h2 : a ≤ A) (h3 : 0 ≤ b) (h4 : b ≤ B) : 0 ≤ a * b ∧ a * b ≤ A * B :=
  ⟨Int.mul_nonneg h1 h3, Int.mul_le_mul h2 h4 h3 (by omega)⟩
theorem posts_any (wd x y : Int) (d : Bool) (w : World) (h1 : 0 ≤ x) (h2 : x ≤ 64) (h3 : 0 ≤ y) (h4 : y ≤ 64) (h5 : 0 ≤ wd) (h6 : wd ≤ 64) :
    Calls Try.prog 151 #[triV x y d, .int .i64 wd] w fun e w' => e = .returned (.tuple #[.int .i64 (postA wd (x, y, d)), .int .i64 (postB wd (x, y, d))]) ∧ Below w.heap.size w w' := by
  obtain ⟨m1, m2⟩ := mul_bdP h3 h4 h5 h6
  have m3 : y * wd + x ≤ 5000 := by omega
  have m4 : 0 ≤ y * wd + x := by omega
  cases d
  all_goals
    go_enter Try.func151, Try.ntmps151
    go_wp2
    go_ret2
    exact ⟨rfl, (Below.refl _ _).alloc (by (try simp) <;> omega) _⟩
theorem l23Ends_any (wd x y : Int) (d : Bool) (w : World) (h1 : 0 ≤ x) (h2 : x ≤ 64) (h3 : 0 ≤ y) (h4 : y ≤ 64) (h5 : 0 ≤ wd) (h6 : wd ≤ 64) :
    Calls Try.prog 117 #[.int .i64 wd, triV x y d] w fun e w' => e = .returned (.tuple #[.int .i64 (postA wd (x, y, d)), .int .i64 (postB wd (x, y, d))]) ∧ Below w.heap.size w w' := by
  obtain ⟨m1, m2⟩ := mul_bdP h3 h4 h5 h6
  have m3 : y * wd + x ≤ 5000 := by omega
  have m4 : 0 ≤ y * wd + x := by omega
  cases d
  all_goals
    go_enter Try.func117, Try.ntmps117
    go_wp2
    go_ret2
    exact ⟨rfl, (Below.refl _ _).alloc (by (try simp) <;> omega) _⟩
end Go.Proofs.Ytehnbalbpfmijaa

namespace Go.Proofs.Ytehnbalbpfmijaa
open Go.RowKit
set_option linter.unusedVariables false

/-- The first number from k on, among n, with p; -1 if there is none. -/
def fstZ (p : Nat → Bool) : Nat → Nat → Int
  | 0, _ => -1
  | n + 1, k => if p k then (k : Int) else fstZ p n (k + 1)
theorem fstZ_spec (p : Nat → Bool) : ∀ n k, (fstZ p n k = -1 ∧ ∀ i, k ≤ i → i < k + n → p i = false) ∨ ∃ j : Nat, fstZ p n k = (j : Int) ∧ k ≤ j ∧ j < k + n ∧ p j = true ∧ ∀ i, k ≤ i → i < j → p i = false
  | 0, k => .inl ⟨rfl, fun i h1 h2 => by omega⟩
  | n + 1, k => by
    rw [fstZ]
    by_cases h : p k = true
    · rw [if_pos h]; exact .inr ⟨k, rfl, Nat.le_refl _, by omega, h, fun i h1 h2 => by omega⟩
    · rw [if_neg h]
      have hf : p k = false := by simpa using h
      rcases fstZ_spec p n (k + 1) with ⟨h1, h2⟩ | ⟨j, h1, h2, h3, h4, h5⟩
      · refine .inl ⟨h1, fun i q1 q2 => ?_⟩
        by_cases e : i = k
        · rw [e]; exact hf
        · exact h2 i (by omega) (by omega)
      · refine .inr ⟨j, h1, by omega, by omega, h4, fun i q1 q2 => ?_⟩
        by_cases e : i = k
        · rw [e]; exact hf
        · exact h5 i (by omega) q2
def lkEq (ls : List Lk) (x y : Int) (d : Bool) (i : Nat) : Bool := lx ls i == x && (ly ls i == y && ld ls i == d)
set_option maxRecDepth 100000 in
set_option maxHeartbeats 4000000 in
theorem linkIndex_any (v : Value) (ls : List Lk) (x y : Int) (d : Bool) (B : Nat) (w : World) (h : RdF elLink w B v ls) (hB : B ≤ w.heap.size) :
    Calls Try.prog 149 #[v, triV x y d] w fun e w' => e = .returned (.int .i64 (fstZ (lkEq ls x y d) ls.length 0)) ∧ Below w.heap.size w w' := by
  obtain ⟨A, c, rfl, g1, g2, G3⟩ := RdT.of (E := elLink) rfl (fun _ => rfl) h
  unfold maxLen at g2
  clear h
  go_enter Try.func149, Try.ntmps149
  go_wp2_with fail
  obtain ⟨W, hW, k0, hb0⟩ := one_alloc w (.cells #[.int .i64 x, .int .i64 y, .bool d] 68)
  rw [← hW]
  have HK := Lib.hid k0
  have HB0 := Lib.hid hb0
  have hs0 : w.heap.size < W.heap.size := lt_of_block k0
  clear hW k0 hb0
  go_loopw [9] (fun s wr => ∃ k : Nat, k ≤ ls.length ∧ s = .int .i64 k ∧ Hid (Below W.heap.size W wr) ∧ Hid (fstZ (lkEq ls x y d) ls.length 0 = fstZ (lkEq ls x y d) (ls.length - k) k)) (fun s _ => ls.length - (intOf s).toNat)
  case atStart => exact ⟨0, Nat.zero_le _, rfl, Below.refl _ _, rfl⟩
  case round =>
    obtain ⟨k, hk, rfl, HB, HF⟩ := hrel
    by_cases hlt : k < ls.length
    · obtain ⟨ad, rfl, had, hx, hy, hz⟩ := G3.out k hlt
      have hbw := HB0.out.trans (HB.out.mono HB0.out.size)
      have hx' := (hbw.cell (p := ad.add (k * 3)) (by rw [addBlock]; omega)).trans hx
      have hy' := (hbw.cell (p := ⟨(ad.add (k * 3)).block, (ad.add (k * 3)).off + 1, none⟩) (by show (ad.add (k * 3)).block < _; rw [addBlock]; omega)).trans hy
      have hz' := (hbw.cell (p := ⟨(ad.add (k * 3)).block, (ad.add (k * 3)).off + 2, none⟩) (by show (ad.add (k * 3)).block < _; rw [addBlock]; omega)).trans hz
      have hblk := (HB.out.block w.heap.size hs0).trans HK.out
      have ht : decide ((k : Int) < (ls.length : Int)) = true := by simp only [decide_eq_true_eq]; omega
      have hk0 : (0 : Int) ≤ (k : Int) := by omega
      have hk1 : (k : Int) < (ls.length : Int) := by omega
      have hal := (Below.refl wr.heap.size wr).alloc (Nat.le_refl _) (.cells #[.int .i64 (lx ls k), .int .i64 (ly ls k), .bool (ld ls k)] 68)
      have hblk2 := (hal.block w.heap.size (lt_of_block hblk)).trans hblk
      have b0 : (wr.alloc (.cells #[.int .i64 (lx ls k), .int .i64 (ly ls k), .bool (ld ls k)] 68)).cell? ⟨w.heap.size, 0, none⟩ = some (.int .i64 x) := by rw [blk_cell hblk2]; rfl
      have b1 : (wr.alloc (.cells #[.int .i64 (lx ls k), .int .i64 (ly ls k), .bool (ld ls k)] 68)).cell? ⟨w.heap.size, 1, none⟩ = some (.int .i64 y) := by rw [blk_cell hblk2]; rfl
      have b2 : (wr.alloc (.cells #[.int .i64 (lx ls k), .int .i64 (ly ls k), .bool (ld ls k)] 68)).cell? ⟨w.heap.size, 2, none⟩ = some (.bool d) := by rw [blk_cell hblk2]; rfl
      have HBN := Lib.hid (HB.out.trans (hal.mono HB.out.size))
      have HQ := Lib.hid (hbw.trans (hal.mono hbw.size))
      clear hbw hx hy hz hblk hblk2 hal
      have HS : Hid (fstZ (lkEq ls x y d) (ls.length - k) k = if lkEq ls x y d k then (k : Int) else fstZ (lkEq ls x y d) (ls.length - (k + 1)) (k + 1)) := by
        unfold Hid; rw [show ls.length - k = (ls.length - (k + 1)) + 1 by omega, fstZ]
      have HE : Hid (lkEq ls x y d k = (lx ls k == x && (ly ls k == y && ld ls k == d))) := rfl
      generalize lkEq ls x y d k = r at *
      generalize lx ls k = p1 at *
      generalize ly ls k = p2 at *
      generalize ld ls k = p3 at *
      cases r
      · have HS2 : Hid (fstZ (lkEq ls x y d) ls.length 0 = fstZ (lkEq ls x y d) (ls.length - (k + 1)) (k + 1)) := HF.out.trans HS.out
        clear HS HF
        go_wp2_with fail
        all_goals subst_vars
        all_goals first
          | (exfalso; have h9 := HE.out; simp at h9; done)
          | (go_roundw
             case rel => exact ⟨k + 1, by omega, by go_num, HBN, HS2⟩
             case measure => simp [intOf]; omega)
      · have he := HE.out.symm
        simp only [Bool.and_eq_true, beq_iff_eq] at he
        obtain ⟨rfl, rfl, rfl⟩ := he
        have HS2 : Hid (fstZ (lkEq ls p1 p2 p3) ls.length 0 = (k : Int)) := HF.out.trans HS.out
        clear HS HF
        go_wp2_with fail
        go_ret
        exact ⟨ret_int HS2.out.symm, HQ.out⟩
    · have HF2 : Hid (fstZ (lkEq ls x y d) ls.length 0 = -1) := by unfold Hid; rw [HF.out, show ls.length - k = 0 by omega]; rfl
      have ht : decide ((k : Int) < (ls.length : Int)) = false := by simp only [decide_eq_false_iff_not]; omega
      go_wp2_with fail
      go_ret
      exact ⟨ret_int HF2.out.symm, HB0.out.trans (HB.out.mono HB0.out.size)⟩

set_option maxHeartbeats 1000000 in
theorem indexOf_any (v : Value) (zs : List Int) (x : Int) (B : Nat) (w : World) (h : RdI w B v zs) :
    Calls Try.prog 150 #[v, .int .i64 x] w fun e w' => e = .returned (.int .i64 (fstZ (fun i => el zs i == x) zs.length 0)) ∧ w = w' := by
  obtain ⟨A, c, rfl, g1, g2, hr⟩ := h
  unfold maxLen at g2
  have HR := Lib.hid hr
  clear hr
  go_enter Try.func150, Try.ntmps150
  go_wp2_with fail
  go_loop [9] (fun s => ∃ k : Nat, k ≤ zs.length ∧ s = .int .i64 k ∧ Hid (fstZ (fun i => el zs i == x) zs.length 0 = fstZ (fun i => el zs i == x) (zs.length - k) k)) (fun s => zs.length - (intOf s).toNat)
  case atStart => exact ⟨0, Nat.zero_le _, rfl, rfl⟩
  case round =>
    obtain ⟨k, hk, rfl, HF⟩ := hrel
    by_cases hlt : k < zs.length
    · obtain ⟨ad, rfl, had, hc⟩ := HR.out.int hlt
      rw [← el_get _ _ hlt] at hc
      have ht : decide ((k : Int) < (zs.length : Int)) = true := by simp only [decide_eq_true_eq]; omega
      have hk0 : (0 : Int) ≤ (k : Int) := by omega
      have hk1 : (k : Int) < (zs.length : Int) := by omega
      have HS : Hid (fstZ (fun i => el zs i == x) (zs.length - k) k = if el zs k == x then (k : Int) else fstZ (fun i => el zs i == x) (zs.length - (k + 1)) (k + 1)) := by
        unfold Hid; rw [show zs.length - k = (zs.length - (k + 1)) + 1 by omega, fstZ]
      cases he : el zs k == x
      · have HS2 : Hid (fstZ (fun i => el zs i == x) zs.length 0 = fstZ (fun i => el zs i == x) (zs.length - (k + 1)) (k + 1)) := HF.out.trans (by rw [HS.out, he]; rfl)
        clear HS HF
        generalize el zs k = y at *
        go_wp2_with fail
        go_round
        case rel => exact ⟨k + 1, by omega, by go_num, HS2⟩
        case measure => simp [intOf]; omega
      · have HS2 : Hid (fstZ (fun i => el zs i == x) zs.length 0 = (k : Int)) := HF.out.trans (by rw [HS.out, he]; rfl)
        clear HS HF
        generalize el zs k = y at *
        go_wp2_with fail
        go_ret
        exact ⟨ret_int HS2.out.symm, rfl⟩
    · have HF2 : Hid (fstZ (fun i => el zs i == x) zs.length 0 = -1) := by unfold Hid; rw [HF.out, show zs.length - k = 0 by omega]; rfl
      have ht : decide ((k : Int) < (zs.length : Int)) = false := by simp only [decide_eq_false_iff_not]; omega
      go_wp2_with fail
      go_ret
      exact ⟨ret_int HF2.out.symm, rfl⟩
end Go.Proofs.Ytehnbalbpfmijaa

namespace Go.Proofs.Ytehnbalbpfmijaa
open Go.RowKit
set_option linter.unusedVariables false

set_option maxRecDepth 100000 in
set_option maxHeartbeats 2000000 in
theorem cells_any (T : Nat) (hT : T < 18446744073709551616) (w : World) :
    Calls Try.prog 77 #[.int .u64 (T : Int)] w fun e w' => ∃ u, e = .returned u ∧ OwnF elCell w' w.heap.size u (cellsTo T 64) ∧ Below w.heap.size w w' := by
  have HS0 : Hid (Acc elCell w w.heap.size (w.alloc (.cells #[] 44)) (.slice (some ⟨w.heap.size, 0, none⟩) 0 0) []) := Acc.start w
  have HCT : Hid (∀ k, cellsTo T (k + 1) = cellsTo T k ++ (if T.testBit k then [(((k % 8 : Nat) : Int), ((k / 8 : Nat) : Int))] else [])) := fun k => rfl
  have HCL := Lib.hid (fun k => (show (cellsTo T k).length ≤ k from by rw [cellsTo_len]; exact cntB_le T k))
  have HC0 : Hid (cellsTo T 0 = []) := rfl
  obtain ⟨st, HST⟩ : ∃ st, Hid (st = cellsTo T) := ⟨_, rfl⟩
  rw [← HST.out] at HCT HCL HC0 ⊢
  obtain ⟨N, HN⟩ : ∃ N : Nat, Hid (N = 64) := ⟨_, rfl⟩
  rw [← HN.out]
  clear HST
  go_enter Try.func77, Try.ntmps77
  go_wp2_with fail
  go_loopw [3, 6] (fun o i wr => ∃ (k : Nat) (u : Value), k ≤ 64 ∧ i = .int .i64 k ∧ u = o ∧ Hid (Acc elCell w w.heap.size wr u (st k))) (fun _ i _ => 64 - (intOf i).toNat)
  case atStart => exact ⟨0, _, Nat.zero_le _, rfl, rfl, by rw [HC0.out]; exact HS0⟩
  case round =>
    obtain ⟨k, u, hk, rfl, rfl, HA⟩ := hrel
    obtain ⟨A1, ca, hv, q1, q2, _⟩ := HA.out.1.rd okCell
    subst hv
    unfold maxLen at q2
    have hlen := HCL.out k
    by_cases hlt : k < 64
    · have ht : decide ((k : Int) < 64) = true := by simp only [decide_eq_true_eq]; omega
      have hk0 : (0 : Int) ≤ (k : Int) := by omega
      have hba := bit_and T k hT
      have hsv : (T : Int) / 2 ^ k = ((T / 2 ^ k : Nat) : Int) := by simp
      have HNX := Lib.hid (HCT.out k)
      generalize st k = ys at *
      cases hb : T.testBit k
      · rw [hb] at hba HNX
        have hba2 : (bits .and .u64 ((T : Int) / 2 ^ k) 1 == 1) = false := by rw [hsv, hba]; rfl
        have HN2 : Hid (st (k + 1) = ys) := by unfold Hid; rw [HNX.out]; simp
        clear hba hsv
        go_wp2_with fail
        go_roundw
        case rel => exact ⟨k + 1, _, by omega, by go_num, rfl, by rw [HN2.out]; exact HA⟩
        case measure => simp [intOf]; omega
      · rw [hb] at hba HNX
        have hba2 : (bits .and .u64 ((T : Int) / 2 ^ k) 1 == 1) = true := by rw [hsv, hba]; rfl
        have HN2 : Hid (st (k + 1) = ys ++ [(((k % 8 : Nat) : Int), ((k / 8 : Nat) : Int))]) := by unfold Hid; rw [HNX.out]; rfl
        clear hba hsv
        go_wp2_with fail
        refine (cellAt_any k (by omega) _).mono ?_
        rintro e w2 ⟨rfl, hb2⟩
        have HA2 := Lib.hid (HA.out.below hb2)
        clear hb2
        generalize ((k % 8 : Nat) : Int) = cx at *
        generalize ((k / 8 : Nat) : Int) = cy at *
        go_wp2_with (at_builtin; refine wpList_push okCell rfl _ _ rfl HA2.out rfl (cx, cy) _ rfl _ rfl rfl (by omega) ?_; intro v10 w10 HA10 HG10)
        go_roundw
        case rel => exact ⟨k + 1, _, by omega, by go_num, rfl, by rw [HN2.out]; exact HA10⟩
        case measure => simp [intOf]; omega
    · have HK : Hid (k = N) := by unfold Hid; have := HN.out; omega
      have ht : decide ((k : Int) < 64) = false := by simp only [decide_eq_false_iff_not]; omega
      have HO : Hid (OwnF elCell wr w.heap.size (.slice A1 (st k).length ca) (st N)) := by rw [← HK.out]; exact HA.out.1
      go_wp2_with fail
      go_ret
      exact ⟨_, rfl, HO.out, HA.out.2.1⟩

/-- The set of a list of cells. -/
def sofTo (ls : List (Int × Int)) : Nat → Nat
  | 0 => 0
  | k + 1 => sofTo ls k ||| 2 ^ cix (dx ls k).toNat (dy ls k).toNat
set_option maxRecDepth 100000 in
set_option maxHeartbeats 2000000 in
theorem setOf_any (v : Value) (ls : List (Int × Int)) (hok : ∀ k, k < ls.length → (0 ≤ dx ls k ∧ dx ls k ≤ 7) ∧ 0 ≤ dy ls k ∧ dy ls k ≤ 7) (B : Nat) (w : World) (h : RdF elCell w B v ls) (hB : B ≤ w.heap.size) :
    Calls Try.prog 79 #[v] w fun e w' => e = .returned (.int .u64 (sofTo ls ls.length : Nat)) ∧ Below w.heap.size w w' := by
  have HLT : Hid (∀ k, k ≤ ls.length → sofTo ls k < 18446744073709551616) := by
    intro k
    induction k with
    | zero => intro _; simp [sofTo]
    | succ k ih =>
      intro hk
      have h1 := hok k (by omega)
      exact with_lt (ih (by omega)) (by unfold cix; omega)
  have HOK := Lib.hid hok
  have HST : Hid (∀ k, sofTo ls (k + 1) = sofTo ls k ||| 2 ^ cix (dx ls k).toNat (dy ls k).toNat) := fun k => rfl
  obtain ⟨A, c, rfl, g1, g2, G3⟩ := RdD.of (E := elCell) rfl (fun _ => rfl) h
  unfold maxLen at g2
  clear h hok
  go_enter Try.func79, Try.ntmps79
  go_wp2_with fail
  go_loopw [3, 8] (fun s i wr => ∃ k : Nat, k ≤ ls.length ∧ i = .int .i64 k ∧ s = .int .u64 (sofTo ls k : Nat) ∧ Hid (Below w.heap.size w wr)) (fun _ i _ => ls.length - (intOf i).toNat)
  case atStart => exact ⟨0, Nat.zero_le _, rfl, rfl, Below.refl _ _⟩
  case round =>
    obtain ⟨k, hk, rfl, rfl, HB⟩ := hrel
    by_cases hlt : k < ls.length
    · obtain ⟨ad, rfl, hbl, hx, hy⟩ := G3.out k hlt
      have ht : decide ((k : Int) < (ls.length : Int)) = true := by simp only [decide_eq_true_eq]; omega
      have hbl2 : (ad.add (k * 2)).block < w.heap.size := by rw [addBlock]; omega
      have hx' := (HB.out.cell (p := ad.add (k * 2)) hbl2).trans hx
      have hy' := (HB.out.cell (p := ⟨(ad.add (k * 2)).block, (ad.add (k * 2)).off + 1, none⟩) hbl2).trans hy
      have hb := HOK.out k hlt
      have HT := Lib.hid (HST.out k)
      have HCL := Lib.hid (HLT.out k (by omega))
      have hk0 : (0 : Int) ≤ (k : Int) := by omega
      have hk1 : (k : Int) < (ls.length : Int) := by omega
      obtain ⟨a, ha⟩ := Int.eq_ofNat_of_zero_le hb.1.1
      obtain ⟨b, hb'⟩ := Int.eq_ofNat_of_zero_le hb.2.1
      rw [ha, hb'] at HT
      rw [ha] at hx'
      rw [hb'] at hy'
      simp only [Int.toNat_natCast] at HT
      have HW := Lib.hid (fun V => with_yes (sofTo ls k) a b HCL.out (by omega) (by omega) V)
      rw [← HT.out] at HW
      clear hx hy hb ha hb' HT
      generalize sofTo ls k = S at *
      go_wp2_with fail
      obtain ⟨W, hW, k1, hbW⟩ := one_alloc wr (.cells #[.int .i64 (a : Int), .int .i64 (b : Int)] 44)
      rw [← hW]
      have c0 : W.cell? ⟨wr.heap.size, 0, none⟩ = some (.int .i64 (a : Int)) := by rw [blk_cell k1]; rfl
      have c1 : W.cell? ⟨wr.heap.size, 1, none⟩ = some (.int .i64 (b : Int)) := by rw [blk_cell k1]; rfl
      have HBW := Lib.hid (HB.out.trans (hbW.mono HB.out.size))
      clear hW k1 hbW hx' hy'
      go_wp2_with fail
      refine (HW.out _).mono ?_
      rintro e w1 ⟨rfl, hb1⟩
      have HB1 := Lib.hid (HBW.out.trans (hb1.mono HBW.out.size))
      clear hb1 c0 c1
      go_wp2_with fail
      go_roundw
      case rel => exact ⟨k + 1, by omega, by go_num, rfl, HB1⟩
      case measure => simp [intOf]; omega
    · have HK : Hid (k = ls.length) := by unfold Hid; omega
      have ht : decide ((k : Int) < (ls.length : Int)) = false := by simp only [decide_eq_false_iff_not]; omega
      go_wp2_with fail
      go_ret
      exact ⟨congrArg (fun n : Nat => Ending.returned (.int .u64 (sofTo ls n : Int))) HK.out, HB.out⟩
end Go.Proofs.Ytehnbalbpfmijaa

namespace Go.Proofs.Ytehnbalbpfmijaa
open Go.RowKit
set_option linter.unusedVariables false

def cEq (ls : List (Int × Int)) (x y : Int) (i : Nat) : Bool := dx ls i == x && dy ls i == y
def hasCL (ls : List (Int × Int)) (x y : Int) : Bool := decide (0 ≤ fstZ (cEq ls x y) ls.length 0)
theorem eql_cell (a b x y : Int) (W : World) : Sem.run Try.prog (binOp .eql 44 (.agg #[.int .i64 a, .int .i64 b]) (.agg #[.int .i64 x, .int .i64 y])) W = .ok (.bool (a == x && b == y)) W := by
  by_cases h1 : a = x
  · by_cases h2 : b = y
    · subst h1; subst h2
      rw [show (a == a && b == b) = true by simp]
      go_simp
    · rw [show (a == x && b == y) = false by simp [h2]]
      go_simp
  · rw [show (a == x && b == y) = false by simp [h1]]
    go_simp

/-- A domino lies over a cell. -/
def domAt (ls : List Lk) (x y : Int) (i : Nat) : Bool := domB (lx ls i) (ly ls i) (ld ls i) && ((lx ls i == x && ly ls i == y) || (sndX (lx ls i) (ld ls i) == x && sndY (ly ls i) (ld ls i) == y))
set_option maxRecDepth 100000 in
set_option maxHeartbeats 2000000 in
theorem specDominoAt_any (v : Value) (ls : List Lk) (x y : Int) (B : Nat) (w : World) (h : RdF elDomino w B v ls) (hB : B ≤ w.heap.size) :
    Calls Try.prog 108 #[v, spotV x y] w fun e w' => e = .returned (.int .i64 (fstZ (domAt ls x y) ls.length 0)) ∧ Below w.heap.size w w' := by
  obtain ⟨A, c, rfl, g1, g2, G3⟩ := RdT.of (E := elDomino) rfl (fun _ => rfl) h
  unfold maxLen at g2
  clear h
  go_enter Try.func108, Try.ntmps108
  go_wp2_with fail
  obtain ⟨W, hW, k0, hb0⟩ := one_alloc w (.cells #[.int .i64 x, .int .i64 y] 44)
  rw [← hW]
  have HK := Lib.hid k0
  have HB0 := Lib.hid hb0
  have hs0 : w.heap.size < W.heap.size := lt_of_block k0
  clear hW k0 hb0
  go_loopw [5] (fun s wr => ∃ k : Nat, k ≤ ls.length ∧ s = .int .i64 k ∧ Hid (Below W.heap.size W wr) ∧ Hid (fstZ (domAt ls x y) ls.length 0 = fstZ (domAt ls x y) (ls.length - k) k)) (fun s _ => ls.length - (intOf s).toNat)
  case atStart => exact ⟨0, Nat.zero_le _, rfl, Below.refl _ _, rfl⟩
  case round =>
    obtain ⟨k, hk, rfl, HB, HF⟩ := hrel
    by_cases hlt : k < ls.length
    · obtain ⟨ad, rfl, had, hx, hy, hz⟩ := G3.out k hlt
      have had2 : (ad.add (k * 3)).block < w.heap.size := by rw [addBlock]; omega
      have hbw := HB0.out.trans (HB.out.mono HB0.out.size)
      have hx' := (hbw.cell (p := ad.add (k * 3)) had2).trans hx
      have hy' := (hbw.cell (p := ⟨(ad.add (k * 3)).block, (ad.add (k * 3)).off + 1, none⟩) had2).trans hy
      have hz' := (hbw.cell (p := ⟨(ad.add (k * 3)).block, (ad.add (k * 3)).off + 2, none⟩) had2).trans hz
      have ht : decide ((k : Int) < (ls.length : Int)) = true := by simp only [decide_eq_true_eq]; omega
      have hk0 : (0 : Int) ≤ (k : Int) := by omega
      have hk1 : (k : Int) < (ls.length : Int) := by omega
      have HW := Lib.hid hbw
      have HAD := Lib.hid had2
      have HS : Hid (fstZ (domAt ls x y) (ls.length - k) k = if domAt ls x y k then (k : Int) else fstZ (domAt ls x y) (ls.length - (k + 1)) (k + 1)) := by
        unfold Hid; rw [show ls.length - k = (ls.length - (k + 1)) + 1 by omega, fstZ]
      have HE : Hid (domAt ls x y k = (domB (lx ls k) (ly ls k) (ld ls k) && ((lx ls k == x && ly ls k == y) || (sndX (lx ls k) (ld ls k) == x && sndY (ly ls k) (ld ls k) == y)))) := rfl
      have HCU := Lib.hid (fun V h => CellsUnder_yes (lx ls k) (ly ls k) (ld ls k) V h)
      have HDX : Hid (Three w (ad.add (k * 3)) (lx ls k) (ly ls k) (ld ls k)) := ⟨hx, hy, hz⟩
      generalize domAt ls x y k = r at *
      generalize sndX (lx ls k) (ld ls k) = x2 at *
      generalize sndY (ly ls k) (ld ls k) = y2 at *
      generalize lx ls k = p1 at *
      generalize ly ls k = p2 at *
      generalize ld ls k = p3 at *
      clear hx hy hz hbw had2
      go_wp2_with fail
      refine (specDominoOk_any p1 p2 p3 _).mono ?_
      rintro e w3 ⟨rfl, hb3⟩
      have HB3 := Lib.hid (HB.out.trans (hb3.mono HB.out.size))
      have hbw3 := HW.out.trans (hb3.mono HW.out.size)
      have hx3 := (hbw3.cell (p := ad.add (k * 3)) HAD.out).trans HDX.out.1
      have hy3 := (hbw3.cell (p := ⟨(ad.add (k * 3)).block, (ad.add (k * 3)).off + 1, none⟩) HAD.out).trans HDX.out.2.1
      have hz3 := (hbw3.cell (p := ⟨(ad.add (k * 3)).block, (ad.add (k * 3)).off + 2, none⟩) HAD.out).trans HDX.out.2.2
      clear hb3 hbw3 hx' hy' hz'
      cases hd : domB p1 p2 p3
      · rw [hd, Bool.false_and] at HE
        have HS2 : Hid (fstZ (domAt ls x y) ls.length 0 = fstZ (domAt ls x y) (ls.length - (k + 1)) (k + 1)) := by unfold Hid; rw [HF.out, HS.out, HE.out]; rfl
        clear HS HF HE hd
        go_wp2_with fail
        go_roundw
        case rel => exact ⟨k + 1, by omega, by go_num, HB3, HS2⟩
        case measure => simp [intOf]; omega
      · rw [hd, Bool.true_and] at HE
        have HCU := Lib.hid (fun V => HCU.out V hd)
        clear hd
        go_wp2_with fail
        refine (HCU.out _).mono ?_
        rintro e w4 ⟨rfl, hb4⟩
        have HB4 := Lib.hid (HB3.out.trans (hb4.mono HB3.out.size))
        clear hb4 hx3 hy3 hz3
        go_upto_region 6 with (fail)
        obtain ⟨V, hV, k1, k2, hbV⟩ := two_alloc w4 (.cells #[.int .i64 p1, .int .i64 p2] 44) (.cells #[.int .i64 x2, .int .i64 y2] 44)
        rw [← hV]
        have HBV := Lib.hid (HB4.out.trans (hbV.mono HB4.out.size))
        have hblk := (HBV.out.block w.heap.size hs0).trans HK.out
        have b0 : V.cell? ⟨w.heap.size, 0, none⟩ = some (.int .i64 x) := by rw [blk_cell hblk]; rfl
        have b1 : V.cell? ⟨w.heap.size, 1, none⟩ = some (.int .i64 y) := by rw [blk_cell hblk]; rfl
        have c0 : V.cell? ⟨w4.heap.size, 0, none⟩ = some (.int .i64 p1) := by rw [blk_cell k1]; rfl
        have c1 : V.cell? ⟨w4.heap.size, 1, none⟩ = some (.int .i64 p2) := by rw [blk_cell k1]; rfl
        have c2 : V.cell? ⟨w4.heap.size + 1, 0, none⟩ = some (.int .i64 x2) := by rw [blk_cell k2]; rfl
        have c3 : V.cell? ⟨w4.heap.size + 1, 1, none⟩ = some (.int .i64 y2) := by rw [blk_cell k2]; rfl
        have h1 := eql_cell p1 p2 x y
        have h2 := eql_cell x2 y2 x y
        clear hV k1 k2 hbV hblk
        cases e1 : (p1 == x && p2 == y)
        · rw [e1] at h1 HE
          rw [Bool.false_or] at HE
          rw [← HE.out] at h2
          clear e1 HE
          cases r
          · have HS2 : Hid (fstZ (domAt ls x y) ls.length 0 = fstZ (domAt ls x y) (ls.length - (k + 1)) (k + 1)) := by unfold Hid; rw [HF.out, HS.out]; rfl
            go_wp2_with fail
            go_roundw
            case rel => exact ⟨k + 1, by omega, by go_num, HBV, HS2⟩
            case measure => simp [intOf]; omega
          · have HS2 : Hid (fstZ (domAt ls x y) ls.length 0 = (k : Int)) := by unfold Hid; rw [HF.out, HS.out]; rfl
            go_wp2_with fail
            go_ret
            exact ⟨ret_int HS2.out.symm, HB0.out.trans (HBV.out.mono HB0.out.size)⟩
        · rw [e1] at h1 HE
          rw [Bool.true_or] at HE
          have HS2 : Hid (fstZ (domAt ls x y) ls.length 0 = (k : Int)) := by unfold Hid; rw [HF.out, HS.out, HE.out]; rfl
          clear e1 HE h2
          go_wp2_with fail
          go_ret
          exact ⟨ret_int HS2.out.symm, HB0.out.trans (HBV.out.mono HB0.out.size)⟩
    · have HF2 : Hid (fstZ (domAt ls x y) ls.length 0 = -1) := by unfold Hid; rw [HF.out, show ls.length - k = 0 by omega]; rfl
      have ht : decide ((k : Int) < (ls.length : Int)) = false := by simp only [decide_eq_false_iff_not]; omega
      go_wp2_with fail
      go_ret
      exact ⟨ret_int HF2.out.symm, HB0.out.trans (HB.out.mono HB0.out.size)⟩
end Go.Proofs.Ytehnbalbpfmijaa

namespace Go.Proofs.Ytehnbalbpfmijaa
open Go.RowKit
set_option linter.unusedVariables false

/-- Two values in blocks of their own. -/
def Sep (u v : Value) : Prop := ∀ k, u.ownBlock = some k → v.ownBlock = some k → False
theorem Sep.symm {u v : Value} (h : Sep u v) : Sep v u := fun k h1 h2 => h k h2 h1
theorem Sep.push {α : Type} {E' : El α} {wr w' : World} {lo : Nat} {u u' v : Value} {ys : List α} (hD : Sep u v) (hB : OwnF E' wr lo v ys) (G : Grew wr w' u u') : OwnF E' w' lo v ys ∧ Sep u' v := by
  obtain ⟨hg, g, h1, h2, h3⟩ := G
  refine ⟨hB.kept hg fun k hk e => hD k e.symm hk, fun k hk hv => ?_⟩
  rw [h1] at hk
  simp only [Option.some.injEq] at hk
  subst hk
  rcases h2 with h2 | h2
  · exact hD g h2 hv
  · have := hB.lt g hv; omega
theorem Sep.pushS {α : Type} {E' : El α} {wr w' : World} {lo : Nat} {u u' v : Value} {ys : List α} (hD : Sep u v) (hB : OwnF E' wr lo v ys) (G : GrewS wr w' u u') : OwnF E' w' lo v ys ∧ Sep u' v := by
  obtain ⟨hg, h2⟩ := G
  refine ⟨hB.kept hg fun k hk e => hD k e.symm hk, fun k hk hv => ?_⟩
  rcases h2 with h2 | h2
  · rw [h2] at hk; exact hD k hk hv
  · rw [h2] at hk
    simp only [Option.some.injEq] at hk
    have := hB.lt k hv; omega
theorem Sep.fresh {α : Type} {E : El α} {w : World} {lo g n c : Nat} {u : Value} {ys : List α} (h : OwnF E w lo u ys) (hg : w.heap.size ≤ g) : Sep (.slice (some ⟨g, 0, none⟩) n c) u := fun k hk hv => by
  simp only [Value.ownBlock, Option.some.injEq] at hk
  have := (h.lt k hv).2; omega
theorem Sep.newer {α : Type} {E : El α} {w : World} {lo g n c : Nat} {u : Value} {ys : List α} (h : OwnF E w lo u ys) (hg : g < lo) : Sep (.slice (some ⟨g, 0, none⟩) n c) u := fun k hk hv => by
  simp only [Value.ownBlock, Option.some.injEq] at hk
  have := (h.lt k hv).1; omega

/-- The cells of a list that no domino lies over. -/
def uncB (ls : List Lk) (x y : Int) : Bool := decide (fstZ (domAt ls x y) ls.length 0 < 0)
def uncTo (ls : List Lk) (cs : List (Int × Int)) : Nat → List (Int × Int)
  | 0 => []
  | k + 1 => if uncB ls (dx cs k) (dy cs k) then uncTo ls cs k ++ [(dx cs k, dy cs k)] else uncTo ls cs k
theorem uncTo_len (ls : List Lk) (cs : List (Int × Int)) : ∀ k, (uncTo ls cs k).length ≤ k
  | 0 => Nat.le_refl _
  | k + 1 => by have := uncTo_len ls cs k; rw [uncTo]; split <;> simp <;> omega
def uncZ (R : Nat) (ls : List Lk) : List (Int × Int) := uncTo ls (cellsTo R 64) (cellsTo R 64).length

set_option maxRecDepth 100000 in
set_option maxHeartbeats 4000000 in
theorem specUncovered_any (v u : Value) (zs : List Int) (ls : List Lk) (B : Nat) (w : World) (hr : RdI w B v zs) (h : RdF elDomino w B u ls) (hB : B ≤ w.heap.size) (hok : regOkB zs = true) :
    Calls Try.prog 167 #[.agg #[v], u] w fun e w' => ∃ x, e = .returned x ∧ OwnF elCell w' w.heap.size x (uncZ (setZ zs) ls) ∧ Below w.heap.size w w' := by
  have HU := Lib.hid hr
  have HV := Lib.hid h
  have hcl : (cellsTo (setZ zs) 64).length ≤ 64 := by rw [cellsTo_len]; exact cntB_le _ _
  have HCO := Lib.hid (fun V (hb : Below w.heap.size w V) => CellsOf_list v zs B V (HU.out.below (hb.mono hB)) (Nat.le_trans hB hb.size) hok)
  have HZ : Hid (uncZ (setZ zs) ls = uncTo ls (cellsTo (setZ zs) 64) (cellsTo (setZ zs) 64).length) := rfl
  rw [HZ.out]
  generalize cellsTo (setZ zs) 64 = cs at *
  have HST : Hid (∀ k, uncTo ls cs (k + 1) = if uncB ls (dx cs k) (dy cs k) then uncTo ls cs k ++ [(dx cs k, dy cs k)] else uncTo ls cs k) := fun k => rfl
  have HSL := Lib.hid (uncTo_len ls cs)
  have HS0 : Hid (uncTo ls cs 0 = []) := rfl
  obtain ⟨st, HE⟩ : ∃ st, Hid (st = uncTo ls cs) := ⟨_, rfl⟩
  rw [← HE.out] at HST HSL HS0 ⊢
  clear HE HZ h
  obtain ⟨A, c, rfl, h1, h2, hR⟩ := hr
  unfold maxLen at h2
  obtain ⟨W, hW, k1, hb⟩ := one_alloc w (.cells #[.slice A zs.length c] 39)
  have c0 : (W.alloc (.cells #[] 44)).cell? ⟨w.heap.size, 0, none⟩ = some (.slice A zs.length c) := by
    rw [blk_cell (((Below.refl W.heap.size W).alloc (Nat.le_refl _) _).block _ (lt_of_block k1) |>.trans k1)]; rfl
  have HB := Lib.hid hb
  have HW := Lib.hid hW
  have hBW : B ≤ W.heap.size := Nat.le_trans hB hb.size
  have HA0 : Hid (Acc elCell w w.heap.size (W.alloc (.cells #[] 44)) (.slice (some ⟨W.heap.size, 0, none⟩) 0 0) []) := Acc.startAt hb (Nat.le_refl _) hb.size
  have HG0 : Hid (W.heap.size < (W.alloc (.cells #[] 44)).heap.size) := by unfold Hid; simp
  clear hW k1 hb hR hok
  go_enter Try.func167, Try.ntmps167
  go_upto_region 1 with (fail)
  rw [← HW.out]
  go_upto_region 2 with (fail)
  generalize W.alloc (.cells #[] 44) = W1 at *
  go_wp2_with fail
  refine (HCO.out _ HA0.out.2.1).mono ?_
  rintro e w2 ⟨u1, rfl, ho, hb2⟩
  have HA2 := Lib.hid (HA0.out.below hb2)
  have HS2 := Lib.hid (Sep.newer (n := 0) (c := 0) ho HG0.out)
  have HO2 := Lib.hid (ho.mono HA0.out.2.1.size)
  obtain ⟨A2, c2, rfl, q1, q2, _⟩ := RdD.of (E := elCell) rfl (fun _ => rfl) (ho.rd okCell)
  unfold maxLen at q2
  clear c0 hb2 ho
  go_wp2_with fail
  go_loopw [5, 7] (fun o i wr => ∃ (k : Nat) (x : Value), k ≤ cs.length ∧ i = .int .i64 (k : Int) ∧ x = o ∧ Hid (Acc elCell w w.heap.size wr x (st k)) ∧ Hid (OwnF elCell wr w.heap.size (.slice A2 cs.length c2) cs) ∧ Hid (Sep x (.slice A2 cs.length c2))) (fun _ i _ => cs.length - (intOf i).toNat)
  case atStart => exact ⟨0, _, Nat.zero_le _, rfl, rfl, by rw [HS0.out]; exact HA2, HO2, HS2⟩
  case round =>
    obtain ⟨k, x, hk, rfl, rfl, HA, HO, HS⟩ := hrel
    obtain ⟨A1, ca, hv, q3, q4, _⟩ := HA.out.1.rd okCell
    subst hv
    unfold maxLen at q4
    have hlen := HSL.out k
    by_cases hlt : k < cs.length
    · have ht : decide ((k : Int) < (cs.length : Int)) = true := by simp only [decide_eq_true_eq]; omega
      obtain ⟨A9, c9, he, _, _, G9⟩ := RdD.of (E := elCell) rfl (fun _ => rfl) (HO.out.rd okCell)
      simp only [Value.slice.injEq, true_and] at he
      obtain ⟨rfl, rfl⟩ := he
      obtain ⟨ad, rfl, hbl, hx, hy⟩ := G9.out k hlt
      have HDA := Lib.hid (specDominoAt_any u ls (dx cs k) (dy cs k) B wr (HV.out.below (HA.out.2.1.mono hB)) (Nat.le_trans hB HA.out.2.1.size))
      have HT : Hid (st (k + 1) = if decide (fstZ (domAt ls (dx cs k) (dy cs k)) ls.length 0 < 0) then st k ++ [(dx cs k, dy cs k)] else st k) := HST.out k
      have hk0 : (0 : Int) ≤ (k : Int) := by omega
      have hk1 : (k : Int) < (cs.length : Int) := by omega
      generalize fstZ (domAt ls (dx cs k) (dy cs k)) ls.length 0 = q at *
      generalize dx cs k = x at *
      generalize dy cs k = y at *
      generalize st k = ys at *
      have hbl2 : (ad.add (k * 2)).block < wr.heap.size := by rw [addBlock]; omega
      have HBL := Lib.hid hbl2
      clear hbl hbl2 G9
      go_wp2_with fail
      refine HDA.out.mono ?_
      rintro e w3 ⟨rfl, hb3⟩
      have hx3 := (hb3.cell (p := ad.add (k * 2)) HBL.out).trans hx
      have hy3 := (hb3.cell (p := ⟨(ad.add (k * 2)).block, (ad.add (k * 2)).off + 1, none⟩) HBL.out).trans hy
      have HA3 := Lib.hid (HA.out.below hb3)
      have HO3 := Lib.hid (HO.out.below hb3)
      clear hb3 hx hy
      cases hq : decide (q < 0)
      · rw [hq] at HT
        have HT2 : Hid (st (k + 1) = ys) := HT.out
        clear HT
        go_wp2_with fail
        go_roundw
        case rel => exact ⟨k + 1, _, by omega, by go_num, rfl, by rw [HT2.out]; exact HA3, HO3, HS⟩
        case measure => simp [intOf]; omega
      · rw [hq] at HT
        have HT2 : Hid (st (k + 1) = ys ++ [(x, y)]) := HT.out
        clear HT
        go_wp2_with (at_builtin; refine wpList_push okCell rfl _ _ rfl HA3.out rfl (x, y) _ rfl _ rfl rfl (by omega) ?_; intro v10 w10 HA10 HG10)
        have HP := Lib.hid (HS.out.push HO3.out HG10.out)
        go_roundw
        case rel => exact ⟨k + 1, _, by omega, by go_num, rfl, by rw [HT2.out]; exact HA10, HP.out.1, HP.out.2⟩
        case measure => simp [intOf]; omega
    · obtain rfl : k = cs.length := by omega
      have ht : decide ((cs.length : Int) < (cs.length : Int)) = false := by simp
      go_wp2_with fail
      go_ret
      exact ⟨_, rfl, HA.out.1, HA.out.2.1⟩
end Go.Proofs.Ytehnbalbpfmijaa
