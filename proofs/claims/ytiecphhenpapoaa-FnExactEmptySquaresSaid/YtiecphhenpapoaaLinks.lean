/- Links: elements of two integers and a bool. Contracts of LinksOf of the program and of the reference. -/
import Derived.Test.YtiecphhenpapoaaTri
namespace Go.Proofs.Ytiecphhenpapoaa
open Go.RowKit

/-! ### The plain functions -/
def lkAt (w h x y : Int) : List Lk := (if x + 1 < w then [(x, y, false)] else []) ++ (if y + 1 < h then [(x, y, true)] else [])
def lkRow (w h y : Int) : Nat → List Lk | 0 => [] | x + 1 => lkRow w h y x ++ lkAt w h x y
def lkAll (w h : Int) : Nat → List Lk | 0 => [] | y + 1 => lkAll w h y ++ lkRow w h y w.toNat
def lkFlat (w h : Nat) : Nat → List Lk | 0 => [] | k + 1 => lkFlat w h k ++ lkAt w h ((k % w : Nat) : Int) ((k / w : Nat) : Int)
def linksZ (w h : Int) : List Lk := if gridB w h then lkAll w h h.toNat else []
theorem gridB_iff (x y : Int) : gridB x y = true ↔ (1 ≤ x ∧ x ≤ 4) ∧ 1 ≤ y ∧ y ≤ 4 := by simp [gridB, inB_iff]
theorem all2 {a b : Nat} {p : Nat → Nat → Bool} (h : ((List.range a).all fun x => (List.range b).all fun y => p x y) = true) (x y : Nat) (hx : x < a) (hy : y < b) : p x y = true := by
  rw [List.all_eq_true] at h
  have := h x (by simpa using hx)
  rw [List.all_eq_true] at this
  exact this y (by simpa using hy)
theorem lk_tab : ((List.range 5).all fun w => (List.range 5).all fun h => w == 0 || h == 0 || lkFlat w h (w * h) == lkAll w h h) = true := by decide +kernel
theorem lk_same (w : Nat) (h1 : w ≤ 4) (h : Nat) (h2 : h ≤ 4) (h3 : 1 ≤ w) (h4 : 1 ≤ h) : lkFlat w h (w * h) = lkAll w h h := by
  have := all2 lk_tab w h (by omega) (by omega)
  simp only [Bool.or_eq_true, beq_iff_eq] at this
  rcases this with (e | e) | e
  · omega
  · omega
  · exact e
theorem lkAt_len (w h x y : Int) : (lkAt w h x y).length ≤ 2 := by unfold lkAt; split <;> split <;> simp
theorem lkRow_len (w h y : Int) : ∀ x, (lkRow w h y x).length ≤ 2 * x
  | 0 => by simp [lkRow]
  | x + 1 => by have := lkRow_len w h y x; have := lkAt_len w h x y; simp [lkRow]; omega
theorem linksZ_len (w h : Int) : (linksZ w h).length ≤ 32 := by
  unfold linksZ
  split
  · rename_i hg
    obtain ⟨⟨a1, a2⟩, a3, a4⟩ := (gridB_iff _ _).1 hg
    have : ∀ n : Nat, (lkAll w h n).length ≤ 8 * n := fun n => by
      induction n with
      | zero => simp [lkAll]
      | succ n ih => have := lkRow_len w h n w.toNat; simp [lkAll]; omega
    have := this h.toNat
    omega
  · simp

def RetLinks (w : World) (ls : List Lk) (e : Ending) (w' : World) : Prop := ∃ v, e = .returned v ∧ OwnF elLink w' w.heap.size v ls ∧ Below w.heap.size w w'

set_option maxHeartbeats 4000000 in
theorem LinksOf_yes (n m : Nat) (w : World) (hg : gridB n m = true) :
    Calls Try.prog 32 #[.int .i64 n, .int .i64 m] w (RetLinks w (lkAll n m m)) := by
  obtain ⟨⟨hn1, hn2⟩, hm1, hm2⟩ := (gridB_iff _ _).1 hg
  have HA0 : Hid (Acc elLink w w.heap.size (w.alloc (.cells #[] 101)) (.slice (some ⟨w.heap.size, 0, none⟩) 0 0) []) := Acc.start w
  go_enter Try.func32, Try.ntmps32
  go_wp2_with fail
  refine (GridOk_any _ _ _).mono ?_
  rintro e w1 ⟨rfl, rfl⟩
  rw [hg]
  go_wp2_with fail
  go_loopw [5, 14] (fun o s wr => ∃ (y : Nat) (v : Value) (xs : List Lk), y ≤ m ∧ s = .int .i64 y ∧ o = v ∧ Hid (Acc elLink w w.heap.size wr v xs) ∧ Hid (xs = lkAll n m y) ∧ xs.length ≤ 8 * y) (fun _ s _ => m - (intOf s).toNat)
  case atStart => exact ⟨0, _, [], Nat.zero_le _, rfl, rfl, HA0, rfl, Nat.le_refl _⟩
  case round =>
    obtain ⟨y, v0, xs0, hy, rfl, rfl, HA, HX, hxl⟩ := hrel
    by_cases hlt : y < m
    · have hty : decide ((y : Int) < (m : Int)) = true := by simp only [decide_eq_true_eq]; omega
      have hy1 : (0 : Int) ≤ (y : Int) := by omega
      have hy2 : (y : Int) < 4 := by omega
      go_wp2_with fail
      go_loopw [5, 18] (fun o s wr => ∃ (x : Nat) (v : Value) (xs : List Lk), x ≤ n ∧ s = .int .i64 x ∧ o = v ∧ Hid (Acc elLink w w.heap.size wr v xs) ∧ Hid (xs = xs0 ++ lkRow n m y x) ∧ xs.length ≤ 8 * y + 2 * x) (fun _ s _ => n - (intOf s).toNat)
      case atStart => exact ⟨0, _, xs0, Nat.zero_le _, rfl, rfl, HA, by simp [Hid, lkRow], by omega⟩
      case round =>
        obtain ⟨x, v1, xs1, hx, rfl, rfl, HA1, HX1, hxl1⟩ := hrel
        by_cases hlx : x < n
        · have htx : decide ((x : Int) < (n : Int)) = true := by simp only [decide_eq_true_eq]; omega
          have hx1 : (0 : Int) ≤ (x : Int) := by omega
          have hx2 : (x : Int) < 4 := by omega
          have HS : Hid (xs0 ++ lkRow n m y (x + 1) = xs1 ++ lkAt n m x y) := by unfold Hid; rw [HX1.out, lkRow, List.append_assoc]
          by_cases c1 : (x : Int) + 1 < (n : Int) <;> by_cases c2 : (y : Int) + 1 < (m : Int)
          · have HL : Hid (lkAt n m x y = [((x : Int), (y : Int), false)] ++ [((x : Int), (y : Int), true)]) := by unfold Hid lkAt; rw [if_pos c1, if_pos c2]
            go_wp2_with (at_builtin; first
              | (refine wpList_push okLink rfl _ _ rfl HA1.out rfl ((x : Int), (y : Int), false) _ rfl _ rfl (by simp) (by omega) ?_; intro u2 w2 HA2 HG2)
              | (refine wpList_push okLink rfl _ _ rfl HA2.out rfl ((x : Int), (y : Int), true) _ rfl _ rfl (by simp) (by simp; omega) ?_; intro u3 w3 HA3 HG3))
            go_roundw
            case rel => exact ⟨x + 1, _, _, by omega, by go_num, rfl, HA3, by (unfold Hid; rw [HS.out, HL.out, List.append_assoc]), by simp; omega⟩
            case measure => simp [intOf]; omega
          · have HL : Hid (lkAt n m x y = [((x : Int), (y : Int), false)]) := by unfold Hid lkAt; rw [if_pos c1, if_neg c2]; rfl
            go_wp2_with (at_builtin; refine wpList_push okLink rfl _ _ rfl HA1.out rfl ((x : Int), (y : Int), false) _ rfl _ rfl (by simp) (by omega) ?_; intro u2 w2 HA2 HG2)
            go_roundw
            case rel => exact ⟨x + 1, _, _, by omega, by go_num, rfl, HA2, by (unfold Hid; rw [HS.out, HL.out]), by simp; omega⟩
            case measure => simp [intOf]; omega
          · have HL : Hid (lkAt n m x y = [((x : Int), (y : Int), true)]) := by unfold Hid lkAt; rw [if_neg c1, if_pos c2]; rfl
            go_wp2_with (at_builtin; refine wpList_push okLink rfl _ _ rfl HA1.out rfl ((x : Int), (y : Int), true) _ rfl _ rfl (by simp) (by omega) ?_; intro u2 w2 HA2 HG2)
            go_roundw
            case rel => exact ⟨x + 1, _, _, by omega, by go_num, rfl, HA2, by (unfold Hid; rw [HS.out, HL.out]), by simp; omega⟩
            case measure => simp [intOf]; omega
          · have HL : Hid (lkAt n m x y = []) := by unfold Hid lkAt; rw [if_neg c1, if_neg c2]; rfl
            go_wp2_with fail
            go_roundw
            case rel => exact ⟨x + 1, _, _, by omega, by go_num, rfl, HA1, by (unfold Hid; rw [HS.out, HL.out, List.append_nil]), by omega⟩
            case measure => simp [intOf]; omega
        · have HK : Hid (xs1 = lkAll n m (y + 1)) := by unfold Hid; rw [HX1.out, HX.out, lkAll, show x = ((n : Int)).toNat by omega]
          go_wp2_with fail
          go_roundw
          case rel => exact ⟨y + 1, _, _, by omega, by go_num, rfl, HA1, HK, by omega⟩
          case measure => simp [intOf]; omega
    · have HK : Hid (xs0 = lkAll n m m) := by unfold Hid; rw [HX.out, show y = m by omega]
      go_wp2_with fail
      go_ret
      exact ⟨_, rfl, by rw [← HK.out]; exact HA.out.1, HA.out.2.1⟩

theorem LinksOf_any (a b : Int) (w : World) :
    Calls Try.prog 32 #[.int .i64 a, .int .i64 b] w (RetLinks w (linksZ a b)) := by
  cases hg : gridB a b
  · have e0 : linksZ a b = [] := by simp [linksZ, hg]
    rw [e0]; clear e0
    go_enter Try.func32, Try.ntmps32
    go_wp2_with fail
    refine (GridOk_any _ _ _).mono ?_
    rintro e w1 ⟨rfl, rfl⟩
    rw [hg]
    go_wp2_with fail
    go_ret
    exact ⟨_, rfl, OwnF.nil, Below.refl _ _⟩
  · have hb := (gridB_iff _ _).1 hg
    obtain ⟨n, rfl⟩ := Int.eq_ofNat_of_zero_le (show 0 ≤ a by omega)
    obtain ⟨m, rfl⟩ := Int.eq_ofNat_of_zero_le (show 0 ≤ b by omega)
    have e0 : linksZ n m = lkAll n m m := by simp [linksZ, hg]
    rw [e0]
    exact LinksOf_yes n m w hg

set_option maxHeartbeats 4000000 in
theorem specLinksOf_yes (n m : Nat) (w : World) (hg : gridB n m = true) :
    Calls Try.prog 137 #[.int .i64 n, .int .i64 m] w (RetLinks w (lkAll n m m)) := by
  obtain ⟨⟨hn1, hn2⟩, hm1, hm2⟩ := (gridB_iff _ _).1 hg
  have HA0 : Hid (Acc elLink w w.heap.size (w.alloc (.cells #[] 101)) (.slice (some ⟨w.heap.size, 0, none⟩) 0 0) []) := Acc.start w
  have hnm : n * m ≤ 16 := Nat.mul_le_mul (show n ≤ 4 by omega) (show m ≤ 4 by omega)
  have HNM : Hid (lkFlat n m (n * m) = lkAll n m m) := lk_same n (by omega) m (by omega) (by omega) (by omega)
  generalize hN : n * m = N at *
  have HN : Hid (((n : Int) * (m : Int)) = (N : Int)) := by unfold Hid; rw [← hN, Int.natCast_mul]
  have HN2 := Lib.hid hN
  clear hN
  go_enter Try.func137, Try.ntmps137
  go_wp2_with fail
  go_loopw [5, 6] (fun o s wr => ∃ (k : Nat) (v : Value) (xs : List Lk), k ≤ N ∧ s = .int .i64 k ∧ o = v ∧ Hid (Acc elLink w w.heap.size wr v xs) ∧ Hid (xs = lkFlat n m k) ∧ xs.length ≤ 2 * k) (fun _ s _ => N - (intOf s).toNat)
  case atStart => exact ⟨0, _, [], Nat.zero_le _, rfl, rfl, HA0, rfl, Nat.le_refl _⟩
  case round =>
    obtain ⟨k, v0, xs0, hk, rfl, rfl, HA, HX, hxl⟩ := hrel
    have hw : IntKind.i64.wrap ((n : Int) * (m : Int)) = (N : Int) := by rw [HN.out]; exact IntWalk.i64_in _ (by omega)
    have hk1 : (0 : Int) ≤ (k : Int) := by omega
    by_cases hlt : k < N
    · have htk : decide ((k : Int) < (N : Int)) = true := by simp only [decide_eq_true_eq]; omega
      have hq : k / n < m := (Nat.div_lt_iff_lt_mul (by omega)).2 (by have := HN2.out; rw [Nat.mul_comm] at this; omega)
      have hr : k % n < n := Nat.mod_lt _ (by omega)
      generalize hQ : k / n = q at *
      generalize hR : k % n = r at *
      have hq1 : (k : Int) / (n : Int) = (q : Int) := by rw [← hQ, Int.natCast_ediv]
      have hr1 : (k : Int) % (n : Int) = (r : Int) := by rw [← hR, Int.natCast_emod]
      have HS : Hid (lkFlat n m (k + 1) = xs0 ++ lkAt n m r q) := by unfold Hid; rw [HX.out, lkFlat, hQ, hR]
      clear hQ hR
      by_cases c1 : (r : Int) + 1 < (n : Int) <;> by_cases c2 : (q : Int) + 1 < (m : Int)
      · have HL : Hid (lkAt n m r q = [((r : Int), (q : Int), false)] ++ [((r : Int), (q : Int), true)]) := by unfold Hid lkAt; rw [if_pos c1, if_pos c2]
        go_wp2_with (first
          | (go_at_call 135; refine (specGridOk_any _ _ _).mono ?_; rintro e w1 ⟨rfl, rfl⟩; rw [hg])
          | (at_builtin; refine wpList_push okLink rfl _ _ rfl HA.out rfl ((r : Int), (q : Int), false) _ rfl _ rfl (by simp) (by omega) ?_; intro u2 w2 HA2 HG2)
          | (at_builtin; refine wpList_push okLink rfl _ _ rfl HA2.out rfl ((r : Int), (q : Int), true) _ rfl _ rfl (by simp) (by simp; omega) ?_; intro u3 w3 HA3 HG3))
        go_roundw
        case rel => exact ⟨k + 1, _, _, by omega, by go_num, rfl, HA3, by (unfold Hid; rw [HS.out, HL.out, List.append_assoc]), by simp; omega⟩
        case measure => simp [intOf]; omega
      · have HL : Hid (lkAt n m r q = [((r : Int), (q : Int), false)]) := by unfold Hid lkAt; rw [if_pos c1, if_neg c2]; rfl
        go_wp2_with (first
          | (go_at_call 135; refine (specGridOk_any _ _ _).mono ?_; rintro e w1 ⟨rfl, rfl⟩; rw [hg])
          | (at_builtin; refine wpList_push okLink rfl _ _ rfl HA.out rfl ((r : Int), (q : Int), false) _ rfl _ rfl (by simp) (by omega) ?_; intro u2 w2 HA2 HG2))
        go_roundw
        case rel => exact ⟨k + 1, _, _, by omega, by go_num, rfl, HA2, by (unfold Hid; rw [HS.out, HL.out]), by simp; omega⟩
        case measure => simp [intOf]; omega
      · have HL : Hid (lkAt n m r q = [((r : Int), (q : Int), true)]) := by unfold Hid lkAt; rw [if_neg c1, if_pos c2]; rfl
        go_wp2_with (first
          | (go_at_call 135; refine (specGridOk_any _ _ _).mono ?_; rintro e w1 ⟨rfl, rfl⟩; rw [hg])
          | (at_builtin; refine wpList_push okLink rfl _ _ rfl HA.out rfl ((r : Int), (q : Int), true) _ rfl _ rfl (by simp) (by omega) ?_; intro u2 w2 HA2 HG2))
        go_roundw
        case rel => exact ⟨k + 1, _, _, by omega, by go_num, rfl, HA2, by (unfold Hid; rw [HS.out, HL.out]), by simp; omega⟩
        case measure => simp [intOf]; omega
      · have HL : Hid (lkAt n m r q = []) := by unfold Hid lkAt; rw [if_neg c1, if_neg c2]; rfl
        go_wp2_with (go_at_call 135; refine (specGridOk_any _ _ _).mono ?_; rintro e w1 ⟨rfl, rfl⟩; rw [hg])
        go_roundw
        case rel => exact ⟨k + 1, _, _, by omega, by go_num, rfl, HA, by (unfold Hid; rw [HS.out, HL.out, List.append_nil]), by omega⟩
        case measure => simp [intOf]; omega
    · have HK : Hid (xs0 = lkAll n m m) := by unfold Hid; rw [HX.out, show k = N by omega]; exact HNM.out
      go_wp2_with (go_at_call 135; refine (specGridOk_any _ _ _).mono ?_; rintro e w1 ⟨rfl, rfl⟩; rw [hg])
      go_ret
      exact ⟨_, rfl, by rw [← HK.out]; exact HA.out.1, HA.out.2.1⟩

theorem specLinksOf_any (a b : Int) (w : World) :
    Calls Try.prog 137 #[.int .i64 a, .int .i64 b] w (RetLinks w (linksZ a b)) := by
  cases hg : gridB a b
  · have e0 : linksZ a b = [] := by simp [linksZ, hg]
    rw [e0]; clear e0
    have HA0 : Hid (Acc elLink w w.heap.size (w.alloc (.cells #[] 101)) (.slice (some ⟨w.heap.size, 0, none⟩) 0 0) []) := Acc.start w
    go_enter Try.func137, Try.ntmps137
    go_wp2_with fail
    go_loopw [5, 6] (fun o s wr => o = .slice (some ⟨w.heap.size, 0, none⟩) 0 0 ∧ s = .int .i64 0 ∧ wr = w.alloc (.cells #[] 101)) (fun _ _ _ => 0)
    case atStart => exact ⟨rfl, rfl, rfl⟩
    case round =>
      obtain ⟨rfl, rfl, rfl⟩ := hrel
      go_wp2_with (go_at_call 135; refine (specGridOk_any _ _ _).mono ?_; rintro e w1 ⟨rfl, rfl⟩; rw [hg])
      go_ret
      exact ⟨_, rfl, HA0.out.1, HA0.out.2.1⟩
  · have hb := (gridB_iff _ _).1 hg
    obtain ⟨n, rfl⟩ := Int.eq_ofNat_of_zero_le (show 0 ≤ a by omega)
    obtain ⟨m, rfl⟩ := Int.eq_ofNat_of_zero_le (show 0 ≤ b by omega)
    have e0 : linksZ n m = lkAll n m m := by simp [linksZ, hg]
    rw [e0]
    exact specLinksOf_yes n m w hg
end Go.Proofs.Ytiecphhenpapoaa
