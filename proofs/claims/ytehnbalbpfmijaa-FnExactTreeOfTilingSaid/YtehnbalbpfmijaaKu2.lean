/- What the claim's walk rests on: parts Arb, Links, Posts, Box, IntSS, Aft. -/
import Derived.Test.YtehnbalbpfmijaaBasic
import Derived.Test.YtehnbalbpfmijaaKu1
import Derived.Below
import Derived.Laws.AppendOwn
namespace Go.Proofs.Ytehnbalbpfmijaa
set_option linter.unusedVariables false

def pad (v d : Int × Int) : Int × Int := (v.1 + d.1, v.2 + d.2)
def perp (d : Int × Int) : Int × Int := (d.2, d.1)
def neg (d : Int × Int) : Int × Int := (-d.1, -d.2)
def dirs4 : List (Int × Int) := [(1, 0), (0, 1), (-1, 0), (0, -1)]
theorem dirs4_iff (d : Int × Int) : d ∈ dirs4 ↔ d = (1, 0) ∨ d = (0, 1) ∨ d = (-1, 0) ∨ d = (0, -1) := by simp [dirs4]
/-- The sides of the edge from v along d. -/
def sideA (v d : Int × Int) : Int × Int := pad (pad v d) (perp d)
def sideB (v d : Int × Int) : Int × Int := pad (pad v d) (neg (perp d))
/-- The edges at a node with unlike sides are not one alone. -/
theorem even_two (S : Int × Int → Bool) (v d : Int × Int) (hd : d ∈ dirs4) (h : S (sideA v d) ≠ S (sideB v d)) : ∃ e, e ∈ dirs4 ∧ e ≠ d ∧ S (sideA v e) ≠ S (sideB v e) := by
  obtain ⟨x, y⟩ := v
  have e1 : sideA (x, y) (1, 0) = (x + 1, y + 1) := by simp [sideA, pad, perp]
  have e2 : sideB (x, y) (1, 0) = (x + 1, y - 1) := by simp [sideB, pad, perp, neg]; omega
  have e3 : sideA (x, y) (0, 1) = (x + 1, y + 1) := by simp [sideA, pad, perp]
  have e4 : sideB (x, y) (0, 1) = (x - 1, y + 1) := by simp [sideB, pad, perp, neg]; omega
  have e5 : sideA (x, y) (-1, 0) = (x - 1, y - 1) := by simp [sideA, pad, perp]; omega
  have e6 : sideB (x, y) (-1, 0) = (x - 1, y + 1) := by simp [sideB, pad, perp, neg]; omega
  have e7 : sideA (x, y) (0, -1) = (x - 1, y - 1) := by simp [sideA, pad, perp]; omega
  have e8 : sideB (x, y) (0, -1) = (x + 1, y - 1) := by simp [sideB, pad, perp, neg]; omega
  have n12 : ((1, 0) : Int × Int) ≠ (0, 1) := by decide
  have n13 : ((1, 0) : Int × Int) ≠ (-1, 0) := by decide
  have n14 : ((1, 0) : Int × Int) ≠ (0, -1) := by decide
  have n23 : ((0, 1) : Int × Int) ≠ (-1, 0) := by decide
  have n24 : ((0, 1) : Int × Int) ≠ (0, -1) := by decide
  have n34 : ((-1, 0) : Int × Int) ≠ (0, -1) := by decide
  have m1 : ((1, 0) : Int × Int) ∈ dirs4 := by decide
  have m2 : ((0, 1) : Int × Int) ∈ dirs4 := by decide
  have m3 : ((-1, 0) : Int × Int) ∈ dirs4 := by decide
  have m4 : ((0, -1) : Int × Int) ∈ dirs4 := by decide
  generalize ha : S (x + 1, y + 1) = a
  generalize hb : S (x + 1, y - 1) = b
  generalize hc : S (x - 1, y - 1) = c
  generalize hf : S (x - 1, y + 1) = f
  rcases (dirs4_iff d).1 hd with rfl | rfl | rfl | rfl
  · rw [e1, e2, ha, hb] at h
    by_cases q : a = f
    · by_cases q2 : c = f
      · refine ⟨(0, -1), m4, n14.symm, ?_⟩; rw [e7, e8, hc, hb, q2, ← q]; exact h
      · refine ⟨(-1, 0), m3, n13.symm, ?_⟩; rw [e5, e6, hc, hf]; exact q2
    · refine ⟨(0, 1), m2, n12.symm, ?_⟩; rw [e3, e4, ha, hf]; exact q
  · rw [e3, e4, ha, hf] at h
    by_cases q : a = b
    · by_cases q2 : c = f
      · refine ⟨(0, -1), m4, n24.symm, ?_⟩; rw [e7, e8, hc, hb, q2, ← q]; exact h.symm
      · refine ⟨(-1, 0), m3, n23.symm, ?_⟩; rw [e5, e6, hc, hf]; exact q2
    · refine ⟨(1, 0), m1, n12, ?_⟩; rw [e1, e2, ha, hb]; exact q
  · rw [e5, e6, hc, hf] at h
    by_cases q : a = f
    · by_cases q2 : c = b
      · refine ⟨(1, 0), m1, n13, ?_⟩; rw [e1, e2, ha, hb, q, ← q2]; exact h.symm
      · refine ⟨(0, -1), m4, n34.symm, ?_⟩; rw [e7, e8, hc, hb]; exact q2
    · refine ⟨(0, 1), m2, n23, ?_⟩; rw [e3, e4, ha, hf]; exact q
  · rw [e7, e8, hc, hb] at h
    by_cases q : a = b
    · by_cases q2 : c = f
      · refine ⟨(0, 1), m2, n24, ?_⟩; rw [e3, e4, ha, hf, q, ← q2]; exact h.symm
      · refine ⟨(-1, 0), m3, n34, ?_⟩; rw [e5, e6, hc, hf]; exact q2
    · refine ⟨(1, 0), m1, n14, ?_⟩; rw [e1, e2, ha, hb]; exact q
/-- Nodes of one parity that share an edge. -/
theorem two_ends {r : Int} {u v d e : Int × Int} (hu : u.1 % 2 = r ∧ u.2 % 2 = r) (hv : v.1 % 2 = r ∧ v.2 % 2 = r) (hd : d ∈ dirs4) (he : e ∈ dirs4) (h : pad u d = pad v e) : (u = v ∧ d = e) ∨ (u = pad (pad v e) e ∧ d = neg e ∧ v = pad (pad u d) d) := by
  obtain ⟨u1, u2⟩ := u
  obtain ⟨v1, v2⟩ := v
  obtain ⟨h1, h2⟩ := hu
  obtain ⟨h3, h4⟩ := hv
  rcases (dirs4_iff d).1 hd with rfl | rfl | rfl | rfl <;> rcases (dirs4_iff e).1 he with rfl | rfl | rfl | rfl <;>
    simp [pad, neg] at h h1 h2 h3 h4 ⊢ <;> omega
theorem side_neg {v e : Int × Int} : sideA (pad (pad v e) e) (neg e) = sideB v e ∧ sideB (pad (pad v e) e) (neg e) = sideA v e := by
  obtain ⟨x, y⟩ := v
  obtain ⟨a, b⟩ := e
  constructor <;> simp [sideA, sideB, pad, neg, perp] <;> omega
/-- No edge of the rooted nodes has unlike sides, where all edges with unlike sides are owned. -/
theorem peel (V T : Int × Int → Prop) (d : Int × Int → Int × Int) (rk : Int × Int → Nat) (M : Nat) (r : Int)
    (hV : ∀ v, V v → v.1 % 2 = r ∧ v.2 % 2 = r) (hd : ∀ v, V v → d v ∈ dirs4)
    (pre : ∀ u, V u → V (pad (pad u (d u)) (d u)) → T (pad (pad u (d u)) (d u)) → T u)
    (hr : ∀ u, V u → T u → V (pad (pad u (d u)) (d u)) → rk (pad (pad u (d u)) (d u)) < rk u)
    (hM : ∀ u, V u → T u → rk u ≤ M) (S : Int × Int → Bool)
    (own : ∀ v e, v.1 % 2 = r → v.2 % 2 = r → e ∈ dirs4 → S (sideA v e) ≠ S (sideB v e) → ∃ u, V u ∧ pad u (d u) = pad v e) :
    ∀ v, V v → T v → S (sideA v (d v)) = S (sideB v (d v)) := by
  have key : ∀ j v, V v → T v → M < rk v + j → S (sideA v (d v)) = S (sideB v (d v)) := by
    intro j
    induction j with
    | zero => intro v h1 h2 h3; have := hM v h1 h2; omega
    | succ j ih =>
      intro v h1 h2 h3
      refine Decidable.byContradiction fun h => ?_
      obtain ⟨e, he1, he2, he3⟩ := even_two S v (d v) (hd v h1) h
      obtain ⟨u, hu, hue⟩ := own v e (hV v h1).1 (hV v h1).2 he1 he3
      rcases two_ends (hV u hu) (hV v h1) (hd u hu) he1 hue with ⟨rfl, q⟩ | ⟨q1, q2, q3⟩
      · exact he2 q.symm
      · have hvu : V (pad (pad u (d u)) (d u)) := by rw [← q3]; exact h1
        have htu : T u := pre u hu hvu (by rw [← q3]; exact h2)
        have hru := hr u hu htu hvu
        rw [← q3] at hru
        have hS := ih u hu htu (by omega)
        rw [q2, q1, side_neg.1, side_neg.2] at hS
        exact he3 hS.symm
  intro v h1 h2
  exact key (M + 1) v h1 h2 (by omega)

/-! ### Counting -/
theorem sub_len {α : Type} [DecidableEq α] : ∀ (L E : List α), L.Nodup → (∀ x ∈ L, x ∈ E) → L.length ≤ E.length
  | [], _, _, _ => Nat.zero_le _
  | a :: L, E, hn, hs => by
    have h1 := List.nodup_cons.1 hn
    have ha := hs a (by simp)
    have := sub_len L (E.erase a) h1.2 fun x hx => (List.mem_erase_of_ne (fun (e : x = a) => h1.1 (by rw [← e]; exact hx))).2 (hs x (by simp [hx]))
    rw [List.length_erase_of_mem ha] at this
    have := List.length_pos_of_mem ha
    simp; omega
theorem all_hit {α : Type} [DecidableEq α] {L E : List α} (hn : L.Nodup) (hs : ∀ x ∈ L, x ∈ E) (hl : E.length ≤ L.length) {e : α} (he : e ∈ E) : e ∈ L := by
  refine Decidable.byContradiction fun h => ?_
  have := sub_len (e :: L) E (List.nodup_cons.2 ⟨h, hn⟩) fun x hx => by
    rcases List.mem_cons.1 hx with rfl | hx
    · exact he
    · exact hs x hx
  simp at this; omega
theorem map_nodup {α β : Type} {f : α → β} : ∀ {V : List α}, V.Nodup → (∀ u ∈ V, ∀ v ∈ V, f u = f v → u = v) → (V.map f).Nodup
  | [], _, _ => List.nodup_nil
  | a :: V, hn, hi => by
    have h1 := List.nodup_cons.1 hn
    rw [List.map_cons, List.nodup_cons]
    refine ⟨fun hm => ?_, map_nodup h1.2 fun u hu v hv => hi u (by simp [hu]) v (by simp [hv])⟩
    obtain ⟨b, hb, e⟩ := List.mem_map.1 hm
    have := hi b (by simp [hb]) a (by simp) e
    exact h1.1 (this ▸ hb)
/-- Where edges are as many as nodes, there is one rooting at most. -/
theorem one_rooting {α β : Type} [DecidableEq β] (V : List α) (E : List β) (hn : V.Nodup) (hl : E.length ≤ V.length) (e1 e2 : α → β) (h1 : ∀ v ∈ V, e1 v ∈ E) (h2 : ∀ v ∈ V, e2 v ∈ E)
    (i1 : ∀ u ∈ V, ∀ v ∈ V, e1 u = e1 v → u = v) (i2 : ∀ u ∈ V, ∀ v ∈ V, e2 u = e2 v → u = v) (rk : α → Nat) (hd : ∀ v ∈ V, ∀ u ∈ V, u ≠ v → e1 v = e2 u → rk u < rk v) : ∀ v ∈ V, e1 v = e2 v := by
  have key : ∀ n v, v ∈ V → rk v < n → e1 v = e2 v := by
    intro n
    induction n with
    | zero => intro v _ h; omega
    | succ n ih =>
      intro v hv hr
      obtain ⟨u, hu, he⟩ := List.mem_map.1 (all_hit (map_nodup hn i2) (fun x hx => by obtain ⟨w, hw, rfl⟩ := List.mem_map.1 hx; exact h2 w hw) (by rw [List.length_map]; exact hl) (h1 v hv))
      by_cases huv : u = v
      · subst huv; exact he.symm
      · have hlt := hd v hv u hu huv he.symm
        have := ih u hu (by omega)
        exact absurd (i1 u hu v hv (this.trans he)) huv
  intro v hv
  exact key (rk v + 1) v hv (by omega)
end Go.Proofs.Ytehnbalbpfmijaa

namespace Go.Proofs.Ytehnbalbpfmijaa
open Go.RowKit

/-! ### The plain functions -/
def lkAt (w h x y : Int) : List Lk := (if x + 1 < w then [(x, y, false)] else []) ++ (if y + 1 < h then [(x, y, true)] else [])
def lkRow (w h y : Int) : Nat → List Lk | 0 => [] | x + 1 => lkRow w h y x ++ lkAt w h x y
def lkAll (w h : Int) : Nat → List Lk | 0 => [] | y + 1 => lkAll w h y ++ lkRow w h y w.toNat
def lkFlat (w h : Nat) : Nat → List Lk | 0 => [] | k + 1 => lkFlat w h k ++ lkAt w h ((k % w : Nat) : Int) ((k / w : Nat) : Int)
def linksZ (w h : Int) : List Lk := if gridB w h then lkAll w h h.toNat else []
theorem gridB_iff (x y : Int) : gridB x y = true ↔ (1 ≤ x ∧ x ≤ 4) ∧ 1 ≤ y ∧ y ≤ 4 := by simp [gridB, inB_iff]
theorem all2 {a b : Nat} {p : Nat → Nat → Bool} (h : ((List.range a).all fun x => (List.range b).all fun y => p x y) = true) (x y : Nat) (hx : x < a) (hy : y < b) : p x y = true := by
  rw [List.all_eq_true] at h
  have := h x (by simpa using hx)
  rw [List.all_eq_true] at this
  exact this y (by simpa using hy)
theorem lk_tab : ((List.range 5).all fun w => (List.range 5).all fun h => w == 0 || h == 0 || lkFlat w h (w * h) == lkAll w h h) = true := by decide +kernel
theorem lk_same (w : Nat) (h1 : w ≤ 4) (h : Nat) (h2 : h ≤ 4) (h3 : 1 ≤ w) (h4 : 1 ≤ h) : lkFlat w h (w * h) = lkAll w h h := by
  have := all2 lk_tab w h (by omega) (by omega)
  simp only [Bool.or_eq_true, beq_iff_eq] at this
  rcases this with (e | e) | e
  · omega
  · omega
  · exact e
theorem lkAt_len (w h x y : Int) : (lkAt w h x y).length ≤ 2 := by unfold lkAt; split <;> split <;> simp
theorem lkRow_len (w h y : Int) : ∀ x, (lkRow w h y x).length ≤ 2 * x
  | 0 => by simp [lkRow]
  | x + 1 => by have := lkRow_len w h y x; have := lkAt_len w h x y; simp [lkRow]; omega
theorem linksZ_len (w h : Int) : (linksZ w h).length ≤ 32 := by
  unfold linksZ
  split
  · rename_i hg
    obtain ⟨⟨a1, a2⟩, a3, a4⟩ := (gridB_iff _ _).1 hg
    have : ∀ n : Nat, (lkAll w h n).length ≤ 8 * n := fun n => by
      induction n with
      | zero => simp [lkAll]
      | succ n ih => have := lkRow_len w h n w.toNat; simp [lkAll]; omega
    have := this h.toNat
    omega
  · simp

def RetLinks (w : World) (ls : List Lk) (e : Ending) (w' : World) : Prop := ∃ v, e = .returned v ∧ OwnF elLink w' w.heap.size v ls ∧ Below w.heap.size w w'

set_option maxHeartbeats 4000000 in
theorem LinksOf_yes (n m : Nat) (w : World) (hg : gridB n m = true) :
    Calls Try.prog 111 #[.int .i64 n, .int .i64 m] w (RetLinks w (lkAll n m m)) := by
  obtain ⟨⟨hn1, hn2⟩, hm1, hm2⟩ := (gridB_iff _ _).1 hg
  have HA0 : Hid (Acc elLink w w.heap.size (w.alloc (.cells #[] 68)) (.slice (some ⟨w.heap.size, 0, none⟩) 0 0) []) := Acc.start w
  go_enter Try.func111, Try.ntmps111
  go_wp2_with fail
  refine (GridOk_any _ _ _).mono ?_
  rintro e w1 ⟨rfl, rfl⟩
  rw [hg]
  go_wp2_with fail
  go_loopw [5, 14] (fun o s wr => ∃ (y : Nat) (v : Value) (xs : List Lk), y ≤ m ∧ s = .int .i64 y ∧ o = v ∧ Hid (Acc elLink w w.heap.size wr v xs) ∧ Hid (xs = lkAll n m y) ∧ xs.length ≤ 8 * y) (fun _ s _ => m - (intOf s).toNat)
  case atStart => exact ⟨0, _, [], Nat.zero_le _, rfl, rfl, HA0, rfl, Nat.le_refl _⟩
  case round =>
    obtain ⟨y, v0, xs0, hy, rfl, rfl, HA, HX, hxl⟩ := hrel
    by_cases hlt : y < m
    · have hty : decide ((y : Int) < (m : Int)) = true := by simp only [decide_eq_true_eq]; omega
      have hy1 : (0 : Int) ≤ (y : Int) := by omega
      have hy2 : (y : Int) < 4 := by omega
      go_wp2_with fail
      go_loopw [5, 18] (fun o s wr => ∃ (x : Nat) (v : Value) (xs : List Lk), x ≤ n ∧ s = .int .i64 x ∧ o = v ∧ Hid (Acc elLink w w.heap.size wr v xs) ∧ Hid (xs = xs0 ++ lkRow n m y x) ∧ xs.length ≤ 8 * y + 2 * x) (fun _ s _ => n - (intOf s).toNat)
      case atStart => exact ⟨0, _, xs0, Nat.zero_le _, rfl, rfl, HA, by simp [Hid, lkRow], by omega⟩
      case round =>
        obtain ⟨x, v1, xs1, hx, rfl, rfl, HA1, HX1, hxl1⟩ := hrel
        by_cases hlx : x < n
        · have htx : decide ((x : Int) < (n : Int)) = true := by simp only [decide_eq_true_eq]; omega
          have hx1 : (0 : Int) ≤ (x : Int) := by omega
          have hx2 : (x : Int) < 4 := by omega
          have HS : Hid (xs0 ++ lkRow n m y (x + 1) = xs1 ++ lkAt n m x y) := by unfold Hid; rw [HX1.out, lkRow, List.append_assoc]
          by_cases c1 : (x : Int) + 1 < (n : Int) <;> by_cases c2 : (y : Int) + 1 < (m : Int)
          · have HL : Hid (lkAt n m x y = [((x : Int), (y : Int), false)] ++ [((x : Int), (y : Int), true)]) := by unfold Hid lkAt; rw [if_pos c1, if_pos c2]
            go_wp2_with (at_builtin; first
              | (refine wpList_push okLink rfl _ _ rfl HA1.out rfl ((x : Int), (y : Int), false) _ rfl _ rfl (by simp) (by omega) ?_; intro u2 w2 HA2 HG2)
              | (refine wpList_push okLink rfl _ _ rfl HA2.out rfl ((x : Int), (y : Int), true) _ rfl _ rfl (by simp) (by simp; omega) ?_; intro u3 w3 HA3 HG3))
            go_roundw
            case rel => exact ⟨x + 1, _, _, by omega, by go_num, rfl, HA3, by (unfold Hid; rw [HS.out, HL.out, List.append_assoc]), by simp; omega⟩
            case measure => simp [intOf]; omega
          · have HL : Hid (lkAt n m x y = [((x : Int), (y : Int), false)]) := by unfold Hid lkAt; rw [if_pos c1, if_neg c2]; rfl
            go_wp2_with (at_builtin; refine wpList_push okLink rfl _ _ rfl HA1.out rfl ((x : Int), (y : Int), false) _ rfl _ rfl (by simp) (by omega) ?_; intro u2 w2 HA2 HG2)
            go_roundw
            case rel => exact ⟨x + 1, _, _, by omega, by go_num, rfl, HA2, by (unfold Hid; rw [HS.out, HL.out]), by simp; omega⟩
            case measure => simp [intOf]; omega
          · have HL : Hid (lkAt n m x y = [((x : Int), (y : Int), true)]) := by unfold Hid lkAt; rw [if_neg c1, if_pos c2]; rfl
            go_wp2_with (at_builtin; refine wpList_push okLink rfl _ _ rfl HA1.out rfl ((x : Int), (y : Int), true) _ rfl _ rfl (by simp) (by omega) ?_; intro u2 w2 HA2 HG2)
            go_roundw
            case rel => exact ⟨x + 1, _, _, by omega, by go_num, rfl, HA2, by (unfold Hid; rw [HS.out, HL.out]), by simp; omega⟩
            case measure => simp [intOf]; omega
          · have HL : Hid (lkAt n m x y = []) := by unfold Hid lkAt; rw [if_neg c1, if_neg c2]; rfl
            go_wp2_with fail
            go_roundw
            case rel => exact ⟨x + 1, _, _, by omega, by go_num, rfl, HA1, by (unfold Hid; rw [HS.out, HL.out, List.append_nil]), by omega⟩
            case measure => simp [intOf]; omega
        · have HK : Hid (xs1 = lkAll n m (y + 1)) := by unfold Hid; rw [HX1.out, HX.out, lkAll, show x = ((n : Int)).toNat by omega]
          go_wp2_with fail
          go_roundw
          case rel => exact ⟨y + 1, _, _, by omega, by go_num, rfl, HA1, HK, by omega⟩
          case measure => simp [intOf]; omega
    · have HK : Hid (xs0 = lkAll n m m) := by unfold Hid; rw [HX.out, show y = m by omega]
      go_wp2_with fail
      go_ret
      exact ⟨_, rfl, by rw [← HK.out]; exact HA.out.1, HA.out.2.1⟩

theorem LinksOf_any (a b : Int) (w : World) :
    Calls Try.prog 111 #[.int .i64 a, .int .i64 b] w (RetLinks w (linksZ a b)) := by
  cases hg : gridB a b
  · have e0 : linksZ a b = [] := by simp [linksZ, hg]
    rw [e0]; clear e0
    go_enter Try.func111, Try.ntmps111
    go_wp2_with fail
    refine (GridOk_any _ _ _).mono ?_
    rintro e w1 ⟨rfl, rfl⟩
    rw [hg]
    go_wp2_with fail
    go_ret
    exact ⟨_, rfl, OwnF.nil, Below.refl _ _⟩
  · have hb := (gridB_iff _ _).1 hg
    obtain ⟨n, rfl⟩ := Int.eq_ofNat_of_zero_le (show 0 ≤ a by omega)
    obtain ⟨m, rfl⟩ := Int.eq_ofNat_of_zero_le (show 0 ≤ b by omega)
    have e0 : linksZ n m = lkAll n m m := by simp [linksZ, hg]
    rw [e0]
    exact LinksOf_yes n m w hg

set_option maxHeartbeats 4000000 in
theorem specLinksOf_yes (n m : Nat) (w : World) (hg : gridB n m = true) :
    Calls Try.prog 107 #[.int .i64 n, .int .i64 m] w (RetLinks w (lkAll n m m)) := by
  obtain ⟨⟨hn1, hn2⟩, hm1, hm2⟩ := (gridB_iff _ _).1 hg
  have HA0 : Hid (Acc elLink w w.heap.size (w.alloc (.cells #[] 68)) (.slice (some ⟨w.heap.size, 0, none⟩) 0 0) []) := Acc.start w
  have hnm : n * m ≤ 16 := Nat.mul_le_mul (show n ≤ 4 by omega) (show m ≤ 4 by omega)
  have HNM : Hid (lkFlat n m (n * m) = lkAll n m m) := lk_same n (by omega) m (by omega) (by omega) (by omega)
  generalize hN : n * m = N at *
  have HN : Hid (((n : Int) * (m : Int)) = (N : Int)) := by unfold Hid; rw [← hN, Int.natCast_mul]
  have HN2 := Lib.hid hN
  clear hN
  go_enter Try.func107, Try.ntmps107
  go_wp2_with fail
  go_loopw [5, 6] (fun o s wr => ∃ (k : Nat) (v : Value) (xs : List Lk), k ≤ N ∧ s = .int .i64 k ∧ o = v ∧ Hid (Acc elLink w w.heap.size wr v xs) ∧ Hid (xs = lkFlat n m k) ∧ xs.length ≤ 2 * k) (fun _ s _ => N - (intOf s).toNat)
  case atStart => exact ⟨0, _, [], Nat.zero_le _, rfl, rfl, HA0, rfl, Nat.le_refl _⟩
  case round =>
    obtain ⟨k, v0, xs0, hk, rfl, rfl, HA, HX, hxl⟩ := hrel
    have hw : IntKind.i64.wrap ((n : Int) * (m : Int)) = (N : Int) := by rw [HN.out]; exact IntWalk.i64_in _ (by omega)
    have hk1 : (0 : Int) ≤ (k : Int) := by omega
    by_cases hlt : k < N
    · have htk : decide ((k : Int) < (N : Int)) = true := by simp only [decide_eq_true_eq]; omega
      have hq : k / n < m := (Nat.div_lt_iff_lt_mul (by omega)).2 (by have := HN2.out; rw [Nat.mul_comm] at this; omega)
      have hr : k % n < n := Nat.mod_lt _ (by omega)
      generalize hQ : k / n = q at *
      generalize hR : k % n = r at *
      have hq1 : (k : Int) / (n : Int) = (q : Int) := by rw [← hQ, Int.natCast_ediv]
      have hr1 : (k : Int) % (n : Int) = (r : Int) := by rw [← hR, Int.natCast_emod]
      have HS : Hid (lkFlat n m (k + 1) = xs0 ++ lkAt n m r q) := by unfold Hid; rw [HX.out, lkFlat, hQ, hR]
      clear hQ hR
      by_cases c1 : (r : Int) + 1 < (n : Int) <;> by_cases c2 : (q : Int) + 1 < (m : Int)
      · have HL : Hid (lkAt n m r q = [((r : Int), (q : Int), false)] ++ [((r : Int), (q : Int), true)]) := by unfold Hid lkAt; rw [if_pos c1, if_pos c2]
        go_wp2_with (first
          | (go_at_call 105; refine (specGridOk_any _ _ _).mono ?_; rintro e w1 ⟨rfl, rfl⟩; rw [hg])
          | (at_builtin; refine wpList_push okLink rfl _ _ rfl HA.out rfl ((r : Int), (q : Int), false) _ rfl _ rfl (by simp) (by omega) ?_; intro u2 w2 HA2 HG2)
          | (at_builtin; refine wpList_push okLink rfl _ _ rfl HA2.out rfl ((r : Int), (q : Int), true) _ rfl _ rfl (by simp) (by simp; omega) ?_; intro u3 w3 HA3 HG3))
        go_roundw
        case rel => exact ⟨k + 1, _, _, by omega, by go_num, rfl, HA3, by (unfold Hid; rw [HS.out, HL.out, List.append_assoc]), by simp; omega⟩
        case measure => simp [intOf]; omega
      · have HL : Hid (lkAt n m r q = [((r : Int), (q : Int), false)]) := by unfold Hid lkAt; rw [if_pos c1, if_neg c2]; rfl
        go_wp2_with (first
          | (go_at_call 105; refine (specGridOk_any _ _ _).mono ?_; rintro e w1 ⟨rfl, rfl⟩; rw [hg])
          | (at_builtin; refine wpList_push okLink rfl _ _ rfl HA.out rfl ((r : Int), (q : Int), false) _ rfl _ rfl (by simp) (by omega) ?_; intro u2 w2 HA2 HG2))
        go_roundw
        case rel => exact ⟨k + 1, _, _, by omega, by go_num, rfl, HA2, by (unfold Hid; rw [HS.out, HL.out]), by simp; omega⟩
        case measure => simp [intOf]; omega
      · have HL : Hid (lkAt n m r q = [((r : Int), (q : Int), true)]) := by unfold Hid lkAt; rw [if_neg c1, if_pos c2]; rfl
        go_wp2_with (first
          | (go_at_call 105; refine (specGridOk_any _ _ _).mono ?_; rintro e w1 ⟨rfl, rfl⟩; rw [hg])
          | (at_builtin; refine wpList_push okLink rfl _ _ rfl HA.out rfl ((r : Int), (q : Int), true) _ rfl _ rfl (by simp) (by omega) ?_; intro u2 w2 HA2 HG2))
        go_roundw
        case rel => exact ⟨k + 1, _, _, by omega, by go_num, rfl, HA2, by (unfold Hid; rw [HS.out, HL.out]), by simp; omega⟩
        case measure => simp [intOf]; omega
      · have HL : Hid (lkAt n m r q = []) := by unfold Hid lkAt; rw [if_neg c1, if_neg c2]; rfl
        go_wp2_with (go_at_call 105; refine (specGridOk_any _ _ _).mono ?_; rintro e w1 ⟨rfl, rfl⟩; rw [hg])
        go_roundw
        case rel => exact ⟨k + 1, _, _, by omega, by go_num, rfl, HA, by (unfold Hid; rw [HS.out, HL.out, List.append_nil]), by omega⟩
        case measure => simp [intOf]; omega
    · have HK : Hid (xs0 = lkAll n m m) := by unfold Hid; rw [HX.out, show k = N by omega]; exact HNM.out
      go_wp2_with (go_at_call 105; refine (specGridOk_any _ _ _).mono ?_; rintro e w1 ⟨rfl, rfl⟩; rw [hg])
      go_ret
      exact ⟨_, rfl, by rw [← HK.out]; exact HA.out.1, HA.out.2.1⟩

theorem specLinksOf_any (a b : Int) (w : World) :
    Calls Try.prog 107 #[.int .i64 a, .int .i64 b] w (RetLinks w (linksZ a b)) := by
  cases hg : gridB a b
  · have e0 : linksZ a b = [] := by simp [linksZ, hg]
    rw [e0]; clear e0
    have HA0 : Hid (Acc elLink w w.heap.size (w.alloc (.cells #[] 68)) (.slice (some ⟨w.heap.size, 0, none⟩) 0 0) []) := Acc.start w
    go_enter Try.func107, Try.ntmps107
    go_wp2_with fail
    go_loopw [5, 6] (fun o s wr => o = .slice (some ⟨w.heap.size, 0, none⟩) 0 0 ∧ s = .int .i64 0 ∧ wr = w.alloc (.cells #[] 68)) (fun _ _ _ => 0)
    case atStart => exact ⟨rfl, rfl, rfl⟩
    case round =>
      obtain ⟨rfl, rfl, rfl⟩ := hrel
      go_wp2_with (go_at_call 105; refine (specGridOk_any _ _ _).mono ?_; rintro e w1 ⟨rfl, rfl⟩; rw [hg])
      go_ret
      exact ⟨_, rfl, HA0.out.1, HA0.out.2.1⟩
  · have hb := (gridB_iff _ _).1 hg
    obtain ⟨n, rfl⟩ := Int.eq_ofNat_of_zero_le (show 0 ≤ a by omega)
    obtain ⟨m, rfl⟩ := Int.eq_ofNat_of_zero_le (show 0 ≤ b by omega)
    have e0 : linksZ n m = lkAll n m m := by simp [linksZ, hg]
    rw [e0]
    exact specLinksOf_yes n m w hg
end Go.Proofs.Ytehnbalbpfmijaa

namespace Go.Proofs.Ytehnbalbpfmijaa
open Go.RowKit

def postA (wd : Int) (l : Lk) : Int := l.2.1 * wd + l.1
def postB (wd : Int) (l : Lk) : Int := if l.2.2 then postA wd l + wd else postA wd l + 1
theorem mul_bdP {a b A B : Int} (h1 : 0 ≤ a) (h2 : a ≤ A) (h3 : 0 ≤ b) (h4 : b ≤ B) : 0 ≤ a * b ∧ a * b ≤ A * B :=
  ⟨Int.mul_nonneg h1 h3, Int.mul_le_mul h2 h4 h3 (by omega)⟩
theorem posts_any (wd x y : Int) (d : Bool) (w : World) (h1 : 0 ≤ x) (h2 : x ≤ 64) (h3 : 0 ≤ y) (h4 : y ≤ 64) (h5 : 0 ≤ wd) (h6 : wd ≤ 64) :
    Calls Try.prog 151 #[triV x y d, .int .i64 wd] w fun e w' => e = .returned (.tuple #[.int .i64 (postA wd (x, y, d)), .int .i64 (postB wd (x, y, d))]) ∧ Below w.heap.size w w' := by
  obtain ⟨m1, m2⟩ := mul_bdP h3 h4 h5 h6
  have m3 : y * wd + x ≤ 5000 := by omega
  have m4 : 0 ≤ y * wd + x := by omega
  cases d
  all_goals
    go_enter Try.func151, Try.ntmps151
    go_wp2
    go_ret2
    exact ⟨rfl, (Below.refl _ _).alloc (by (try simp) <;> omega) _⟩
theorem l23Ends_any (wd x y : Int) (d : Bool) (w : World) (h1 : 0 ≤ x) (h2 : x ≤ 64) (h3 : 0 ≤ y) (h4 : y ≤ 64) (h5 : 0 ≤ wd) (h6 : wd ≤ 64) :
    Calls Try.prog 117 #[.int .i64 wd, triV x y d] w fun e w' => e = .returned (.tuple #[.int .i64 (postA wd (x, y, d)), .int .i64 (postB wd (x, y, d))]) ∧ Below w.heap.size w w' := by
  obtain ⟨m1, m2⟩ := mul_bdP h3 h4 h5 h6
  have m3 : y * wd + x ≤ 5000 := by omega
  have m4 : 0 ≤ y * wd + x := by omega
  cases d
  all_goals
    go_enter Try.func117, Try.ntmps117
    go_wp2
    go_ret2
    exact ⟨rfl, (Below.refl _ _).alloc (by (try simp) <;> omega) _⟩
end Go.Proofs.Ytehnbalbpfmijaa

namespace Go.Proofs.Ytehnbalbpfmijaa
open Go.RowKit

def boxB (a b c : Int) : Bool := inB a 1 3 && inB b 1 3 && inB c 1 3
theorem boxB_iff (a b c : Int) : boxB a b c = true ↔ (1 ≤ a ∧ a ≤ 3) ∧ (1 ≤ b ∧ b ≤ 3) ∧ 1 ≤ c ∧ c ≤ 3 := by
  simp [boxB, inB_iff, and_assoc]

end Go.Proofs.Ytehnbalbpfmijaa

namespace Go.Proofs.Ytehnbalbpfmijaa

def fallB (zs : List Int) (k : Nat) : Bool := decide (0 < k) && decide (el zs (k - 1) < el zs k)
def overB (up zs : List Int) (i k : Nat) : Bool := decide (0 < i) && decide (el up k < el zs k)
/-- One row of a heap as the program looks at it. -/
def hrowB (b c : Int) (up zs : List Int) (i : Nat) : Bool :=
  decide ((zs.length : Int) = b) && allB zs 0 c && upFrom (fun k => !(fallB zs k || overB up zs i k)) 0 zs.length
def heapB (a b c : Int) (zss : List (List Int)) : Bool :=
  boxB a b c && decide ((zss.length : Int) = a) && upFrom (fun i => hrowB b c (rw' zss (i - 1)) (rw' zss i) i) 0 zss.length
/-- A row as the reference looks at it. -/
def rowB (b c : Int) (zs : List Int) : Bool :=
  upFrom (fun k => inB (el zs k) 0 c && !fallB zs k) 0 zs.length && (inB b 1 3 && inB c 1 3 && decide ((zs.length : Int) = b))
/-- The rows of paths that do not touch. -/
def apartB (b c : Int) (up low : List Int) : Bool := rowB b c up && rowB b c low && upFrom (fun k => !decide (el up k < el low k)) 0 b.toNat

theorem allB_up (zs : List Int) (a b : Int) : allB zs a b = true ↔ ∀ j, j < zs.length → inB (el zs j) a b = true := by
  unfold allB
  rw [List.all_eq_true]
  constructor
  · intro h j hj; rw [el_get zs j hj]; exact h _ (List.getElem_mem hj)
  · intro h z hz
    obtain ⟨j, hj, rfl⟩ := List.getElem_of_mem hz
    rw [← el_get zs j hj]; exact h j hj
theorem fallB_iff (zs : List Int) (k : Nat) : fallB zs k = false ↔ (0 < k → el zs k ≤ el zs (k - 1)) := by
  rw [fallB, Bool.and_eq_false_iff, decide_eq_false_iff_not, decide_eq_false_iff_not]; omega
theorem overB_iff (up zs : List Int) (i k : Nat) : overB up zs i k = false ↔ (0 < i → el zs k ≤ el up k) := by
  rw [overB, Bool.and_eq_false_iff, decide_eq_false_iff_not, decide_eq_false_iff_not]; omega
theorem hrowB_iff (b c : Int) (up zs : List Int) (i : Nat) : hrowB b c up zs i = true ↔
    (zs.length : Int) = b ∧ (∀ j, j < zs.length → 0 ≤ el zs j ∧ el zs j ≤ c) ∧ ∀ j, j < zs.length → (0 < j → el zs j ≤ el zs (j - 1)) ∧ (0 < i → el zs j ≤ el up j) := by
  simp only [hrowB, Bool.and_eq_true, decide_eq_true_eq, allB_up, inB_iff, upFrom_iff, Bool.not_eq_true', Bool.or_eq_false_iff, fallB_iff, overB_iff, Nat.zero_le, true_implies, and_assoc]
theorem rowB_iff (b c : Int) (zs : List Int) : rowB b c zs = true ↔
    (∀ j, j < zs.length → (0 ≤ el zs j ∧ el zs j ≤ c) ∧ (0 < j → el zs j ≤ el zs (j - 1))) ∧ (1 ≤ b ∧ b ≤ 3) ∧ (1 ≤ c ∧ c ≤ 3) ∧ (zs.length : Int) = b := by
  simp only [rowB, Bool.and_eq_true, decide_eq_true_eq, inB_iff, upFrom_iff, Bool.not_eq_true', fallB_iff, Nat.zero_le, true_implies, and_assoc]
theorem apartB_iff (b c : Int) (up low : List Int) : apartB b c up low = true ↔ rowB b c up = true ∧ rowB b c low = true ∧ ∀ j, j < b.toNat → el low j ≤ el up j := by
  simp only [apartB, Bool.and_eq_true, upFrom_iff, Bool.not_eq_true', decide_eq_false_iff_not, Int.not_lt, Nat.zero_le, true_implies, and_assoc]
theorem heapB_iff (a b c : Int) (zss : List (List Int)) : heapB a b c zss = true ↔
    ((1 ≤ a ∧ a ≤ 3) ∧ (1 ≤ b ∧ b ≤ 3) ∧ 1 ≤ c ∧ c ≤ 3) ∧ (zss.length : Int) = a ∧ ∀ i, i < zss.length → hrowB b c (rw' zss (i - 1)) (rw' zss i) i = true := by
  simp only [heapB, Bool.and_eq_true, boxB_iff, decide_eq_true_eq, upFrom_iff, Nat.zero_le, true_implies, and_assoc]
theorem apart_heap (b c : Int) (up low : List Int) : heapB 2 b c [up, low] = apartB b c up low := by
  rw [Bool.eq_iff_iff, heapB_iff, apartB_iff, rowB_iff, rowB_iff]
  constructor
  · rintro ⟨⟨_, hb, hc⟩, _, h⟩
    obtain ⟨l0, a0, f0⟩ := (hrowB_iff _ _ _ _ _).1 (h 0 (by simp))
    obtain ⟨l1, a1, f1⟩ := (hrowB_iff _ _ _ _ _).1 (h 1 (by simp))
    change (up.length : Int) = b at l0
    change (low.length : Int) = b at l1
    refine ⟨⟨fun j hj => ⟨a0 j hj, (f0 j hj).1⟩, hb, hc, l0⟩, ⟨fun j hj => ⟨a1 j hj, (f1 j hj).1⟩, hb, hc, l1⟩, fun j hj => (f1 j (show j < low.length by omega)).2 (by omega)⟩
  · rintro ⟨⟨p0, hb, hc, l0⟩, ⟨p1, _, _, l1⟩, hj⟩
    refine ⟨⟨by omega, hb, hc⟩, rfl, fun i hi => ?_⟩
    rw [hrowB_iff]
    match i, hi with
    | 0, _ => exact ⟨l0, fun j h => (p0 j h).1, fun j h => ⟨(p0 j h).2, fun h' => absurd h' (Nat.lt_irrefl 0)⟩⟩
    | 1, _ => exact ⟨l1, fun j h => (p1 j h).1, fun j h => ⟨(p1 j h).2, fun _ => hj j (by have h2 : j < low.length := h; omega)⟩⟩
    | n + 2, hi => exact absurd hi (by simp)
theorem one_heap (b c : Int) (zs : List Int) : heapB 1 b c [zs] = rowB b c zs := by
  rw [Bool.eq_iff_iff, heapB_iff, rowB_iff]
  constructor
  · rintro ⟨⟨_, hb, hc⟩, _, h⟩
    obtain ⟨l0, a0, f0⟩ := (hrowB_iff _ _ _ _ _).1 (h 0 (by simp))
    exact ⟨fun j hj => ⟨a0 j hj, (f0 j hj).1⟩, hb, hc, l0⟩
  · rintro ⟨p0, hb, hc, l0⟩
    refine ⟨⟨by omega, hb, hc⟩, rfl, fun i hi => ?_⟩
    rw [hrowB_iff]
    match i, hi with
    | 0, _ => exact ⟨l0, fun j h => (p0 j h).1, fun j h => ⟨(p0 j h).2, fun h' => absurd h' (Nat.lt_irrefl 0)⟩⟩
    | n + 1, hi => exact absurd hi (by simp)
theorem seven : ∀ b1 b2 b3 b4 : Bool, (b1 = true ∧ b2 = true) ∨ (b1 = false ∧ b3 = false) ∨ (b1 = false ∧ b3 = true ∧ b4 = true) ∨ (b1 = false ∧ b3 = true ∧ b4 = false) ∨
    (b1 = true ∧ b2 = false ∧ b3 = false) ∨ (b1 = true ∧ b2 = false ∧ b3 = true ∧ b4 = true) ∨ (b1 = true ∧ b2 = false ∧ b3 = true ∧ b4 = false) := by decide
end Go.Proofs.Ytehnbalbpfmijaa

namespace Go.Proofs.Ytehnbalbpfmijaa
open Go.RowKit

theorem Rd.el {w : World} {B : Nat} {A : Option Addr} {zs : List Int} (h : Rd w B A (zs.map (Value.int .i64))) {k : Nat} (hk : k < zs.length) :
    ∃ ad, A = some ad ∧ ad.block < B ∧ w.cell? (ad.add k) = some (.int .i64 (el zs k)) := by
  rw [el_get zs k hk]; exact h.int hk

/-- v is a slice of slices that reads as zss. -/
def RdII (w : World) (B : Nat) (v : Value) (zss : List (List Int)) : Prop :=
  ∃ A c vs, v = .slice A zss.length c ∧ zss.length ≤ c ∧ c ≤ maxLen ∧ vs.length = zss.length ∧ Rd w B A vs ∧ ∀ i u, vs[i]? = some u → RdI w B u (rw' zss i)
theorem RdII.below {w w' : World} {B : Nat} {v : Value} {zss : List (List Int)} (h : RdII w B v zss) (hb : Below B w w') : RdII w' B v zss := by
  obtain ⟨A, c, vs, e, h1, h2, h3, h4, h5⟩ := h
  exact ⟨A, c, vs, e, h1, h2, h3, h4.below hb, fun i u hu => (h5 i u hu).below hb⟩
theorem RdII.more {w : World} {B B' : Nat} {v : Value} {zss : List (List Int)} (h : RdII w B v zss) (hb : B ≤ B') : RdII w B' v zss := by
  obtain ⟨A, c, vs, e, h1, h2, h3, h4, h5⟩ := h
  exact ⟨A, c, vs, e, h1, h2, h3, h4.more hb, fun i u hu => (h5 i u hu).more hb⟩
/-- The row at an index. -/
def RowAt (w : World) (B : Nat) (A : Option Addr) (zss : List (List Int)) : Prop :=
  ∀ i, i < zss.length → ∃ ad u, A = some ad ∧ ad.block < B ∧ w.cell? (ad.add i) = some u ∧ RdI w B u (rw' zss i)
theorem RdII.open_ {w : World} {B : Nat} {v : Value} {zss : List (List Int)} (h : RdII w B v zss) : ∃ A c, v = .slice A zss.length c ∧ zss.length ≤ c ∧ c ≤ maxLen ∧ RowAt w B A zss := by
  obtain ⟨A, c, vs, e, h1, h2, h3, h4, h5⟩ := h
  refine ⟨A, c, e, h1, h2, fun i hi => ?_⟩
  obtain ⟨ad, ha, hb, hc⟩ := h4.at (k := i) (by omega)
  exact ⟨ad, vs[i]'(by omega), ha, hb, hc, h5 i _ (List.getElem?_eq_getElem (by omega))⟩

end Go.Proofs.Ytehnbalbpfmijaa

namespace Go.Proofs.Ytehnbalbpfmijaa
open Go.RowKit

theorem infoRow : (Try.prog.info? 31).map (fun i => (i.zero, i.size, i.bytes)) = some (some (.slice none 0 0), 1, 24) := by kernel_rfl

/-! ### Sizes -/
def szRows : List (List Int) → Int → Int
  | [], l => l
  | z :: t, l => if l - (z.length : Int) < 0 then -1 else szRows t (l - z.length)
def szSS (zss : List (List Int)) (left : Int) : Int := if left - (zss.length : Int) < 0 then -1 else szRows zss (left - zss.length)
theorem szRows_bd : ∀ (zss : List (List Int)) (l : Int), 0 ≤ l → 0 ≤ szRows zss l → ∀ z, z ∈ zss → (z.length : Int) ≤ l
  | [], _, _, _, _, hz => by cases hz
  | z :: t, l, _, h, y, hy => by
    unfold szRows at h
    split at h
    · omega
    · rcases List.mem_cons.1 hy with rfl | hy
      · omega
      · have := szRows_bd t _ (by omega) h y hy; omega
theorem szSS_bd (zss : List (List Int)) (left : Int) (_hl : 0 ≤ left) (h : 0 ≤ szSS zss left) : (zss.length : Int) ≤ left ∧ ∀ i, i < zss.length → ((rw' zss i).length : Int) ≤ left := by
  unfold szSS at h
  split at h
  · omega
  · refine ⟨by omega, fun i hi => ?_⟩
    have := szRows_bd zss _ (by omega) h (rw' zss i) (by rw [rw_get zss i hi]; exact List.getElem_mem hi)
    omega
theorem szRows_drop (zss : List (List Int)) (k : Nat) (l : Int) (hk : k < zss.length) : szRows (zss.drop k) l = if l - ((rw' zss k).length : Int) < 0 then -1 else szRows (zss.drop (k + 1)) (l - (rw' zss k).length) := by
  rw [List.drop_eq_getElem_cons hk, szRows, rw_get zss k hk]

/-! ### A slice of slices of the call's own -/
def OwnII (w : World) (lo : Nat) (v : Value) (zss : List (List Int)) : Prop :=
  ∃ vs, w.ownsRow lo 31 1 v zss.length vs ∧ (∀ i u, vs[i]? = some u → OwnI w lo u (rw' zss i)) ∧
    (∀ (i j : Nat) (u u' : Value) (a b : Nat), i < j → vs[i]? = some u → vs[j]? = some u' → u.ownBlock = some a → u'.ownBlock = some b → a < b)
theorem OwnII.rd {w : World} {lo : Nat} {v : Value} {zss : List (List Int)} (h : OwnII w lo v zss) : RdII w w.heap.size v zss := by
  obtain ⟨vs, h1, h2, _⟩ := h
  have hl : vs.length = zss.length := by have := h1.1; omega
  rcases h1.2 with ⟨rfl, h0⟩ | ⟨g, cap, cur, rfl, hb, hh, hn, hm, hs, ht⟩
  · have e : zss = [] := List.eq_nil_of_length_eq_zero h0
    subst e
    have e2 : vs = [] := List.eq_nil_of_length_eq_zero hl
    subst e2
    exact ⟨none, 0, [], rfl, Nat.le_refl _, Nat.zero_le _, rfl, Rd.nil, fun i u hu => by simp at hu⟩
  · exact ⟨some ⟨g, 0, none⟩, cap, vs, rfl, hn, hm, hl, fun _ => ⟨_, rfl, (World.ownsRow.lt h1 g rfl).2, World.ownsRow.cells h1 rfl⟩, fun i u hu => (h2 i u hu).rd⟩
theorem ownsRow_below {w w' : World} {lo : Nat} {e : TypeId} {size n : Nat} {v : Value} {xs : List Value} (h : w.ownsRow lo e size v n xs) (hb : Below w.heap.size w w') : w'.ownsRow lo e size v n xs := by
  refine World.ownsRow.kept h (row := none) ⟨hb.os, hb.tape, hb.output, hb.size, fun k hk _ => hb.block k hk⟩ ?_
  cases v.ownBlock
  · exact .inl rfl
  · exact .inr (by simp)
theorem OwnII.below {w w' : World} {lo : Nat} {v : Value} {zss : List (List Int)} (h : OwnII w lo v zss) (hb : Below w.heap.size w w') : OwnII w' lo v zss := by
  obtain ⟨vs, h1, h2, h3⟩ := h
  exact ⟨vs, ownsRow_below h1 hb, fun i u hu => (h2 i u hu).below hb, h3⟩
def RetOwnII (w : World) (zss : List (List Int)) (e : Ending) (w' : World) : Prop := ∃ v, e = .returned v ∧ OwnII w' w.heap.size v zss ∧ Below w.heap.size w w'

/-- Behind k rounds of toIntSS. -/
def SSrel (w wr : World) (zss : List (List Int)) (k : Nat) : Prop :=
  ∃ f : Nat → Value, wr.rowIs w.heap.size 31 zss.length (fun j => if j < k then f j else .slice none 0 0) ∧ (∀ j, j < k → OwnI wr (w.heap.size + 1) (f j) (rw' zss j)) ∧
    (∀ i j a b, i < j → j < k → (f i).ownBlock = some a → (f j).ownBlock = some b → a < b) ∧ Below w.heap.size w wr ∧ w.heap.size + 1 ≤ wr.heap.size
theorem SS_start (w : World) (zss : List (List Int)) : SSrel w (w.alloc (.cells (madeCells #[.slice none 0 0] zss.length) 31)) zss 0 :=
  ⟨fun _ => .slice none 0 0, (World.rowIs_made w _ _ _).congr fun i _ => by simp, fun j hj => absurd hj (by omega), fun i j a b _ hj => absurd hj (by omega), (Below.refl _ _).alloc (Nat.le_refl _) _, by simp⟩
theorem OwnI.setCell {w : World} {lo : Nat} {v : Value} {zs : List Int} (h : OwnI w lo v zs) {p : Addr} (hp : p.block < lo) (u : Value) : OwnI (w.setCell p u) lo v zs := ownsRow_setCell_below h hp u
theorem OwnI.mono {w : World} {lo lo' : Nat} {v : Value} {zs : List Int} (h : OwnI w lo v zs) (hl : lo' ≤ lo) : OwnI w lo' v zs := by
  refine ⟨h.1, ?_⟩
  rcases h.2 with h2 | ⟨g, cap, cur, e, hb, r⟩
  · exact .inl h2
  · exact .inr ⟨g, cap, cur, e, by omega, r⟩
theorem SS_step {w wr w1 : World} {zss : List (List Int)} {k : Nat} {v : Value} (h : SSrel w wr zss k) (hk : k < zss.length) (hv : OwnI w1 wr.heap.size v (rw' zss k)) (hb : Below wr.heap.size wr w1) :
    SSrel w (w1.setCell ⟨w.heap.size, k, none⟩ v) zss (k + 1) := by
  obtain ⟨f, h1, h2, h3, h4, h5⟩ := h
  have hsz := hb.size
  refine ⟨fun j => if j = k then v else f j, ((h1.of_block (hb.block _ (by omega))).set k v).congr fun j hj => ?_, fun j hj => ?_, fun i j a b hij hj ha hb' => ?_, (h4.trans (hb.mono (by omega))).setCell (Nat.le_refl _) _, by simp; omega⟩
  · by_cases e : j = k
    · subst e; simp
    · by_cases e2 : j < k
      · simp [e, e2, show j < k + 1 by omega]
      · simp [e, e2, show ¬ j < k + 1 by omega]
  · by_cases e : j = k
    · subst e; simp only [if_true]; exact (hv.mono (by omega)).setCell (Nat.lt_succ_self _) _
    · simp only [if_neg e]; exact ((h2 j (by omega)).below hb).setCell (Nat.lt_succ_self _) _
  · have hi : i ≠ k := by omega
    simp only [if_neg hi] at ha
    by_cases e : j = k
    · simp only [if_pos e] at hb'
      have l1 := ((h2 i (by omega)).lt a ha).2
      have l2 := (hv.lt b hb').1
      omega
    · simp only [if_neg e] at hb'
      exact h3 i j a b hij (by omega) ha hb'
theorem SS_end {w wr : World} {zss : List (List Int)} (hl : zss.length ≤ 9223372036854775807) (h : SSrel w wr zss zss.length) : OwnII wr w.heap.size (.slice (some ⟨w.heap.size, 0, none⟩) zss.length zss.length) zss := by
  obtain ⟨f, h1, h2, h3, h4, h5⟩ := h
  obtain ⟨c, hb, hs, hc⟩ := h1
  have hget : ∀ j, j < zss.length → c[j]? = some (f j) := fun j hj => by rw [hc j hj]; simp [hj]
  refine ⟨c.toList, ⟨by simp [hs], .inr ⟨w.heap.size, zss.length, c, rfl, Nat.le_refl _, hb, Nat.le_refl _, by unfold maxLen; omega, by omega, List.take_of_length_le (by simp; omega)⟩⟩, fun i u hu => ?_, fun i j u u' a b hij hu hu' ha hb' => ?_⟩
  · have hi : i < zss.length := by
      have := (List.getElem?_eq_some_iff.1 hu).1; simpa [hs] using this
    rw [Array.getElem?_toList, hget i hi] at hu
    obtain rfl := Option.some.inj hu
    exact (h2 i hi).mono (by omega)
  · have hj : j < zss.length := by
      have := (List.getElem?_eq_some_iff.1 hu').1; simpa [hs] using this
    rw [Array.getElem?_toList, hget i (by omega)] at hu
    rw [Array.getElem?_toList, hget j hj] at hu'
    obtain rfl := Option.some.inj hu
    obtain rfl := Option.some.inj hu'
    exact h3 i j a b hij hj ha hb'

end Go.Proofs.Ytehnbalbpfmijaa

namespace Go.Proofs.Ytehnbalbpfmijaa
open Go.RowKit

structure Aft (lo hi : Nat) (w w' : World) : Prop where
  os : w'.os = w.os
  tape : w'.tape = w.tape
  output : w'.output = w.output
  size : w.heap.size ≤ w'.heap.size
  block : ∀ k, k < w.heap.size → (k < lo ∨ hi ≤ k) → w'.heap[k]? = w.heap[k]?
theorem Aft.refl (lo hi : Nat) (w : World) : Aft lo hi w w := ⟨rfl, rfl, rfl, Nat.le_refl _, fun _ _ _ => rfl⟩
theorem Aft.trans {lo hi : Nat} {a b c : World} (h : Aft lo hi a b) (k : Aft lo hi b c) : Aft lo hi a c :=
  ⟨k.os.trans h.os, k.tape.trans h.tape, k.output.trans h.output, Nat.le_trans h.size k.size, fun i hi hh => (k.block i (Nat.lt_of_lt_of_le hi h.size) hh).trans (h.block i hi hh)⟩
theorem Aft.below {lo hi : Nat} {w w' : World} (h : Aft lo hi w w') (hl : lo ≤ w.heap.size) : Below lo w w' :=
  ⟨h.os, h.tape, h.output, h.size, fun k hk => h.block k (Nat.lt_of_lt_of_le hk hl) (.inl hk)⟩
theorem Aft.ofBelow {lo hi : Nat} {w w' : World} (h : Below w.heap.size w w') : Aft lo hi w w' := ⟨h.os, h.tape, h.output, h.size, fun k hk _ => h.block k hk⟩
theorem Aft.ofGrown {lo hi : Nat} {w w' : World} {row : Option Nat} (h : w.grownBy w' row) (hr : ∀ k, row = some k → lo ≤ k ∧ k < hi) : Aft lo hi w w' :=
  ⟨h.os, h.tape, h.output, h.size, fun k hk hh => h.block k hk fun e => by have := hr k e.symm; omega⟩
theorem Aft.more {lo hi lo' hi' : Nat} {w w' : World} (h : Aft lo hi w w') (h1 : lo' ≤ lo) (h2 : hi ≤ hi') : Aft lo' hi' w w' := ⟨h.os, h.tape, h.output, h.size, fun k hk hh => h.block k hk (by omega)⟩
/-- What lies apart from the interval: the same blocks, as a growth of no row. -/
theorem Aft.row {lo hi : Nat} {w w' : World} {base : Nat} {e : TypeId} {size n : Nat} {v : Value} {xs : List Value} (h : Aft lo hi w w') (ho : w.ownsRow base e size v n xs) (ha : ∀ k, v.ownBlock = some k → k < lo ∨ hi ≤ k) : w'.ownsRow base e size v n xs := by
  refine ⟨ho.1, ?_⟩
  rcases ho.2 with hn | ⟨g, cap, cur, rfl, hb, hgg, rest⟩
  · exact .inl hn
  · refine .inr ⟨g, cap, cur, rfl, hb, ?_, rest⟩
    rw [h.block g (Array.getElem?_eq_some_iff.1 hgg).1 (ha g rfl)]
    exact hgg
end Go.Proofs.Ytehnbalbpfmijaa
