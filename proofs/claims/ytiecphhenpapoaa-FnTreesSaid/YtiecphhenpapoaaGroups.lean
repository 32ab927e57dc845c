/- Contracts of the reference's l23Groups and l23Join. -/
import Derived.Test.YtiecphhenpapoaaTreeM
import Derived.Test.YtiecphhenpapoaaRoot
namespace Go.Proofs.Ytiecphhenpapoaa
open Go.RowKit
set_option linter.unusedVariables false

def natI (g : List Nat) : List Int := g.map fun (x : Nat) => (x : Int)
theorem natI_length (g : List Nat) : (natI g).length = g.length := by simp [natI]
theorem natI_el (g : List Nat) (i : Nat) (h : i < g.length) : el (natI g) i = (gi g i : Int) := by simp [natI, el, gi, h]
theorem OwnI.store' {w : World} {lo g n cap : Nat} {zs : List Int} (h : OwnI w lo (.slice (some ⟨g, 0, none⟩) n cap) zs) (hl : zs.length = n) (i : Nat) (z : Int) : OwnI (w.setCell ⟨g, i, none⟩ (.int .i64 z)) lo (.slice (some ⟨g, 0, none⟩) n cap) (zs.set i z) := by
  subst hl
  have hst := World.ownsRow.stored h i (.int .i64 z)
  unfold OwnI
  rw [List.length_set, List.map_set]
  exact hst.1
theorem OwnI.at' {w : World} {lo g n cap : Nat} {zs : List Int} (h : OwnI w lo (.slice (some ⟨g, 0, none⟩) n cap) zs) (hl : zs.length = n) {i : Nat} (hi : i < n) : w.cell? ⟨g, i, none⟩ = some (.int .i64 (el zs i)) ∧ w.frozen? ⟨g, i, none⟩ = false := by
  subst hl
  refine ⟨?_, World.ownsRow.frozenAt h i⟩
  rw [World.ownsRow.cellAt h i (by omega), List.getElem?_map, List.getElem?_eq_getElem (by omega), el_get _ _ (by omega)]; rfl

theorem l23Groups_any (n : Nat) (w : World) (hn : n ≤ 1000) :
    Calls Try.prog 158 #[.int .i64 n] w (RetOwnI w (natI (List.range n))) := by
  have HA0 : Hid (Acc elInt w w.heap.size (w.alloc (.cells #[] 3)) (.slice (some ⟨w.heap.size, 0, none⟩) 0 0) (natI (List.range 0))) := Acc.start w
  go_enter Try.func158, Try.ntmps158
  go_wp2_with fail
  go_loopw [3, 4] (fun o s wr => ∃ (k : Nat) (v : Value), k ≤ n ∧ s = .int .i64 k ∧ v = o ∧ Hid (Acc elInt w w.heap.size wr v (natI (List.range k)))) (fun _ s _ => n - (intOf s).toNat)
  case atStart => exact ⟨0, _, Nat.zero_le _, rfl, rfl, HA0⟩
  case round =>
    obtain ⟨k, v, hk, rfl, rfl, HA⟩ := hrel
    by_cases hlt : k < n
    · have ht : decide ((k : Int) < (n : Int)) = true := by simp only [decide_eq_true_eq]; omega
      go_wp2_with (at_builtin; refine wpList_push okInt rfl _ _ rfl HA.out rfl (k : Int) _ rfl _ rfl (by simp) (by simp [natI]; omega) ?_; intro v2 w2 HA2 HG2)
      go_roundw
      case rel => exact ⟨k + 1, _, by omega, by go_num, rfl, by (unfold Hid; rw [List.range_succ, natI, List.map_append]; exact HA2.out)⟩
      case measure => simp [intOf]; omega
    · have ht : decide ((k : Int) < (n : Int)) = false := by simp only [decide_eq_false_iff_not]; omega
      obtain rfl : k = n := by omega
      go_wp2_with fail
      go_ret
      exact ⟨_, rfl, ownF_int.1 HA.out.1, HA.out.2.1⟩

/-- The first k labels joined. -/
def joinTo (g : List Nat) (u v k : Nat) : List Nat := g.mapIdx fun i x => if i < k ∧ x = v then u else x
theorem joinTo_length (g : List Nat) (u v k : Nat) : (joinTo g u v k).length = g.length := by simp [joinTo]
theorem joinTo_zero (g : List Nat) (u v : Nat) : joinTo g u v 0 = g := by
  apply List.ext_getElem
  · simp [joinTo]
  · intro i h1 h2; simp [joinTo]
theorem joinTo_all (g : List Nat) (u v : Nat) : joinTo g u v g.length = g.map fun x => if x = v then u else x := by
  apply List.ext_getElem
  · simp [joinTo]
  · intro i h1 h2
    have : i < g.length := by simpa using h2
    simp [joinTo, this]
theorem joinTo_gi (g : List Nat) (u v k : Nat) (hk : k < g.length) : gi (joinTo g u v k) k = gi g k := by simp [gi, joinTo, hk]
theorem joinTo_skip (g : List Nat) (u v k : Nat) (hk : k < g.length) (h : gi g k ≠ v) : joinTo g u v k = joinTo g u v (k + 1) := by
  apply List.ext_getElem
  · simp [joinTo]
  · intro i h1 h2
    have hi : i < g.length := by simpa [joinTo] using h2
    by_cases e : i = k
    · subst e
      have : g[i] ≠ v := by simpa [gi, hk] using h
      simp [joinTo, this]
    · by_cases e2 : i < k
      · simp [joinTo, e2, show i < k + 1 by omega]
      · simp [joinTo, e2, show ¬ i < k + 1 by omega]
theorem joinTo_set (g : List Nat) (u v k : Nat) (hk : k < g.length) (h : gi g k = v) : (natI (joinTo g u v k)).set k (u : Int) = natI (joinTo g u v (k + 1)) := by
  apply List.ext_getElem
  · simp [joinTo, natI]
  · intro i h1 h2
    have hi : i < g.length := by simpa [joinTo, natI] using h2
    rw [List.getElem_set]
    by_cases e : k = i
    · subst e
      have : g[k] = v := by simpa [gi, hk] using h
      simp [joinTo, natI, this]
    · by_cases e2 : i < k
      · simp [joinTo, natI, e, e2, show i < k + 1 by omega]
      · simp [joinTo, natI, e, e2, show ¬ i < k + 1 by omega]

set_option maxHeartbeats 4000000 in
theorem l23Join_any (g cap n lo a b : Nat) (gs : List Nat) (w : World) (h : OwnI w lo (.slice (some ⟨g, 0, none⟩) n cap) (natI gs)) (hl : gs.length = n) (ha : a < n) (hb : b < n) (hn : n ≤ 1000) :
    Calls Try.prog 160 #[.slice (some ⟨g, 0, none⟩) n cap, .int .i64 a, .int .i64 b] w
      fun e w' => e = .returned (.bool (decide (gi gs a ≠ gi gs b))) ∧ OwnI w' lo (.slice (some ⟨g, 0, none⟩) n cap) (natI (joinF gs (a, b))) ∧ w.grownBy w' (some g) := by
  have hnl : (natI gs).length = n := by rw [natI_length]; exact hl
  obtain ⟨c1, _⟩ := h.at' hnl ha
  obtain ⟨c2, _⟩ := h.at' hnl hb
  rw [natI_el _ _ (by omega)] at c1 c2
  have H := Lib.hid h
  have HL := Lib.hid hl
  have hab : (0 : Int) ≤ (a : Int) := by omega
  have hbb : (0 : Int) ≤ (b : Int) := by omega
  have ha2 : (a : Int) < (n : Int) := by omega
  have hb2 : (b : Int) < (n : Int) := by omega
  have HJ : Hid (joinF gs (a, b) = joinTo gs (gi gs a) (gi gs b) n) := by unfold Hid; rw [← hl, joinTo_all]; rfl
  have HSAME : Hid (gi gs a = gi gs b → joinF gs (a, b) = gs) := by
    intro e
    unfold joinF
    simp only [e]
    conv => rhs; rw [← List.map_id gs]
    apply List.map_congr_left
    intro x _
    split
    · rename_i h9; exact h9.symm
    · rfl
  clear h hl hnl
  generalize hu : gi gs a = u at *
  generalize hv : gi gs b = v at *
  clear hu hv
  by_cases huv : u = v
  · have HS := Lib.hid (HSAME.out huv)
    have t1 : ((u : Int) != (v : Int)) = false := by simp [huv]
    have t2 : decide (u ≠ v) = false := by simp [huv]
    rw [t2]
    have hnn : (0 : Int) < (n : Int) := by omega
    subst huv
    go_enter Try.func160, Try.ntmps160
    go_wp2_with fail
    go_loopw [9] (fun s wr => s = .int .i64 0 ∧ w = wr) (fun _ _ => 0)
    case atStart => exact ⟨rfl, rfl⟩
    case round =>
      obtain ⟨rfl, rfl⟩ := hrel
      go_wp2_with fail
      go_ret
      exact ⟨rfl, by rw [HS.out]; exact H.out, World.grownBy.refl w _⟩
  · have t1 : ((u : Int) != (v : Int)) = true := by rw [bne_iff_ne]; omega
    have t2 : decide (u ≠ v) = true := by simp [huv]
    rw [t2]
    clear t2
    have H0 : Hid (OwnI w lo (.slice (some ⟨g, 0, none⟩) n cap) (natI (joinTo gs u v 0))) := by unfold Hid; rw [joinTo_zero]; exact H.out
    go_enter Try.func160, Try.ntmps160
    go_wp2_with fail
    go_loopw [9] (fun s wr => ∃ k : Nat, k ≤ n ∧ s = .int .i64 k ∧ Hid (OwnI wr lo (.slice (some ⟨g, 0, none⟩) n cap) (natI (joinTo gs u v k))) ∧ Hid (w.grownBy wr (some g))) (fun s _ => n - (intOf s).toNat)
    case atStart => exact ⟨0, Nat.zero_le _, rfl, H0, World.grownBy.refl w _⟩
    case round =>
      obtain ⟨k, hk, rfl, HK, HG⟩ := hrel
      by_cases hlt : k < n
      · have ht : decide ((k : Int) < (n : Int)) = true := by simp only [decide_eq_true_eq]; omega
        have hkl : (natI (joinTo gs u v k)).length = n := by rw [natI_length, joinTo_length]; exact HL.out
        obtain ⟨d1, d2⟩ := HK.out.at' hkl hlt
        have HST := Lib.hid (HK.out.store' hkl k (u : Int))
        have hkg : k < gs.length := by have := HL.out; omega
        rw [natI_el _ _ (by rw [joinTo_length]; exact hkg), joinTo_gi _ _ _ _ hkg] at d1
        have HGS : Hid (w.grownBy (wr.setCell ⟨g, k, none⟩ (.int .i64 (u : Int))) (some g)) := HG.out.trans ⟨rfl, rfl, rfl, by simp, fun k2 _ hne => Below.heap_setCell _ _ _ _ (fun e => hne (by rw [e]))⟩
        have hk0 : (0 : Int) ≤ (k : Int) := by omega
        have hk1 : (k : Int) < (n : Int) := by omega
        by_cases hx : gi gs k = v
        · have HST2 : Hid (OwnI (wr.setCell ⟨g, k, none⟩ (.int .i64 (u : Int))) lo (.slice (some ⟨g, 0, none⟩) n cap) (natI (joinTo gs u v (k + 1)))) := by unfold Hid; rw [← joinTo_set _ _ _ _ hkg hx]; exact HST.out
          rw [hx] at d1
          clear HST hkl hkg hx
          go_wp2_with fail
          go_roundw
          case rel => exact ⟨k + 1, by omega, by go_num, HST2, HGS⟩
          case measure => simp [intOf]; omega
        · have HK2 : Hid (OwnI wr lo (.slice (some ⟨g, 0, none⟩) n cap) (natI (joinTo gs u v (k + 1)))) := by unfold Hid; rw [← joinTo_skip _ _ _ _ hkg hx]; exact HK.out
          have t5 : ((gi gs k : Int) == (v : Int)) = false := by rw [beq_eq_false_iff_ne]; omega
          have t6 : (gi gs k == v) = false := by rw [beq_eq_false_iff_ne]; exact hx
          clear HST hkl hkg hx HGS
          generalize gi gs k = y at *
          go_wp2_with fail
          go_roundw
          case rel => exact ⟨k + 1, by omega, by go_num, HK2, HG⟩
          case measure => simp [intOf]; omega
      · have ht : decide ((k : Int) < (n : Int)) = false := by simp only [decide_eq_false_iff_not]; omega
        obtain rfl : k = n := by omega
        go_wp2_with fail
        go_ret
        exact ⟨rfl, by rw [HJ.out]; exact HK.out, HG.out⟩
end Go.Proofs.Ytiecphhenpapoaa
