/- The reference's drawn rows: l22List, DrawRow. -/
import Derived.Test.YtpockbbfbnaioaaCurOwn
import Derived.Test.YtpockbbfbnaioaaHeapLaw
import Derived.Test.YtpockbbfbnaioaaGrown
import Derived.OwnWalk
namespace Go.Proofs.Ytpockbbfbnaioaa
open Go.RowKit

/-- Numbers that fall, from h down to m. -/
def Falls (h m : Int) (zs : List Int) : Prop := (∀ j, j < zs.length → (m ≤ el zs j ∧ el zs j ≤ h) ∧ (0 < j → el zs j ≤ el zs (j - 1)))
theorem el_app (zs : List Int) (z : Int) (j : Nat) : el (zs ++ [z]) j = if j < zs.length then el zs j else if j = zs.length then z else 0 := by
  unfold el
  rw [List.getD_eq_getElem?_getD, List.getD_eq_getElem?_getD]
  by_cases h : j < zs.length
  · rw [List.getElem?_append_left h, if_pos h]
  · rw [List.getElem?_append_right (by omega), if_neg h]
    by_cases e : j = zs.length
    · simp [e]
    · rw [if_neg e, List.getElem?_eq_none (by simp; omega)]; rfl
theorem Falls.push {h m z : Int} {zs : List Int} (hf : Falls h m zs) (h1 : z ≤ m) (h2 : m ≤ h) : Falls h z (zs ++ [z]) := by
  intro j hj
  simp only [List.length_append, List.length_singleton] at hj
  rw [el_app, el_app]
  by_cases e : j < zs.length
  · obtain ⟨⟨a, b⟩, c⟩ := hf j e
    rw [if_pos e]
    refine ⟨⟨by omega, b⟩, fun h0 => ?_⟩
    rw [if_pos (by omega)]; exact c h0
  · obtain rfl : j = zs.length := by omega
    rw [if_neg e, if_pos rfl]
    refine ⟨⟨Int.le_refl _, by omega⟩, fun h0 => ?_⟩
    rw [if_pos (by omega)]
    have := (hf (zs.length - 1) (by omega)).1
    omega

theorem falls_row {b h m : Int} {zs : List Int} (hb : 1 ≤ b ∧ b ≤ 3) (hh : 1 ≤ h ∧ h ≤ 3) (_ : True ∨ m = m) (m0 : 0 ≤ m) (hf : Falls h m zs) (hl : (zs.length : Int) = b) : rowB b h zs = true :=
  (rowB_iff _ _ _).2 ⟨fun j hj => by have := hf j hj; exact ⟨⟨by omega, by omega⟩, this.2⟩, hb, hh, hl⟩
def ListDraw (w : World) (q : Nat) (v : Value) (n : Nat) (e : Ending) (w' : World) : Prop :=
  ∃ (b h : Int) (zs : List Int) (u : Value), rowB b h zs = true ∧ e = .returned (.tuple #[.int .i64 b, .int .i64 h, u]) ∧ OwnI w' w.heap.size u zs ∧ Cur w' q v n ∧ w.grownBy w' (some q)

set_option maxHeartbeats 2000000 in
theorem l22List_any (q n : Nat) (v : Value) (w : World) (hc : Cur w q v n) :
    Calls Try.prog 122 #[.pointer (some ⟨q, 0, none⟩)] w (ListDraw w q v n) := by
  have hq := hc.lt
  go_enter Try.func122, Try.ntmps122
  go_wp2_with fail
  refine (below_any q n v 3 w hc (by omega) (by omega)).mono ?_
  rintro e w1 ⟨b, ⟨b0, b1⟩, rfl, hc1, hg1⟩
  go_wp2_with fail
  refine (below_any q n v 3 w1 hc1 (by omega) (by omega)).mono ?_
  rintro e w2 ⟨h, ⟨h0, h1⟩, rfl, hc2, hg2⟩
  have hg2 := hg1.trans hg2
  go_wp2_with fail
  go_loopw [7, 8, 9] (fun u m k wr => ∃ (zs : List Int) (m' : Int), (zs.length : Int) ≤ 1 + b ∧ 0 ≤ m' ∧ m' ≤ 1 + h ∧ m = .int .i64 m' ∧ k = .int .i64 (zs.length : Int) ∧ Hid (Falls (1 + h) m' zs) ∧ Hid (OwnI wr w.heap.size u zs) ∧ Cur wr q v n ∧ w.grownBy wr (some q)) (fun _ _ k _ => 4 - (intOf k).toNat)
  case atStart =>
    refine ⟨[], 1 + h, by simp; omega, by omega, by omega, rfl, rfl, fun j hj => by simp at hj, ?_, ?_, ?_⟩
    · exact ownF_int.1 (OwnF.empty (E := elInt) hg2.size)
    · exact hc2.grown (grownBy_alloc _ _ none) fun k e => by simp at e
    · exact grownBy_more hg2 (grownBy_alloc _ _ none) fun k e => by simp at e
  case round =>
    obtain ⟨zs, m, hk, m0, m1, rfl, rfl, HF, HO, hcr, hgr⟩ := hrel
    by_cases hlt : (zs.length : Int) < 1 + b
    · go_wp2_with fail
      refine (below_any q n v (m + 1) wr hcr (by omega) (by omega)).mono ?_
      rintro e w3 ⟨r, ⟨r0, r1⟩, rfl, hc3, hg3⟩
      have hsz := hg3.size
      have hszr := hgr.size
      have hg3' := hgr.trans hg3
      have HA := Lib.hid (acc0I (HO.out.grown hg3 fun k hk e => by have := (HO.out.lt k hk).1; simp at e; omega) (show w.heap.size ≤ w3.heap.size by omega))
      have hlo := HO.out.lt
      have HL := Lib.hid hlo
      clear hlo
      go_wp2_with (at_builtin; refine wpList_push okInt rfl _ _ rfl HA.out rfl (m - r) _ rfl _ rfl (by simp) (by omega) ?_; intro u2 w4 HA2 HG2)
      have hg4 : w3.grownBy w4 u7.ownBlock := HG2.out.1
      have hl4 : ∀ k, u7.ownBlock = some k → w.heap.size ≤ k := fun k hk => (HL.out k hk).1
      go_roundw
      case rel =>
        refine ⟨zs ++ [m - r], m - r, by simp; omega, by omega, by omega, rfl, by simp, HF.out.push (by omega) (by omega), ownF_int.1 HA2.out.1, ?_, ?_⟩
        · exact hc3.grown hg4 fun k hk => by have := hl4 k hk; omega
        · exact grownBy_more hg3' hg4 fun k hk => .inl (hl4 k hk)
      case measure => simp [intOf]; omega
    · go_wp2_with fail
      go_ret3
      exact ⟨1 + b, 1 + h, zs, u7, falls_row (by omega) (by omega) (.inl trivial) m0 HF.out (by omega), rfl, HO.out, hcr, hgr⟩

/-- A drawn row. -/
def RowDraw (w : World) (e : Ending) (w' : World) : Prop :=
  ∃ (b h : Int) (zs : List Int) (u : Value), rowB b h zs = true ∧ e = .returned (.tuple #[.int .i64 b, .int .i64 h, u]) ∧ OwnI w' w.heap.size u zs ∧ Below w.heap.size w w'
theorem DrawRow_any (v : Value) (n B : Nat) (w : World) (hv : RdU w B v n) (hB : B ≤ w.heap.size) :
    Calls Try.prog 55 #[v] w (RowDraw w) := by
  go_enter Try.func55, Try.ntmps55
  go_wp2_with fail
  refine (new_any v n B w hv hB).mono ?_
  rintro e w1 ⟨rfl, hc1, hb1⟩
  go_wp2_with fail
  refine (l22List_any _ n v w1 hc1).mono ?_
  rintro e w2 ⟨b, h, zs, u, hr, rfl, ho, hc2, hg2⟩
  go_wp2_with fail
  go_ret3
  exact ⟨b, h, zs, u, hr, rfl, ho.mono hb1.size, below_young hb1 hg2 (Nat.le_refl _)⟩
end Go.Proofs.Ytpockbbfbnaioaa
