/- What the claim's walk rests on: parts TriLink, ToDomino, Os, WTilingOfTree. -/
import Derived.Test.YtehnbalbpfmijaaKt1
import Derived.Test.YtehnbalbpfmijaaKt13
import Derived.Test.YtehnbalbpfmijaaKt2
import Derived.Test.YtehnbalbpfmijaaFrameTKt
import Derived.Test.YtehnbalbpfmijaaKt5
import Derived.Deep.RegionHeld3
import Derived.Deep.QuietTactic
import Derived.BigQuiet
namespace Go.Proofs.Ytehnbalbpfmijaa
open Go.RowKit

theorem eqLink_self (x y : Int) (d : Bool) (w : World) :
    Calls Try.prog 104 #[triV x y d, triV x y d] w fun e w' => e = .returned (.bool true) ∧ Below w.heap.size w w' := by
  have h1 : (x != x) = false := by simp
  have h2 : (y != y) = false := by simp
  cases d
  all_goals
    go_enter Try.func104, Try.ntmps104
    go_wp2
    go_ret
    exact ⟨rfl, ((Below.refl _ _).alloc (by (try simp) <;> omega) _).alloc (by (try simp) <;> omega) _⟩

set_option maxHeartbeats 2000000 in
theorem eqLinkS_self (u v : Value) (ls : List Lk) (B C : Nat) (w : World) (hu : RdF elLink w B u ls) (hv : RdF elLink w C v ls) (hB : B ≤ w.heap.size) (hC : C ≤ w.heap.size) :
    Calls Try.prog 38 #[u, v] w fun e w' => e = .returned (.bool true) ∧ Below w.heap.size w w' := by
  obtain ⟨A, c, rfl, g1, g2, G3⟩ := RdT.of (E := elLink) rfl (fun _ => rfl) hu
  obtain ⟨A', c', rfl, g1', g2', G3'⟩ := RdT.of (E := elLink) rfl (fun _ => rfl) hv
  unfold maxLen at g2 g2'
  clear hu hv
  go_enter Try.func38, Try.ntmps38
  go_wp2_with fail
  go_loopw [5] (fun i wr => ∃ k : Nat, k ≤ ls.length ∧ i = .int .i64 k ∧ Below w.heap.size w wr) (fun i _ => ls.length - (intOf i).toNat)
  case atStart => exact ⟨0, Nat.zero_le _, rfl, Below.refl _ _⟩
  case round =>
    obtain ⟨k, hk, rfl, hd⟩ := hrel
    by_cases hlt : k < ls.length
    · obtain ⟨ad, rfl, hb, hx, hy, hz⟩ := G3.out k hlt
      obtain ⟨ad', rfl, hb', hx', hy', hz'⟩ := G3'.out k hlt
      have hk0 : (0 : Int) ≤ (k : Int) := by omega
      have hk1 : (k : Int) < (ls.length : Int) := by omega
      have HS := Lib.hid (keepSix0 hd (show (ad.add (k * 3)).block < w.heap.size by rw [addBlock]; omega) (show (ad'.add (k * 3)).block < w.heap.size by rw [addBlock]; omega) ⟨hx, hy, hz, hx', hy', hz'⟩)
      have L1 := Lib.hid (show (ad.add (k * 3)).block < w.heap.size by rw [addBlock]; omega)
      have L2 := Lib.hid (show (ad'.add (k * 3)).block < w.heap.size by rw [addBlock]; omega)
      clear hx hy hz hx' hy' hz'
      go_wp2_with fail
      go_region_held3 (fun w' => SixS w w' (ad.add (k * 3)) (ad'.add (k * 3)) (lx ls k) (ly ls k) (ld ls k))
        (first
          | exact keepSix hb1 L1.out L2.out (by assumption)
          | exact drewSix HS.out)
        (first
          | (go_at_call 104; refine (eqLink_self _ _ _ _).mono ?_; rintro e w1 ⟨rfl, hb1⟩))
      have hd2 := (show SixS w w1 _ _ _ _ _ from by assumption).2.2.2.2.2.2.2
      go_wp2_with fail
      go_roundw
      case rel => exact ⟨k + 1, by omega, by go_num, hd2⟩
      case measure => simp [intOf]; omega
    · go_wp2_with fail
      go_ret
      exact ⟨rfl, hd⟩

def MarkLinkPost (w : World) (lo : Nat) (v : Value) (n : Nat) (k : Int) (e : Ending) (w' : World) : Prop :=
  e = .returned (.int .i64 (k + 3 * (n : Int))) ∧ OwnF elLink w' lo v (triIota k n) ∧ w.grownBy w' v.ownBlock

set_option maxHeartbeats 2000000 in
theorem markLinkS_any (v : Value) (ls : List Lk) (lo : Nat) (k : Int) (w : World) (h : OwnF elLink w lo v ls) (hl : ls.length ≤ 1048576) (h1 : 0 ≤ k) (h2 : k ≤ 1099511627776) :
    Calls Try.prog 39 #[v, .int .i64 k] w (MarkLinkPost w lo v ls.length k) := by
  rcases Nat.eq_zero_or_pos ls.length with h0 | hpos
  · obtain ⟨A, c, hv, _, _, _⟩ := h.rd okLink
    have hz : ls = [] := List.eq_nil_of_length_eq_zero h0
    subst hz
    have HH := Lib.hid h
    clear h
    rw [hv] at HH ⊢
    clear hv
    go_enter Try.func39, Try.ntmps39
    go_wp2_with fail
    go_loopw [1, 5] (fun a i wr => a = .int .i64 k ∧ i = .int .i64 0 ∧ w = wr) (fun _ _ _ => 0)
    case atStart => exact ⟨rfl, rfl, rfl⟩
    case round =>
      obtain ⟨rfl, rfl, rfl⟩ := hrel
      go_wp2_with fail
      go_ret
      exact ⟨ret_int (by simp), (show OwnF elLink w lo (.slice A 0 c) [] from HH.out), World.grownBy.refl w _⟩
  · obtain ⟨g, cap, hv, hlo, hgl⟩ := World.ownsRow.form h hpos
    obtain ⟨A0, c0, e0, q1, q2, _⟩ := h.rd okLink
    rw [hv] at e0
    obtain rfl : cap = c0 := by simp only [Value.slice.injEq] at e0; exact e0.2.2
    unfold maxLen at q2
    have HH := Lib.hid h
    clear h e0
    rw [hv] at HH ⊢
    clear hv
    go_enter Try.func39, Try.ntmps39
    go_wp2_with fail
    go_loopw [1, 5] (fun a i wr => ∃ j : Nat, j ≤ ls.length ∧ a = .int .i64 (k + 3 * (j : Int)) ∧ i = .int .i64 j ∧ Hid (OwnF elLink wr lo (.slice (some ⟨g, 0, none⟩) (triTo ls k j).length cap) (triTo ls k j)) ∧ w.grownBy wr (some g)) (fun _ i _ => ls.length - (intOf i).toNat)
    case atStart => exact ⟨0, Nat.zero_le _, by simp, rfl, by (unfold Hid; rw [triTo_zero]; exact HH.out), World.grownBy.refl w _⟩
    case round =>
      obtain ⟨j, hj, rfl, rfl, HO, hgr⟩ := hrel
      by_cases hlt : j < ls.length
      · obtain ⟨hc0, hc1, hc2, hfr, ht⟩ := triStore okLink rfl (fun _ => rfl) HO.out (j := j) (by rw [triTo_length]; exact hlt)
        obtain ⟨hst1, hst2⟩ := ht (k + 3 * (j : Int)) (k + 3 * (j : Int) + 1) ((k + 3 * (j : Int) + 1 + 1) % 3 == 0)
        rw [triTo_set ls k j hlt] at hst1
        have HN := Lib.hid hst1
        have HG := Lib.hid (hgr.trans hst2)
        clear hst1 hst2 ht
        have hk0 : (0 : Int) ≤ (j : Int) := by omega
        have hk1 : (j : Int) < (ls.length : Int) := by omega
        go_wp2_with fail
        go_roundw
        case rel => exact ⟨j + 1, by omega, by simp; omega, by go_num, HN, HG.out⟩
        case measure => simp [intOf]; omega
      · have HJ : Hid (j = ls.length) := by unfold Hid; omega
        go_wp2_with fail
        go_ret
        refine ⟨ret_int (by rw [HJ.out]), ?_, hgr⟩
        have ho := HO.out
        rw [triTo_length, HJ.out, triTo_all] at ho
        exact ho

set_option maxHeartbeats 2000000 in
theorem heldLinkS_any (v : Value) (n : Nat) (k : Int) (B : Nat) (w : World) (h : RdF elLink w B v (triIota k n)) (hl : n ≤ 1048576) (h1 : 0 ≤ k) (h2 : k ≤ 1099511627776) :
    Calls Try.prog 46 #[v, .int .i64 k] w fun e w' => e = .returned (.int .i64 (k + 3 * (n : Int))) ∧ w = w' := by
  obtain ⟨A, c, rfl, g1, g2, G3⟩ := RdT.of (E := elLink) rfl (fun _ => rfl) h
  rw [triIota_length] at *
  unfold maxLen at g2
  clear h
  go_enter Try.func46, Try.ntmps46
  go_wp2_with fail
  go_loop [1, 5] (fun a i => ∃ j : Nat, j ≤ n ∧ a = .int .i64 (k + 3 * (j : Int)) ∧ i = .int .i64 j) (fun _ i => n - (intOf i).toNat)
  case atStart => exact ⟨0, Nat.zero_le _, by simp, rfl⟩
  case round =>
    obtain ⟨j, hj, rfl, rfl⟩ := hrel
    by_cases hlt : j < n
    · obtain ⟨ad, rfl, hb, hx, hy, hz⟩ := G3.out j hlt
      rw [triIota_x _ _ _ hlt] at hx
      rw [triIota_y _ _ _ hlt] at hy
      rw [triIota_d _ _ _ hlt] at hz
      have hne : (k + 3 * (j : Int) != k + 3 * (j : Int)) = false := by simp
      have hne2 : (k + 3 * (j : Int) + 1 != k + 3 * (j : Int) + 1) = false := by simp
      go_wp2_with fail
      go_round
      case rel => exact ⟨j + 1, by omega, by simp; omega, by go_num⟩
      case measure => simp [intOf]; omega
    · have HJ : Hid (j = n) := by unfold Hid; omega
      go_wp2_with fail
      go_ret
      exact ⟨ret_int (by rw [HJ.out]), rfl⟩
end Go.Proofs.Ytehnbalbpfmijaa

namespace Go.Proofs.Ytehnbalbpfmijaa
open Go.RowKit
set_option linter.unusedVariables false

theorem toDomino_any (x y : Int) (d : Bool) (w : World) :
    Calls Try.prog 109 #[triV x y d] w fun e w' => e = .returned (triV x y d) ∧ Below w.heap.size w w' := by
  go_enter Try.func109, Try.ntmps109
  go_wp2
  refine bodyPost_ret (v := triV x y d) (by simp [results, Try.results109, go_sem]) rfl ⟨rfl, ?_⟩
  repeat (first | exact Below.refl _ _ | refine Below.setCell ?_ (by simp <;> omega) _ | refine Below.alloc ?_ (by simp <;> omega) _)
theorem szDominoS_any (v : Value) (ls : List Lk) (left : Int) (B : Nat) (w : World) (h : RdF elDomino w B v ls) (h1 : 0 ≤ left) (h2 : left ≤ 1099511627776) :
    Calls Try.prog 42 #[v, .int .i64 left] w fun e w' => e = .returned (.int .i64 (szZ ls.length left)) ∧ w = w' := by
  obtain ⟨A, c, rfl, g1, g2, g3⟩ := h
  unfold maxLen at g2
  clear g3
  have hz : szZ ls.length left = if left - (ls.length : Int) < 0 then -1 else left - (ls.length : Int) := rfl
  by_cases hlt : left - (ls.length : Int) < 0
  · rw [if_pos hlt] at hz
    rw [hz]; clear hz
    go_enter Try.func42, Try.ntmps42
    go_wp2
    go_ret
    exact ⟨rfl, rfl⟩
  · rw [if_neg hlt] at hz
    rw [hz]; clear hz
    go_enter Try.func42, Try.ntmps42
    go_wp2
    go_ret
    exact ⟨rfl, rfl⟩

def RetOwnDomino (w : World) (ls : List Lk) (e : Ending) (w' : World) : Prop := ∃ v, e = .returned v ∧ OwnF elDomino w' w.heap.size v ls ∧ Below w.heap.size w w'
set_option maxRecDepth 100000 in
set_option maxHeartbeats 2000000 in
theorem toDominoS_any (v : Value) (ls : List Lk) (B : Nat) (w : World) (h : RdF elDomino w B v ls) (hB : B ≤ w.heap.size) (hl : ls.length ≤ 1048576) :
    Calls Try.prog 44 #[v] w (RetOwnDomino w ls) := by
  obtain ⟨A, c, rfl, h1, h2, H3⟩ := RdT.of (E := elDomino) rfl (fun _ => rfl) h
  unfold maxLen at h2
  clear h
  have hmk := mk_tri (P := Try.prog) 28 46 24 Try.underlying28 okDomino.info ls.length (by omega) (by omega)
  have HF0 : Hid (OwnF elDomino (w.alloc (.cells (madeCells #[.int .i64 0, .int .i64 0, .bool false] (ls.length * 3)) 46)) w.heap.size (.slice (some ⟨w.heap.size, 0, none⟩) ls.length ls.length) (triFill ls 0)) := triMade okDomino rfl (fun _ => rfl) w ls (by omega)
  go_enter Try.func44, Try.ntmps44
  go_wp2_with fail
  clear hmk
  go_loopw [4] (fun i wr => ∃ k : Nat, k ≤ ls.length ∧ i = .int .i64 k ∧ Hid (Below w.heap.size w wr) ∧ Hid (OwnF elDomino wr w.heap.size (.slice (some ⟨w.heap.size, 0, none⟩) ls.length ls.length) (triFill ls k))) (fun i _ => ls.length - (intOf i).toNat)
  case atStart => exact ⟨0, Nat.zero_le _, rfl, (Below.refl _ _).alloc (Nat.le_refl _) _, HF0⟩
  case round =>
    obtain ⟨k, hk, rfl, HB, HO⟩ := hrel
    by_cases hlt : k < ls.length
    · have ht : decide ((k : Int) < (ls.length : Int)) = true := by simp only [decide_eq_true_eq]; omega
      obtain ⟨ad, rfl, hbl, hx, hy, hz⟩ := H3.out k hlt
      have hx' := (HB.out.cell (p := ad.add (k * 3)) (by rw [addBlock]; omega)).trans hx
      have hy' := (HB.out.cell (p := ⟨(ad.add (k * 3)).block, (ad.add (k * 3)).off + 1, none⟩) (by show (ad.add (k * 3)).block < w.heap.size; rw [addBlock]; omega)).trans hy
      have hz' := (HB.out.cell (p := ⟨(ad.add (k * 3)).block, (ad.add (k * 3)).off + 2, none⟩) (by show (ad.add (k * 3)).block < w.heap.size; rw [addBlock]; omega)).trans hz
      have hk0 : (0 : Int) ≤ (k : Int) := by omega
      have hk1 : (k : Int) < (ls.length : Int) := by omega
      have hsz := HB.out.size
      clear hx hy hz
      go_wp2_with fail
      refine (toDomino_any _ _ _ _).mono ?_
      rintro e w1 ⟨rfl, hb1⟩
      have HO1 := Lib.hid (HO.out.below hb1)
      have HB1 := Lib.hid (HB.out.trans (hb1.mono hsz))
      have hfl : (triFill ls k).length = ls.length := triFill_length ls k
      have ho := HO1.out
      rw [← hfl] at ho
      obtain ⟨c0, c1, c2, hfr, ht3⟩ := triStore okDomino rfl (fun _ => rfl) (cap := ls.length) (by rw [hfl] at ho ⊢; exact ho) (j := k) (by rw [hfl]; exact hlt)
      obtain ⟨hst, hgr⟩ := ht3 (lx ls k) (ly ls k) (ld ls k)
      rw [triFill_set ls k hlt, triFill_length] at hst
      have HN := Lib.hid hst
      have HBN := Lib.hid (HB1.out.grown hgr HB1.out.size (fun j hj => by obtain rfl := Option.some.inj hj; exact Nat.le_refl _))
      clear hst hgr ht3 ho hb1 hfl hsz
      go_wp2_with fail
      go_roundw
      case rel => exact ⟨k + 1, by omega, by go_num, HBN, HN⟩
      case measure => simp [intOf]; omega
    · have ht : decide ((k : Int) < (ls.length : Int)) = false := by simp only [decide_eq_false_iff_not]; omega
      go_wp2_with fail
      go_ret
      refine ⟨_, rfl, ?_, HB.out⟩
      have ho := HO.out
      rw [triFill_all ls k (by omega)] at ho
      exact ho
end Go.Proofs.Ytehnbalbpfmijaa

namespace Go.Proofs.Ytehnbalbpfmijaa
open Go.RowKit

def OF {α : Type} (E : El α) (w : World) (lo hi : Nat) (v : Value) (xs : List α) : Prop := OwnF E w lo v xs ∧ ∀ k, v.ownBlock = some k → k < hi
section
variable {α : Type} {E : El α} {w w' : World} {lo hi a b : Nat} {v : Value} {xs ys : List α}
theorem OF.of (h : OwnF E w lo v xs) : OF E w lo w.heap.size v xs := ⟨h, fun k hk => (h.lt k hk).2⟩
theorem OF.aft (h : OF E w lo hi v xs) (hb : Aft a b w w') (hh : hi ≤ a ∨ b ≤ lo) : OF E w' lo hi v xs :=
  ⟨hb.row h.1 fun k hk => by have := h.2 k hk; have := (h.1.lt k hk).1; omega, h.2⟩
theorem OF.below (h : OF E w lo hi v xs) (hb : Below w.heap.size w w') : OF E w' lo hi v xs := h.aft (Aft.ofBelow (lo := 0) (hi := 0) hb) (.inr (Nat.zero_le _))
theorem OF.mark (h : OF E w lo hi v xs) (hg : w.grownBy w' v.ownBlock) : Aft lo hi w w' := Aft.ofGrown hg fun k hk => ⟨(h.1.lt k hk).1, h.2 k hk⟩
theorem OF.set (h : OF E w lo hi v xs) (h2 : OwnF E w' lo v ys) : OF E w' lo hi v ys := ⟨h2, h.2⟩
end
end Go.Proofs.Ytehnbalbpfmijaa

namespace Go.Proofs.Ytehnbalbpfmijaa
open Go.RowKit

theorem tilQ_len (p q : Int) (ls : List Lk) : (tilQ p q ls).length ≤ 128 := by
  unfold tilQ
  split
  · unfold tilZ
    split
    · rename_i hx
      obtain ⟨_, _, _, _, _, _, X, _, _, _, e⟩ := hx.choose_spec
      rw [e]; exact sortI_short _ _
    · simp
  · simp

set_option maxRecDepth 100000 in
set_option maxHeartbeats 8000000 in
theorem walkTilingOfTree (a0 : Int) (_ : (Lit.int .i64 a0).wf = true) (a1 : Int) (_ : (Lit.int .i64 a1).wf = true) (u2 : Value) (x2 : List Lk) (w : World) (hu2 : RdF elLink w w.heap.size u2 x2) :
    Calls Try.prog 7 #[.int .i64 a0, .int .i64 a1, u2] w fun e w' => e = .returned (.bool true) ∧ Below w.heap.size w w' := by
  have HU2 := Lib.hid hu2
  obtain ⟨A2, c2, ev2, _⟩ := id hu2
  clear hu2 ev2
  by_cases hneg2 : (1048576 : Int) - (x2.length : Int) < 0
  · skip
    go_enter Try.func7, Try.ntmps7
    go_wp2_with fail
    refine (szLinkS_any _ x2 _ _ _ HU2.out (by omega) (by omega)).mono ?_
    rintro e w' ⟨rfl, rfl⟩
    rw [show szZ (x2.length : Int) (1048576) = -1 from if_pos (show (1048576 : Int) - (x2.length : Int) < 0 by omega)]
    go_wp2_with fail
    go_ret
    exact ⟨rfl, Below.refl _ _⟩
  have hlen := tilQ_len a0 a1 x2
  have hne : ((1 : Int) + 3 * ((tilQ a0 a1 x2).length : Int) != 1 + 3 * ((tilQ a0 a1 x2).length : Int)) = false := by simp
  have hbb_ : ((treeB a0 a1 x2) != (treeB a0 a1 x2)) = false := by simp
  go_enter Try.func7, Try.ntmps7
  go_wp2_with fail
  refine (szLinkS_any _ x2 _ _ _ HU2.out (by omega) (by omega)).mono ?_
  rintro e w' ⟨rfl, rfl⟩
  rw [show szZ (x2.length : Int) (1048576) = (1048576) - (x2.length : Int) from if_neg (show ¬ (1048576 : Int) - (x2.length : Int) < 0 by omega)]
  go_wp2_with fail
  refine (toLinkS_any _ x2 _ _ HU2.out (Nat.le_refl _) (by omega)).mono ?_
  rintro e w1 ⟨v1, rfl, ho1, hb1⟩
  have hq1 := hb1
  have hs1 := hq1.size
  have hz1 := hb1.size
  have o_v1_1 := OF.of ho1
  go_wp2_with fail
  refine (specTil_any _ _ _ x2 _ _ (o_v1_1.1.rd okLink) (Nat.le_refl _)).mono ?_
  rintro e w2 ⟨v2, rfl, ho2, hb2⟩
  have hq2 := hq1.trans (hb2.mono hs1)
  have hs2 := hq2.size
  have hz2 := hb2.size
  have o_v1_2 := o_v1_1.below hb2
  have o_v2_2 := OF.of ho2
  go_wp2_with fail
  refine (toLinkS_any _ x2 _ _ (HU2.out.below hq2) hs2 (by omega)).mono ?_
  rintro e w3 ⟨v3, rfl, ho3, hb3⟩
  have hq3 := hq2.trans (hb3.mono hs2)
  have hs3 := hq3.size
  have hz3 := hb3.size
  have o_v2_3 := o_v2_2.below hb3
  have o_v3_3 := OF.of ho3
  go_wp2_with fail
  refine (Til_any _ _ _ x2 _ _ (o_v3_3.1.rd okLink) (Nat.le_refl _)).mono ?_
  rintro e w4 ⟨v4, rfl, ho4, hb4⟩
  have hq4 := hq3.trans (hb4.mono hs3)
  have hs4 := hq4.size
  have hz4 := hb4.size
  have o_v2_4 := o_v2_3.below hb4
  have o_v3_4 := o_v3_3.below hb4
  have o_v4_4 := OF.of ho4
  go_wp2_with fail
  refine (eqDominoS_self _ _ (tilQ a0 a1 x2) _ _ _ (o_v4_4.1.rd okDomino) (o_v2_4.1.rd okDomino) (Nat.le_refl _) (Nat.le_refl _)).mono ?_
  rintro e w5 ⟨rfl, hb5⟩
  have hq5 := hq4.trans (hb5.mono hs4)
  have hs5 := hq5.size
  have hz5 := hb5.size
  have o_v2_5 := o_v2_4.below hb5
  have o_v3_5 := o_v3_4.below hb5
  have o_v4_5 := o_v4_4.below hb5
  go_wp2_with fail
  refine (toLinkS_any _ x2 _ _ (HU2.out.below hq5) hs5 (by omega)).mono ?_
  rintro e w6 ⟨v6, rfl, ho6, hb6⟩
  have hq6 := hq5.trans (hb6.mono hs5)
  have hs6 := hq6.size
  have hz6 := hb6.size
  have o_v2_6 := o_v2_5.below hb6
  have o_v3_6 := o_v3_5.below hb6
  have o_v4_6 := o_v4_5.below hb6
  have o_v6_6 := OF.of ho6
  go_wp2_with fail
  refine (eqLinkS_self _ _ x2 _ _ _ (o_v3_6.1.rd okLink) (o_v6_6.1.rd okLink) (Nat.le_refl _) (Nat.le_refl _)).mono ?_
  rintro e w7 ⟨rfl, hb7⟩
  have hq7 := hq6.trans (hb7.mono hs6)
  have hs7 := hq7.size
  have hz7 := hb7.size
  have o_v2_7 := o_v2_6.below hb7
  have o_v3_7 := o_v3_6.below hb7
  have o_v4_7 := o_v4_6.below hb7
  have o_v6_7 := o_v6_6.below hb7
  go_wp2_with fail
  refine (markLinkS_any _ x2 _ 1 _ o_v3_7.1 (by omega) (by omega) (by omega)).mono ?_
  rintro e w8 ⟨rfl, hm8, hg8⟩
  have hA8 := o_v3_7.mark hg8
  have hq8 := hq7.trans ((hA8.below (by omega)).mono (by omega))
  have hs8 := hq8.size
  have hz8 := hA8.size
  have o_v2_8 := o_v2_7.aft hA8 (by omega)
  have o_v3_8 := o_v3_7.set hm8
  have o_v4_8 := o_v4_7.aft hA8 (by omega)
  go_wp2_with fail
  refine (eqDominoS_self _ _ (tilQ a0 a1 x2) _ _ _ (o_v4_8.1.rd okDomino) (o_v2_8.1.rd okDomino) (Nat.le_refl _) (Nat.le_refl _)).mono ?_
  rintro e w9 ⟨rfl, hb9⟩
  have hq9 := hq8.trans (hb9.mono hs8)
  have hs9 := hq9.size
  have hz9 := hb9.size
  have o_v2_9 := o_v2_8.below hb9
  have o_v4_9 := o_v4_8.below hb9
  go_wp2_with fail
  refine (markDominoS_any _ (tilQ a0 a1 x2) _ 1 _ o_v4_9.1 (by omega) (by omega) (by omega)).mono ?_
  rintro e w10 ⟨rfl, hm10, hg10⟩
  have hA10 := o_v4_9.mark hg10
  have hq10 := hq9.trans ((hA10.below (by omega)).mono (by omega))
  have hs10 := hq10.size
  have hz10 := hA10.size
  have o_v2_10 := o_v2_9.aft hA10 (by omega)
  have o_v4_10 := o_v4_9.set hm10
  go_wp2_with fail
  refine (heldDominoS_any _ (tilQ a0 a1 x2).length 1 _ _ (o_v4_10.1.rd okDomino) (by omega) (by omega) (by omega)).mono ?_
  rintro e w' ⟨rfl, rfl⟩
  go_wp2_with fail
  refine (toLinkS_any _ x2 _ _ (HU2.out.below hq10) hs10 (by omega)).mono ?_
  rintro e w11 ⟨v11, rfl, ho11, hb11⟩
  have hq11 := hq10.trans (hb11.mono hs10)
  have hs11 := hq11.size
  have hz11 := hb11.size
  have o_v2_11 := o_v2_10.below hb11
  have o_v4_11 := o_v4_10.below hb11
  have o_v11_11 := OF.of ho11
  go_wp2_with fail
  refine (Til_any _ _ _ x2 _ _ (o_v11_11.1.rd okLink) (Nat.le_refl _)).mono ?_
  rintro e w12 ⟨v12, rfl, ho12, hb12⟩
  have hq12 := hq11.trans (hb12.mono hs11)
  have hs12 := hq12.size
  have hz12 := hb12.size
  have o_v2_12 := o_v2_11.below hb12
  have o_v4_12 := o_v4_11.below hb12
  have o_v11_12 := o_v11_11.below hb12
  have o_v12_12 := OF.of ho12
  go_wp2_with fail
  refine (eqDominoS_self _ _ (tilQ a0 a1 x2) _ _ _ (o_v12_12.1.rd okDomino) (o_v2_12.1.rd okDomino) (Nat.le_refl _) (Nat.le_refl _)).mono ?_
  rintro e w13 ⟨rfl, hb13⟩
  have hq13 := hq12.trans (hb13.mono hs12)
  have hs13 := hq13.size
  have hz13 := hb13.size
  have o_v2_13 := o_v2_12.below hb13
  have o_v4_13 := o_v4_12.below hb13
  have o_v12_13 := o_v12_12.below hb13
  go_wp2_with fail
  refine (heldDominoS_any _ (tilQ a0 a1 x2).length 1 _ _ (o_v4_13.1.rd okDomino) (by omega) (by omega) (by omega)).mono ?_
  rintro e w' ⟨rfl, rfl⟩
  go_wp2_with fail
  go_ret
  exact ⟨rfl, hq13⟩
end Go.Proofs.Ytehnbalbpfmijaa
